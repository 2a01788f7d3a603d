/-
  What the row needs, part 3.
-/
import Derived.Test.YtlbgcegonmbddaaDoorXWavKeeps2
import Derived.Orders
set_option linter.unusedSimpArgs false
set_option linter.unusedVariables false
set_option linter.unusedSectionVars false
open Array renaming getD_eq_getD_getElem?→VM,ext'→JJ,map→VS,getElem?_eq_none→VX,getElem?_toList→VY,all_eq_true_iff_forall_mem→Ue,getElem?_replicate→Uf,length_toList→J6,range→JX
open Bool renaming and_eq_true→Jh,not_eq_true'→J8,or_eq_true→V7,false_eq_true→JK
open Go.Builtin renaming max_→VZ,complex_→Ug,max2→Uh,min_→Ui
open Go.FloatKind renaming f64→Je
open Go.Instr renaming indexAt→Vd,sureAddr→JM,storeAt→Vf,alloc→J9,loadAt→J0,makeFunc→Uj,makeSlice→Vo
open Int renaming eq_ofNat_of_zero_le→Vq,toNat_natCast→Uk
open Go.IntKind renaming i64→Jy
open List renaming map_cons→JS,cons→J1,map_nil→VF,mem_append→Jt,mem_cons_self→Jm,mem_cons_of_mem→Jo,all_eq_true→Vg,mem_map→VH,mem_range→VI,mem_cons→VN,mem_singleton→Vy,nodup_cons→J4,getElem?_eq_getElem→VP,mem_append_left→JH,mem_filter→VQ,nodup_append→VR,range→Jc,append_nil→Vh,getD_eq_getElem?_getD→VT,mem_append_right→JB,nil_append→VU,append_assoc→Jv,cons_append→J2,length_set→JR,map_map→V0,mem_of_getElem?→Vx,getElem?_eq_none→V8,length_cons→JG,range'→V9,range_eq_range'→Ua,replicate→Jd,any_eq_false→Ul,drop_drop→JF,drop_eq_getElem_cons→Um,filter_append→Un,filter_congr→Uo,filter_cons→Up,flatten_cons→J3,getElem?_eq_some_iff→Uq,getElem?_replicate→Ur,getElem?_set→Vw,length_replicate→Us,length_singleton→Ut,mem_range'_1→Uu,nodup_range→Uv,not_mem_nil→Uw,pairwise_map→Ux,range'_succ→VA,size_toArray→VB,toList_toArray→JV
open Nat renaming beq→Ja,le_trans→VJ,le_refl→Jj,testBit→VK,lt_or_ge→VO,blt_eq→VV,le_of_ble_eq_true→Ju,mul_one→VW,ble→Jb,lt_of_lt_of_le→V1,add_zero→JI,mul_comm→Ub,zero_add→Uc,mul_le_mul_right→Jk
open Option renaming some→VG,bind_some→VL,map_some→VE,bind_map→V2,isSome_none→V3,map_eq_some_iff→V4,toList→V5,isSome_iff_exists→VD,isSome_some→Ud,getD_some→Uy
open Go.Value renaming slice→V6,int→Jw
namespace Go.Sh
open Go
variable [Gl]
variable {C:Ctx} {G:Glob} {σ:QM} {w:World} {lim:Nat → Nat} {st:St} {tmps:Array Value}
def TL (w:World) (lim:Nat → Nat):List Kd → List Value → List RV → List Nat → Prop
 | [],[],[],bs => bs = []
 | .box _ :: ks,v :: vs,x :: rs,bs => ∃ b1 b2,bs = b1 ++ b2 ∧ TT w lim x v b1 ∧ TL w lim ks vs rs b2
 | .view _ :: ks,_ :: vs,rs,bs => TL w lim ks vs rs bs
 | .own _ _ :: ks,_ :: vs,rs,bs => TL w lim ks vs rs bs
 | .agg _ :: ks,_ :: vs,rs,bs => TL w lim ks vs rs bs
 | .tup _ :: ks,_ :: vs,rs,bs => TL w lim ks vs rs bs
 | .fn _ :: ks,_ :: vs,rs,bs => TL w lim ks vs rs bs
 | .use _ :: ks,_ :: vs,rs,bs => TL w lim ks vs rs bs
 | .clo _ _ :: ks,_ :: vs,rs,bs => TL w lim ks vs rs bs
 | .ns _ :: ks,_ :: vs,rs,bs => TL w lim ks vs rs bs
 | .vp _ :: ks,_ :: vs,rs,bs => TL w lim ks vs rs bs
 | .ref _ :: ks,_ :: vs,rs,bs => TL w lim ks vs rs bs
 | .bld _ :: ks,v :: vs,x :: rs,bs => ∃ b1 b2,bs = b1 ++ b2 ∧ TT w lim x v b1 ∧ TL w lim ks vs rs b2
 | _,_,_,_ => False
theorem Zed (a b:List AV):Zd (a ++ b) = Zd a ++ Zd b:=by
 induction a with
 | nil => rfl
 | cons x a ih => simp [Zd,ih]
def Zho (P:Program) (f:Nat):Prop := ∃ fn,P.funcs[f]? = some fn ∧ (fn.name == "runtime.NumGoroutine") = false ∧ fn.body.isNone = false
def WY:List Kd → List Value → List Value → Prop
 | .ref _ :: ks,v :: vs,v' :: vs' => v' = v ∧ WY ks vs vs'
 | _ :: ks,_ :: vs,_ :: vs' => WY ks vs vs'
 | _,_,_ => True
def WI (w w':World):List Kd → List Value → Prop
 | .box ks :: l,v :: vs => (∀ b cs T fz cs' T' fz',v = .pointer (some ⟨b,0,none⟩) → w.heap[b]? = some (.cells cs T fz) → w'.heap[b]? = some (.cells cs' T' fz') → WY ks cs.toList cs'.toList) ∧ WI w w' l vs
 | _ :: l,_ :: vs => WI w w' l vs
 | _,_ => True
def ZI (σ:QM):List Nat → List Kd → List Value → Prop
 | q :: qs,.ref _ :: ks,v :: vs => v = σ q ∧ ZI σ qs ks vs
 | [],_ :: _,_ :: _ => True
 | qs,_ :: ks,_ :: vs => ZI σ qs ks vs
 | _,_,_ => True
def QK (σ:QM) (w:World):List (List Nat) → List Kd → List Value → Prop
 | q :: nm,.box ks :: l,v :: vs => (∀ b cs T fz,v = .pointer (some ⟨b,0,none⟩) → w.heap[b]? = some (.cells cs T fz) → ZI σ q ks cs.toList) ∧ QK σ w nm l vs
 | nm,_ :: l,_ :: vs => QK σ w nm l vs
 | _,_,_ => True
theorem Q8 {σ σ':QM}:(qs:List Nat) → (ks:List Kd) → (vs:List Value) → (∀ q ∈ qs,σ' q = σ q) → ZI σ qs ks vs → ZI σ' qs ks vs
 | [],[],_,_,_ => by simp [ZI]
 | [],_ :: _,[],_,_ => by simp [ZI]
 | [],_ :: _,_ :: _,_,_ => by simp [ZI]
 | _ :: _,[],_,_,_ => by simp [ZI]
 | _ :: _,_ :: _,[],_,_ => by simp [ZI]
 | q :: qs,k :: ks,v :: vs,hq,h => by
  have other:(∀ l,k ≠ .ref l) → ZI σ' (q :: qs) (k :: ks) (v :: vs):=by
   intro hk
   have e1:∀ τ:QM,ZI τ (q :: qs) (k :: ks) (v :: vs) = ZI τ (q :: qs) ks vs:=by
    intro τ; cases k <;> first | rfl | exact absurd rfl (hk _)
   rw [e1] at h ⊢
   exact Q8 (q :: qs) ks vs hq h
  cases k with
  | ref l =>
   simp only [ZI] at h ⊢
   exact ⟨h.1.trans (hq q (Jm ..)).symm,Q8 qs ks vs (fun q' h' => hq q' (Jo _ h')) h.2⟩
  | _ => exact other (by intro l; simp)
structure Ctr (P:Program) (k:Nat) (f:Nat) (cal:Callee):Prop where
 enters:Zho P f
 calls:∀ rvs x,cal.run k rvs = some x → ∀ (w:World) (lim:Nat → Nat) (vs:List Value) (bs:List Nat),(∀ b,w.heap.size ≤ b → lim b = 0) → Zbn w lim → KL w lim rvs vs bs → bs.Nodup →
  (∀ b ∈ bs,b < w.heap.size) → Calls P f vs.toArray w fun e w' => ∃ v lim' b1 b2,e = .returned v ∧ Ext w lim w' lim' ∧ (∀ b,w'.heap.size ≤ b → lim' b = 0) ∧
   (w'.os = w.os ∧ w'.tape = w.tape ∧ w'.output = w.output) ∧ (∀ b,b < w.heap.size → b ∉ bs → w'.heap[b]? = w.heap[b]? ∧ lim' b = lim b) ∧
   TT w' lim' (cal.enc x).1 v b1 ∧ TL w' lim' (Zt cal.pk) (Qx cal.pk vs) (cal.enc x).2 b2 ∧ WI w w' (Zt cal.pk) (Qx cal.pk vs) ∧ (b1 ++ b2).Nodup ∧ ∀ b ∈ b1 ++ b2,b ∈ bs ∨ w.heap.size ≤ b
def Z3:List (List Nat) → List Kd → List AV → List Nat
 | q :: nm,.box _ :: ks,.bx r 0 :: as => r :: (q ++ Z3 nm ks as)
 | nm,.bld _ :: ks,.bx r 0 :: as => r :: Z3 nm ks as
 | nm,_ :: ks,_ :: as => Z3 nm ks as
 | _,_,_ => []
theorem ZeY:(ks:List Kd) → (as:List AV) → {tbl:ZF} → {l l':List Nat} → {xs:List RV} → {u:Qh} → (takes ks as).run tbl l = some ((xs,u),l') → ks.length = as.length
 | [],[],tbl,l,l',xs,u,hm => rfl
 | k :: ks,a :: as,tbl,l,l',xs,u,hm => by
  simp only [takes] at hm
  obtain ⟨⟨x,u1⟩,l1,h1,h2⟩:=M.run_bind_some hm
  obtain ⟨⟨ys,u2⟩,l2,h3,h4⟩:=M.run_bind_some h2
  simp only [JG,ZeY ks as h3]
 | [],_ :: _,tbl,l,l',xs,u,hm => by simp [takes,M.run] at hm
 | _ :: _,[],tbl,l,l',xs,u,hm => by simp [takes,M.run] at hm
theorem KC {u v:Qh} (h:∀ r,Zm u r ≠ some .fresh) (k:∀ r,Zm v r ≠ some .fresh):∀ r,Zm (u ++ v) r ≠ some .fresh:=by
 intro r
 have h1:=h r
 clear h
 induction u with
 | nil => exact k r
 | cons p u ih =>
  obtain ⟨i,z⟩:=p
  rw [J2,Zb]
  rw [Zb] at h1
  grind
theorem XI:(qs:List Nat) → (ks:List Kd) → (cs:List RV) → (n:Nat) → n ≤ (Zr n qs ks cs).2.2
 | [],[],cs,n => by simp only [Zr]; exact QR cs n
 | _ :: _,[],cs,n => by simp only [Zr]; exact QR cs n
 | [],_ :: _,[],n => by simp only [Zr]; exact QR [] n
 | _ :: _,_ :: _,[],n => by simp only [Zr]; exact QR [] n
 | [],k :: ks,x :: cs,n => by
  have e:Zr n [] (k :: ks) (x :: cs) = ((put n x).1 :: (Zr (put n x).2.2 [] ks cs).1,(Zr (put n x).2.2 [] ks cs).2.1 ++ (put n x).2.1,(Zr (put n x).2.2 [] ks cs).2.2):=by cases k <;> rfl
  rw [e]
  exact VJ (ZdO x n) (XI [] ks cs _)
 | q :: qs,k :: ks,x :: cs,n => by
  have other:(∀ l,k ≠ .ref l) → n ≤ (Zr n (q :: qs) (k :: ks) (x :: cs)).2.2:=by
   intro hk
   have e:Zr n (q :: qs) (k :: ks) (x :: cs) = ((put n x).1 :: (Zr (put n x).2.2 (q :: qs) ks cs).1,(Zr (put n x).2.2 (q :: qs) ks cs).2.1 ++ (put n x).2.1,(Zr (put n x).2.2 (q :: qs) ks cs).2.2):=by cases k <;> first | rfl | exact absurd rfl (hk _)
   rw [e]
   exact VJ (ZdO x n) (XI (q :: qs) ks cs _)
  cases k with
  | ref l =>
   cases x with
   | box ds => simp only [Zr]; exact VJ (QR ds n) (XI qs ks cs _)
   | _ => simp only [Zr]; exact VJ (ZdO _ n) (XI qs ks cs _)
  | _ => exact other (by intro l; simp)
theorem QZ:(nm:List (List Nat)) → (ks:List Kd) → (as:List AV) → (rs:List RV) → (n:Nat) → {m:Nat} → {ups:Qh} → Zk n nm ks as rs = some (ups,m) → n ≤ m
 | nm,[],[],[],n,m,ups,h => by simp [Zk] at h; omega
 | nm,k :: ks,a :: as,rs,n,m,ups,h => by
  have rest:(∀ l,k ≠ .box l) → (∀ T,k ≠ .bld T) → n ≤ m:=by
   intro hk hk2
   have e1:Zk n nm (k :: ks) (a :: as) rs = Zk n nm ks as rs:=by cases k <;> first | (cases nm <;> rfl) | exact absurd rfl (hk _) | exact absurd rfl (hk2 _)
   rw [e1] at h
   exact QZ nm ks as rs n h
  cases k with
  | box l =>
   cases nm with
   | nil => cases a <;> simp [Zk] at h
   | cons qs nm =>
   cases a with
   | bx r kk =>
    cases kk with
    | succ kk => simp [Zk] at h
    | zero =>
     cases rs with
     | nil => simp [Zk] at h
     | cons x rs =>
      cases x with
      | box cs =>
       simp only [Zk] at h
       cases hg:Zk (Zr n qs l cs).2.2 nm ks as rs with
       | none => simp [hg] at h
       | some q =>
        obtain ⟨v',m'⟩:=q
        simp only [hg,VG.injEq,Prod.mk.injEq] at h
        have h1:=QZ nm ks as rs _ hg
        have h2:=XI qs l cs n
        omega
      | _ => simp [Zk] at h
   | _ => simp [Zk] at h
  | bld T =>
   cases a with
   | bx r kk =>
    cases kk with
    | succ kk => cases nm <;> simp [Zk] at h
    | zero =>
     cases rs with
     | nil => cases nm <;> simp [Zk] at h
     | cons x rs =>
      cases x with
      | bld q xs =>
       have e:Zk n nm (.bld T :: ks) (.bx r 0 :: as) (.bld q xs :: rs) = match Zk (n + 1) nm ks as rs with
         | some (v,m') => some (v ++ [(r,.live (.box [.me r q,.own n])),(n,.live (.arr (.int .u8) xs false))],m')
         | none => none:=by cases nm <;> rfl
       rw [e] at h
       cases hg:Zk (n + 1) nm ks as rs with
       | none => simp [hg] at h
       | some q =>
        obtain ⟨v',m'⟩:=q
        simp only [hg,VG.injEq,Prod.mk.injEq] at h
        have h1:=QZ nm ks as rs _ hg
        omega
      | _ => cases nm <;> simp [Zk] at h
   | _ => cases nm <;> simp [Zk] at h
  | _ => simp_all
 | nm,[],_ :: _,rs,n,m,ups,h => by cases nm <;> simp [Zk] at h
 | nm,[],[],_ :: _,n,m,ups,h => by cases nm <;> simp [Zk] at h
 | nm,k :: _,[],rs,n,m,ups,h => by cases k <;> cases nm <;> simp [Zk] at h
structure OneR (G:Glob) (σ:QM) (lim:Nat → Nat) (st:St) (tmps:Array Value) (w:World) (n m:Nat) (R:List Nat) (U:Qh) (bs:List Nat) (σ':QM):Prop where
 rel:RelW G σ' lim ⟨st.env,st.tbl.put U⟩ tmps w
 old:∀ s,st.tbl s ≠ .fresh → σ' s = σ s
 out:∀ s,(s < n ∨ m ≤ s) → s ∉ R → (st.tbl.put U) s = st.tbl s
 nf:∀ s,Zm U s ≠ some .fresh
 lv:∀ s b,Zw (st.tbl.put U s) = true → blk (σ' s) = some b → (Zw (st.tbl s) = true ∧ blk (σ s) = some b) ∨ b ∈ bs
 le:n ≤ m
theorem PutR.one {n m:Nat} {U:Qh} {bs:List Nat} {σ':QM} (h:PutR G σ lim st tmps w n m U bs σ') (hn:∀ s,Zm U s ≠ some .fresh):OneR G σ lim st tmps w n m [] U bs σ' :=
 ⟨h.rel,h.old,fun s hs _ => by simp [ZF.put,h.out s hs],hn,h.lv,h.le⟩
theorem OneR.nil (h:RelW G σ lim st tmps w) (n:Nat):OneR G σ lim st tmps w n n [] [] [] σ :=
 ⟨by rw [ZS]; exact h,fun _ _ => rfl,fun _ _ _ => rfl,fun _ => by simp [Zm],fun s b hl hb => .inl ⟨hl,hb⟩,Jj _⟩
theorem OneR.keep {n m:Nat} {R:List Nat} {U:Qh} {bs:List Nat} {σ':QM} (hO:OneR G σ lim st tmps w n m R U bs σ'):∀ s,st.tbl s ≠ .fresh → (st.tbl.put U) s ≠ .fresh:=by
 intro s hs hfr
 simp only [ZF.put] at hfr
 cases hls:Zm U s with
 | none => rw [hls] at hfr; exact hs hfr
 | some z => rw [hls] at hfr; simp only at hfr; subst hfr; exact hO.nf s hls
theorem OneR.fb {n m:Nat} {R:List Nat} {U:Qh} {b1 b2:List Nat} {σ':QM} (hO:OneR G σ lim st tmps w n m R U b1 σ') (hb:FB G σ st (b1 ++ b2)):FB G σ' ⟨st.env,st.tbl.put U⟩ b2:=by
 obtain ⟨hbn,hbm⟩:=hb
 rw [VR] at hbn
 exact ⟨hbn.2.1,fun b' hb' => ⟨(hbm b' (JB _ hb')).1,fun s hls hbr => by
  rcases hO.lv s b' hls hbr with ⟨h5,h6⟩ | h5
  ·simp_all
  ·exact hbn.2.2 b' h5 b' hb' rfl⟩⟩
theorem FB.left {bs cs:List Nat} (h:FB G σ st (bs ++ cs)):FB G σ st bs:=⟨(VR.1 h.1).1,fun b hb => h.2 b (JH _ hb)⟩
theorem OneR.gone {n m:Nat} {R:List Nat} {U:Qh} {bs:List Nat} {σ':QM} (hO:OneR G σ lim st tmps w n m R U bs σ') (hf:∀ j,n ≤ j → j < m → st.tbl j = .fresh) {s:Nat} (hs:st.tbl s = .gone) (hn:s ∉ R):(st.tbl.put U) s = .gone:=by
 have hso:s < n ∨ m ≤ s:=by
  grind
 rw [hO.out s hso hn]; exact hs
theorem OneR.fresh {n m m2:Nat} {R:List Nat} {U:Qh} {bs:List Nat} {σ':QM} (hO:OneR G σ lim st tmps w n m R U bs σ') (hR:∀ r ∈ R,st.tbl r = .gone) (hf:∀ j,n ≤ j → j < m2 → st.tbl j = .fresh):∀ j,m ≤ j → j < m2 → (st.tbl.put U) j = .fresh:=by
 intro j h5 h6
 have hj:=hf j (VJ hO.le h5) h6
 rw [hO.out j (.inr h5) (fun hm => by simp_all)]; exact hj
theorem OneR.comp {n m1 m:Nat} {R R':List Nat} {U V:Qh} {b1 b2:List Nat} {σ1 σ2:QM} (hO:OneR G σ lim st tmps w n m1 R U b1 σ1) (hQ:OneR G σ1 lim ⟨st.env,st.tbl.put U⟩ tmps w m1 m R' V b2 σ2) :
  OneR G σ lim st tmps w n m (R ++ R') (V ++ U) (b1 ++ b2) σ2:=by
 refine ⟨by rw [ZP]; exact hQ.rel,fun s hs => (hQ.old s (hO.keep s hs)).trans (hO.old s hs),fun s hs hn => ?_,KC hQ.nf hO.nf,fun s b hl hb => ?_,VJ hO.le hQ.le⟩
 ·simp only [Jt,not_or] at hn
  have h1:=hO.le; have h2:=hQ.le
  rw [ZP]
  have e1:=hQ.out s (by omega) hn.2
  simp only at e1
  rw [e1,hO.out s (by omega) hn.1]
 ·rw [ZP] at hl
  rcases hQ.lv s b hl hb with ⟨h5,h6⟩ | h5
  ·rcases hO.lv s b h5 h6 with h7 | h7
   ·exact .inl h7
   simp_all
  simp_all
theorem Zmp {cs:List RV} {n r:Nat} {v:Value} {bs:List Nat} (h:RelW G σ lim st tmps w) (ht:TT w lim (.box cs) v bs) (hgone:st.tbl r = .gone) (hvr:σ r = v)
  (hf:∀ j,n ≤ j → j < (Zu n cs).2.2 → st.tbl j = .fresh) (hb:FB G σ st bs) :
  ∃ σ',OneR G σ lim st tmps w n (Zu n cs).2.2 [r] ((r,.live (.box (Zu n cs).1)) :: (Zu n cs).2.1) bs σ':=by
 simp only [TT] at ht
 obtain ⟨b,ws,U,bs1,rfl,g2,g3,g4,rfl⟩:=ht
 obtain ⟨hbn,hbm⟩:=hb
 rw [J4] at hbn
 have hle1:=QR cs n
 obtain ⟨σ1,hP,hA,hK⟩:=Q0 cs n h g3 hf ⟨hbn.2,fun b' hb' => hbm b' (Jo _ hb')⟩
 have hrn:r < n ∨ (Zu n cs).2.2 ≤ r:=by
  grind
 have hr1:(st.tbl.put (Zu n cs).2.1) r = .gone:=by simp [ZF.put,hP.out r hrn,hgone]
 have hB:=hP.rel.adopt (n:=r) (v:=.pointer (some ⟨b,0,none⟩)) (.inr ⟨hr1,(hP.old r (by rw [hgone]; simp)).trans hvr⟩) (y:=.box (Zu n cs).1) hK (fun hσ => by
  simp only [RR]
  exact ⟨b,ws,U,by simp,g2,ZA.mono (Ext.refl _ _) hσ _ _ hK hA,g4⟩) (fun b' hb' => by
   simp [blk] at hb'; subst hb'
   refine ⟨(hbm b (Jm ..)).1,fun s hls hbr => ?_⟩
   rcases hP.lv s b hls hbr with ⟨h5,h6⟩ | h5
   ·simp_all
   ·exact hbn.1 h5)
 refine ⟨_,⟨by rw [WU]; exact hB,fun s hs => ?_,fun s hs hne => ?_,fun s => ?_,fun s b' hls hbr => ?_,hle1⟩⟩
 ·by_cases e:s = r
  ·subst e; simp [hvr]
  ·simp [e]; exact hP.old s hs
 ·have hne:s ≠ r:=by simpa using hne
  rw [ZT,if_neg (Ne.symm hne)]
  simp [ZF.put,hP.out s hs]
 ·rw [Zb]; split
  ·simp
  ·exact Qr cs n s
 ·by_cases e:s = r
  ·grind [blk]
  ·simp only [e,if_false] at hbr
   rw [ZT,if_neg (Ne.symm e)] at hls
   rcases hP.lv s b' hls hbr with h5 | h5
   ·exact .inl h5
   simp_all
theorem Zg5:(qs:List Nat) → (ks:List Kd) → (cs:List RV) → (n:Nat) → {σ:QM} → {st:St} → {vs:List Value} → {bs:List Nat} → RelW G σ lim st tmps w → KL w lim cs vs bs → ZI σ qs ks vs → (∀ q ∈ qs,st.tbl q = .gone) → qs.Nodup →
  (∀ j,n ≤ j → j < (Zr n qs ks cs).2.2 → st.tbl j = .fresh) → FB G σ st bs →
  ∃ σ',OneR G σ lim st tmps w n (Zr n qs ks cs).2.2 qs (Zr n qs ks cs).2.1 bs σ' ∧ ZA σ' w lim (Zr n qs ks cs).1 vs ∧ Ze (st.tbl.put (Zr n qs ks cs).2.1) (Zd (Zr n qs ks cs).1):=by
 intro qs ks cs
 -- without kinds: as ever
 have base:∀ (qs:List Nat) (cs:List RV) (n:Nat) {σ:QM} {st:St} {vs:List Value} {bs:List Nat},RelW G σ lim st tmps w → KL w lim cs vs bs → (∀ j,n ≤ j → j < (Zu n cs).2.2 → st.tbl j = .fresh) → FB G σ st bs →
   ∃ σ',OneR G σ lim st tmps w n (Zu n cs).2.2 qs (Zu n cs).2.1 bs σ' ∧ ZA σ' w lim (Zu n cs).1 vs ∧ Ze (st.tbl.put (Zu n cs).2.1) (Zd (Zu n cs).1):=by
  intro qs cs n σ st vs bs h ht hf hb
  obtain ⟨σ1,hP,hA,hK⟩:=Q0 cs n h ht hf hb
  have hO:=hP.one (Qr cs n)
  exact ⟨σ1,⟨hO.rel,hO.old,fun s hs _ => hO.out s hs (by simp),hO.nf,hO.lv,hO.le⟩,hA,hK⟩
 -- a cell,and the rest
 have W9:∀ (x:RV) (n:Nat) (qs:List Nat) (ks:List Kd) (cs:List RV),
   (∀ (n:Nat) {σ:QM} {st:St} {vs:List Value} {bs:List Nat},RelW G σ lim st tmps w → KL w lim cs vs bs → ZI σ qs ks vs → (∀ q ∈ qs,st.tbl q = .gone) → qs.Nodup →
    (∀ j,n ≤ j → j < (Zr n qs ks cs).2.2 → st.tbl j = .fresh) → FB G σ st bs →
    ∃ σ',OneR G σ lim st tmps w n (Zr n qs ks cs).2.2 qs (Zr n qs ks cs).2.1 bs σ' ∧ ZA σ' w lim (Zr n qs ks cs).1 vs ∧ Ze (st.tbl.put (Zr n qs ks cs).2.1) (Zd (Zr n qs ks cs).1)) →
   ∀ {σ:QM} {st:St} {vs:List Value} {bs:List Nat} (v:Value),RelW G σ lim st tmps w → KL w lim (x :: cs) (v :: vs) bs → ZI σ qs ks vs → (∀ q ∈ qs,st.tbl q = .gone) → qs.Nodup →
    (∀ j,n ≤ j → j < (Zr (put n x).2.2 qs ks cs).2.2 → st.tbl j = .fresh) → FB G σ st bs →
    ∃ σ',OneR G σ lim st tmps w n (Zr (put n x).2.2 qs ks cs).2.2 qs ((Zr (put n x).2.2 qs ks cs).2.1 ++ (put n x).2.1) bs σ' ∧ ZA σ' w lim ((put n x).1 :: (Zr (put n x).2.2 qs ks cs).1) (v :: vs) ∧
     Ze (st.tbl.put ((Zr (put n x).2.2 qs ks cs).2.1 ++ (put n x).2.1)) (Zd ((put n x).1 :: (Zr (put n x).2.2 qs ks cs).1)):=by
  intro x n qs ks cs ih σ st vs bs v h ht hrv hqg hqn hf hb
  simp only [KL] at ht
  obtain ⟨b1,b2,rfl,h1,h2⟩:=ht
  have hle:=XI qs ks cs (put n x).2.2
  obtain ⟨σ1,hP,hA,hK⟩:=ZbM x n h h1 (fun j h5 h6 => hf j h5 (by omega)) hb.left
  have hO:=hP.one (KD x n)
  obtain ⟨σ2,hQ,hB,hL⟩:=ih (put n x).2.2 (st:=⟨st.env,st.tbl.put (put n x).2.1⟩) hO.rel h2 (Q8 _ _ _ (fun q hq => hO.old q (by rw [hqg q hq]; simp)) hrv)
   (fun q hq => hO.gone (fun j h5 h6 => hf j h5 (by omega)) (hqg q hq) (by simp)) hqn (hO.fresh (by simp) hf) (hO.fb hb)
  have hC:=hO.comp hQ
  simp only [VU] at hC
  refine ⟨σ2,hC,?_,?_⟩
  ·simp only [ZA]
   exact ⟨RA.mono (T:=st.tbl.put (put n x).2.1) (Ext.refl _ _) hQ.old _ _ hK hA,hB⟩
  ·rw [ZP]
   intro r hr
   simp only [Zd,Jt] at hr
   rcases hr with hr | hr
   ·exact hK.put hQ.nf r hr
   ·exact hL r hr
 induction ks generalizing qs cs with
 | nil =>
  intro n σ st vs bs h ht hrv hqg hqn hf hb
  have e:Zr n qs [] cs = Zu n cs:=by cases qs <;> rfl
  simp_all
 | cons k ks ih =>
  intro n σ st vs bs h ht hrv hqg hqn hf hb
  cases cs with
  | nil =>
   have e:Zr n qs (k :: ks) [] = Zu n []:=by cases qs <;> cases k <;> rfl
   simp_all
  | cons x cs =>
   match vs,ht with
   | [],ht => simp [KL] at ht
   | v :: vs,ht =>
    cases qs with
    | nil =>
     have e:Zr n [] (k :: ks) (x :: cs) = ((put n x).1 :: (Zr (put n x).2.2 [] ks cs).1,(Zr (put n x).2.2 [] ks cs).2.1 ++ (put n x).2.1,(Zr (put n x).2.2 [] ks cs).2.2):=by cases k <;> rfl
     rw [e] at hf ⊢
     exact W9 x n [] ks cs (ih [] cs) v h ht (by cases ks <;> cases vs <;> simp [ZI]) hqg hqn hf hb
    | cons q qs =>
     have other:(∀ l,k ≠ .ref l) → ∃ σ',OneR G σ lim st tmps w n (Zr n (q :: qs) (k :: ks) (x :: cs)).2.2 (q :: qs) (Zr n (q :: qs) (k :: ks) (x :: cs)).2.1 bs σ' ∧ ZA σ' w lim (Zr n (q :: qs) (k :: ks) (x :: cs)).1 (v :: vs) ∧
       Ze (st.tbl.put (Zr n (q :: qs) (k :: ks) (x :: cs)).2.1) (Zd (Zr n (q :: qs) (k :: ks) (x :: cs)).1):=by
      intro hk
      have e:Zr n (q :: qs) (k :: ks) (x :: cs) = ((put n x).1 :: (Zr (put n x).2.2 (q :: qs) ks cs).1,(Zr (put n x).2.2 (q :: qs) ks cs).2.1 ++ (put n x).2.1,(Zr (put n x).2.2 (q :: qs) ks cs).2.2):=by cases k <;> first | rfl | exact absurd rfl (hk _)
      have e1:ZI σ (q :: qs) (k :: ks) (v :: vs) = ZI σ (q :: qs) ks vs:=by cases k <;> first | rfl | exact absurd rfl (hk _)
      rw [e] at hf ⊢
      rw [e1] at hrv
      exact W9 x n (q :: qs) ks cs (ih (q :: qs) cs) v h ht hrv hqg hqn hf hb
     cases k with
     | ref l =>
      simp only [ZI] at hrv
      rw [J4] at hqn
      have hqs:∀ q' ∈ qs,st.tbl q' = .gone:=fun q' hq' => hqg q' (Jo _ hq')
      have otherx:Zr n (q :: qs) (.ref l :: ks) (x :: cs) = ((put n x).1 :: (Zr (put n x).2.2 qs ks cs).1,(Zr (put n x).2.2 qs ks cs).2.1 ++ (put n x).2.1,(Zr (put n x).2.2 qs ks cs).2.2) →
        ∃ σ',OneR G σ lim st tmps w n (Zr n (q :: qs) (.ref l :: ks) (x :: cs)).2.2 (q :: qs) (Zr n (q :: qs) (.ref l :: ks) (x :: cs)).2.1 bs σ' ∧ ZA σ' w lim (Zr n (q :: qs) (.ref l :: ks) (x :: cs)).1 (v :: vs) ∧
         Ze (st.tbl.put (Zr n (q :: qs) (.ref l :: ks) (x :: cs)).2.1) (Zd (Zr n (q :: qs) (.ref l :: ks) (x :: cs)).1):=by
       intro e
       rw [e] at hf ⊢
       obtain ⟨σ',hO,hA,hK⟩:=W9 x n qs ks cs (ih qs cs) v h ht hrv.2 hqs hqn.2 hf hb
       exact ⟨σ',⟨hO.rel,hO.old,fun s hs hn => hO.out s hs (fun hm => hn (Jo _ hm)),hO.nf,hO.lv,hO.le⟩,hA,hK⟩
      cases x with
      | box ds =>
       simp only [KL] at ht
       obtain ⟨b1,b2,rfl,h1,h2⟩:=ht
       simp only [Zr] at hf ⊢
       have hle:=XI qs ks cs (Zu n ds).2.2
       have hqgone:=hqg q (Jm ..)
       obtain ⟨σ1,hO⟩:=Zmp h h1 hqgone hrv.1.symm (fun j h5 h6 => hf j h5 (by omega)) hb.left
       have hR:∀ r ∈ [q],st.tbl r = .gone:=by simp_all
       obtain ⟨σ2,hQ,hB,hL⟩:=ih qs cs (Zu n ds).2.2 (st:=⟨st.env,st.tbl.put ((q,.live (.box (Zu n ds).1)) :: (Zu n ds).2.1)⟩) hO.rel h2 (Q8 _ _ _ (fun q' hq' => hO.old q' (by rw [hqs q' hq']; simp)) hrv.2)
        (fun q' hq' => hO.gone (fun j h5 h6 => hf j h5 (by omega)) (hqs q' hq') (by simp; intro e; subst e; exact hqn.1 hq')) hqn.2 (hO.fresh hR hf) (hO.fb hb)
       have hC:=hO.comp hQ
       refine ⟨σ2,hC,?_,?_⟩
       ·simp only [ZA,RA]
        refine ⟨?_,hB⟩
        simp only [TT] at h1
        obtain ⟨b,ws,U,bs1,hv,_⟩:=h1
        have e1:σ2 q = σ q:=hC.old q (by rw [hqgone]; simp)
        grind
       ·intro r hr
        simp only [Zd,Za,Jt,Vy] at hr
        rw [ZP]
        rcases hr with rfl | hr
        ·exact hQ.keep r (by simp only; rw [ZT]; simp)
        ·exact hL r hr
      | _ => exact otherx rfl
     | _ => exact other (by intro l; simp)
theorem ZjZ {ks0:List Kd} {cs:List RV} {n r:Nat} {qs:List Nat} {v:Value} {bs:List Nat} (h:RelW G σ lim st tmps w) (ht:TT w lim (.box cs) v bs) (hgone:st.tbl r = .gone) (hvr:σ r = v)
  (hq:∀ b ws T fz,v = .pointer (some ⟨b,0,none⟩) → w.heap[b]? = some (.cells ws T fz) → ZI σ qs ks0 ws.toList) (hqg:∀ q ∈ qs,st.tbl q = .gone) (hqn:(r :: qs).Nodup)
  (hf:∀ j,n ≤ j → j < (Zr n qs ks0 cs).2.2 → st.tbl j = .fresh) (hb:FB G σ st bs) :
  ∃ σ',OneR G σ lim st tmps w n (Zr n qs ks0 cs).2.2 (r :: qs) ((r,.live (.box (Zr n qs ks0 cs).1)) :: (Zr n qs ks0 cs).2.1) bs σ':=by
 simp only [TT] at ht
 obtain ⟨b,ws,U,bs1,rfl,g2,g3,g4,rfl⟩:=ht
 have hb':=hb
 obtain ⟨hbn,hbm⟩:=hb
 rw [J4] at hbn hqn
 obtain ⟨σ1,hP,hA,hK⟩:=Zg5 qs ks0 cs n h g3 (hq b ws U (0,0) rfl g2) hqg hqn.2 hf ⟨hbn.2,fun b' hb' => hbm b' (Jo _ hb')⟩
 have hr1:(st.tbl.put (Zr n qs ks0 cs).2.1) r = .gone:=hP.gone hf hgone hqn.1
 have hB:=hP.rel.adopt (n:=r) (v:=.pointer (some ⟨b,0,none⟩)) (.inr ⟨hr1,(hP.old r (by rw [hgone]; simp)).trans hvr⟩) (y:=.box (Zr n qs ks0 cs).1) hK (fun hσ => by
  simp only [RR]
  exact ⟨b,ws,U,by simp,g2,ZA.mono (Ext.refl _ _) hσ _ _ hK hA,g4⟩) (fun b' hb' => by
   simp [blk] at hb'; subst hb'
   refine ⟨(hbm b (Jm ..)).1,fun s hls hbr => ?_⟩
   rcases hP.lv s b hls hbr with ⟨h5,h6⟩ | h5
   ·simp_all
   ·exact hbn.1 h5)
 refine ⟨_,⟨by rw [WU]; exact hB,fun s hs => ?_,fun s hs hne => ?_,fun s => ?_,fun s b' hls hbr => ?_,hP.le⟩⟩
 ·by_cases e:s = r
  ·subst e; simp [hvr]
  ·simp [e]; exact hP.old s hs
 ·simp only [VN,not_or] at hne
  rw [ZT,if_neg (Ne.symm hne.1)]
  exact hP.out s hs hne.2
 ·rw [Zb]; split
  ·simp
  ·exact hP.nf s
 ·by_cases e:s = r
  ·grind [blk]
  ·simp only [e,if_false] at hbr
   rw [ZT,if_neg (Ne.symm e)] at hls
   rcases hP.lv s b' hls hbr with h5 | h5
   ·exact .inl h5
   simp_all
theorem ZmA {T:ZF} {n r:Nat} {x x' y:RS}:((T.put [(n,y)]).put [(r,x')]).put [(r,x)] = T.put [(r,x),(n,y)]:=by
 funext s
 simp only [Zf,ZF.put,Zb]
 by_cases h1:r = s
 ·simp [h1]
 ·by_cases h2:n = s
  ·simp [h1,h2,Zm]
  ·simp [h1,h2,Zm]
theorem Zmo {n r:Nat} {U:TypeId} {xs:List Int} {v:Value} {bs:List Nat} (h:RelW G σ lim st tmps w) (ht:TT w lim (.bld U xs) v bs) (hgone:st.tbl r = .gone) (hvr:σ r = v)
  (hn:st.tbl n = .fresh) (hb:FB G σ st bs) :
  ∃ σ',OneR G σ lim st tmps w n (n + 1) [r] [(r,.live (.box [AV.me r U,.own n])),(n,.live (.arr (.int .u8) xs false))] bs σ':=by
 simp only [TT] at ht
 obtain ⟨b,x,y,bs1,rfl,h2,h3,h4,h5,rfl⟩:=ht
 obtain ⟨hbn,hbm⟩:=hb
 rw [J4] at hbn
 have hnr:n ≠ r:=by grind
 have hmem:∀ b',blk y = some b' → b' ∈ bs1:=by
  intro b' hbv
  rcases h4.2 with ⟨_,rfl,rfl⟩ | ⟨c,off,cap,vs,T,fz,rfl,_,_,_,_,_,_,rfl⟩
  ·simp [blk] at hbv
  ·simp [blk] at hbv; subst hbv; simp
 have hval:RA (fun s => if s = n then y else σ s) w lim (.own n) y:=by
  simp only [RA]
  rcases h4.2 with ⟨_,rfl,_⟩ | ⟨c,off,cap,vs,T,fz,rfl,_⟩
  ·exact ⟨by simp,_,_,_,rfl⟩
  ·exact ⟨by simp,_,_,_,rfl⟩
 have R1:=h.adopt (n:=n) (v:=y) (.inl hn) (y:=.arr (.int .u8) xs false) (by intro s hs; cases hs) (fun hσ => by
  simp only [RR]
  refine ⟨h4.1,?_⟩
  rcases h4.2 with ⟨e1,rfl,_⟩ | ⟨c,off,cap,vs,T,fz,rfl,e2,e3,e4,e5,e6,e7,_⟩
  ·exact .inl ⟨e1,by simp⟩
  ·exact .inr ⟨c,off,cap,vs,T,fz,by simp,e2,e3,e4,e5,e6,e7⟩) (fun b' hbv => hbm b' (Jo _ (hmem b' hbv)))
 have hg1:(st.tbl.put [(n,.live (.arr (.int .u8) xs false))]) r = .gone:=by rw [Zf,if_neg hnr]; exact hgone
 have hk1:Ze (st.tbl.put [(n,.live (.arr (.int .u8) xs false))]) (Za (.own n)):=Qa (y:=.arr (.int .u8) xs false) (by rw [ZT]; simp)
 have R2:=R1.adopt (n:=r) (v:=.pointer (some ⟨b,0,none⟩)) (.inr ⟨hg1,by simp only [if_neg hnr.symm]; exact hvr⟩) (y:=.box [.dead,.own n]) (by
   grind [ZL,Zd,Za]) (fun hσ => by
  simp_all [RR,ZA,and_true,RA]) (fun b' hb' => by
   simp [blk] at hb'; subst hb'
   refine ⟨(hbm b (Jm ..)).1,fun s hl hbr => ?_⟩
   simp only at hl
   rw [Zf] at hl
   grind)
 simp only at R2
 have hr2:((st.tbl.put [(n,.live (.arr (.int .u8) xs false))]).put [(r,.live (.box [.dead,.own n]))]) r = .live (.box [.dead,.own n]):=by rw [Zf]; simp
 obtain ⟨q1,q2⟩:=R2.res r _ hr2
 have R3:=R2.reword (r:=r) (y:=.box [AV.me r U,.own n]) hr2 (by
   intro s hs
   simp only [ZL,Zd,Vh,Jt] at hs
   rcases hs with hs | hs
   ·rw [Zmu s hs]; simp only; rw [hr2]; simp
   ·exact q2 s (by grind [ZL,Zd,Za])) (by
   simp only [RR] at q1 ⊢
   obtain ⟨b',vs,T,e1,e2,e3,e4⟩:=q1
   have hbb:b' = b:=by simp at e1; exact e1.symm
   subst hbb
   rw [h2] at e2
   obtain ⟨rfl,rfl⟩ : #[x,y] = vs ∧ U = T:=by simpa using e2
   simp only [ZA,and_true] at e3
   refine ⟨b',#[x,y],U,by simp,h2,?_,e4⟩
   simp only [ZA,and_true]
   exact ⟨Zoc h3 (by simp) (by simp [Z8,h2]),e3.2⟩)
 simp only at R3
 rw [ZmA] at R3
 refine ⟨_,⟨R3,fun s hs => ?_,fun s hs hne => ?_,fun s => ?_,fun s b' hl hbr => ?_,by omega⟩⟩
 ·grind
 ·have hne:s ≠ r:=by simpa using hne
  simp only [ZF.put,Zb]; rw [if_neg (fun e => hne e.symm),if_neg (fun e => by omega)]; rfl
 ·grind [Zm]
 ·by_cases e1:s = r
  ·grind [blk]
  ·by_cases e2:s = n
   ·simp_all
   ·simp only [e1,e2,if_false] at hbr
    have:(st.tbl.put [(r,.live (.box [AV.me r U,.own n])),(n,.live (.arr (.int .u8) xs false))]) s = st.tbl s:=by
     simp only [ZF.put,Zb]; rw [if_neg (fun e => e1 e.symm),if_neg (fun e => e2 e.symm)]; rfl
    simp_all
theorem Xz {σ σ':QM}:(nm:List (List Nat)) → (ks:List Kd) → (vs:List Value) → (∀ q ∈ nm.flatten,σ' q = σ q) → QK σ w nm ks vs → QK σ' w nm ks vs
 | nm,[],vs,_,_ => by cases nm <;> simp [QK]
 | nm,_ :: _,[],_,_ => by cases nm <;> simp [QK]
 | [],k :: ks,v :: vs,hq,h => by
  have e:∀ τ:QM,QK τ w [] (k :: ks) (v :: vs) = QK τ w [] ks vs:=by intro τ; cases k <;> rfl
  rw [e] at h ⊢
  exact Xz [] ks vs hq h
 | q :: nm,k :: ks,v :: vs,hq,h => by
  have other:(∀ l,k ≠ .box l) → QK σ' w (q :: nm) (k :: ks) (v :: vs):=by
   intro hk
   have e:∀ τ:QM,QK τ w (q :: nm) (k :: ks) (v :: vs) = QK τ w (q :: nm) ks vs:=by intro τ; cases k <;> first | rfl | exact absurd rfl (hk _)
   rw [e] at h ⊢
   exact Xz (q :: nm) ks vs hq h
  cases k with
  | box l =>
   simp only [QK] at h ⊢
   refine ⟨fun b cs T fz h1 h2 => Q8 _ _ _ (fun q' hq' => hq q' (by simp [hq'])) (h.1 b cs T fz h1 h2),Xz nm ks vs (fun q' hq' => hq q' (by
    simp_all)) h.2⟩
  | _ => exact other (by intro l; simp)
theorem XC : (nm : List (List Nat)) → (ks : List Kd) → (as : List AV) → (rs : List RV) → (n : Nat) → {m : Nat} → {ups : Qh} → {σ : QM} → {st : St} → {vs : List Value} → {bs : List Nat} → Zk n nm ks as rs = some (ups, m) →
    RelW G σ lim st tmps w → TL w lim ks vs rs bs → QK σ w nm ks vs → (∀ (i r : Nat) (v : Value), as[i]? = some (AV.bx r 0) → vs[i]? = some v → σ r = v ∧ st.tbl r ≠ .fresh) → (∀ r ∈ Z3 nm ks as, st.tbl r = .gone) → (∀ q ∈ nm.flatten, st.tbl q ≠ .fresh) → (Z3 nm ks as).Nodup → (∀ j, n ≤ j → j < m → st.tbl j = .fresh) → FB G σ st bs →
    ∃ σ', RelW G σ' lim ⟨st.env, st.tbl.put ups⟩ tmps w ∧ (∀ r, st.tbl r ≠ .fresh → σ' r = σ r) ∧ (∀ r, Zm ups r ≠ some .fresh) ∧ n ≤ m
  | nm, [], [], [], n, m, ups, σ, st, vs, bs, hm, h, ht, hrv, hv, hl, hq, hn, hf, hb => by
    simp [Zk] at hm
    obtain ⟨rfl, rfl⟩ := hm
    exact ⟨σ, by rw [ZS]; exact h, fun _ _ => rfl, by simp [Zm], Jj _⟩
  | nm, k :: ks, a :: as, rs, n, m, ups, σ, st, vs, bs, hm, h, ht, hrv, hv, hl, hq, hn, hf, hb => by
    match vs, ht with
    | [], ht => cases k <;> simp [TL] at ht
    | v :: vs, ht =>
      have rest : ∀ (hk : ∀ l, k ≠ .box l) (hk2 : ∀ T, k ≠ .bld T), ∃ σ', RelW G σ' lim ⟨st.env, st.tbl.put ups⟩ tmps w ∧ (∀ r, st.tbl r ≠ .fresh → σ' r = σ r) ∧ (∀ r, Zm ups r ≠ some .fresh) ∧ n ≤ m := by
        intro hk hk2
        have e1 : Zk n nm (k :: ks) (a :: as) rs = Zk n nm ks as rs := by cases k <;> first | (cases nm <;> rfl) | exact absurd rfl (hk _) | exact absurd rfl (hk2 _)
        have e2 : TL w lim ks vs rs bs := by cases k <;> first | exact ht | exact absurd rfl (hk _) | exact absurd rfl (hk2 _)
        have e3 : Z3 nm (k :: ks) (a :: as) = Z3 nm ks as := by cases k <;> first | (cases nm <;> rfl) | exact absurd rfl (hk _) | exact absurd rfl (hk2 _)
        have e4 : QK σ w nm ks vs := by cases k <;> first | (cases nm <;> exact hrv) | exact absurd rfl (hk _)
        rw [e1] at hm
        rw [e3] at hl hn
        exact XC nm ks as rs n hm h e2 e4 (fun i r v h1 h2 => hv (i + 1) r v (by simpa using h1) (by simpa using h2)) hl hq hn hf hb
      -- one box, and the rest
      have more : ∀ (nm' : List (List Nat)) (rs' : List RV) (R : List Nat) (m1 m' : Nat) (U v' : Qh) (b1 b2 : List Nat) (σ1 : QM), OneR G σ lim st tmps w n m1 R U b1 σ1 → Zk m1 nm' ks as rs' = some (v', m') → ups = v' ++ U → m = m' → bs = b1 ++ b2 →
          TL w lim ks vs rs' b2 → QK σ w nm' ks vs → (∀ q ∈ nm'.flatten, st.tbl q ≠ .fresh) → Z3 nm (k :: ks) (a :: as) = R ++ Z3 nm' ks as →
          ∃ σ', RelW G σ' lim ⟨st.env, st.tbl.put ups⟩ tmps w ∧ (∀ r, st.tbl r ≠ .fresh → σ' r = σ r) ∧ (∀ r, Zm ups r ≠ some .fresh) ∧ n ≤ m := by
        intro nm' rs' R m1 m' U v' b1 b2 σ1 hO hg hups hmm hbs ht2 hrv2 hq2 hids
        subst hups hmm hbs
        rw [hids] at hl hn
        rw [VR] at hn
        have hR : ∀ r ∈ R, st.tbl r = .gone := fun r hr => hl r (JH _ hr)
        have hle2 : m1 ≤ m := QZ nm' ks as rs' _ hg
        have hle1 := hO.le
        obtain ⟨σ2, hQ, hold, hnf, hle⟩ := XC nm' ks as rs' m1 (st := ⟨st.env, st.tbl.put U⟩) hg hO.rel ht2 (Xz nm' ks vs (fun q' hq' => hO.old q' (hq2 q' hq')) hrv2)
          (fun i s u h5 h6 => by
            obtain ⟨h7, h8⟩ := hv (i + 1) s u (by simpa using h5) (by simpa using h6)
            exact ⟨(hO.old s h8).trans h7, hO.keep s h8⟩)
          (fun s hs => hO.gone (fun j h5 h6 => hf j h5 (by omega)) (hl s (JB _ hs)) (fun hm => hn.2.2 s hm s hs rfl))
          (fun q' hq' => hO.keep q' (hq2 q' hq')) hn.2.1
          (hO.fresh hR hf) (hO.fb hb)
        exact ⟨σ2, by rw [ZP]; exact hQ, fun s hs => (hold s (hO.keep s hs)).trans (hO.old s hs), fun s => KC hnf hO.nf s, by omega⟩
      cases k with
      | box l =>
        cases nm with
        | nil => cases a <;> simp [Zk] at hm
        | cons qs nm =>
        cases a with
        | bx r kk =>
         cases kk with
         | succ kk => simp [Zk] at hm
         | zero =>
          cases rs with
          | nil => simp [TL] at ht
          | cons x rs =>
           cases x with
           | box cs =>
            simp only [Zk] at hm
            simp only [TL] at ht
            simp only [QK] at hrv
            obtain ⟨b1, b2, hbs, h1, h2⟩ := ht
            simp only [Z3, J3, Jt] at hl hn hq
            have hn' : (r :: qs).Nodup := by
              grind
            cases hg : Zk (Zr n qs l cs).2.2 nm ks as rs with
            | none => simp [hg] at hm
            | some q =>
              obtain ⟨v', m'⟩ := q
              simp only [hg, VG.injEq, Prod.mk.injEq] at hm
              have hmm := QZ nm ks as rs _ hg
              obtain ⟨σ1, hO⟩ := ZjZ h h1 (hl r (Jm ..)) (hv 0 r v rfl rfl).1 hrv.1 (fun q' hq' => hl q' (Jo _ (JH _ hq'))) hn' (fun j h5 h6 => hf j h5 (by omega)) ⟨(VR.1 (hbs ▸ hb.1)).1, fun b' hb' => hb.2 b' (hbs ▸ JH _ hb')⟩
              exact more nm rs (r :: qs) _ m' _ v' b1 b2 σ1 hO hg hm.1.symm hm.2.symm hbs h2 hrv.2 (fun q' hq' => hq q' (.inr hq')) rfl
           | _ => simp [Zk] at hm
        | _ => simp [Zk] at hm
      | bld T =>
        cases a with
        | bx r kk =>
         cases kk with
         | succ kk => cases nm <;> simp [Zk] at hm
         | zero =>
          cases rs with
          | nil => simp [TL] at ht
          | cons x rs =>
           cases x with
           | bld mm xs =>
            have e : Zk n nm (.bld T :: ks) (.bx r 0 :: as) (.bld mm xs :: rs) = match Zk (n + 1) nm ks as rs with
                | some (v, m') => some (v ++ [(r, .live (.box [.me r mm, .own n])), (n, .live (.arr (.int .u8) xs false))], m')
                | none => none := by cases nm <;> rfl
            rw [e] at hm
            simp only [TL] at ht
            obtain ⟨b1, b2, hbs, h1, h2⟩ := ht
            have e3 : Z3 nm (.bld T :: ks) (.bx r 0 :: as) = r :: Z3 nm ks as := by cases nm <;> rfl
            have e4 : QK σ w nm ks vs := by cases nm <;> exact hrv
            cases hg : Zk (n + 1) nm ks as rs with
            | none => simp [hg] at hm
            | some q =>
              obtain ⟨v', m'⟩ := q
              simp only [hg, VG.injEq, Prod.mk.injEq] at hm
              have hmm := QZ nm ks as rs _ hg
              obtain ⟨σ1, hO⟩ := Zmo h h1 (hl r (by rw [e3]; simp)) (hv 0 r v rfl rfl).1 (hf n (Jj _) (by omega)) ⟨(VR.1 (hbs ▸ hb.1)).1, fun b' hb' => hb.2 b' (hbs ▸ JH _ hb')⟩
              grind
           | _ => cases nm <;> simp [Zk] at hm
        | _ => cases nm <;> simp [Zk] at hm
      | _ => exact rest (by intro l; simp) (by intro T; simp)
  | nm, [], _ :: _, rs, n, m, ups, σ, st, vs, bs, hm, h, ht, hrv, hv, hl, hq, hn, hf, hb => by cases nm <;> simp [Zk] at hm
  | nm, [], [], _ :: _, n, m, ups, σ, st, vs, bs, hm, h, ht, hrv, hv, hl, hq, hn, hf, hb => by cases nm <;> simp [Zk] at hm
  | nm, k :: _, [], rs, n, m, ups, σ, st, vs, bs, hm, h, ht, hrv, hv, hl, hq, hn, hf, hb => by cases k <;> cases nm <;> simp [Zk] at hm
theorem Zi6 {α:Type} {tbl:ZF} : {n m:Nat} → {k:M α} → {l l':List Nat} → {x:α} → (Z4 n m k).run tbl l = some (x,l') → (∀ j,n ≤ j → j < n + m → tbl j = .fresh) ∧ ∃ l2,k.run tbl l2 = some (x,l')
 | n,0,k,l,l',x,h => ⟨fun j h1 h2 => by omega,l,h⟩
 | n,m + 1,k,l,l',x,h => by
  simp only [Z4,M.run] at h
  cases hf:tbl n with
  | fresh =>
   simp only [hf] at h
   obtain ⟨h1,h2⟩:=Zi6 (n:=n + 1) (m:=m) h
   grind
  | gone => simp [hf,M.run] at h
  | live y => simp [hf,M.run] at h
theorem Zae {l:List Kd} {r:Nat} {tbl:ZF} {lg lg':List Nat} {x:RV} {u:Qh} (h:(take (.box l) (.bx r 0)).run tbl lg = some ((x,u),lg')) :
  ∃ cs u' ys l1 l2,tbl r = .live (.box cs) ∧ u = (r,.gone) :: u' ∧ (takes l cs).run tbl l1 = some ((ys,u'),l2):=by
 simp only [take,M.run] at h
 cases hr:tbl r with
 | fresh => simp [hr,M.run] at h
 | gone => simp [hr,M.run] at h
 | live y =>
  cases y with
  | arr => simp [hr,M.run] at h
  | nest => simp [hr,M.run] at h
  | box cs =>
   simp only [hr] at h
   obtain ⟨⟨ys,u1⟩,l1,h1,h2⟩:=M.run_bind_some h
   obtain ⟨h3,_⟩:=M.run_ret h2
   grind
theorem Zas:(ks:List Kd) → (cs:List AV) → {tbl:ZF} → {l l':List Nat} → {xs:List RV} → {u:Qh} → {q:List Nat} → (takes ks cs).run tbl l = some ((xs,u),l') → Zl ks cs = some q → q.Sublist (Zy u)
 | [],[],tbl,l,l',xs,u,q,hm,hq => by simp [Zl] at hq; subst hq; simp
 | k :: ks,a :: as,tbl,l,l',xs,u,q,hm,hq => by
  simp only [takes] at hm
  obtain ⟨⟨x,u1⟩,l1,h1,h2⟩:=M.run_bind_some hm
  obtain ⟨⟨ys,u2⟩,l2,h3,h4⟩:=M.run_bind_some h2
  obtain ⟨h,_⟩:=M.run_ret h4
  cases h
  rw [WP]
  have other:(∀ l,k ≠ .ref l) → q.Sublist (Zy u1 ++ Zy u2):=by
   intro hk
   have e:Zl (k :: ks) (a :: as) = Zl ks as:=by cases k <;> first | rfl | exact absurd rfl (hk _)
   rw [e] at hq
   exact (Zas ks as h3 hq).trans (List.sublist_append_right _ _)
  cases k with
  | ref l =>
   cases a with
   | bx r kk =>
    cases kk with
    | succ kk => simp [Zl] at hq
    | zero =>
     simp only [Zl] at hq
     cases hq2:Zl ks as with
     | none => rw [hq2] at hq; simp at hq
     | some q2 =>
      rw [hq2] at hq
      simp only [VG.injEq] at hq
      subst hq
      rw [Zhe] at h1
      obtain ⟨cs,u',ys',l3,l4,e1,e2,e3⟩:=Zae h1
      subst e2
      have hg:[r].Sublist (Zy ((r,RS.gone) :: u')):=by simp [Zy,Qt]
      exact List.Sublist.append (l₁:=[r]) hg (Zas ks as h3 hq2)
   | _ => simp [Zl] at hq
  | _ => exact other (by intro l; simp)
 | [],_ :: _,tbl,l,l',xs,u,q,hm,hq => by simp [takes,M.run] at hm
 | _ :: _,[],tbl,l,l',xs,u,q,hm,hq => by simp [takes,M.run] at hm
theorem XJ {k:Kd} {ks:List Kd} {a:AV} {as:List AV} (hk:∀ l,k ≠ .box l):Xq (k :: ks) (a :: as) = Xq ks as:=by
 cases k <;> first | rfl | exact absurd rfl (hk _)
theorem Ze8 {ks:List Kd} {r:Nat} {tbl:ZF} {l l':List Nat} {q:List Nat} (h:(YG ks r).run tbl l = some (q,l')) {cs:List AV} (hr:tbl r = .live (.box cs)):q = [] ∨ Zl ks cs = some q:=by
 unfold YG at h
 cases hh:Xo ks with
 | false => rw [hh] at h; obtain ⟨rfl,_⟩:=M.run_ret h; exact .inl rfl
 | true =>
  rw [hh] at h
  simp only [cond_true,M.run,hr] at h
  exact .inr (M.run_ofOpt h)
theorem YX:(ks:List Kd) → (as:List AV) → {tbl:ZF} → {l l' l2 l3:List Nat} → {xs:List RV} → {u:Qh} → {nm:List (List Nat)} → (takes ks as).run tbl l = some ((xs,u),l') → (Xq ks as).run tbl l2 = some (nm,l3) → (Z3 nm ks as).Sublist (Zy u)
 | [],[],tbl,l,l',l2,l3,xs,u,nm,hm,hr => by cases nm <;> simp [Z3]
 | k :: ks,a :: as,tbl,l,l',l2,l3,xs,u,nm,hm,hr => by
  simp only [takes] at hm
  obtain ⟨⟨x,u1⟩,l1,h1,h2⟩:=M.run_bind_some hm
  obtain ⟨⟨ys,u2⟩,l2',h3,h4⟩:=M.run_bind_some h2
  obtain ⟨h,_⟩:=M.run_ret h4
  cases h
  rw [WP]
  have rest:(∀ l,k ≠ .box l) → (∀ T,k ≠ .bld T) → (Z3 nm (k :: ks) (a :: as)).Sublist (Zy u1 ++ Zy u2):=by
   intro hk hk2
   rw [XJ hk] at hr
   have i2:=YX ks as h3 hr
   have e:Z3 nm (k :: ks) (a :: as) = Z3 nm ks as:=by cases k <;> first | (cases nm <;> rfl) | exact absurd rfl (hk _) | exact absurd rfl (hk2 _)
   simp_all
  cases k with
  | box l =>
   cases a with
   | bx r kk =>
    cases kk with
    | succ kk => simp [take,M.run] at h1
    | zero =>
     simp only [Xq] at hr
     obtain ⟨q,l5,h5,h6⟩:=M.run_bind_some hr
     obtain ⟨qs,l6,h7,h8⟩:=M.run_bind_some h6
     obtain ⟨h9,_⟩:=M.run_ret h8
     subst h9
     obtain ⟨cs,u',ys',l3',l4,e1,e2,e3⟩:=Zae h1
     subst e2
     have hq:q.Sublist (Zy u'):=by
      rcases Ze8 h5 e1 with rfl | hq
      ·simp
      ·exact Zas l cs e3 hq
     simp only [Z3]
     have i2:=YX ks as h3 h7
     grind [Zy,Qt]
   | _ => simp [take,M.run] at h1
  | bld T =>
   rw [XJ (by intro l; simp)] at hr
   have i2:=YX ks as h3 hr
   cases a with
   | bx r kk =>
    cases kk with
    | succ kk => simp [take,M.run] at h1
    | zero =>
     have hr:r ∈ Zy u1:=by
      simp only [take,M.run] at h1
      cases hr:tbl r with
      | fresh => simp [hr,M.run] at h1
      | gone => simp [hr,M.run] at h1
      | live y =>
       cases y with
       | arr => simp [hr,M.run] at h1
       | nest => simp [hr,M.run] at h1
       | box cs =>
        match cs,hr with
        | [c0,c1],hr =>
         simp only [hr] at h1
         obtain ⟨hg,h1⟩:=M.run_guard h1
         obtain ⟨⟨ys',u1'⟩,l1',h1',h2'⟩:=M.run_bind_some h1
         obtain ⟨h,_⟩:=M.run_ret h2'
         grind [Zy,Qt]
        | [],hr => simp [hr,M.run] at h1
        | [_],hr => simp [hr,M.run] at h1
        | _ :: _ :: _ :: _,hr => simp [hr,M.run] at h1
     have e:Z3 nm (.bld T :: ks) (.bx r 0 :: as) = r :: Z3 nm ks as:=by cases nm <;> rfl
     grind
   | _ => simp [take,M.run] at h1
  | _ => simp_all
 | [],_ :: _,tbl,l,l',l2,l3,xs,u,nm,hm,hr => by simp [takes,M.run] at hm
 | _ :: _,[],tbl,l,l',l2,l3,xs,u,nm,hm,hr => by simp [takes,M.run] at hm
theorem ZkA {as:List AV} {vs:List Value} (h:ZA σ w lim as vs) {i r:Nat} {v:Value} (h1:as[i]? = some (AV.bx r 0)) (h2:vs[i]? = some v):σ r = v:=by
 obtain ⟨u,h3,h4⟩:=(ZB.1 h).get h1
 grind [RA]
theorem Zbm {tbl:ZF}:(ks:List Kd) → (cs:List AV) → {l l1 l2:List Nat} → {xs ys:List RV} → {u v:Qh} → {ls:List Kd} → {as:List AV} → (takes ks cs).run tbl l = some ((xs,u),l1) → (takes ls as).run tbl l1 = some ((ys,v),l2) →
  (takes (ks ++ ls) (cs ++ as)).run tbl l = some ((xs ++ ys,u ++ v),l2)
 | [],[],l,l1,l2,xs,ys,u,v,ls,as,h,k => by
  obtain ⟨e,e2⟩:=M.run_ret h
  cases e; subst e2
  exact k
 | k0 :: ks,a :: cs,l,l1,l2,xs,ys,u,v,ls,as,h,k => by
  simp only [takes] at h
  obtain ⟨⟨x,u1⟩,l3,h1,h2⟩:=M.run_bind_some h
  obtain ⟨⟨zs,u2⟩,l4,h3,h4⟩:=M.run_bind_some h2
  obtain ⟨e,e2⟩:=M.run_ret h4
  cases e; subst e2
  have:=Zbm ks cs h3 k
  simp only [J2,takes,M.run_bind,h1,VL,this,M.run,Jv]
 | [],_ :: _,l,l1,l2,xs,ys,u,v,ls,as,h,k => by simp [takes,M.run] at h
 | _ :: _,[],l,l1,l2,xs,ys,u,v,ls,as,h,k => by simp [takes,M.run] at h
theorem ZdY:(ks:List Kd) → (as:List AV) → {tbl:ZF} → {l l':List Nat} → {xs:List RV} → {u:Qh} → (takes ks as).run tbl l = some ((xs,u),l') →
  QU ks as = true ∧ ∃ ys,(takes (Zt ks) (ZM ks as)).run tbl l = some ((ys,u),l')
 | [],[],tbl,l,l',xs,u,hm => ⟨rfl,xs,hm⟩
 | k :: ks,a :: as,tbl,l,l',xs,u,hm => by
  simp only [takes] at hm
  obtain ⟨⟨x,u1⟩,l1,h1,h2⟩:=M.run_bind_some hm
  obtain ⟨⟨ys,u2⟩,l2,h3,h4⟩:=M.run_bind_some h2
  obtain ⟨h,e⟩:=M.run_ret h4
  cases h; subst e
  obtain ⟨i1,zs,i2⟩:=ZdY ks as h3
  have plainK:(∀ f l,k ≠ .clo f l) → QU (k :: ks) (a :: as) = true ∧ ∃ ys,(takes (Zt (k :: ks)) (ZM (k :: ks) (a :: as))).run tbl l = some ((ys,u1 ++ u2),l'):=by
   intro hk
   have e1:Zt (k :: ks) = k :: Zt ks:=by cases k <;> first | rfl | exact absurd rfl (hk _ _)
   have e2:ZM (k :: ks) (a :: as) = a :: ZM ks as:=by cases k <;> first | rfl | exact absurd rfl (hk _ _)
   have e3:QU (k :: ks) (a :: as) = QU ks as:=by cases k <;> first | rfl | exact absurd rfl (hk _ _)
   simp_all [takes,M.run_bind,h1,VL,i2,M.run]
  cases k with
  | clo f ks0 =>
   cases a with
   | clo g cs =>
    simp only [take] at h1
    obtain ⟨hg,h1⟩:=M.run_guard h1
    obtain ⟨⟨zs',u3⟩,l3,h5,h6⟩:=M.run_bind_some h1
    obtain ⟨h,e⟩:=M.run_ret h6
    cases h; subst e
    have hl:=ZeY ks0 cs h5
    refine ⟨by simp only [QU,hl,WJ,i1,Bool.and_self],zs' ++ zs,?_⟩
    simp only [Zt,ZM]
    exact Zbm ks0 cs h5 i2
   | _ => simp [take,M.run] at h1
  | _ => exact plainK (by intro f l; simp)
 | [],_ :: _,tbl,l,l',xs,u,hm => by simp [takes,M.run] at hm
 | _ :: _,[],tbl,l,l',xs,u,hm => by simp [takes,M.run] at hm
theorem WW {lim:Nat → Nat}:(ks:List Kd) → (cs:List AV) → {q:List Nat} → {vs vs':List Value} → Zl ks cs = some q → ZA σ w lim cs vs → WY ks vs vs' → ZI σ q ks vs'
 | [],[],q,vs,vs',hq,hv,hs => by grind [Zl,ZI]
 | k :: ks,a :: as,q,vs,vs',hq,hv,hs => by
  match vs,vs',hv,hs with
  | [],_,hv,_ => simp [ZA] at hv
  | _ :: _,[],_,_ => cases q <;> simp [ZI]
  | v :: vs,v' :: vs',hv,hs =>
   simp only [ZA] at hv
   have other:(∀ l,k ≠ .ref l) → ZI σ q (k :: ks) (v' :: vs'):=by
    intro hk
    have e1:Zl (k :: ks) (a :: as) = Zl ks as:=by cases k <;> first | rfl | exact absurd rfl (hk _)
    have e2:WY (k :: ks) (v :: vs) (v' :: vs') = WY ks vs vs':=by cases k <;> first | rfl | exact absurd rfl (hk _)
    rw [e1] at hq
    rw [e2] at hs
    have:=WW ks as hq hv.2 hs
    cases q with
    | nil => simp [ZI]
    | cons q0 q =>
     have e3:ZI σ (q0 :: q) (k :: ks) (v' :: vs') = ZI σ (q0 :: q) ks vs':=by cases k <;> first | rfl | exact absurd rfl (hk _)
     rw [e3]; exact this
   cases k with
   | ref l =>
    cases a with
    | bx r kk =>
     cases kk with
     | succ kk => simp [Zl] at hq
     | zero =>
      simp only [Zl] at hq
      cases hq2:Zl ks as with
      | none => rw [hq2] at hq; simp at hq
      | some q2 =>
       rw [hq2] at hq
       simp only [VG.injEq] at hq
       subst hq
       simp only [WY] at hs
       simp only [ZI]
       refine ⟨?_,WW ks as hq2 hv.2 hs.2⟩
       grind [RA]
    | _ => simp [Zl] at hq
   | _ => exact other (by intro l; simp)
 | [],_ :: _,q,vs,vs',hq,hv,hs => by simp [Zl] at hq
 | k :: _,[],q,vs,vs',hq,hv,hs => by cases k <;> simp [Zl] at hq
theorem Zaz:(ks:List Kd) → (vs:List Value) → WY ks vs vs
 | [],_ => by simp [WY]
 | _ :: _,[] => by simp [WY]
 | k :: ks,v :: vs => by cases k <;> simp [WY,Zaz ks vs]
theorem Zcv {lim:Nat → Nat}:(ks:List Kd) → {as:List AV} → {vs:List Value} → QU ks as = true → ZA σ w lim as vs → ZA σ w lim (ZM ks as) (Qx ks vs)
 | [],[],vs,_,h => by grind [ZA,ZM,Qx]
 | [],_ :: _,vs,h,_ => by simp [QU] at h
 | k :: ks,[],vs,h,_ => by cases k <;> simp [QU] at h
 | k :: ks,a :: as,vs,hc,h => by
  match vs,h with
  | v :: vs,h =>
   simp only [ZA] at h
   have plainK:(∀ f l,k ≠ .clo f l) → ZA σ w lim (ZM (k :: ks) (a :: as)) (Qx (k :: ks) (v :: vs)):=by
    intro hk
    have e2:ZM (k :: ks) (a :: as) = a :: ZM ks as:=by cases k <;> first | rfl | exact absurd rfl (hk _ _)
    have e1:Qx (k :: ks) (v :: vs) = v :: Qx ks vs:=by cases k <;> first | rfl | exact absurd rfl (hk _ _)
    have e3:QU (k :: ks) (a :: as) = QU ks as:=by cases k <;> first | rfl | exact absurd rfl (hk _ _)
    rw [e1,e2]
    simp only [ZA]
    exact ⟨h.1,Zcv ks (by rw [← e3]; exact hc) h.2⟩
   cases k with
   | clo f ks0 =>
    cases a with
    | clo g cs =>
     simp only [QU,Jh] at hc
     have h1:=h.1
     simp only [RA] at h1
     obtain ⟨us,rfl,h2⟩:=h1
     simp only [ZM,Qx,JV]
     exact ZB.2 ((ZB.1 h2).append (ZB.1 (Zcv ks hc.2 h.2)))
    | _ => simp [QU] at hc
   | _ => exact plainK (by intro f l; simp)
  | [],h => simp [ZA] at h
theorem Ku:(ks:List Kd) → (as:List AV) → ∀ r ∈ Zd (ZM ks as),r ∈ Zd as
 | [],as,r,hr => by cases as <;> simp [ZM,Zd] at hr
 | k :: ks,[],r,hr => by cases k <;> simp [ZM,Zd] at hr
 | k :: ks,a :: as,r,hr => by
  simp only [Zd,Jt]
  have plainK:ZM (k :: ks) (a :: as) = a :: ZM ks as → r ∈ Za a ∨ r ∈ Zd as:=by
   intro e
   rw [e] at hr
   simp only [Zd,Jt] at hr
   exact hr.imp id (Ku ks as r)
  cases k with
  | clo f ks0 =>
   cases a with
   | clo g cs =>
    simp only [ZM,Zed,Jt] at hr
    exact hr.imp (by intro h; simpa [Za] using h) (Ku ks as r)
   | _ => exact plainK rfl
  | _ => exact plainK rfl
theorem Xw:(ks:List Kd) → (cs:List AV) → {q:List Nat} → Zl ks cs = some q → ∀ r ∈ q,r ∈ Zd cs
 | [],[],q,h,r,hr => by simp [Zl] at h; subst h; cases hr
 | k :: ks,a :: as,q,h,r,hr => by
  simp only [Zd,Jt]
  have other:(∀ l,k ≠ .ref l) → r ∈ Za a ∨ r ∈ Zd as:=by
   intro hk
   have e:Zl (k :: ks) (a :: as) = Zl ks as:=by cases k <;> first | rfl | exact absurd rfl (hk _)
   rw [e] at h
   exact .inr (Xw ks as h r hr)
  cases k with
  | ref l =>
   cases a with
   | bx s kk =>
    cases kk with
    | succ kk => simp [Zl] at h
    | zero =>
     simp only [Zl] at h
     cases hq2:Zl ks as with
     | none => rw [hq2] at h; simp at h
     | some q2 =>
      rw [hq2] at h
      simp only [VG.injEq] at h
      subst h
      rcases VN.1 hr with rfl | hr
      ·exact .inl (by simp [Za])
      ·exact .inr (Xw ks as hq2 r hr)
   | _ => simp [Zl] at h
  | _ => exact other (by intro l; simp)
 | [],_ :: _,q,h,r,hr => by simp [Zl] at h
 | k :: _,[],q,h,r,hr => by cases k <;> simp [Zl] at h
theorem Zea {tbl:ZF} {lim:Nat → Nat} (hres:∀ r x,tbl r = .live x → RR σ w lim r x ∧ Ze tbl (ZL r x)) {ks:List Kd} {r:Nat} {l l':List Nat} {q:List Nat} (h:(YG ks r).run tbl l = some (q,l')):Ze tbl q:=by
 have h0:=h
 unfold YG at h
 cases hh:Xo ks with
 | false => rw [hh] at h; obtain ⟨rfl,_⟩:=M.run_ret h; intro s hs; cases hs
 | true =>
  rw [hh] at h
  simp only [cond_true,M.run] at h
  cases hr:tbl r with
  | fresh => simp [hr,M.run] at h
  | gone => simp [hr,M.run] at h
  | live y =>
   cases y with
   | arr => simp [hr,M.run] at h
   | nest => simp [hr,M.run] at h
   | box cs =>
    simp only [hr] at h
    have h1:=M.run_ofOpt h
    intro s hs
    exact (hres r _ hr).2 s (Xw ks cs h1 s hs)
theorem KG {tbl:ZF} {lim:Nat → Nat} (hres:∀ r x,tbl r = .live x → RR σ w lim r x ∧ Ze tbl (ZL r x)):(ks:List Kd) → (as:List AV) → {l l':List Nat} → {nm:List (List Nat)} → (Xq ks as).run tbl l = some (nm,l') → ∀ q ∈ nm.flatten,tbl q ≠ .fresh
 | [],as,l,l',nm,h,q,hq => by
  have:Xq [] as = .ret []:=by cases as <;> rfl
  rw [this] at h
  obtain ⟨rfl,_⟩:=M.run_ret h
  simp at hq
 | k :: ks,[],l,l',nm,h,q,hq => by
  have:Xq (k :: ks) [] = .ret []:=by cases k <;> rfl
  rw [this] at h
  obtain ⟨rfl,_⟩:=M.run_ret h
  simp at hq
 | k :: ks,a :: as,l,l',nm,h,q,hq => by
  have other:(∀ l,k ≠ .box l) → tbl q ≠ .fresh:=fun hk => by
   rw [XJ hk] at h
   exact KG hres ks as h q hq
  cases k with
  | box l0 =>
   cases a with
   | bx r kk =>
    cases kk with
    | succ kk => exact (M.run_fail h).elim
    | zero =>
     simp only [Xq] at h
     obtain ⟨q0,l5,h5,h6⟩:=M.run_bind_some h
     obtain ⟨qs,l6,h7,h8⟩:=M.run_bind_some h6
     obtain ⟨h9,_⟩:=M.run_ret h8
     subst h9
     rw [J3,Jt] at hq
     rcases hq with hq | hq
     ·exact Zea hres h5 q hq
     ·exact KG hres ks as h7 q hq
   | _ => exact (M.run_fail h).elim
  | _ => exact other (by intro l; simp)
theorem Qf {ks:List Kd} {vs:List Value}:ZI σ [] ks vs:=by cases ks <;> cases vs <;> simp [ZI]
theorem ZbN (h:RelW G σ lim st tmps w) {w':World}:(ks:List Kd) → {as:List AV} → {vs:List Value} → {l l':List Nat} → {nm:List (List Nat)} → (Xq ks as).run st.tbl l = some (nm,l') → ZA σ w lim as vs → WI w w' ks vs → QK σ w' nm ks vs
 | [],as,vs,l,l',nm,hm,hv,hs => by cases nm <;> cases vs <;> simp [QK]
 | k :: ks,[],vs,l,l',nm,hm,hv,hs => by
  match vs,hv with
  | [],_ => cases nm <;> simp [QK]
 | k :: ks,a :: as,vs,l,l',nm,hm,hv,hs => by
  match vs,hv with
  | v :: vs,hv =>
   simp only [ZA] at hv
   have other:(∀ l,k ≠ .box l) → QK σ w' nm (k :: ks) (v :: vs):=fun hk => by
    rw [XJ hk] at hm
    have e:WI w w' (k :: ks) (v :: vs) = WI w w' ks vs:=by cases k <;> first | rfl | exact absurd rfl (hk _)
    rw [e] at hs
    have e2:QK σ w' nm (k :: ks) (v :: vs) = QK σ w' nm ks vs:=by cases k <;> first | (cases nm <;> rfl) | exact absurd rfl (hk _)
    rw [e2]
    exact ZbN h ks hm hv.2 hs
   cases k with
   | box l0 =>
    cases a with
    | bx r kk =>
     cases kk with
     | succ kk => exact (M.run_fail hm).elim
     | zero =>
      simp only [Xq] at hm
      obtain ⟨q0,l5,h5,h6⟩:=M.run_bind_some hm
      obtain ⟨qs,l6,h7,h8⟩:=M.run_bind_some h6
      obtain ⟨h9,_⟩:=M.run_ret h8
      subst h9
      simp only [WI] at hs
      simp only [QK]
      refine ⟨fun b cs' T' fz' e1 e2 => ?_,ZbN h ks h7 hv.2 hs.2⟩
      cases q0 with
      | nil => exact Qf
      | cons q1 q0 =>
       -- the box,at first
       have hbox:∃ cs0,st.tbl r = .live (.box cs0) ∧ Zl l0 cs0 = some (q1 :: q0):=by
        unfold YG at h5
        cases hh:Xo l0 with
        | false => rw [hh] at h5; obtain ⟨e,_⟩:=M.run_ret h5; cases e
        | true =>
         rw [hh] at h5
         simp only [cond_true,M.run] at h5
         cases hr:st.tbl r with
         | fresh => simp [hr,M.run] at h5
         | gone => simp [hr,M.run] at h5
         | live y =>
          cases y with
          | arr => simp [hr,M.run] at h5
          | nest => simp [hr,M.run] at h5
          | box cs =>
           simp only [hr] at h5
           exact ⟨cs,rfl,M.run_ofOpt h5⟩
       obtain ⟨cs0,hr,hq⟩:=hbox
       obtain ⟨hR,_⟩:=h.res r _ hr
       obtain ⟨b0,ws,U,f1,f2,f3,f4,_⟩:=Wz hv.1 hR
       rw [e1] at f2
       obtain rfl:b = b0:=by simpa using f2
       exact WW l0 cs0 hq f4 (hs.1 b ws U (0,0) cs' T' fz' e1 f3 e2)
    | _ => exact (M.run_fail hm).elim
   | _ => exact other (by intro l; simp)
  | [],hv => simp [ZA] at hv
theorem ZcP (hC:∀ f cal,C.Φ f = some cal → Ctr C.P C.k f cal) (h:RelW G σ lim st tmps w) {base f:Nat} {args:List AV} {vs:List Value} {l l':List Nat} {e:Eff}
  (hm:(Zcl C base f args).run st.tbl l = some (e,l')) (ha:ZA σ w lim args vs) (hk:∀ a ∈ args,Ze st.tbl (Za a)) :
  Zho C.P f ∧ Calls C.P f vs.toArray w fun en w' => ∃ v σ' lim',en = .returned v ∧ RelW G σ' lim' ⟨st.env,st.tbl.put e.ups⟩ tmps w' ∧ RA σ' w' lim' e.val v ∧ Ze (st.tbl.put e.ups) (Za e.val):=by
 unfold Zcl at hm
 cases hcal:C.Φ f with
 | none => simp [hcal,M.run] at hm
 | some cal =>
  simp only [hcal] at hm
  have hctr:=hC f cal hcal
  refine ⟨hctr.enters,?_⟩
  obtain ⟨⟨rvs,u⟩,l1,h1,h2'⟩:=M.run_bind_some hm
  obtain ⟨nm,l1',hnm,h2⟩:=M.run_bind_some h2'
  obtain ⟨hok,h3⟩:=M.run_guard h2
  simp only at hok h3
  simp only [M.run] at h3
  cases hrun:cal.run C.k rvs with
  | none => simp [hrun] at h3
  | some x =>
   simp only [hrun,VL] at h3
   cases hg:Zk (put base (cal.enc x).1).2.2 nm (Zt cal.pk) (ZM cal.pk args) (cal.enc x).2 with
   | none => simp [hg,M.run] at h3
   | some q =>
    obtain ⟨wu,m⟩:=q
    simp only [hg] at h3
    obtain ⟨hfr,l2,h4⟩:=Zi6 h3
    obtain ⟨rfl,_⟩:=M.run_ret h4
    obtain ⟨s1,k1⟩:=QJ (st:=st) (σ:=σ) (w:=w) (lim:=lim) cal.pk args h1
    obtain ⟨lim1,hR,hE,hS,hnd,hbl⟩:=h.takes s1 hok
    have hT:=k1 vs ha (fun r y hy => (h.res r y hy).1) lim1 hE hS
    refine (hctr.calls rvs x hrun w lim1 vs _ hR.lz (hR.glob.mono hR.ext) hT hnd (fun b hb => (hbl b hb).2.1)).mono ?_
    rintro en w' ⟨v,lim2,b1,b2,rfl,hE2,hlz2,hsame,hkeep,hT1,hT2,hStay,hnd2,hb2⟩
    -- the world behind the call
    have hW:RelW G σ lim2 ⟨st.env,(st.tbl.put u).put []⟩ tmps w':=RelW.noput (st:=⟨st.env,st.tbl.put u⟩) (ups:=[]) (v:=.dead) (x:=undef) hR (Upd.dead hE2 hlz2 hsame (fun _ _ => rfl)
     (fun r hl _ b hb => by
      have h5:b ∉ ZX σ (Zy u):=fun hm => (hbl b hm).2.2 r hl hb
      exact hkeep b (YN hR hl hb) h5)
     (fun r y hl => by simp [Zm] at hl) (fun r _ y _ hl => by simp [Zm] at hl) (fun r y _ hl => by simp [Zm] at hl)
     (fun b hb hl => by
      have h5:b ∉ ZX σ (Zy u):=fun hm => by
       grind
      exact (hkeep b (V1 hb h.ext.size) h5).1)
     (fun b hb hl => by
      have h5:b ∉ ZX σ (Zy u):=fun hm => by
       grind
      exact (hkeep b (V1 hb h.ext.size) h5).2)
     (fun r => by simp [Zm]) (by simp [RA]) (by simp [Za,Ze]))
    rw [ZS] at hW
    have hfb:∀ b ∈ b1 ++ b2,(G.w0.heap.size ≤ b ∨ b ∈ G.lent) ∧ ∀ r,Zw (st.tbl.put u r) = true → blk (σ r) ≠ some b:=by
     intro b hb
     rcases hb2 b hb with h5 | h5
     ·simp_all
     ·refine ⟨.inl (VJ h.ext.size h5),fun r hl hbr => ?_⟩
      have:=YN hR hl hbr
      omega
    rw [VR] at hnd2
    have hle:=ZdO (cal.enc x).1 base
    have hle2:=QZ _ _ _ _ _ hg
    have hfu:∀ j,base ≤ j → j < m → (st.tbl.put u) j = .fresh:=by
     intro j h5 h6
     have h7:=hfr j h5 (by omega)
     have:∀ y,(j,y) ∉ u:=by
      intro y hy
      rcases s1 _ hy with ⟨_,h8⟩ | ⟨t,xs,sh,_,h8⟩
      ·simp only at h8; rw [h7] at h8; cases h8
      simp_all
     rw [Zjh this]; exact h7
    obtain ⟨σ1,hP,hA,hK⟩:=ZbM (cal.enc x).1 base (st:=⟨st.env,st.tbl.put u⟩) hW hT1 (fun j h5 h6 => hfu j h5 (by omega)) ⟨hnd2.1,fun b hb => hfb b (JH _ hb)⟩
    obtain ⟨hco,zs,hflat⟩:=ZdY cal.pk args h1
    have hl2:=YX _ _ hflat hnm
    have hl1:∀ r ∈ Z3 nm (Zt cal.pk) (ZM cal.pk args),r ∈ Zy u:=fun r hr => hl2.subset hr
    have hfa:=Zcv (σ:=σ) (w:=w) (lim:=lim) cal.pk hco ha
    have hgone:∀ r ∈ Zy u,(st.tbl.put u) r = .gone:=by
     intro r hr
     obtain ⟨y,hy⟩:=ZdB (Q7.1 hr)
     have:=YO hok (Q7.1 hr) y (Qn hy)
     simp [ZF.put,hy,this]
    have hputkeep:∀ r,(st.tbl.put u) r ≠ .fresh → ((st.tbl.put u).put (put base (cal.enc x).1).2.1) r = (st.tbl.put u) r:=by
     intro r hr
     have:r < base ∨ (put base (cal.enc x).1).2.2 ≤ r:=by
      grind
     simp only [ZF.put] at hr ⊢
     rw [hP.out r this]
    have hufresh:∀ r,st.tbl r ≠ .fresh → (st.tbl.put u) r ≠ .fresh:=by
     intro r hr hf
     simp only [ZF.put] at hf
     cases hls:Zm u r with
     | none => rw [hls] at hf; exact hr hf
     | some z =>
      rw [hls] at hf; simp only at hf; subst hf
      rcases s1 _ (Qn hls) with ⟨h8,_⟩ | ⟨t,xs,sh,h8,_⟩ <;> simp at h8
    have hRV:QK σ w' nm (Zt cal.pk) (Qx cal.pk vs):=ZbN h (Zt cal.pk) hnm hfa hStay
    have hrefs:∀ q ∈ nm.flatten,(st.tbl.put u) q ≠ .fresh:=fun q hq => hufresh q (KG h.res (Zt cal.pk) (ZM cal.pk args) hnm q hq)
    obtain ⟨σ2,hQ,hold,hnf,hle3⟩:=XC nm (Zt cal.pk) (ZM cal.pk args) (cal.enc x).2 _ (st:=⟨st.env,(st.tbl.put u).put (put base (cal.enc x).1).2.1⟩) hg hP.rel hT2 (Xz nm _ _ (fun q hq => hP.old q (hrefs q hq)) hRV)
     (fun i r v' h5 h6 => by
      have h7:st.tbl r ≠ .fresh:=by
       obtain ⟨a,h8,h9⟩:=W6 (Ku cal.pk args r (W5 (Vx h5) (by simp [Za])))
       exact hk a h8 r h9
      have h8:=hufresh r h7
      exact ⟨(hP.old r h8).trans (ZkA hfa h5 h6),by simp only; rw [hputkeep r h8]; exact h8⟩)
     (fun r hr => by
      grind)
     (fun q hq => by grind)
     (hl2.nodup (XY hok))
     (fun j h5 h6 => by
      have h7:=hfu j (by omega) h6
      simp only [ZF.put] at h7 ⊢
      rw [hP.out j (.inr h5)]; exact h7)
     ⟨hnd2.2.1,fun b hb => ⟨(hfb b (JB _ hb)).1,fun r hls hbr => by
      rcases hP.lv r b hls hbr with ⟨h5,h6⟩ | h5
      ·simp_all
      ·exact hnd2.2.2 b h5 b hb rfl⟩⟩
    refine ⟨v,σ2,lim2,rfl,?_,?_,?_⟩
    ·rw [ZP,ZP]; exact hQ
    ·exact RA.mono (T:=(st.tbl.put u).put (put base (cal.enc x).1).2.1) (Ext.refl _ _) hold _ _ hK hA
    ·rw [ZP,ZP]; exact hK.put hnf
theorem Zj5 {C:Ctx} {G:Glob} {σ:QM} {w:World} {lim:Nat → Nat} {st:St} {tmps:Array Value} (h:RelW G σ lim st tmps w) {src el:TypeId} (hd:C.P.underlying src = some (.slice el)) (hb:Y0 C.P el = true) {r:Nat} {t:Ty} {xs:List t.den} {sh:Bool}
  (hr:st.tbl r = .live (.arr t xs sh)) (hx:1 ≤ xs.length) (hv:∃ A l c,σ r = .slice A l c):Qb C G st tmps w (convert src src (σ r)) ⟨.own r,[(r,.live (.arr t xs sh))]⟩:=by
 obtain ⟨hR,hk⟩:=h.res r _ hr
 have hlr:Zw (st.tbl r) = true:=by rw [hr]; rfl
 simp only [RR] at hR
 obtain ⟨hsz,hR⟩:=hR
 rcases hR with ⟨rfl,_⟩ | ⟨b,off,cap,vs,U,fz,h4,h5,h6,h7,h8,h9,h10⟩
 ·simp at hx
 obtain ⟨hu8,_⟩:=Zak hb
 have hrun:(convert src src (σ r)).run C.P w = .ok (σ r) (w.freeze ⟨b,vs.size,none⟩ 1):=by
  rw [h4]
  have hs:w.shape? b = some (U,vs.size):=by simp [World.shape?,h6]
  simp [convert,run_underlying hd,run_underlying hu8,markStringish,hs]
 obtain ⟨fz',hf1,hf2⟩:∃ fz',(w.freeze ⟨b,vs.size,none⟩ 1).heap = w.heap.modify b (fun _ => .cells vs U fz') ∧ Fit t U vs.size fz':=by
  refine ⟨(if fz.1 == fz.2 then (vs.size,vs.size + 1) else (min fz.1 vs.size,max fz.2 (vs.size + 1))),?_,?_,h8.kind,?_,h8.big⟩
  ·unfold World.freeze
   grind
  ·intro o ho
   have hfree:=h8.free o ho
   have hord:=h8.ord
   by_cases he:fz.1 = fz.2
   ·grind
   ·have hne:(fz.1 == fz.2) = false:=by simpa using he
    have hall:vs.size ≤ fz.1:=by
     rcases VO fz.1 vs.size with h' | h'
     ·exact absurd ⟨Jj _,by omega⟩ (h8.free fz.1 h')
     ·exact h'
    grind
  grind
 have hold:∀ k:Nat,k ≠ b → (w.freeze ⟨b,vs.size,none⟩ 1).heap[k]? = w.heap[k]? := by
  grind
 have hnew:(w.freeze ⟨b,vs.size,none⟩ 1).heap[b]? = some (.cells vs U fz'):=by
  grind
 have hsize:(w.freeze ⟨b,vs.size,none⟩ 1).heap.size = w.heap.size:=by rw [hf1]; simp
 have hsame:(w.freeze ⟨b,vs.size,none⟩ 1).os = w.os ∧ (w.freeze ⟨b,vs.size,none⟩ 1).tape = w.tape ∧ (w.freeze ⟨b,vs.size,none⟩ 1).output = w.output:=by
  unfold World.freeze
  simp_all
 generalize w.freeze ⟨b,vs.size,none⟩ 1 = w' at *
 have hE:Ext w lim w' lim:=⟨by omega,fun b' o _ => by
  by_cases e:b' = b
  ·subst e; simp [World.cell?,hnew,h6]
  ·simp [World.cell?,hold b' e],fun _ _ ho => ho,fun b' T' hT => by
  by_cases e:b' = b
  ·simp_all [Z8,h6,hnew]
  ·simpa [Z8,hold b' e] using hT,fun b' o ho hf => by
  by_cases e:b' = b
  ·subst e
   have hle:lim b' ≤ off + xs.length * t.size:=by cases sh <;> simp at h10 <;> omega
   have:=Jk t.size h5
   rw [KQ hnew (hf2.free o (by omega))] at hf; cases hf
  ·rw [Qm (hold b' e)] at hf; exact ⟨ho,hf⟩⟩
 have hbk:blk (σ r) = some b:=by rw [h4]; rfl
 have hRel:RelW G σ lim ⟨st.env,st.tbl.put [(r,.live (.arr t xs sh))]⟩ tmps w':=by
  refine h.noput (v:=.dead) (x:=undef) (Upd.dead hE ?_ hsame (fun _ _ => rfl) ?_ ?_ ?_ ?_ ?_ (fun _ _ _ => rfl) ?_ (by simp [RA]) (by simp [Za,Ze]))
  ·intro b' hb'; exact h.lz b' (by omega)
  ·intro r' hl hn b' hb'
   rw [Zb] at hn
   have hne:r' ≠ r:=by intro e; simp [e] at hn
   have:b' ≠ b:=by intro e; subst e; exact hne (h.inj r' r b' hl hlr hb' hbk)
   exact ⟨hold b' this,rfl⟩
  ·intro r' z hl
   rw [Zb] at hl
   split at hl
   ·rename_i e; subst e
    simp at hl; subst hl
    refine ⟨?_,hk.put (by grind [Zm])⟩
    simp only [RR]
    exact ⟨hsz,.inr ⟨b,off,cap,vs,U,fz',h4,h5,hnew,h7,hf2,fun i hi => (h9 i hi).mono hE,h10⟩⟩
   ·simp [Zm] at hl
  ·intro r1 r2 z b' hl hl2 hb1 hb2
   rw [Zb] at hl
   split at hl
   ·rename_i e; subst e
    rw [Zf] at hl2
    split at hl2
    ·rename_i e; exact e.symm
    ·exact h.inj r2 r b' hl2 hlr hb2 hb1
   ·simp [Zm] at hl
  ·intro r1 z b' hl hb'
   rw [Zb] at hl
   split at hl
   ·rename_i e; subst e; exact h.own r b' hlr hb'
   ·simp [Zm] at hl
  ·intro b' hb' hl
   have:b' ≠ b:=by
    intro e; subst e
    rcases h.own r b' hlr hbk with h1 | h1
    ·omega
    ·exact hl h1
   exact hold b' this
  grind [Zm]
 obtain ⟨A,l,c,hvv⟩:=hv
 exact ⟨_,w',σ,lim,hrun,hRel,Wl hvv rfl,Qa (y:=.arr t xs sh) (by rw [Zf,if_pos rfl])⟩
end Go.Sh
namespace Go.Sh
open Go
variable [Gl]
variable {C:Ctx} {G:Glob} {σ:QM} {w:World} {lim:Nat → Nat} {st:St} {tmps:Array Value} {tbl:ZF}
theorem ZjB {T e:TypeId} {n:Nat} (h:Zm5 C T = some (n,e)):C.P.underlying T = some (.array n e) ∧ ∀ w,(sizeOf e).run C.P w = .ok (C.P.cellsOf e) w:=by
 unfold Zm5 at h
 split at h
 ·rename_i n' e' hu
  cases hi:C.P.info? e' with
  | none => rw [hi] at h; cases h
  | some d =>
   rw [hi] at h
   cases h
   exact ⟨hu,fun w => by simp [sizeOf,typeInfo,hi,Program.cellsOf]⟩
 ·cases h
theorem ZbS {T e:TypeId} {n:Nat} (h:Zm5 C T = some (n,e)) {b o:Nat} {k:IntKind} {i:Int} (h0:0 ≤ i) (h1:i < n) (w:World) :
  (Vd T (.pointer (some ⟨b,o,none⟩)) (.int k i)).run C.P w = .ok (.pointer (some ⟨b,o + i.toNat * C.P.cellsOf e,none⟩)) w:=by
 obtain ⟨hu,hs⟩:=ZjB h
 simp [Vd,asIntOf,run_underlying hu,h0,h1,hs w,JM,ZU]
theorem ZcI {T:TypeId} {a i:AV} {v vi:Value} {l l':List Nat} {e:Eff} (hm:(ZcH C T a i).run tbl l = some (e,l')) (ha:RA σ w lim a v) (hi:RA σ w lim i vi) (hk:Ze tbl (Za a)) :
  ∃ x,(Vd T v vi).run C.P w = .ok x w ∧ RA σ w lim e.val x ∧ Ze tbl (Za e.val) ∧ e.ups = []:=by
 unfold ZcH at hm
 split at hm
 ·rename_i n ee kk i hn
  simp only [RA,RP] at hi; subst hi
  split at hm
  ·rename_i r t j
   obtain ⟨hg,hm⟩:=M.run_guard hm
   obtain ⟨hc,hm⟩:=M.run_need hm
   obtain ⟨h0,h1⟩:=of_decide_eq_true hc
   simp only [RA] at ha
   obtain ⟨b,off,len,cap,h2,rfl⟩:=ha
   have fin:e = ⟨.el r t (i.toNat * C.P.cellsOf ee + j) 0,[]⟩:=by
    cases h3:Ja (C.P.cellsOf ee) 1 with
    | true => rw [h3] at hm; rw [ZC h3,VW]; exact (M.run_ret hm).1
    | false =>
     rw [h3] at hm
     obtain ⟨h4,hm⟩:=M.run_guard hm
     rw [ZC h4]; exact (M.run_ret hm).1
   subst fin
   refine ⟨_,ZbS hn h0 h1 w,?_,by simpa [Za] using hk,rfl⟩
   simp only [RA]
   refine ⟨b,off,len,cap,h2,?_⟩
   rw [ZC hg]
   generalize i.toNat * C.P.cellsOf ee = q
   rw [show off + j * 1 + 0 + q = off + (q + j) * 1 + 0 by omega]
  ·rename_i r k
   obtain ⟨hc,hm⟩:=M.run_need hm
   obtain ⟨h0,h1⟩:=of_decide_eq_true hc
   obtain ⟨rfl,_⟩:=M.run_ret hm
   simp only [RA] at ha
   obtain ⟨b,h2,rfl⟩:=ha
   exact ⟨_,ZbS hn h0 h1 w,by simp only [RA]; exact ⟨b,h2,rfl⟩,by simpa [Za] using hk,rfl⟩
  ·rename_i t xs
   obtain ⟨hg,hm⟩:=M.run_guard hm
   obtain ⟨hc,hm⟩:=M.run_need hm
   obtain ⟨h0,h1,h3⟩:=of_decide_eq_true hc
   obtain ⟨rfl,_⟩:=M.run_ret hm
   simp only [RA,Rt] at ha
   obtain ⟨p,n1,m1,rfl,A,len,cap,hx,hlen,hcap,hr⟩:=ha
   simp only [J1.injEq,V6.injEq,and_true] at hx
   obtain ⟨rfl,rfl,rfl⟩:=hx
   rcases hr with hr | ⟨b,off,hA,hr⟩
   ·subst hr; simp at h3
   ·cases hA
    obtain ⟨c,hc1,hc2⟩:=hr i.toNat h3
    refine ⟨_,ZbS hn h0 h1 w,?_,by intro q hq; simp [Za] at hq,rfl⟩
    simp only [RA]
    rw [ZC hg]
    refine ⟨b,off + i.toNat * t.size,rfl,fun j p hp => ?_⟩
    have hxi:xs.getD i.toNat t.dflt = xs[i.toNat]:=by simp [List.getD,VP h3]
    rw [hxi] at hp
    obtain ⟨v,hv,hpv⟩:=(QF hc1).get hp
    obtain ⟨q1,q2⟩:=hc2 j v hv
    exact ⟨v,q1,q2,hpv⟩
  ·exact (M.run_fail hm).elim
 ·exact (M.run_fail hm).elim
theorem Zer (k:IntKind):∀ (ns:List Int),Zv (Rt w lim (.int k)) ns (ns.map fun n => [Jw k n])
 | [] => trivial
 | _ :: l => ⟨rfl,Zer k l⟩
theorem ZjV (k:IntKind) (ns:List Int):(ns.map fun n => [Jw k n]).flatten = ns.map (Jw k):=by
 induction ns with
 | nil => rfl
 | cons n l ih => simp [ih]
theorem Zmk {k:IntKind} {T:TypeId} {n:Nat} (h:(!(Ty.int k).isU8) = true) (hn:n ≤ 1048576):Fit (.int k) T n (0,0) :=
 ⟨fun o _ => Zj8 o,by unfold okB; simp only [J8] at h; rw [h]; rfl,Jj _,by simp only [Ty.size]; omega⟩
theorem Zd7 (h:RelW G σ lim st tmps w) {base:Nat} {T:TypeId} {l l':List Nat} {e:Eff} (hm:(ZcG C base T).run st.tbl l = some (e,l')) :
  Qb C G st tmps w (J9 T true (.tuple #[])) e:=by
 unfold ZcG at hm
 cases hz:zeroCells C.P T with
 | none => simp [hz,M.run] at hm
 | some zs =>
  simp only [hz] at hm
  split at hm
  ·rename_i k ns hns
   obtain ⟨hg,hm⟩:=M.run_guard hm
   simp only [Jh] at hg
   obtain ⟨hf,l2,hm⟩:=X9 hm
   obtain ⟨rfl,_⟩:=M.run_ret hm
   obtain ⟨z,hz1,hz2⟩:=Wn hz w
   have hv:=Xu (σ:=σ) (w:=w) (lim:=lim) hns (Zbf zs)
   obtain ⟨hN,hE⟩:=ZaE h hf (w':=w.alloc (.cells zs.toArray T)) (vs:=zs.toArray) (T:=T) (fz:=(0,0)) (cap:=ns.length) (t:=.int k) (xs:=ns) false
    (by simp) (fun k hk => heap_alloc_old w _ k hk) (heap_alloc_new w _) ⟨rfl,rfl,rfl⟩ (by simp [Ty.size]) (Jj _) (by simp [Ty.size,hv]) (Zmk hg.2.1 (by have:=Ju hg.1; simp [hv]; omega)) (Zer k ns) (rest:=[]) (by rw [ZjV]; simpa using hv)
   refine ⟨.pointer (some ⟨w.heap.size,0,none⟩),_,_,_,?_,hN,?_,?_⟩
   ·simp [J9,hz1,newVar,newRow,← hz2]
   ·simp only [RA]; exact ⟨w.heap.size,0,ns.length,ns.length,by simp,by simp⟩
   ·intro r hr; simp [Za] at hr; subst hr; simp [Zf]
  ·exact (M.run_fail hm).elim
theorem Zd8 (h:RelW G σ lim st tmps w) {T:TypeId} {a x:AV} {va vx:Value} {l l':List Nat} {e:Eff} (hm:(ZcJ C T a x).run st.tbl l = some (e,l'))
  (ha:RA σ w lim a va) (hx:RA σ w lim x vx) (hT:∃ d,C.P.underlying T = some d):Zkw C G st tmps w (Vf T va vx) e:=by
 unfold ZcJ at hm
 obtain ⟨d,hT⟩:=hT
 split at hm
 ·rename_i r t cs
  obtain ⟨hg,hm⟩:=M.run_guard hm
  split at hm
  ·rename_i k ns hns
   simp only [M.run] at hm
   cases hr:st.tbl r with
   | fresh => simp [hr,M.run] at hm
   | gone => simp [hr,M.run] at hm
   | live y =>
    cases y with
    | box => simp [hr,M.run] at hm
    | nest => simp [hr,M.run] at hm
    | arr t' xs sh =>
     cases sh with
     | true => simp [hr,M.run] at hm
     | false =>
      simp only [hr] at hm
      by_cases ht1:t = .int k
      ·subst ht1
       rw [if_pos rfl] at hm
       by_cases ht2:t' = .int k
       ·subst ht2
        rw [if_pos rfl] at hm
        obtain ⟨hc,hm⟩:=M.run_need hm
        have hc:=of_decide_eq_true hc
        obtain ⟨rfl,_⟩:=M.run_ret hm
        simp only [RA] at ha hx
        obtain ⟨b,off,len,cap,h1,rfl⟩:=ha
        obtain ⟨vs,rfl,hvs⟩:=hx
        have hv:=Xu hns hvs
        have hlen:vs.length = C.P.cellsOf T:=by rw [← ZC hg]; exact ((ZB.1 hvs).length).symm
        obtain ⟨hR,_⟩:=h.res r _ hr
        simp only [RR,cond_false] at hR
        rcases hR.2 with ⟨g1,g2⟩ | ⟨b',off',cap',cur,U,fz,g1,g2,g3,g4,g5,g6,g7⟩
        ·rw [g2] at h1; simp at h1
        ·rw [g1] at h1
         obtain ⟨⟨rfl,rfl⟩,rfl,rfl⟩:(b' = b ∧ off' = off) ∧ xs.length = len ∧ cap' = cap:=by simpa using h1
         simp only [Ty.size,VW,Nat.zero_mul,JI] at *
         have hvl:vs.length = ns.length:=by rw [hv]; simp
         have hone:vs.all (·.oneCell') = true:=by rw [hv,Vg]; intro v hv'; obtain ⟨n,_,rfl⟩:=VH.1 hv'; rfl
         have hrun:=Z5 (P:=C.P) b' off' U fz vs 0 cur w g3 (by omega) g5.free (by simpa using hone)
         simp only [JI] at hrun
         obtain ⟨hW,hE⟩:=h.write hr (y:=.arr (.int k) ns true) (by rw [g1]; rfl) (cs:=(cur.toList.take off' ++ vs ++ cur.toList.drop (off' + vs.length)).toArray) g3 (fun o ho => by omega) (by intro q hq; cases hq)
          (fun hE => by
           simp only [RR,Ty.size,VW,cond_true]
           refine ⟨Nat.one_pos,.inr ⟨b',off',cap',_,U,fz,by rw [← hc]; exact g1,by omega,setRow_heap w b' cur _ U fz g3,by simp; omega,⟨fun o ho => g5.free o (by simp at ho; omega),g5.kind,g5.ord,by have:=g5.big; simp; omega⟩,fun i hi => ?_,by omega⟩⟩
           simp only [Rt]
           have:i < vs.length:=by omega
           have h2:((cur.toList.take off' ++ vs ++ cur.toList.drop (off' + vs.length)).drop (off' + i)).take 1 = [vs[i]]:=by
            have hl:(cur.toList.take off').length = off':=by simp; omega
            generalize cur.toList.take off' = A at hl
            subst hl
            rw [Jv,← JF,List.drop_left,List.drop_append_of_le_length (by omega),Um this]
            rfl
           rw [h2]
           simp only [hv,List.getElem_map])
         refine ⟨_,_,_,?_,hW,rfl⟩
         simp only [Vf,JM,Sem.run_bind,Sem.run_pure,Result.andThen_ok,storeVar,Z2 hT,Value.cells]
         have hsz:(vs.toArray.size ≠ C.P.cellsOf T) = False:=by simp [hlen]
         simp only [hsz,if_false]
         exact hrun
       ·rw [if_neg ht2] at hm; exact (M.run_fail hm).elim
      ·rw [if_neg ht1] at hm; exact (M.run_fail hm).elim
  ·exact (M.run_fail hm).elim
 ·exact (M.run_fail hm).elim
end Go.Sh
namespace Go.Sh
open Go
variable [Gl]
variable {C:Ctx} {G:Glob} {σ:QM} {w:World} {lim:Nat → Nat} {st:St} {a:Act}
theorem Zg (h:RelW G σ lim st a.tmps w) (x:Operand):RA σ w lim (Xv st.env x) (a.eval x) ∧ Ze st.tbl (Za (Xv st.env x)):=by
 cases x with
 | tmp t => exact ⟨h.env t,h.known t⟩
 | const v => exact ⟨Zs,Zh⟩
 | func f => exact ⟨by simp only [Xv,RA]; rfl,Zh⟩
 | global g => exact ⟨by simp [Xv,RA],Zh⟩
def Zce (env:Nat → AV) (x:Operand):AV:=W9 (Xv env x)
theorem Yr (h:RelW G σ lim st a.tmps w) (l:List Operand):ZA σ w lim (l.map (Xv st.env)) (l.map a.eval) ∧ ∀ x ∈ l.map (Xv st.env),Ze st.tbl (Za x):=by
 induction l with
 | nil => exact ⟨by simp [ZA],by simp⟩
 | cons x l ih =>
  refine ⟨by simp only [JS,ZA]; exact ⟨(Zg h x).1,ih.1⟩,fun y hy => ?_⟩
  cases hy with
  | head => exact (Zg h x).2
  | tail _ hy => exact ih.2 y hy
theorem Xg {vals:List AV} {f:AV → M Eff} {tbl:ZF} {l l':List Nat} {e:Eff} (hm:(v1 vals f).run tbl l = some (e,l')):∃ x,vals = [x] ∧ (f x).run tbl l = some (e,l'):=by
 unfold v1 at hm; split at hm
 ·exact ⟨_,rfl,hm⟩
 ·exact (M.run_fail hm).elim
theorem YY {vals:List AV} {f:AV → AV → M Eff} {tbl:ZF} {l l':List Nat} {e:Eff} (hm:(v2 vals f).run tbl l = some (e,l')):∃ x y,vals = [x,y] ∧ (f x y).run tbl l = some (e,l'):=by
 unfold v2 at hm; split at hm
 ·exact ⟨_,_,rfl,hm⟩
 ·exact (M.run_fail hm).elim
theorem ZnG {vals:List AV} {f:AV → AV → AV → M Eff} {tbl:ZF} {l l':List Nat} {e:Eff} (hm:(v3 vals f).run tbl l = some (e,l')):∃ x y z,vals = [x,y,z] ∧ (f x y z).run tbl l = some (e,l'):=by
 unfold v3 at hm; split at hm
 ·exact ⟨_,_,_,rfl,hm⟩
 ·exact (M.run_fail hm).elim
def Qs (C:Ctx) (G:Glob) (st:St) (o:Oper) (a:Act) (w:World) (e:Eff):Prop :=
 ∀ (next:Act → World → Prop) (Q:Exit → Act → World → Prop),(∀ x w' σ' lim',RelW G σ' lim' ⟨Q9 st.env o.dst e.val,st.tbl.put e.ups⟩ (a.put o.dst x).tmps w' → next (a.put o.dst x) w') → o.wp C.P a w next Q
theorem Qs.value {o:Oper} {s:Sem Value} {e:Eff} (hx:execOp a.eval o = (do pure (Next.value (← s)))) (h:Qb C G st a.tmps w s e) (hd:∀ d,o.dst = some d → d < a.tmps.size):Qs C G st o a w e:=by
 intro next Q hn
 obtain ⟨x,w',σ',lim',hr,hR,hv,hk⟩:=h
 unfold Oper.wp
 rw [hx]
 simp only [bind_pure_comp,Sem.run_map,hr,Result.andThen_ok,Oper.upon_value]
 have:=RelW.step (a:=a) hR (Upd.quiet hR hv hk) o.dst hd
 simp only [ZS] at this
 exact hn x w' σ' lim' this
theorem Qs.unit {o:Oper} {s:Sem Unit} {e:Eff} (hx:execOp a.eval o = (do s; pure Next.skip)) (h:Zkw C G st a.tmps w s e) (hd:∀ d,o.dst = some d → d < a.tmps.size):Qs C G st o a w e:=by
 intro next Q hn
 obtain ⟨w',σ',lim',hr,hR,hv⟩:=h
 unfold Oper.wp
 rw [hx]
 simp only [Sem.run_bind,hr,Result.andThen_ok,Sem.run_pure,Oper.upon_skip]
 have:=RelW.step (a:=a) hR (Upd.quiet (v:=.tup []) (x:=undef) hR (by simp only [RA]; exact ⟨[],rfl,by simp [ZA]⟩) (by simp [Za,Zd,Ze])) o.dst hd
 simp only [ZS] at this
 rw [← hv] at this
 exact hn undef w' σ' lim' this
theorem Zgv (h:RelW G σ lim st a.tmps w) {x:AV} {v:Value} (hx:RA σ w lim x v) (hk:Ze st.tbl (Za x)):Qb C G st a.tmps w (pure v) ⟨x,[]⟩ :=
 ⟨v,w,σ,lim,rfl,h,hx,hk⟩
def ZfX (P:Program):Op → Bool
 | .store T _ _ => (P.underlying T).isSome
 | _ => true
theorem ZkS (fn:Func) (h:fn.name = "math.Float64bits") (ho:fn.origin = ""):Extern.findNext fn = none ∧ Extern.find fn = some Extern.MathFloatBits.float64bits:=by
 have a1:Extern.allNextRows.lookup "math.Float64bits" = none:=by kernel_rfl
 have a2:Extern.allNextRows.lookup "" = none:=by kernel_rfl
 have b1:Extern.allGenericRows.lookup "math.Float64bits" = none:=by kernel_rfl
 have b2:Extern.allTypedRows.lookup "math.Float64bits" = none:=by kernel_rfl
 have b3:Extern.allRows.lookup "math.Float64bits" = some Extern.MathFloatBits.float64bits:=by kernel_rfl
 unfold Extern.findNext Extern.find
 rw [h,ho]
 simp only [a1,a2,b1,b2,b3]
 exact ⟨rfl,rfl⟩
theorem ZkT (fn:Func) (h:fn.name = "math.Float64frombits") (ho:fn.origin = ""):Extern.findNext fn = none ∧ Extern.find fn = some Extern.MathFloatBits.float64frombits:=by
 have a1:Extern.allNextRows.lookup "math.Float64frombits" = none:=by kernel_rfl
 have a2:Extern.allNextRows.lookup "" = none:=by kernel_rfl
 have b1:Extern.allGenericRows.lookup "math.Float64frombits" = none:=by kernel_rfl
 have b2:Extern.allTypedRows.lookup "math.Float64frombits" = none:=by kernel_rfl
 have b3:Extern.allRows.lookup "math.Float64frombits" = some Extern.MathFloatBits.float64frombits:=by kernel_rfl
 unfold Extern.findNext Extern.find
 rw [h,ho]
 simp only [a1,a2,b1,b2,b3]
 exact ⟨rfl,rfl⟩
theorem ZjR (fn:Func) (h:fn.name = "math.archFloor") (ho:fn.origin = ""):Extern.findNext fn = none ∧ Extern.find fn = some (Extern.MathFloor.toIntegral "math.archFloor" .down):=by
 have a1:Extern.allNextRows.lookup "math.archFloor" = none:=by kernel_rfl
 have a2:Extern.allNextRows.lookup "" = none:=by kernel_rfl
 have b1:Extern.allGenericRows.lookup "math.archFloor" = none:=by kernel_rfl
 have b2:Extern.allTypedRows.lookup "math.archFloor" = none:=by kernel_rfl
 have b3:Extern.allRows.lookup "math.archFloor" = some (Extern.MathFloor.toIntegral "math.archFloor" .down):=by kernel_rfl
 unfold Extern.findNext Extern.find
 rw [h,ho]
 simp only [a1,a2,b1,b2,b3]
 exact ⟨rfl,rfl⟩
theorem ZjS (fn:Func) (h:fn.name = "math.archTrunc") (ho:fn.origin = ""):Extern.findNext fn = none ∧ Extern.find fn = some (Extern.MathFloor.toIntegral "math.archTrunc" .zero):=by
 have a1:Extern.allNextRows.lookup "math.archTrunc" = none:=by kernel_rfl
 have a2:Extern.allNextRows.lookup "" = none:=by kernel_rfl
 have b1:Extern.allGenericRows.lookup "math.archTrunc" = none:=by kernel_rfl
 have b2:Extern.allTypedRows.lookup "math.archTrunc" = none:=by kernel_rfl
 have b3:Extern.allRows.lookup "math.archTrunc" = some (Extern.MathFloor.toIntegral "math.archTrunc" .zero):=by kernel_rfl
 unfold Extern.findNext Extern.find
 rw [h,ho]
 simp only [a1,a2,b1,b2,b3]
 exact ⟨rfl,rfl⟩
theorem Zfg {s:String} {c:Nat} (h:Zff s = some c):(c = 0 ∧ s = "math.Float64bits") ∨ (c = 1 ∧ s = "math.Float64frombits") ∨ (c = 2 ∧ s = "math.archFloor") ∨ (c = 3 ∧ s = "math.archTrunc"):=by
 unfold Zff at h
 cases h0:(s == "math.Float64bits") with
 | true => rw [h0] at h; cases h; exact .inl ⟨rfl,by simpa using h0⟩
 | false =>
  rw [h0] at h
  cases h1:(s == "math.Float64frombits") with
  | true => rw [h1] at h; cases h; exact .inr (.inl ⟨rfl,by simpa using h1⟩)
  | false =>
   rw [h1] at h
   cases h2:(s == "math.archFloor") with
   | true => rw [h2] at h; cases h; exact .inr (.inr (.inl ⟨rfl,by simpa using h2⟩))
   | false =>
    rw [h2] at h
    cases h3:(s == "math.archTrunc") with
    | true => rw [h3] at h; cases h; exact .inr (.inr (.inr ⟨rfl,by simpa using h3⟩))
    | false => rw [h3] at h; cases h
theorem Za5 {P:Program} {name:String} {way:Ieee.Toward} {x r:Nat} (h:YM way x = some r) (w:World):(Extern.MathFloor.toIntegral name way #[.float .f64 x]).run P w = .ok (.float .f64 r) w:=by
 unfold YM at h
 show (match Je.decode x with
  | .nan s t => _
  | d => (pure (.float .f64 (Je.encode (d.integral way))):Sem Value)).run P w = _
 split at h
 ·cases h
 ·rename_i d hn
  cases h
  split
  ·rename_i s t he; exact (hn s t he).elim
  ·rfl
theorem ZaJ {P:Program} {f:Nat} {fn:Func} (hf:P.funcs[f]? = some fn) (hb:fn.body.isNone = true) (hn:(fn.name == "runtime.NumGoroutine") = false) {e:Array Value → Sem Value} (h1:Extern.findNext fn = none) (h2:Extern.find fn = some e) {args:Array Value} {v:Value} {w:World}
  (he:(e args).run P w = .ok v w):(callFunc f args).run P w = .ok (.value v) w:=by
 have hb':fn.body = none:=by simpa using hb
 have hn':¬ fn.name = "runtime.NumGoroutine" := by simpa using hn
 simp [callFunc,hf,hb',h1,h2,hn',he]
theorem Znc {b:Nat} {args:List AV} {vs:List Value} {tbl:ZF} {l l':List Nat} {e:Eff} (hm:(Zbq b args).run tbl l = some (e,l')) (ha:ZA σ w lim args vs) {f:Nat} (hx:ZkR C f = some b) :
  ∃ v,(callFunc f vs.toArray).run C.P w = .ok (.value v) w ∧ RA σ w lim e.val v ∧ Ze tbl (Za e.val) ∧ e.ups = []:=by
 unfold ZkR at hx
 cases hf:C.P.funcs[f]? with
 | none => rw [hf] at hx; cases hx
 | some fn =>
  rw [hf] at hx
  simp only at hx
  cases hg:(fn.body.isNone && (fn.origin == "")) with
  | false => rw [hg] at hx; cases hx
  | true =>
   rw [hg] at hx
   simp only [cond_true] at hx
   simp only [Jh,beq_iff_eq] at hg
   obtain ⟨g1,g2⟩:=hg
   have one:∀ p,args = [.val (.v p)] → vs = [p]:=by
    intro p hp
    subst hp
    match vs,ha with
    | [v],ha => simp only [ZA,RA,RP,and_true] at ha; rw [ha]
    | [],ha => simp [ZA] at ha
    | _ :: _ :: _,ha => simp [ZA] at ha
   rcases Zfg hx with ⟨rfl,hn⟩ | ⟨rfl,hn⟩ | ⟨rfl,hn⟩ | ⟨rfl,hn⟩
   ·obtain ⟨e1,e2⟩:=ZkS fn hn g2
    simp only [Zbq] at hm
    split at hm <;> first | contradiction | skip
    ·rename_i x _
     obtain ⟨rfl,_⟩:=M.run_ret hm
     rw [one _ rfl]
     exact ⟨.int .u64 x,ZaJ hf g1 (by rw [hn]; rfl) e1 e2 rfl,Zs,Zh,rfl⟩
    all_goals exact (M.run_fail hm).elim
   ·obtain ⟨e1,e2⟩:=ZkT fn hn g2
    simp only [Zbq] at hm
    split at hm <;> first | contradiction | skip
    ·rename_i x _
     obtain ⟨rfl,_⟩:=M.run_ret hm
     rw [one _ rfl]
     exact ⟨.float .f64 x.toNat,ZaJ hf g1 (by rw [hn]; rfl) e1 e2 rfl,Zs,Zh,rfl⟩
    all_goals exact (M.run_fail hm).elim
   ·obtain ⟨e1,e2⟩:=ZjR fn hn g2
    simp only [Zbq] at hm
    split at hm <;> first | contradiction | skip
    ·rename_i x _
     obtain ⟨r,hr,hm⟩:=M.run_opt hm
     obtain ⟨rfl,_⟩:=M.run_ret hm
     rw [one _ rfl]
     exact ⟨.float .f64 r,ZaJ hf g1 (by rw [hn]; rfl) e1 e2 (Za5 hr w),Zs,Zh,rfl⟩
    all_goals exact (M.run_fail hm).elim
   ·obtain ⟨e1,e2⟩:=ZjS fn hn g2
    simp only [Zbq] at hm
    split at hm <;> first | contradiction | skip
    ·rename_i x _
     obtain ⟨r,hr,hm⟩:=M.run_opt hm
     obtain ⟨rfl,_⟩:=M.run_ret hm
     rw [one _ rfl]
     exact ⟨.float .f64 r,ZaJ hf g1 (by rw [hn]; rfl) e1 e2 (Za5 hr w),Zs,Zh,rfl⟩
    all_goals exact (M.run_fail hm).elim
theorem Zgs {P:Program} (ats:Array TypeId) (ty:TypeId) (k:FloatKind) (a b:Nat) (w:World):(Ug ats ty #[.float k a,.float k b]).run P w = .ok (.complex k a b) w:=by
 show (if k = k then (pure (.complex k a b):Sem Value) else _).run P w = _
 rw [if_pos rfl]; rfl
theorem ZjA (hC:∀ f cal,C.Φ f = some cal → Ctr C.P C.k f cal) (h:RelW G σ lim st a.tmps w) {base:Nat} {o:Oper} {l lg:List Nat} {e:Eff}
  (hm:(act C base o.op ((ZK o.op).map (Xv st.env))).run st.tbl l = some (e,lg)) (hd:∀ d,o.dst = some d → d < a.tmps.size) (hT:ZfX C.P o.op = true):Qs C G st o a w e:=by
 have hres:=h.res
 have hops:=Yr h (ZK o.op)
 obtain ⟨dst,op,type,pos,after,guard⟩:=o
 simp only at hm hd hT hops
 cases op with
 | move x =>
  simp only [act] at hm
  obtain ⟨y,hy,hm⟩:=Xg hm
  obtain ⟨rfl,_⟩:=M.run_ret hm
  simp only [ZK,JS,VF,J1.injEq,and_true] at hy; subst hy
  obtain ⟨h1,h2⟩:=Zg h x
  exact Qs.value (by simp [execOp]) (Zgv h h1 h2) hd
 | assign x =>
  simp only [act] at hm
  obtain ⟨y,hy,hm⟩:=Xg hm
  obtain ⟨rfl,_⟩:=M.run_ret hm
  simp only [ZK,JS,VF,J1.injEq,and_true] at hy; subst hy
  obtain ⟨h1,h2⟩:=Zg h x
  exact Qs.value (by simp [execOp]) (Zgv h h1 h2) hd
 | pick c p q =>
  simp only [act] at hm
  obtain ⟨y,z,u,hy,hm⟩:=ZnG hm
  simp only [ZK,JS,VF,J1.injEq,and_true] at hy; obtain ⟨rfl,rfl,rfl⟩:=hy
  obtain ⟨c1,_⟩:=Zg h c
  obtain ⟨p1,p2⟩:=Zg h p
  obtain ⟨q1,q2⟩:=Zg h q
  obtain ⟨t,x,e1,e2,e3,e4,e5⟩:=Zh5 hm c1 p1 q1 p2 q2
  refine Qs.value (s:=do pure (if ← asBool (a.eval c) then a.eval p else a.eval q)) (by simp [execOp]) (Qb.quiet h ⟨x,?_,e3,e4,e5⟩) hd
  rw [e1,e2]; cases t <;> rfl
 | alloc T =>
  simp only [act] at hm
  cases hb:(C.live 999997).any (Ja T) with
  | true => simp only [hb,cond_true] at hm; exact Qs.value rfl (Zd7 h hm) hd
  | false => simp only [hb,cond_false] at hm; exact Qs.value rfl (Zhx h hm) hd
 | box T x =>
  simp only [act] at hm
  obtain ⟨y,hy,hm⟩:=Xg hm
  simp only [ZK,JS,VF,J1.injEq,and_true] at hy; subst hy
  obtain ⟨h1,h2⟩:=Zg h x
  exact Qs.value rfl (ZkK h hm h1 h2) hd
 | build T ps =>
  simp only [ZK,V0] at hops hm
  refine Qs.value rfl (ZhE h (ρ:=a.eval) hm ?_ hops.2) hd
  exact hops.1
 | buildSlice T n ps =>
  simp only [ZK,V0] at hops hm
  exact Qs.value rfl (Zch h (ρ:=a.eval) hm hops.1) hd
 | load T x =>
  simp only [act] at hm
  obtain ⟨y,hy,hm⟩:=Xg hm
  simp only [ZK,JS,VF,J1.injEq,and_true] at hy; subst hy
  obtain ⟨h1,h2⟩:=Zg h x
  exact Qs.value rfl (Qb.quiet h (Zdy hm h1 hres)) hd
 | store T x y =>
  simp only [act] at hm
  obtain ⟨h1,h2⟩:=Zg h x
  obtain ⟨h3,h4⟩:=Zg h y
  cases hb:ZfR C T && Zph ((ZK (.store T x y)).map (Xv st.env)) with
  | true =>
   simp only [hb,cond_true,cond_false] at hm
   obtain ⟨p,q,hy,hm⟩:=YY hm
   simp only [ZK,JS,VF,J1.injEq,and_true] at hy; obtain ⟨rfl,rfl⟩:=hy
   exact Qs.unit rfl (Zd8 h hm h1 h3 (VD.1 hT)) hd
  | false =>
   simp only [hb,cond_true,cond_false] at hm
   obtain ⟨p,q,hy,hm⟩:=YY hm
   simp only [ZK,JS,VF,J1.injEq,and_true] at hy; obtain ⟨rfl,rfl⟩:=hy
   exact Qs.unit rfl (Zif h hm h1 h3 h4 (VD.1 hT)) hd
 | nilCheck x =>
  simp only [act] at hm
  obtain ⟨y,hy,hm⟩:=Xg hm
  simp only [ZK,JS,VF,J1.injEq,and_true] at hy; subst hy
  obtain ⟨h1,h2⟩:=Zg h x
  obtain ⟨⟨p,e1⟩,e2,e3⟩:=ZdG hm h1
  refine Qs.value (s:=pure (a.eval x)) (by simp [execOp,e1]) (Qb.quiet h ⟨_,rfl,by rw [e2]; exact h1,by rw [e2]; exact h2,e3⟩) hd
 | binOp op T x y U =>
  simp only [act] at hm
  obtain ⟨p,q,hy,hm⟩:=YY hm
  simp only [ZK,JS,VF,J1.injEq,and_true] at hy; obtain ⟨rfl,rfl⟩:=hy
  exact Qs.value rfl (Qb.quiet h (ZhC hm (Zg h x).1 (Zg h y).1)) hd
 | unOp op T x =>
  simp only [act] at hm
  obtain ⟨y,hy,hm⟩:=Xg hm
  simp only [ZK,JS,VF,J1.injEq,and_true] at hy; subst hy
  exact Qs.value rfl (Qb.quiet h (ZmU hm (Zg h x).1)) hd
 | convert src dst' x =>
  simp only [act] at hm
  obtain ⟨y,hy,hm⟩:=Xg hm
  simp only [ZK,JS,VF,J1.injEq,and_true] at hy; subst hy
  obtain ⟨h1,h2⟩:=Zg h x
  rcases Zeb hm h1 hres with h3 | ⟨el,s,g1,g2,g3,g3',g4,g5,g6,rfl⟩ | ⟨r,t,xs,sh,el,el',rfl,g1,g2,g3,g4,g5,g6,g7,rfl⟩
  ·exact Qs.value rfl (Qb.quiet h h3) hd
  ·refine Qs.value (s:=convert src dst' (a.eval x)) rfl ?_ hd
   rw [g4]
   exact Zge h g1 g2 g3 g3' g6 g5
  ·refine Qs.value (s:=convert src src (a.eval x)) rfl ?_ hd
   rw [g4]
   exact Zj5 h g2 g3 g6 g7 (by rw [← g4]; exact g5)
 | makeSlice T x y =>
  simp only [act] at hm
  obtain ⟨p,q,hy,hm⟩:=YY hm
  simp only [ZK,JS,VF,J1.injEq,and_true] at hy; obtain ⟨rfl,rfl⟩:=hy
  exact Qs.value rfl (Zj4 h hm (Zg h x).1 (Zg h y).1) hd
 | slice T x lo hi mx =>
  simp only [act,ZcC] at hm
  cases lo with
  | none =>
   cases hi with
   | none =>
    cases mx with
    | none =>
     simp only [ZK,V5,Vh,JS,VF,V3] at hm
     exact Qs.value rfl (YV h hm (QA (Zg h x).1) (vlo:=none) (vhi:=none) trivial trivial) hd
    | some m => simp [ZK,M.run] at hm
   | some b =>
    cases mx with
    | none =>
     simp only [ZK,V5,Vh,VU,JS,VF,V3,Ud] at hm
     exact Qs.value rfl (YV h hm (QA (Zg h x).1) (vlo:=none) (vhi:=some (a.eval b)) trivial (QA (Zg h b).1)) hd
    | some m => simp [ZK,M.run] at hm
  | some b =>
   cases hi with
   | none =>
    cases mx with
    | none =>
     simp only [ZK,V5,Vh,JS,VF,V3,Ud] at hm
     exact Qs.value rfl (YV h hm (QA (Zg h x).1) (vlo:=some (a.eval b)) (vhi:=none) (QA (Zg h b).1) trivial) hd
    | some m => simp [ZK,M.run] at hm
   | some c =>
    cases mx with
    | none =>
     simp only [ZK,V5,Vh,J2,VU,JS,VF,V3,Ud] at hm
     exact Qs.value rfl (YV h hm (QA (Zg h x).1) (vlo:=some (a.eval b)) (vhi:=some (a.eval c)) (QA (Zg h b).1) (QA (Zg h c).1)) hd
    | some m => simp [ZK,M.run] at hm
 | fieldAddr T x f =>
  simp only [act] at hm
  obtain ⟨y,hy,hm⟩:=Xg hm
  simp only [ZK,JS,VF,J1.injEq,and_true] at hy; subst hy
  exact Qs.value rfl (Qb.quiet h (Zci hm (Zg h x).1 (Zg h x).2)) hd
 | indexAddr T x y =>
  simp only [act] at hm
  cases hb:ZfR C T with
  | true =>
   simp only [hb,cond_true,cond_false] at hm
   obtain ⟨p,q,hy,hm⟩:=YY hm
   simp only [ZK,JS,VF,J1.injEq,and_true] at hy; obtain ⟨rfl,rfl⟩:=hy
   exact Qs.value rfl (Qb.quiet h (ZcI hm (Zg h x).1 (Zg h y).1 (Zg h x).2)) hd
  | false =>
   simp only [hb,cond_true,cond_false] at hm
   obtain ⟨p,q,hy,hm⟩:=YY hm
   simp only [ZK,JS,VF,J1.injEq,and_true] at hy; obtain ⟨rfl,rfl⟩:=hy
   exact Qs.value rfl (Qb.quiet h (Zcj hm (QA (Zg h x).1) (QA (Zg h y).1) (by rw [ZdK]; exact (Zg h x).2) hres)) hd
 | index T x y =>
  simp only [act] at hm
  obtain ⟨p,q,hy,hm⟩:=YY hm
  simp only [ZK,JS,VF,J1.injEq,and_true] at hy; obtain ⟨rfl,rfl⟩:=hy
  exact Qs.value rfl (Qb.quiet h (ZgT hm (Zg h x).1 (Zg h y).1)) hd
 | extract x i =>
  simp only [act] at hm
  obtain ⟨y,hy,hm⟩:=Xg hm
  simp only [ZK,JS,VF,J1.injEq,and_true] at hy; subst hy
  exact Qs.value rfl (Qb.quiet h (Zec hm (Zg h x).1 (Zg h x).2)) hd
 | call c =>
  have Zg:∀ (_:RelW G σ lim st a.tmps w) (x:Operand),RA σ w lim (Zce st.env x) (a.eval x) ∧ Ze st.tbl (Za (Zce st.env x)) :=
   fun h x => ⟨QA (Zg h x).1,by show Ze st.tbl (Za (W9 (Xv st.env x))); rw [ZdK]; exact (Zg h x).2⟩
  have Yr:∀ (_:RelW G σ lim st a.tmps w) (l:List Operand),ZA σ w lim (l.map (Zce st.env)) (l.map a.eval) ∧ ∀ x ∈ l.map (Zce st.env),Ze st.tbl (Za x):=by
   intro h l
   induction l with
   | nil => exact ⟨by simp [ZA],by simp⟩
   | cons x l ih =>
    refine ⟨by simp only [JS,ZA]; exact ⟨(Zg h x).1,ih.1⟩,fun y hy => ?_⟩
    cases hy with
    | head => exact (Zg h x).2
    | tail _ hy => exact ih.2 y hy
  replace hm:(Zbp C base c ((ZK (.call c)).map (Zce st.env))).run st.tbl l = some (e,lg):=by
   have e1:((ZK (.call c)).map (Xv st.env)).map W9 = (ZK (.call c)).map (Zce st.env):=by rw [V0]; rfl
   rw [← e1]; exact hm
  obtain ⟨callee,args,argTypes⟩:=c
  cases callee with
  | invoke r n => exact (M.run_fail (show M.run st.tbl .fail l = some (e,lg) from hm)).elim
  | builtin b =>
   replace hm:(QE C base b argTypes (args.toList.map (Zce st.env))).run st.tbl l = some (e,lg):=hm
   have hargs:=Yr h args.toList
   obtain ⟨L,rfl⟩:∃ L:List Operand,args = L.toArray:=⟨args.toList,by simp⟩
   simp only [JV] at hm hargs
   cases b with
   | len =>
    match L,hm with
    | [x],hm =>
     have h1:=Zg h x
     obtain ⟨v,e1,e2⟩:=Zj3 (ty:=type) hm h1.1 hres
     exact Qs.value (s:=Builtin.len_ argTypes type #[a.eval x]) (by simp [execOp,resolve,invoke,builtin]) (Qb.quiet h ⟨v,e1,e2⟩) hd
    | [],hm => exact (M.run_fail (show M.run st.tbl .fail l = some (e,lg) from hm)).elim
    | _ :: _ :: _,hm => exact (M.run_fail (show M.run st.tbl .fail l = some (e,lg) from hm)).elim
   | append =>
    match L,hm with
    | [x,y],hm =>
     exact Qs.value (s:=Builtin.append_ argTypes type #[a.eval x,a.eval y]) (by simp [execOp,resolve,invoke,builtin]) (Zgm h hm (Zg h x).1 (Zg h y).1) hd
    | [],hm => exact (M.run_fail (show M.run st.tbl .fail l = some (e,lg) from hm)).elim
    | [_],hm => exact (M.run_fail (show M.run st.tbl .fail l = some (e,lg) from hm)).elim
    | _ :: _ :: _ :: _,hm => exact (M.run_fail (show M.run st.tbl .fail l = some (e,lg) from hm)).elim
   | copy =>
    match L,hm with
    | [x,y],hm =>
     exact Qs.value (s:=Builtin.copy_ argTypes type #[a.eval x,a.eval y]) (by simp [execOp,resolve,invoke,builtin]) (ZjN h hm (Zg h x).1 (Zg h y).1) hd
    | [],hm => exact (M.run_fail (show M.run st.tbl .fail l = some (e,lg) from hm)).elim
    | [_],hm => exact (M.run_fail (show M.run st.tbl .fail l = some (e,lg) from hm)).elim
    | _ :: _ :: _ :: _,hm => exact (M.run_fail (show M.run st.tbl .fail l = some (e,lg) from hm)).elim
   | max =>
    have hb:=hargs.1
    simp only [QE] at hm
    split at hm <;> first | contradiction | skip
    ·rename_i k n k' n' heq
     obtain ⟨hk,hm2⟩:=M.run_guard hm
     obtain rfl:=of_decide_eq_true hk
     obtain ⟨rfl,_⟩:=M.run_ret hm2
     match L,heq,hb with
     | [],heq,_ => exact (by simp at heq)
     | [_],heq,_ => exact (by simp at heq)
     | _ :: _ :: _ :: _,heq,_ => exact (by simp at heq)
     | [x,y],heq,hb =>
      simp only [JS,VF,J1.injEq,and_true] at heq
      obtain ⟨h1,h2⟩:=heq
      have h3:=(Zg h x).1
      have h4:=(Zg h y).1
      rw [h1] at h3; rw [h2] at h4
      simp only [RA,RP] at h3 h4
      exact Qs.value (s:=VZ argTypes type #[a.eval x,a.eval y]) (by simp [execOp,resolve,invoke,builtin]) (Qb.quiet h ⟨_,by simp [VZ,h3,h4,Uh],Zs,Zh,rfl⟩) hd
    ·rename_i k n k' n' _ heq
     obtain ⟨hk,hm2⟩:=M.run_guard hm
     obtain rfl:=of_decide_eq_true hk
     obtain ⟨r,hr,hm3⟩:=M.run_opt hm2
     obtain ⟨rfl,_⟩:=M.run_ret hm3
     match L,heq,hb with
     | [],heq,_ => exact (by simp at heq)
     | [_],heq,_ => exact (by simp at heq)
     | _ :: _ :: _ :: _,heq,_ => exact (by simp at heq)
     | [x,y],heq,hb =>
      simp only [JS,VF,J1.injEq,and_true] at heq
      obtain ⟨h1,h2⟩:=heq
      have h3:=(Zg h x).1
      have h4:=(Zg h y).1
      rw [h1] at h3; rw [h2] at h4
      simp only [RA,RP] at h3 h4
      refine Qs.value (s:=VZ argTypes type #[a.eval x,a.eval y]) (by simp [execOp,resolve,invoke,builtin]) (Qb.quiet h ⟨.float k r,?_,Zs,Zh,rfl⟩) hd
      simp only [VZ,h3,h4,List.foldlM_cons,List.foldlM_nil,Uh]
      unfold Zob at hr
      split at hr
      ·cases hr
      ·rename_i ho; cases hr; simp [ho]
      ·rename_i ho; cases hr; simp [ho]
      ·rename_i ho; cases hr; simp [ho]
    all_goals exact (M.run_fail hm).elim
   | complex =>
    have hb:=hargs.1
    simp only [QE] at hm
    split at hm <;> first | contradiction | skip
    ·rename_i k n k' n' heq
     obtain ⟨hk,hm2⟩:=M.run_guard hm
     obtain rfl:=of_decide_eq_true hk
     obtain ⟨rfl,_⟩:=M.run_ret hm2
     match L,heq,hb with
     | [],heq,_ => exact (by simp at heq)
     | [_],heq,_ => exact (by simp at heq)
     | _ :: _ :: _ :: _,heq,_ => exact (by simp at heq)
     | [x,y],heq,hb =>
      simp only [JS,VF,J1.injEq,and_true] at heq
      obtain ⟨h1,h2⟩:=heq
      have h3:=(Zg h x).1
      have h4:=(Zg h y).1
      rw [h1] at h3; rw [h2] at h4
      simp only [RA,RP] at h3 h4
      exact Qs.value (s:=Ug argTypes type #[a.eval x,a.eval y]) (by simp [execOp,resolve,invoke,builtin]) (Qb.quiet h ⟨_,by rw [h3,h4]; exact Zgs ..,Zs,Zh,rfl⟩) hd
    all_goals exact (M.run_fail hm).elim
   | real =>
    have hb:=hargs.1
    simp only [QE] at hm
    split at hm <;> first | contradiction | skip
    ·rename_i k n n' heq
     obtain ⟨rfl,_⟩:=M.run_ret hm
     match L,heq,hb with
     | [],heq,_ => exact (by simp at heq)
     | _ :: _ :: _,heq,_ => exact (by simp at heq)
     | [x],heq,hb =>
      simp only [JS,VF,J1.injEq,and_true] at heq
      have h3:=(Zg h x).1
      rw [heq] at h3
      simp only [RA,RP] at h3
      exact Qs.value (s:=Builtin.real_ argTypes type #[a.eval x]) (by simp [execOp,resolve,invoke,builtin]) (Qb.quiet h ⟨_,by rw [h3]; rfl,Zs,Zh,rfl⟩) hd
    all_goals exact (M.run_fail hm).elim
   | imag =>
    have hb:=hargs.1
    simp only [QE] at hm
    split at hm <;> first | contradiction | skip
    ·rename_i k n n' heq
     obtain ⟨rfl,_⟩:=M.run_ret hm
     match L,heq,hb with
     | [],heq,_ => exact (by simp at heq)
     | _ :: _ :: _,heq,_ => exact (by simp at heq)
     | [x],heq,hb =>
      simp only [JS,VF,J1.injEq,and_true] at heq
      have h3:=(Zg h x).1
      rw [heq] at h3
      simp only [RA,RP] at h3
      exact Qs.value (s:=Builtin.imag_ argTypes type #[a.eval x]) (by simp [execOp,resolve,invoke,builtin]) (Qb.quiet h ⟨_,by rw [h3]; rfl,Zs,Zh,rfl⟩) hd
    all_goals exact (M.run_fail hm).elim
   | min =>
    have hb:=hargs.1
    simp only [QE] at hm
    split at hm <;> first | contradiction | skip
    ·rename_i k n k' n' heq
     obtain ⟨hk,hm2⟩:=M.run_guard hm
     obtain rfl:=of_decide_eq_true hk
     obtain ⟨rfl,_⟩:=M.run_ret hm2
     match L,heq,hb with
     | [],heq,_ => exact (by simp at heq)
     | [_],heq,_ => exact (by simp at heq)
     | _ :: _ :: _ :: _,heq,_ => exact (by simp at heq)
     | [x,y],heq,hb =>
      simp only [JS,VF,J1.injEq,and_true] at heq
      obtain ⟨h1,h2⟩:=heq
      have h3:=(Zg h x).1
      have h4:=(Zg h y).1
      rw [h1] at h3; rw [h2] at h4
      simp only [RA,RP] at h3 h4
      exact Qs.value (s:=Ui argTypes type #[a.eval x,a.eval y]) (by simp [execOp,resolve,invoke,builtin]) (Qb.quiet h ⟨_,by simp [Ui,h3,h4,Builtin.min2],Zs,Zh,rfl⟩) hd
    all_goals exact (M.run_fail hm).elim
   | _ =>
    match L,hm with
    | [],hm => exact (M.run_fail (show M.run st.tbl .fail l = some (e,lg) from hm)).elim
    | [_],hm => exact (M.run_fail (show M.run st.tbl .fail l = some (e,lg) from hm)).elim
    | [_,_],hm => exact (M.run_fail (show M.run st.tbl .fail l = some (e,lg) from hm)).elim
    | _ :: _ :: _ :: _,hm => exact (M.run_fail (show M.run st.tbl .fail l = some (e,lg) from hm)).elim
  | value f =>
   simp only [Zbp,ZK,JS] at hm
   split at hm
   ·rename_i g as heq
    simp only [J1.injEq] at heq
    obtain ⟨hf,rfl⟩:=heq
    have hfv:=(Zg h f).1
    rw [hf] at hfv
    simp only [RA] at hfv
    have hargs:=Yr h args.toList
    have hmap:VS a.eval args = (args.toList.map a.eval).toArray:=by apply JJ; simp
    split at hm
    ·rename_i b hx
     obtain ⟨v,h1,h2,h3,h4⟩:=Znc hm hargs.1 hx
     intro next Q hn
     unfold Oper.wp
     have hx:(execOp a.eval { dst:=dst,op:=.call { callee:=.value f,args:=args,argTypes:=argTypes },type:=type,pos:=pos,after:=after,guard:=guard }).run C.P w = .ok (.value v) w:=by
      simp only [execOp,resolve,hfv,Deferred.ofValue,Sem.run_bind,Sem.run_pure,Result.andThen_ok,invoke,hmap,List.append_toArray,VU,Vh,Array.empty_append,Array.append_empty]
      exact h1
     rw [hx,Oper.upon_value]
     have:=RelW.step (a:=a) h (Upd.quiet h h2 h3) dst hd
     simp only [ZS] at this
     rw [← ZS st.tbl,← h4] at this
     exact hn v w σ lim (by simpa only [h4,ZS] using this)
    obtain ⟨⟨fn,e1,e2,e3⟩,hcalls⟩:=ZcP hC h hm hargs.1 hargs.2
    intro next Q hn
    unfold Oper.wp
    have hx:(execOp a.eval { dst:=dst,op:=.call { callee:=.value f,args:=args,argTypes:=argTypes },type:=type,pos:=pos,after:=after,guard:=guard }).run C.P w = .ok (.enter g (args.toList.map a.eval).toArray) w:=by
     have hmap:VS a.eval args = (args.toList.map a.eval).toArray:=by apply JJ; simp
     have e2':¬ fn.name = "runtime.NumGoroutine" := by simpa using e2
     have e3':¬ fn.body = none:=by intro h0; rw [h0] at e3; cases e3
     simp [execOp,resolve,hfv,Deferred.ofValue,invoke,callFunc,e1,hmap]
     rw [if_neg e2',if_neg e3']
    rw [hx,Oper.upon_enter]
    refine hcalls.mono ?_
    rintro en w' ⟨v,σ',lim',rfl,hR,hv,hk⟩
    simp only
    have:=RelW.step (a:=a) hR (Upd.quiet hR hv hk) dst hd
    simp only [ZS] at this
    exact hn v w' σ' lim' this
   ·rename_i g cs as heq
    simp only [J1.injEq] at heq
    obtain ⟨hf,rfl⟩:=heq
    obtain ⟨hfv,hfk⟩:=Zg h f
    rw [hf] at hfv hfk
    simp only [RA] at hfv
    obtain ⟨us,hfv,hus⟩:=hfv
    have hargs:=Yr h args.toList
    have hall:ZA σ w lim (args.toList.map (Zce st.env) ++ cs) (args.toList.map a.eval ++ us):=ZB.2 ((ZB.1 hargs.1).append (ZB.1 hus))
    obtain ⟨⟨fn,e1,e2,e3⟩,hcalls⟩:=ZcP hC h hm hall (fun x hx => by
     rcases Jt.1 hx with hx | hx
     ·exact hargs.2 x hx
     ·intro r hr
      exact hfk r (by simp only [Za]; exact W5 hx hr))
    intro next Q hn
    unfold Oper.wp
    have hx:(execOp a.eval { dst:=dst,op:=.call { callee:=.value f,args:=args,argTypes:=argTypes },type:=type,pos:=pos,after:=after,guard:=guard }).run C.P w = .ok (.enter g (args.toList.map a.eval ++ us).toArray) w:=by
     have hmap:VS a.eval args ++ us.toArray = (args.toList.map a.eval ++ us).toArray:=by apply JJ; simp
     have e2':¬ fn.name = "runtime.NumGoroutine" := by simpa using e2
     have e3':¬ fn.body = none:=by intro h0; rw [h0] at e3; cases e3
     simp [execOp,resolve,hfv,Deferred.ofValue,invoke,callFunc,e1,hmap]
     rw [if_neg e2',if_neg e3']
    rw [hx,Oper.upon_enter]
    refine hcalls.mono ?_
    rintro en w' ⟨v,σ',lim',rfl,hR,hv,hk⟩
    simp only
    have:=RelW.step (a:=a) hR (Upd.quiet hR hv hk) dst hd
    simp only [ZS] at this
    exact hn v w' σ' lim' this
   ·exact (M.run_fail hm).elim
 | field T x f =>
  simp only [act] at hm
  obtain ⟨y,hy,hm⟩:=Xg hm
  simp only [ZK,JS,VF,J1.injEq,and_true] at hy; subst hy
  obtain ⟨h1,h2⟩:=Zg h x
  exact Qs.value rfl (Qb.quiet h (ZgL hm h1 h2)) hd
 | makeFunc fn first captured =>
  cases fn with
  | func f =>
   simp only [act] at hm
   obtain ⟨hg,hm1⟩:=M.run_guard hm
   have hz:=ZC hg
   have hfirst:first = #[]:=Array.eq_empty_of_size_eq_zero hz
   subst hfirst
   obtain ⟨rfl,_⟩:=M.run_ret hm1
   simp only [ZK] at hops
   refine Qs.value (s:=Uj (.func f) (#[].map a.eval) (captured.map a.eval)) rfl (Qb.quiet h ⟨.func (.func f) #[] (captured.map a.eval),by simp [Uj],?_,?_,rfl⟩) hd
   ·simp only [ZK]
    have hc:captured.map a.eval = (captured.toList.map a.eval).toArray:=by apply JJ; simp
    rw [hc]
    have h1:=hops.1
    revert h1
    generalize captured.toList.map (Xv st.env) = L
    generalize captured.toList.map a.eval = V
    intro h1
    cases L with
    | nil => cases V with
     | nil => simp [RA]
     | cons _ _ => simp [ZA] at h1
    | cons x L => simp only [RA]; exact ⟨V,rfl,h1⟩
   ·simp only [ZK]
    have h2:=hops.2
    revert h2
    generalize captured.toList.map (Xv st.env) = L
    intro h2
    cases L with
    | nil => simp [Za,Ze]
    | cons x L =>
     simp only [Za]
     intro r hr
     obtain ⟨y,hy,hr⟩:=W6 hr
     exact h2 y hy r hr
  | _ => exact (M.run_fail hm).elim
 | _ => exact (M.run_fail hm).elim
end Go.Sh
namespace Go.Sh
open Go
variable [Gl]
variable {C:Ctx} {G:Glob} {σ:QM} {w:World} {lim:Nat → Nat} {env:Nat → AV} {tmps:Array Value}
theorem Kv:0 < ZD:=by decide
theorem W4 (r i:Nat):ZD ≤ Wa r i:=by
 unfold Wa
 rw [Nat.add_mul]; omega
theorem ZfQ {r:Nat} (h:r < ZD) (i:Nat):Wa r i % ZD = r:=by
 unfold Wa
 rw [Nat.mul_add_mod_of_lt' h]
where
 Nat.mul_add_mod_of_lt' {a b c:Nat} (h:c < b):(a * b + c) % b = c:=by
  rw [Ub,Nat.mul_add_mod,Nat.mod_eq_of_lt h]
theorem ZfP {r:Nat} (h:r < ZD) (i:Nat):Wa r i / ZD - 1 = i:=by
 unfold Wa
 rw [Ub,Nat.mul_add_div Kv,Nat.div_eq_of_lt h]; omega
theorem Xt {r r' i i':Nat} (h:r < ZD) (h':r' < ZD) (e:Wa r i = Wa r' i'):r = r' ∧ i = i' :=
 ⟨by rw [← ZfQ h i,e,ZfQ h' i'],by rw [← ZfP h i,e,ZfP h' i']⟩
theorem Wt (n:Nat):n < ZD ∨ ∃ r i,r < ZD ∧ n = Wa r i:=by
 by_cases h:n < ZD
 ·exact .inl h
 ·refine .inr ⟨n % ZD,n / ZD - 1,Nat.mod_lt _ Kv,?_⟩
  have h1:1 ≤ n / ZD:=(Nat.le_div_iff_mul_le Kv).2 (by omega)
  unfold Wa
  rw [show n / ZD - 1 + 1 = n / ZD by omega,Ub,Nat.div_add_mod]
def K1 (i:Nat):RS → RS
 | .live (.nest t xss h) => match xss[i]? with
  | some xs => if h = some i then .fresh else .live (.arr t xs true)
  | none => .fresh
 | _ => .fresh
def Q5 (T:ZF):ZF:=fun n => if n < ZD then T n else K1 (n / ZD - 1) (T (n % ZD))
theorem ZG {T:ZF} {n:Nat} (h:n < ZD):Q5 T n = T n:=by simp [Q5,h]
theorem Qw {T:ZF} {r:Nat} (h:r < ZD) (i:Nat):Q5 T (Wa r i) = K1 i (T r):=by
 have:=W4 r i
 simp only [Q5,ZfQ h,ZfP h]
 rw [if_neg (by omega)]
theorem Zez {i:Nat} {x:RS} {y:Res} (h:K1 i x = .live y):∃ (t:Ty) (xss:List (List t.den)) (o:Option Nat) (hi:i < xss.length),x = .live (.nest t xss o) ∧ o ≠ some i ∧ y = .arr t xss[i] true:=by
 unfold K1 at h
 split at h
 ·rename_i t xss o
  split at h
  ·rename_i xs hx
   split at h
   ·cases h
   ·rename_i ho
    obtain ⟨hi,hx⟩:=Uq.1 hx
    subst hx
    cases h
    exact ⟨t,xss,o,hi,rfl,ho,rfl⟩
  ·cases h
 ·cases h
theorem Zgy {T:ZF} {r:Nat} {t:Ty} {xss:List (List t.den)} {o:Option Nat} (h:Q5 T r = .live (.nest t xss o)):r < ZD ∧ T r = .live (.nest t xss o):=by
 rcases Wt r with hl | ⟨q,i,hq,rfl⟩
 ·exact ⟨hl,by rw [← h,ZG hl]⟩
 ·rw [Qw hq] at h
  obtain ⟨_,_,_,_,_,_,e⟩:=Zez h
  cases e
theorem Zfe {T:ZF} {r:Nat} {cs:List AV} (h:Q5 T r = .live (.box cs)):r < ZD ∧ T r = .live (.box cs):=by
 rcases Wt r with hl | ⟨q,i,hq,rfl⟩
 ·exact ⟨hl,by rw [← h,ZG hl]⟩
 ·rw [Qw hq] at h
  obtain ⟨_,_,_,_,_,_,e⟩:=Zez h
  cases e
theorem ZcV {T:ZF} {r:Nat} {t:Ty} {xss:List (List t.den)} {o:Option Nat} (h:Q5 T r = .live (.nest t xss o)) {i:Nat} (hi:i < xss.length) (ho:o ≠ some i) :
  Q5 T (Wa r i) = .live (.arr t xss[i] true):=by
 obtain ⟨hr,h⟩:=Zgy h
 rw [Qw hr,h]
 simp [K1,VP hi,ho]
theorem Zby {T:ZF} {r:Nat} {t:Ty} {xss:List (List t.den)} {o:Option Nat} (h:Q5 T r = .live (.nest t xss o)):Ze (Q5 T) (ZL r (.nest t xss o)):=by
 intro n hn
 obtain ⟨i,hi,ho,rfl⟩:=Qo.1 hn
 rw [ZcV h hi ho]; simp
theorem RelW.forget {A B:ZF} (h:RelW G σ lim ⟨env,A⟩ tmps w) (hB:∀ n,B n = A n ∨ (ZD ≤ n ∧ B n = .fresh)) (he:∀ s,∀ r ∈ Za (env s),r < ZD)
    (hb:∀ r cs,B r = .live (.box cs) → ∀ q ∈ Zd cs,q < ZD) (hn:∀ r (t:Ty) (xss:List (List t.den)) o,B r = .live (.nest t xss o) → Ze B (ZL r (.nest t xss o)))
    (hp:∀ p ∈ G.pins,p.1 < ZD):RelW G σ lim ⟨env,B⟩ tmps w:=by
  have low:∀ r,r < ZD → B r = A r:=by
    intro r hr
    rcases hB r with h1 | ⟨h1,_⟩
    · exact h1
    · omega
  have liv:∀ r x,B r = .live x → A r = .live x:=by
    intro r x hx
    rcases hB r with h1 | ⟨_,h1⟩
    · rw [← h1]; exact hx
    · rw [h1] at hx; cases hx
  have liv':∀ r,Zw (B r) = true → Zw (A r) = true:=by
    intro r hr
    cases hx:B r with
    | live x => rw [liv r x hx]; rfl
    | fresh => rw [hx] at hr; cases hr
    | gone => rw [hx] at hr; cases hr
  exact
    { env:=h.env
      known:=fun s r hr => by simp only; rw [low r (he s r hr)]; exact h.known s r hr
      res:=fun r x hx => by
        simp only at hx ⊢
        obtain ⟨h1,h2⟩:=h.res r x (liv r x hx)
        refine ⟨h1,?_⟩
        cases x with
        | box cs =>
          intro q hq
          rw [low q (hb r cs hx q hq)]; exact h2 q hq
        | arr t xs sh => intro q hq; cases hq
        | nest t xss o => exact hn r t xss o hx
      inj:=fun r r' b h1 h2 => h.inj r r' b (liv' r h1) (liv' r' h2)
      own:=fun r b h1 => h.own r b (liv' r h1)
      ext:=h.ext,keep:=h.keep,same:=h.same,lz:=h.lz,limk:=h.limk,glob:=h.glob
      pin:=fun p hpp => by
        obtain ⟨h1,h2⟩:=h.pin p hpp
        exact ⟨h1,by simp only; rw [low p.1 (hp p hpp)]; exact h2⟩ }
structure Low (G:Glob) (st:St):Prop where
 env:∀ s,∀ r ∈ Za (st.env s),r < ZD
 box:∀ r cs,st.tbl r = .live (.box cs) → ∀ q ∈ Zd cs,q < ZD
 pins:∀ p ∈ G.pins,p.1 < ZD
def QC (G:Glob) (σ:QM) (lim:Nat → Nat) (st:St) (tmps:Array Value) (w:World):Prop:=RelW G σ lim ⟨st.env,Q5 st.tbl⟩ tmps w ∧ Low G st
theorem Znb {T:ZF} {u:Qh} (h:∀ p ∈ u,p.1 < ZD ∧ XE p.2 = true) (n:Nat):Q5 (T.put u) n = (Q5 T).put u n ∨ (ZD ≤ n ∧ Q5 (T.put u) n = .fresh):=by
 rcases Wt n with hl | ⟨q,i,hq,rfl⟩
 ·left
  rw [ZG hl]
  simp only [ZF.put]
  rw [ZG hl]
 ·have hno:Zm u (Wa q i) = none:=by
   cases hk:Zm u (Wa q i) with
   | none => rfl
   | some z =>
    have:=(h _ (Qn hk)).1
    have:=W4 q i
    simp only at *; omega
  rw [Qw hq]
  simp only [ZF.put,hno]
  cases hk:Zm u q with
  | none => left; rw [Qw hq]
  | some z =>
   right
   refine ⟨W4 q i,?_⟩
   have:=(h _ (Qn hk)).2
   simp only at this ⊢
   cases z with
   | fresh => rfl
   | gone => rfl
   | live y => cases y with
    | nest => simp [XE] at this
    | box => rfl
    | arr => rfl
theorem QC.of_put {T:ZF} {u:Qh} (h:RelW G σ lim ⟨env,(Q5 T).put u⟩ tmps w) (hu:∀ p ∈ u,p.1 < ZD ∧ XE p.2 = true) (hL:Low G ⟨env,T.put u⟩) :
  QC G σ lim ⟨env,T.put u⟩ tmps w :=
 ⟨h.forget (Znb hu) hL.env (fun r cs hr => hL.box r cs (Zfe hr).2) (fun r t xss o hr => Zby hr) hL.pins,hL⟩
theorem RelW.takeout {T:ZF} (h:RelW G σ lim ⟨env,Q5 T⟩ tmps w) (hL:Low G ⟨env,T⟩) {r base:Nat} {t:Ty} {xss:List (List t.den)} {i:Nat} (hrl:r < ZD) (hbl:base < ZD)
  (hr:T r = .live (.nest t xss none)) (hi:i < xss.length) (hb:T base = .fresh) :
  RelW G (fun s => if s = base then σ (Wa r i) else σ s) lim ⟨env,Q5 (T.put [(r,.live (.nest t xss (some i))),(base,.live (.arr t xss[i] true))])⟩ tmps w:=by
 have er:Q5 T r = .live (.nest t xss none):=by rw [ZG hrl]; exact hr
 have eb:Q5 T base = .fresh:=by rw [ZG hbl]; exact hb
 have eq:Q5 T (Wa r i) = .live (.arr t xss[i] true):=ZcV er hi (by simp)
 have hg:=W4 r i
 obtain ⟨hR,hK⟩:=h.res r _ er
 obtain ⟨hQ,_⟩:=h.res (Wa r i) _ eq
 have hne:r ≠ base:=by intro e; subst e; rw [hr] at hb; cases hb
 have R1:=h.reword (r:=r) er (y:=.nest t xss (some i)) (fun n hn => by
  obtain ⟨j,hj,ho,rfl⟩:=Qo.1 hn
  exact hK _ (Qo.2 ⟨j,hj,by simp,rfl⟩)) (by
  simp only [RR] at hR ⊢
  obtain ⟨h0,b,off,cap,vs,U,fz,s1,s2,s3,s4,s5,s6,s7⟩:=hR
  exact ⟨h0,b,off,cap,vs,U,fz,s1,s2,s3,s4,s5,fun j hj _ => s6 j hj (by simp),s7⟩)
 have R2:=R1.gone (r:=Wa r i) (by simp only; rw [Zf,if_neg (by omega),eq]; simp)
 have tb:(((Q5 T).put [(r,.live (.nest t xss (some i)))]).put [(Wa r i,.gone)]) base = .fresh:=by
  rw [Zf,if_neg (by omega),Zf,if_neg hne]; exact eb
 have R3:=R2.adopt (n:=base) (v:=σ (Wa r i)) (.inl tb) (y:=.arr t xss[i] true) (by intro q hq; cases hq) (fun hσ => by
  simp only [RR,if_true] at hQ ⊢
  exact hQ) (fun b hbk => by
   refine ⟨h.own _ b (by simp only; rw [eq]; rfl) hbk,fun s hs hbs => ?_⟩
   simp only at hs
   rw [Zf] at hs
   split at hs
   ·cases hs
   ·rename_i hsq
    have hs0:Zw (Q5 T s) = true:=by
     rw [Zf] at hs
     split at hs
     ·rename_i e; rw [← e,er]; rfl
     ·exact hs
    exact hsq (h.inj s (Wa r i) b hs0 (by simp only; rw [eq]; rfl) hbs hbk).symm)
 simp only at R3
 refine R3.forget (fun n => ?_) hL.env (fun q cs hq => ?_) (fun q t' x o hq => Zby hq) hL.pins
 ·rcases Wt n with hl | ⟨q,j,hq,rfl⟩
  ·left
   rw [ZG hl,Zf,Zf,Zf,ZT,Zf]
   by_cases e1:base = n
   ·subst e1; simp [hne]
   ·by_cases e2:r = n
    ·subst e2; simp [e1]; intro e; omega
    ·simp [e1,e2]
     rw [if_neg (by omega),ZG hl]
  ·rw [Qw hq,ZT,Zf]
   have g1:=W4 q j
   by_cases e1:r = q
   ·subst e1
    simp only [if_true]
    by_cases e2:i = j
    ·subst e2
     right
     exact ⟨hg,by simp [K1,VP hi]⟩
    ·left
     rw [Zf,if_neg (by omega),Zf,if_neg (fun e => e2 (Xt hrl hrl e).2),Zf,if_neg (by omega),Qw hrl,hr]
     simp [K1,e2]
   ·rw [if_neg e1]
    have e3:Wa r i ≠ Wa q j:=fun e => e1 (Xt hrl hq e).1
    by_cases e2:base = q
    ·subst e2
     rw [if_pos rfl]
     right; exact ⟨g1,rfl⟩
    ·left
     rw [if_neg e2,Zf,if_neg (by omega),Zf,if_neg e3,Zf,if_neg (by omega),Qw hq]
 ·obtain ⟨_,hq⟩:=Zfe hq
  rw [ZT] at hq
  split at hq
  ·cases hq
  ·rw [Zf] at hq
   split at hq
   ·cases hq
   ·exact hL.box q cs hq
theorem getElem?_mid {α:Type} (l:List α) (k:Nat) (a:α) (hk:k < l.length) (m:Nat):(l.take k ++ [a] ++ l.drop (k + 1))[m]? = if k = m then some a else l[m]? := by
 rw [show l.take k ++ [a] ++ l.drop (k + 1) = l.set k a by rw [List.set_eq_take_append_cons_drop,if_pos hk]; simp]
 rw [Vw]
 by_cases h:k = m
 ·subst h; simp [hk]
 ·simp [h]
theorem RelW.putin {T:ZF} (h:RelW G σ lim ⟨env,Q5 T⟩ tmps w) (hL:Low G ⟨env,T⟩) {r q:Nat} {t:Ty} {xss:List (List t.den)} {xs:List t.den} {sh:Bool} {i:Nat} (hrl:r < ZD) (hql:q < ZD)
  (hr:T r = .live (.nest t xss (some i))) (hi:i < xss.length) (hq:T q = .live (.arr t xs sh)) {b off len cap:Nat} {vs:Array Value} {U:TypeId} {fz:Nat × Nat}
  (hs:σ r = .slice (some ⟨b,off,none⟩) len cap) (hv:w.heap[b]? = some (.cells vs U fz)) :
  ∃ σ' lim',RelW G σ' lim' ⟨env,Q5 (T.put [(r,.live (.nest t (xss.set i xs) none)),(q,.gone)])⟩ tmps (w.setRow b (vs.toList.take (off + i) ++ [σ q] ++ vs.toList.drop (off + i + 1)).toArray) ∧
   off + i < vs.size ∧ (∀ o,o < vs.size → ¬ (fz.1 ≤ o ∧ o < fz.2)):=by
 have er:Q5 T r = .live (.nest t xss (some i)):=by rw [ZG hrl]; exact hr
 have eq:Q5 T q = .live (.arr t xs sh):=by rw [ZG hql]; exact hq
 have eh:Q5 T (Wa r i) = .fresh:=by rw [Qw hrl,hr]; simp [K1,VP hi]
 have hg:=W4 r i
 have hne:r ≠ q:=by intro e; subst e; rw [hr] at hq; cases hq
 obtain ⟨hQ,_⟩:=h.res q _ eq
 have R1:=h.gone (r:=q) (by simp only; rw [eq]; simp)
 have th:((Q5 T).put [(q,.gone)]) (Wa r i) = .fresh:=by rw [Zf,if_neg (by omega)]; exact eh
 have R2:=R1.adopt (n:=Wa r i) (v:=σ q) (.inl th) (y:=.arr t xs true) (by intro q hq; cases hq) (fun hσ => by
  simp only [RR,if_true] at hQ ⊢
  refine ⟨hQ.1,?_⟩
  rcases hQ.2 with h1 | ⟨b,off,cap,vs,U,fz,h1,h2,h3,h4,h5,h6,h7⟩
  ·exact .inl h1
  ·refine .inr ⟨b,off,cap,vs,U,fz,h1,h2,h3,h4,h5,h6,?_⟩
   cases sh <;> simp at h7 ⊢ <;> omega) (fun b' hbk => by
   refine ⟨h.own _ b' (by simp only; rw [eq]; rfl) hbk,fun s hs' hbs => ?_⟩
   simp only at hs'
   rw [Zf] at hs'
   split at hs'
   ·cases hs'
   ·rename_i hsq
    exact hsq (h.inj s q b' hs' (by simp only; rw [eq]; rfl) hbs hbk).symm)
 simp only at R2
 have hsr:(fun s => if s = Wa r i then σ q else σ s) r = σ r:=by simp only; rw [if_neg (by omega)]
 have tr:(((Q5 T).put [(q,.gone)]).put [(Wa r i,.live (.arr t xs true))]) r = .live (.nest t xss (some i)):=by
  rw [Zf,if_neg (by omega),Zf,if_neg (Ne.symm hne)]; exact er
 obtain ⟨hR,hK⟩:=R2.res r _ tr
 simp only [RR] at hR
 obtain ⟨h0,b',off',cap',vs',U',fz',s1,s2,s3,s4,s5,s6,s7⟩:=hR
 rw [if_neg (by omega:r ≠ Wa r i),hs] at s1
 obtain ⟨⟨rfl,rfl⟩,rfl,rfl⟩:(b = b' ∧ off = off') ∧ len = xss.length ∧ cap = cap':=by simpa using s1
 rw [hv] at s3
 obtain ⟨rfl,rfl,rfl⟩:vs = vs' ∧ U = U' ∧ fz = fz':=by simpa using s3
 have hsz:(Ty.sl t).size = 1:=rfl
 rw [hsz] at s4
 have hlt:off + i < vs.toList.length:=by simp; omega
 have hlen:(vs.toList.take (off + i) ++ [σ q] ++ vs.toList.drop (off + i + 1)).length = vs.size:=by simp; omega
 obtain ⟨R3,hE⟩:=R2.write (r:=r) tr (b:=b) (by rw [if_neg (by omega),hs]; rfl) hv (cs:=(vs.toList.take (off + i) ++ [σ q] ++ vs.toList.drop (off + i + 1)).toArray) (fun o ho => by rw [s7] at ho; omega)
  (y:=.nest t (xss.set i xs) none) (fun n hn => by
   obtain ⟨j,hj,_,rfl⟩:=Qo.1 hn
   rw [JR] at hj
   by_cases e:i = j
   ·subst e; show (((Q5 T).put [(q,.gone)]).put [(Wa r i,.live (.arr t xs true))]) (Wa r i) ≠ .fresh; rw [Zf]; simp
   ·exact hK _ (Qo.2 ⟨j,hj,by simp [e],rfl⟩)) (fun hE => by
   simp only [RR]
   refine ⟨h0,b,off,cap,_,U,fz,by rw [if_neg (by omega),hs,JR],by rw [JR]; exact s2,setRow_heap w b vs _ U fz hv,by rw [VB,hlen,hsz]; omega,?_,fun j hj _ => ?_,s7⟩
   ·rw [VB,hlen]; exact s5
   ·rw [JR] at hj
    simp only
    rw [getElem?_mid _ _ _ hlt]
    by_cases e:i = j
    ·subst e; simp
    ·rw [if_neg (by omega),s6 j hj (by simp [e])])
 refine ⟨_,_,R3.forget (fun n => ?_) hL.env (fun q' cs hq' => ?_) (fun q' t' x o hq' => Zby hq') hL.pins,by simpa using hlt,fun o ho => s5.free o ho⟩
 ·left
  show Q5 (T.put [(r,.live (.nest t (xss.set i xs) none)),(q,.gone)]) n = ((((Q5 T).put [(q,.gone)]).put [(Wa r i,.live (.arr t xs true))]).put [(r,.live (.nest t (xss.set i xs) none))]) n
  rcases Wt n with hl | ⟨q',j,hq',rfl⟩
  ·rw [ZG hl,ZT,Zf,Zf,Zf,Zf]
   rw [if_neg (by omega:Wa r i ≠ n),ZG hl]
  ·have g1:=W4 q' j
   rw [Qw hq',ZT,Zf,Zf,if_neg (by omega:r ≠ Wa q' j),Zf,Zf,if_neg (by omega:q ≠ Wa q' j),Qw hq']
   by_cases e1:r = q'
   ·subst e1
    rw [if_pos rfl,hr]
    by_cases e2:i = j
    ·subst e2; simp [K1,hi]
    ·rw [if_neg (fun e => e2 (Xt hrl hrl e).2)]
     simp only [K1,Vw,e2,if_false]
     cases xss[j]? <;> simp [e2]
   ·rw [if_neg e1,if_neg (fun e => e1 (Xt hrl hq' e).1)]
    by_cases e2:q = q'
    ·subst e2; rw [if_pos rfl,hq]; rfl
    ·rw [if_neg e2]
 ·obtain ⟨_,hq'⟩:=Zfe hq'
  rw [ZT] at hq'
  split at hq'
  ·cases hq'
  ·rw [Zf] at hq'
   split at hq'
   ·cases hq'
   ·exact hL.box q' cs hq'
end Go.Sh
namespace Go.Sh
open Go
variable [Gl]
variable {C:Ctx} {G:Glob} {σ:QM} {w:World} {lim:Nat → Nat} {env:Nat → AV} {tmps:Array Value}
namespace M
variable {α:Type}
theorem ZmI {T:ZF} (m:M α):∀ {l l':List Nat} {x:α},m.run T l = some (x,l') → ∀ r ∈ l,r ∈ l':=by
 induction m with
 | ret a => intro l l' x h; simp [run] at h; obtain ⟨_,rfl⟩:=h; exact fun _ h => h
 | fail => intro l l' x h; simp [run] at h
 | get r k ih => intro l l' x h s hs; exact ih _ h s (by simp [hs])
 | need b k ih => intro l l' x h; cases b <;> simp [run] at h; exact ih h
 | br b k ih => intro l l' x h; cases b <;> simp [run] at h <;> exact ih _ h
 | opt o k ih => intro l l' x h; cases o <;> simp [run] at h; exact ih _ h
theorem run_local {T T':ZF} (m:M α):∀ {l l':List Nat} {x:α},m.run T l = some (x,l') → (∀ r ∈ l',T' r = T r) → m.run T' l = some (x,l'):=by
 induction m with
 | ret a => intro l l' x h _; exact h
 | fail => intro l l' x h; simp [run] at h
 | get r k ih =>
  intro l l' x h hT
  have hr:T' r = T r:=hT r (ZmI (k (T r)) (l:=r :: l) h r (by simp))
  simp only [run,hr] at h ⊢
  exact ih _ h hT
 | need b k ih => intro l l' x h hT; cases b <;> simp [run] at h ⊢; exact ih h hT
 | br b k ih => intro l l' x h hT; cases b <;> simp [run] at h ⊢ <;> exact ih _ h hT
 | opt o k ih => intro l l' x h hT; cases o <;> simp [run] at h ⊢; exact ih _ h hT
end M
theorem Yp {l:List Nat} (h:K2 l = true):∀ r ∈ l,r < ZD:=by
 intro r hr
 simp only [K2,Vg] at h
 have:=h r hr
 simpa [Zh1,VV] using this
theorem Zf6 {α:Type} {T:ZF} {m:M α} {l l':List Nat} {x:α} (h:m.run T l = some (x,l')) (hl:K2 l' = true):m.run (Q5 T) l = some (x,l') :=
 M.run_local m h fun r hr => ZG (Yp hl r hr)
structure OkEff (sp:Bool) (e:Eff) (l:List Nat):Prop where
 log:K2 l = true
 val:∀ r ∈ Za e.val,r < ZD
 ups:∀ p ∈ e.ups,p.1 < ZD
 box:∀ p ∈ e.ups,∀ cs,p.2 = .live (.box cs) → ∀ q ∈ Zd cs,q < ZD
 non:sp = false → ∀ p ∈ e.ups,XE p.2 = true
theorem Zh3 {sp:Bool} {e:Eff} {l:List Nat} (h:Zcd sp e l = true):OkEff sp e l:=by
  simp only [Zcd,Jh,Vg] at h
  obtain ⟨⟨h1,h2⟩,h3⟩:=h
  exact
    { log:=h1
      val:=Yp h2
      ups:=fun p hp => by have:=(h3 p hp).1.1; simpa [Zh1,VV] using this
      box:=fun p hp cs hc => by have:=(h3 p hp).1.2; rw [hc] at this; exact Yp this
      non:=fun hs p hp => by have:=(h3 p hp).2; rw [hs] at this; simpa using this }
theorem Zjp (e:Nat → AV) (d:Option Nat) (v:AV) (s:Nat):Q9 e d v s = v ∨ Q9 e d v s = e s:=by
 cases d with
 | none => exact .inr rfl
 | some d =>
  simp only [Q9,XP]
  cases Ja s d
  ·exact .inr rfl
  ·exact .inl rfl
theorem Low.after {st:St} {sp:Bool} {e:Eff} {l:List Nat} {d:Option Nat} (h:Low G st) (k:OkEff sp e l):Low G ⟨Q9 st.env d e.val,st.tbl.put e.ups⟩ where
 env s r hr:=by
  rcases Zjp st.env d e.val s with h1 | h1
  ·simp only [h1] at hr; exact k.val r hr
  ·simp only [h1] at hr; exact h.env s r hr
 box r cs hr:=by
  simp only [ZF.put] at hr
  cases hl:Zm e.ups r with
  | none => rw [hl] at hr; exact h.box r cs hr
  | some z => rw [hl] at hr; simp only at hr; exact k.box _ (Qn hl) cs hr
 pins:=h.pins
theorem Low.set {st:St} (h:Low G st) {d:Option Nat} {v:AV} (hv:∀ r ∈ Za v,r < ZD):Low G ⟨Q9 st.env d v,st.tbl⟩ where
 env s r hr:=by
  rcases Zjp st.env d v s with h1 | h1
  ·simp only [h1] at hr; exact hv r hr
  ·simp only [h1] at hr; exact h.env s r hr
 box:=h.box
 pins:=h.pins
def ZgR (base:Nat) (t:Ty):Nat → ZF → ZF
 | 0,A => A
 | L + 1,A => (ZgR base t L A).put [(Wa base L,.live (.arr t [] true))]
theorem ZbD {b i j:Nat} (h:i ≠ j):Wa b i ≠ Wa b j:=by
 unfold Wa
 intro e
 have:=Kv
 have h1:(i + 1) * ZD = (j + 1) * ZD:=by omega
 have:=Nat.eq_of_mul_eq_mul_right Kv h1
 omega
theorem Yo {base:Nat} {t:Ty} {A:ZF} {n:Nat}:∀ L,(∀ j,j < L → n ≠ Wa base j) → ZgR base t L A n = A n
 | 0,_ => rfl
 | L + 1,h => by
  simp only [ZgR]
  rw [Zf,if_neg (Ne.symm (h L (by omega)))]
  exact Yo L fun j hj => h j (by omega)
theorem ZfO {base:Nat} {t:Ty} {A:ZF}:∀ L j,j < L → ZgR base t L A (Wa base j) = .live (.arr t [] true)
 | 0,j,h => by omega
 | L + 1,j,h => by
  simp only [ZgR]
  rw [Zf]
  by_cases e:L = j
  ·subst e; simp
  ·rw [if_neg (ZbD e)]; exact ZfO L j (by omega)
theorem RelW.hides {A:ZF} {base:Nat} {t:Ty} (ht:0 < t.size) (hA:∀ j,A (Wa base j) = .fresh):∀ L,RelW G σ lim ⟨env,A⟩ tmps w →
  ∃ σ',RelW G σ' lim ⟨env,ZgR base t L A⟩ tmps w ∧ (∀ j,j < L → σ' (Wa base j) = .slice none 0 0) ∧ (∀ n,(∀ j,j < L → n ≠ Wa base j) → σ' n = σ n)
 | 0,h => ⟨σ,h,by omega,fun _ _ => rfl⟩
 | L + 1,h => by
  obtain ⟨σ1,h1,h2,h3⟩:=RelW.hides ht hA L h
  have:=h1.nilname (n:=Wa base L) (by simp only; rw [Yo L fun j hj => ZbD (by omega)]; exact hA L) t ht true
  refine ⟨_,this,fun j hj => ?_,fun n hn => ?_⟩
  ·by_cases e:j = L
   ·subst e; simp
   ·rw [if_neg (ZbD e)]; exact h2 j (by omega)
  ·rw [if_neg (hn L (by omega))]; exact h3 n fun j hj => hn j (by omega)
def Zik (C:Ctx) (G:Glob) (env:Nat → AV) (T:ZF) (tmps:Array Value) (w:World) (s:Sem Value) (e:Eff):Prop :=
 ∃ x w' σ' lim',s.run C.P w = .ok x w' ∧ RelW G σ' lim' ⟨env,Q5 (T.put e.ups)⟩ tmps w' ∧ RA σ' w' lim' e.val x ∧ Ze (Q5 (T.put e.ups)) (Za e.val)
theorem Zei {T:ZF} (h:RelW G σ lim ⟨env,Q5 T⟩ tmps w) (hL:Low G ⟨env,T⟩) {base:Nat} {U:TypeId} {a b:AV} {vl vc:Value} {l l':List Nat} {e:Eff}
  (hm:(ZdE C base U a b).run T l = some (e,l')) (hups:∀ p ∈ e.ups,p.1 < ZD) (ha:RA σ w lim a vl) (hb:RA σ w lim b vc):Zik C G env T tmps w (Vo U vl vc) e:=by
 unfold ZdE at hm
 split at hm
 ·rename_i ll cc
  simp only [RA,RP] at ha hb; subst ha; subst hb
  split at hm
  ·rename_i ee t he
   obtain ⟨hg,hm1⟩:=M.run_guard hm
   simp only [Jh] at hg
   have g1:=Ju hg.1.1
   have gk:=(Xa hg.1.2).2
   have g2:=Ju hg.2
   split at hm1
   ·rename_i hz
    obtain ⟨hn,hm2⟩:=M.run_need hm1
    obtain ⟨h0,h1,h2⟩:=of_decide_eq_true hn
    obtain ⟨hf,l2,hm3⟩:=X9 hm2
    obtain ⟨rfl,_⟩:=M.run_ret hm3
    have hbl:base < ZD:=hups (base,_) (Jm ..)
    obtain ⟨i,hi,his,hib⟩:=Xx he
    obtain ⟨hu,ht,hs⟩:=Qc he
    obtain ⟨zv,hz1,hz2⟩:=Wn hz w
    obtain ⟨L,rfl⟩:=Vq h0
    obtain ⟨N,rfl⟩:=Vq (show 0 ≤ cc by omega)
    have hLN:L ≤ N:=by omega
    have hsz:(Ty.sl t).size = 1:=rfl
    have hzs:zv.cells.size = 1:=by rw [← J6,hz2]; rfl
    have hcell:∀ x,zv.cells[x % zv.cells.size]! = V6 none 0 0:=by
     intro x
     rw [hzs,Nat.mod_one]
     have:zv.cells.toList[0]? = some (V6 none 0 0):=by rw [hz2]; rfl
     rw [VY] at this
     rw [getElem!_def,this]
    have hA:∀ j,Q5 T (Wa base j) = .fresh:=by intro j; rw [Qw hbl,hf]; rfl
    obtain ⟨σ1,hH,hσ1,hσ2⟩:=RelW.hides (t:=t) g2 hA L h
    have hbh:∀ j,j < L → base ≠ Wa base j:=fun j _ => by have:=W4 base j; omega
    have tb:ZgR base t L (Q5 T) base = .fresh:=by rw [Yo L hbh,ZG hbl]; exact hf
    obtain ⟨hN,hE⟩:=hH.newblk (w':=w.alloc (.cells ((JX (N * i.size)).map (fun x => zv.cells[x % zv.cells.size]!)) ee)) (by simp) (fun k hk => heap_alloc_old w _ k hk) ⟨rfl,rfl,rfl⟩ tb
     (y:=.nest t (Jd L []) none) (x:=.slice (some ⟨w.heap.size,0,none⟩) L N) rfl (fun hE hσ => by
      simp only [RR,Us,if_true]
      refine ⟨g2,w.heap.size,0,N,_,ee,(0,0),rfl,hLN,heap_alloc_new w _,by simp [hsz,his],⟨fun o _ => Zj8 o,gk,Jj _,by simp only [Array.size_map,Array.size_range,his]; exact Jk _ (by omega)⟩,fun j hj _ => ?_,h.lz _ (Jj _)⟩
      rw [if_neg (Ne.symm (hbh j hj)),hσ1 j hj]
      simp only [Array.toList_map,Array.toList_range,List.getElem?_map,Uc,his,hsz,VW,hcell]
      rw [List.getElem?_range (by omega)]; rfl) (fun n hn => by
      obtain ⟨j,hj,_,rfl⟩:=Qo.1 hn
      rw [Us] at hj
      simp only; rw [ZfO L j hj]; simp)
    have hT:(ZgR base t L (Q5 T)).put [(base,.live (.nest t (Jd L []) none))] = Q5 (T.put [(base,.live (.nest t (Jd L []) none))]):=by
     funext n
     rw [Zf]
     rcases Wt n with hl | ⟨q,j,hq,rfl⟩
     ·rw [ZG hl,Zf,Yo L (fun j _ => by have:=W4 base j; omega),ZG hl]
     ·have g1:=W4 q j
      rw [if_neg (by omega),Qw hq,Zf]
      by_cases e:base = q
      ·subst e
       rw [if_pos rfl]
       by_cases hj:j < L
       ·rw [ZfO L j hj]; simp [K1,Ur,hj]
       ·rw [Yo L (fun k hk => ZbD (by omega)),hA j]; simp [K1,Ur,hj]
      ·rw [if_neg e,Yo L (fun k hk e' => e (Xt hbl hq e'.symm).1),Qw hq]
    refine ⟨.slice (some ⟨w.heap.size,0,none⟩) L N,_,_,_,?_,by simp only [Uk]; rw [← hT]; exact hN,Wl rfl (by simp),fun r hr => by simp [Za] at hr; subst hr; rw [ZG hbl,Zf]; simp⟩
    have hmul:(i.bytes:Int) * (N:Int) ≤ 281474976710656:=by
     rw [← hib]
     have h3:C.P.bytesOf ee * N ≤ 65536 * 4294967295:=Nat.mul_le_mul g1 (by omega)
     have:((C.P.bytesOf ee * N:Nat):Int) ≤ 281474976710656:=by omega
     simpa using this
    have w1:Jy.wrap (L:Int) = L:=Qu (by omega) (by omega)
    have w2:Jy.wrap (N:Int) = N:=Qu (by omega) (by omega)
    have hc0:¬ ((N:Int) < 0):=by omega
    have hl0:¬ ((L:Int) < 0):=by omega
    have hlc:¬ ((N:Int) < (L:Int)):=by omega
    have hbig:¬ (281474976710656 < (i.bytes:Int) * (N:Int)):=by omega
    simp only [Vo,Sem.run_bind,run_underlying hu,Result.andThen_ok,asInt,asIntOf,Sem.run_pure,typeInfo,run_program,hi,w1,w2]
    simp only [Int.reducePow,decide_eq_true_eq,V7,hc0,hl0,hlc,hbig,gt_iff_lt,or_self,decide_false,JK,if_false,Sem.run_bind,run_askRoom,Result.andThen_ok,sizeOf,typeInfo,run_program,hi,Sem.run_pure,Uk,Sem.run_ite,hz1]
    by_cases hN0:N * i.size = 0
    ·have hr0:∀ f:Nat → Value,VS f (JX 0) = #[]:=fun f => by simp
     rw [if_pos hN0,hN0]
     simp only [hr0,Result.andThen_ok]
     simp [newRow]
    ·simp [hN0,newRow]
   ·simp [M.run] at hm1
  ·simp [M.run] at hm
 ·simp [M.run] at hm
theorem Zmy {T:ZF} {u:Qh} (h:∀ p ∈ u,T p.1 = p.2):T.put u = T:=by
 funext n
 simp only [ZF.put]
 cases hl:Zm u n with
 | none => rfl
 | some z => exact (h _ (Qn hl)).symm
theorem RelW.melt {T:ZF} (h:RelW G σ lim ⟨env,Q5 T⟩ tmps w) (hL:Low G ⟨env,T⟩) {r:Nat} {t:Ty} {xss:List (List t.den)} (hrl:r < ZD) (hr:T r = .live (.nest t xss none)) :
  ∃ lim',QC G σ lim' ⟨env,T.put [(r,.live (.arr (.sl t) xss false))]⟩ tmps w:=by
 have er:Q5 T r = .live (.nest t xss none):=by rw [ZG hrl]; exact hr
 let U:Qh:=(List.finRange xss.length).map fun (j:Fin xss.length) => (Wa r j.val,RS.live (.arr t xss[j.val] true))
 have hU:∀ p ∈ U,∃ (j:Nat) (hj:j < xss.length),p = (Wa r j,RS.live (.arr t xss[j] true)):=by
  intro p hp
  obtain ⟨j,_,rfl⟩:=VH.1 hp
  exact ⟨j,j.2,rfl⟩
 obtain ⟨lim1,h1,hE,h2⟩:=RelW.shows U h (fun p hp => by
  obtain ⟨j,hj,rfl⟩:=hU p hp
  exact ⟨t,xss[j],true,rfl,ZcV er hj (by simp)⟩)
 have hsame:(Q5 T).put U = Q5 T:=Zmy fun p hp => by
  obtain ⟨j,hj,rfl⟩:=hU p hp
  exact ZcV er hj (by simp)
 simp only at h1
 rw [hsame] at h1
 obtain ⟨hR,hK⟩:=h1.res r _ er
 have h3:=h1.reword (r:=r) er (y:=.arr (.sl t) xss false) (by intro q hq; cases hq) (by
  simp only [RR] at hR ⊢
  obtain ⟨h0,b,off,cap,vs,V,fz,s1,s2,s3,s4,s5,s6,s7⟩:=hR
  refine ⟨by simp [Ty.size],.inr ⟨b,off,cap,vs,V,fz,s1,s2,s3,s4,s5,fun i hi => ?_,s7⟩⟩
  have hq:(Wa r i,RS.live (.arr t xss[i] true)) ∈ U:=VH.2 ⟨⟨i,hi⟩,List.mem_finRange _,rfl⟩
  have h4:=h2 _ _ _ hq
  simp only [RP] at h4
  have h5:=s6 i hi (by simp)
  have h6:(vs.toList.drop (off + i * (Ty.sl t).size)).take (Ty.sl t).size = [σ (Wa r i)]:=by
   rw [show (Ty.sl t).size = 1 from rfl,VW]
   obtain ⟨h7,h8⟩:=Uq.1 h5
   rw [Um h7,h8]; rfl
  rw [h6]; exact h4)
 refine ⟨lim1,QC.of_put h3 (fun p hp => ?_) ⟨hL.env,fun q cs hq => ?_,hL.pins⟩⟩
 ·simp only [Vy] at hp; subst hp; exact ⟨hrl,rfl⟩
 ·simp only at hq
  rw [Zf] at hq
  split at hq
  ·cases hq
  ·exact hL.box q cs hq
end Go.Sh
namespace Go.Sh
open Go
variable [Gl]
variable {C:Ctx} {G:Glob} {σ:QM} {w:World} {lim:Nat → Nat} {env:Nat → AV} {tmps:Array Value} {st:St} {a:Act}
theorem ZeP {T:TypeId} (h:Znv C T = true):∃ d,C.P.underlying T = some d ∧ Y7 d = false ∧ C.P.cellsOf T = 1:=by
 unfold Znv at h
 cases hd:C.P.underlying T with
 | none => rw [hd] at h; cases h
 | some d =>
  rw [hd] at h
  simp only [Jh,J8] at h
  exact ⟨d,rfl,h.1,ZC h.2⟩
theorem Zeh {T:ZF} (h:RelW G σ lim ⟨env,Q5 T⟩ tmps w) (hL:Low G ⟨env,T⟩) {base:Nat} {U:TypeId} {r:Nat} {t:Ty} {i k:Nat} {v:Value} {l l':List Nat} {e:Eff}
  (hm:(ZdD C base U r t i k).run T l = some (e,l')) (hups:∀ p ∈ e.ups,p.1 < ZD) (ha:RA σ w lim (.el r (.pair .unit (.sl t)) i k) v):Zik C G env T tmps w (J0 U v) e:=by
 simp only [ZdD,M.run] at hm
 cases hr:T r with
 | fresh => simp [hr,M.run] at hm
 | gone => simp [hr,M.run] at hm
 | live y =>
  cases y with
  | box => simp [hr,M.run] at hm
  | arr => simp [hr,M.run] at hm
  | nest t' xss o =>
   cases o with
   | some j => simp [hr,M.run] at hm
   | none =>
    simp only [hr] at hm
    split at hm
    ·rename_i ht
     subst ht
     obtain ⟨hg,hm1⟩:=M.run_guard hm
     clear hm
     simp only [Jh] at hg
     obtain ⟨hk,hT⟩:=hg
     have hk0:=ZC hk
     subst hk0
     obtain ⟨d,hd,hag,hc⟩:=ZeP hT
     obtain ⟨hi,hm2⟩:=M.run_need hm1
     have hi:=of_decide_eq_true hi
     obtain ⟨hb,l2,hm3⟩:=X9 hm2
     obtain ⟨rfl,_⟩:=M.run_ret hm3
     have hrl:r < ZD:=hups (r,_) (Jm ..)
     have hbl:base < ZD:=hups (base,_) (Jo _ (Jm ..))
     have hxi:xss.getD i [] = xss[i]:=by simp [List.getD,VP hi]
     have R:=h.takeout hL hrl hbl hr hi hb
     have er:Q5 T r = .live (.nest t' xss none):=by rw [ZG hrl]; exact hr
     have eq:Q5 T (Wa r i) = .live (.arr t' xss[i] true):=ZcV er hi (by simp)
     obtain ⟨hR,_⟩:=h.res r _ er
     obtain ⟨hQ,_⟩:=h.res _ _ eq
     simp only [RR] at hR
     obtain ⟨h0,b,off,cap,vs,V,fz,s1,s2,s3,s4,s5,s6,s7⟩:=hR
     simp only [RA] at ha
     obtain ⟨b',off',len',cap',h1,rfl⟩:=ha
     rw [s1] at h1
     obtain ⟨⟨rfl,rfl⟩,rfl,rfl⟩:(b = b' ∧ off = off') ∧ xss.length = len' ∧ cap = cap':=by simpa using h1
     have hz:off + i * (Ty.pair Ty.unit (Ty.sl t')).size + 0 = off + i:=by simp [Ty.size]
     rw [hz]
     have hsl:∃ A l c,σ (Wa r i) = .slice A l c:=by
      simp only [RR] at hQ
      rcases hQ.2 with ⟨_,e1⟩ | ⟨_,_,_,_,_,_,e1,_⟩
      ·exact ⟨_,_,_,e1⟩
      ·exact ⟨_,_,_,e1⟩
     obtain ⟨A,sl,sc,hsl⟩:=hsl
     refine ⟨σ (Wa r i),w,(fun s => if s = base then σ (Wa r i) else σ s),lim,?_,?_,Wl hsl (by simp),fun q hq => by simp [Za] at hq; subst hq; rw [ZG hbl,ZT,Zf]; split <;> simp⟩
     ·have:=Wq (P:=C.P) hd hag (w:=w) (b:=b) (off:=off + i) (v:=σ (Wa r i)) (by rw [Wp s3]; exact s6 i hi (by simp))
      simpa [J0,JM] using this
     ·rw [← hxi] at R; exact R
    ·simp [M.run] at hm
def Zkx (C:Ctx) (G:Glob) (env:Nat → AV) (T:ZF) (tmps:Array Value) (w:World) (s:Sem Unit) (e:Eff):Prop :=
 ∃ w' σ' lim',s.run C.P w = .ok () w' ∧ RelW G σ' lim' ⟨env,Q5 (T.put e.ups)⟩ tmps w' ∧ e.val = .tup []
theorem ZdF {T:ZF} (h:RelW G σ lim ⟨env,Q5 T⟩ tmps w) (hL:Low G ⟨env,T⟩) {U:TypeId} {r:Nat} {t:Ty} {i k:Nat} {x:AV} {v vx:Value} {l l':List Nat} {e:Eff}
  (hm:(ZbH C U r t i k x).run T l = some (e,l')) (hups:∀ p ∈ e.ups,p.1 < ZD) (ha:RA σ w lim (.el r (.pair .unit (.sl t)) i k) v) (hx:RA σ w lim x vx) :
  Zkx C G env T tmps w (Vf U v vx) e:=by
 unfold ZbH at hm
 split at hm
 ·rename_i q
  simp only [M.run] at hm
  cases hr:T r with
  | fresh => simp [hr,M.run] at hm
  | gone => simp [hr,M.run] at hm
  | live y =>
   cases y with
   | box => simp [hr,M.run] at hm
   | arr => simp [hr,M.run] at hm
   | nest t' xss o =>
    cases o with
    | none => simp [hr,M.run] at hm
    | some j =>
     simp only [hr,M.run] at hm
     cases hq:T q with
     | fresh => simp [hq,M.run] at hm
     | gone => simp [hq,M.run] at hm
     | live z =>
      cases z with
      | box => simp [hq,M.run] at hm
      | nest => simp [hq,M.run] at hm
      | arr t'' xs sh =>
       simp only [hq] at hm
       split at hm
       ·rename_i ht
        subst ht
        split at hm
        ·rename_i ht
         subst ht
         obtain ⟨hg,hm1⟩:=M.run_guard hm
         clear hm
         simp only [Jh] at hg
         obtain ⟨hk,hT⟩:=hg
         have hk0:=ZC hk
         subst hk0
         obtain ⟨d,hd,hag,hc⟩:=ZeP hT
         obtain ⟨hij,hm2⟩:=M.run_need hm1
         have hij:=of_decide_eq_true hij
         subst hij
         obtain ⟨hi,hm3⟩:=M.run_need hm2
         have hi:=of_decide_eq_true hi
         obtain ⟨rfl,_⟩:=M.run_ret hm3
         have hrl:r < ZD:=hups (r,_) (Jm ..)
         have hql:q < ZD:=hups (q,_) (Jo _ (Jm ..))
         have er:Q5 T r = .live (.nest t'' xss (some i)):=by rw [ZG hrl]; exact hr
         obtain ⟨hR,_⟩:=h.res r _ er
         simp only [RR] at hR
         obtain ⟨h0,b,off,cap,vs,V,fz,s1,s2,s3,s4,s5,s6,s7⟩:=hR
         simp only [RA] at ha hx
         obtain ⟨b',off',len',cap',h1,rfl⟩:=ha
         obtain ⟨rfl,A,sl,sc,hsl⟩:=hx
         rw [s1] at h1
         obtain ⟨⟨rfl,rfl⟩,rfl,rfl⟩:(b = b' ∧ off = off') ∧ xss.length = len' ∧ cap = cap':=by simpa using h1
         have hz:off + i * (Ty.pair Ty.unit (Ty.sl t'')).size + 0 = off + i:=by simp [Ty.size]
         rw [hz]
         obtain ⟨σ',lim',R,hlt,hfree⟩:=h.putin hL hrl hql hr hi hq s1 s3
         refine ⟨_,σ',lim',?_,R,rfl⟩
         have hone:(σ q).oneCell' = true:=by rw [hsl]; rfl
         have:=Z5 (P:=C.P) b (off + i) V fz [σ q] 0 vs w s3 (by simp; omega) hfree (by simpa using hone)
         simp only [JI,Ut] at this
         simp only [Vf,JM,Sem.run_bind,Sem.run_pure,Result.andThen_ok,storeVar,Z2 hd,KN hone,hc]
         rw [if_neg (by simp)]
         exact this
        ·simp [M.run] at hm
       ·simp [M.run] at hm
 ·simp [M.run] at hm
def Ka (C:Ctx) (G:Glob) (st:St) (o:Oper) (a:Act) (w:World) (e:Eff):Prop :=
 ∀ (next:Act → World → Prop) (Q:Exit → Act → World → Prop),(∀ x w' σ' lim',QC G σ' lim' ⟨Q9 st.env o.dst e.val,st.tbl.put e.ups⟩ (a.put o.dst x).tmps w' → next (a.put o.dst x) w') → o.wp C.P a w next Q
theorem Ka.value {o:Oper} {s:Sem Value} {e:Eff} (hx:execOp a.eval o = (do pure (Next.value (← s)))) (h:Zik C G st.env st.tbl a.tmps w s e) (hL:Low G ⟨Q9 st.env o.dst e.val,st.tbl.put e.ups⟩) (hd:∀ d,o.dst = some d → d < a.tmps.size):Ka C G st o a w e:=by
 intro next Q hn
 obtain ⟨x,w',σ',lim',hr,hR,hv,hk⟩:=h
 unfold Oper.wp
 rw [hx]
 simp only [bind_pure_comp,Sem.run_map,hr,Result.andThen_ok,Oper.upon_value]
 have:=RelW.step (a:=a) hR (Upd.quiet hR hv hk) o.dst hd
 simp only [ZS] at this
 exact hn x w' σ' lim' ⟨this,hL⟩
theorem Ka.unit {o:Oper} {s:Sem Unit} {e:Eff} (hx:execOp a.eval o = (do s; pure Next.skip)) (h:Zkx C G st.env st.tbl a.tmps w s e) (hL:Low G ⟨Q9 st.env o.dst e.val,st.tbl.put e.ups⟩) (hd:∀ d,o.dst = some d → d < a.tmps.size):Ka C G st o a w e:=by
 intro next Q hn
 obtain ⟨w',σ',lim',hr,hR,hv⟩:=h
 unfold Oper.wp
 rw [hx]
 simp only [Sem.run_bind,hr,Result.andThen_ok,Sem.run_pure,Oper.upon_skip]
 have:=RelW.step (a:=a) hR (Upd.quiet (v:=.tup []) (x:=undef) hR (by simp only [RA]; exact ⟨[],rfl,by simp [ZA]⟩) (by simp [Za,Zd,Ze])) o.dst hd
 simp only [ZS] at this
 rw [← hv] at this
 exact hn undef w' σ' lim' ⟨this,hL⟩
theorem Zgc {T:ZF} (h:RelW G σ lim ⟨env,Q5 T⟩ tmps w) {U:TypeId} {g:Nat} {k:IntKind} {i:Int} {l l':List Nat} {e:Eff} {vi:Value}
  (hm:(Zgb C U g i).run T l = some (e,l')) (hi:RA σ w lim (.val (.v (.int k i))) vi):Zik C G env T tmps w (Vd U (.pointer (some ⟨g,0,none⟩)) vi) e:=by
 unfold Zgb at hm
 split at hm
 ·rename_i len ee hu
  obtain ⟨hg,hm1⟩:=M.run_guard hm
  clear hm
  simp only [Jh] at hg
  obtain ⟨⟨⟨g1,g2⟩,g3⟩,g4⟩:=hg
  have g1:=ZC g1
  have g3:=ZC g3
  obtain ⟨hc,hm2⟩:=M.run_need hm1
  obtain ⟨c1,c2⟩:=of_decide_eq_true hc
  obtain ⟨rfl,_⟩:=M.run_ret hm2
  simp only [RA,RP] at hi
  subst hi
  obtain ⟨d,hd⟩:=VD.1 g2
  have hLies:=h.glob.mono h.ext
  have hlt:i.toNat < (Gl.tab g).2.length:=by omega
  have hget:(Gl.tab g).2[i.toNat]? = some ((Gl.tab g).2.getD i.toNat 0):=by
   rw [VT,VP hlt]; rfl
  obtain ⟨q1,q2⟩:=hLies g i.toNat _ hget
  refine ⟨.pointer (some ⟨g,i.toNat,none⟩),w,σ,lim,?_,by rw [ZS]; exact h,?_,by intro q hq; simp [Za] at hq⟩
  ·have hsz:(sizeOf ee).run C.P w = .ok 1 w:=by simp [sizeOf,typeInfo,hd,← g1,Program.cellsOf]
   simp [Vd,asIntOf,run_underlying hu,c1,c2,hsz,JM,ZU]
  ·simp only [RA]
   refine ⟨g,i.toNat,rfl,fun j p hp => ?_⟩
   cases j with
   | zero =>
    simp only [List.getElem?_cons_zero,VG.injEq] at hp
    subst hp
    exact ⟨_,q1,q2,by simp [RP]⟩
   | succ j => simp at hp
 ·exact (M.run_fail hm).elim
theorem ZeU {w':World} {l l':Nat → Nat} {t:Ty} (ht:Zbj t = true) {x:t.den} {cs:List Value} (h:Rt w' l t x cs):Rt w' l' t x cs:=by
 cases t <;> first | (simp [Zbj] at ht; done) | (simpa only [Rt] using h)
theorem KA:∀ {u:Qh},ZbI u = true → Zy u = []
 | [],_ => rfl
 | (i,x) :: u,h => by
  cases x with
  | gone => simp [ZbI] at h
  | fresh => simp only [ZbI] at h; simp only [Zy,Qt]; exact KA h
  | live y => simp only [ZbI] at h; simp only [Zy,Qt]; exact KA h
theorem Zki {t:Ty} {x:t.den} {w':World} {l l':Nat → Nat} {v:Value} (ht:Zbj t = true) (h:XN w' l t x v):RA σ w' l' (Zgq t x) v :=
 ZcL (by
  obtain ⟨cs,h1,h2⟩:=h
  exact ⟨cs,ZeU ht h1,h2⟩)
set_option maxHeartbeats 1000000 in
theorem Zkb (hC:∀ f cal,C.Φ f = some cal → Ctr C.P C.k f cal) (h:QC G σ lim st a.tmps w) {base f:Nat} {o:Oper} {fo:Operand} {args:Array Operand} {ats:Array TypeId} (ho:o.op = .call ⟨.value fo,args,ats⟩)
    (hf:Xv st.env fo = .fn f) {l lg:List Nat} {e:Eff} (hm:(ZoV C base f (args.toList.map (Xv st.env))).run st.tbl l = some (e,lg)) (hlow:K2 lg = true) (hok:OkEff true e lg)
    (hL2:Low G ⟨Q9 st.env o.dst e.val,st.tbl.put e.ups⟩) (hd:∀ d,o.dst = some d → d < a.tmps.size):Ka C G st o a w e:=by
  obtain ⟨hR,hL⟩:=h
  have hm:=Zf6 hm hlow
  have hfv:=(Zg hR fo).1
  simp only at hfv
  rw [hf] at hfv
  simp only [RA] at hfv
  have hargs:=Yr hR args.toList
  simp only at hargs
  unfold ZoV at hm
  cases hcal:C.Φ f with
  | none => simp [hcal,M.run] at hm
  | some cal =>
    simp only [hcal] at hm
    have hctr:=hC f cal hcal
    obtain ⟨⟨rvs,u⟩,l1,h1,h2⟩:=M.run_bind_some hm
    obtain ⟨hgu,h3⟩:=M.run_guard h2
    simp only at hgu h3
    simp only [Jh] at hgu
    obtain ⟨hou,hng⟩:=hgu
    have hgn:=KA hng
    simp only [M.run] at h3
    cases hrun:cal.run C.k rvs with
    | none => simp [hrun] at h3
    | some x =>
      simp only [hrun,VL] at h3
      obtain ⟨s1,k1⟩:=QJ (st:=⟨st.env,Q5 st.tbl⟩) (σ:=σ) (w:=w) (lim:=lim) cal.pk _ h1
      obtain ⟨lim1,hR1,hE1,hS,hnd1,hbl1⟩:=RelW.takes (st:=⟨st.env,Q5 st.tbl⟩) hR s1 hou
      have hT:=k1 _ hargs.1 (fun r y hy => (hR.res r y hy).1) lim1 hE1 hS
      obtain ⟨fn,e1,e2,e3⟩:=hctr.enters
      have hcalls:=hctr.calls rvs x hrun w lim1 _ _ hR1.lz (hR1.glob.mono hR1.ext) hT hnd1 (fun b hb => (hbl1 b hb).2.1)
      rw [hgn] at hcalls
      simp only [ZX,List.filterMap_nil] at hcalls
      intro next Q hn
      unfold Oper.wp
      have hrunx:(execOp a.eval o).run C.P w = .ok (.enter f (args.toList.map a.eval).toArray) w:=by
        have hmap:VS a.eval args = (args.toList.map a.eval).toArray:=by apply JJ; simp
        have e2':¬ fn.name = "runtime.NumGoroutine" := by simpa using e2
        have e3':¬ fn.body = none:=by intro h0; rw [h0] at e3; cases e3
        obtain ⟨dst,op,type,pos,after,guard⟩:=o
        simp only at ho
        subst ho
        simp [execOp,resolve,hfv,Deferred.ofValue,invoke,callFunc,e1,hmap]
        rw [if_neg e2',if_neg e3']
      rw [hrunx,Oper.upon_enter]
      refine hcalls.mono ?_
      rintro en w' ⟨v,lim2,b1,b2,rfl,hE2,hlz2,hsame,hkeep,hT1,_,_,hnd,hb⟩
      simp only
      have hE:Ext w lim w' lim:=⟨hE2.size,fun b o ho => by
        have hbs:b < w.heap.size:=by
          rcases VO b w.heap.size with h' | h'
          · exact h'
          · rw [hR.lz b h'] at ho; omega
        simp [World.cell?,(hkeep b hbs (by simp)).1],fun _ _ h => h,hE2.typ,NF.keep hR.lz (fun b hb => (hkeep b hb (by simp)).1)⟩
      have hlive:∀ r' b,Zw (Q5 st.tbl r') = true → blk (σ r') = some b → b < w.heap.size:=fun r' b hl hb => YN (st:=⟨st.env,Q5 st.tbl⟩) hR hl hb
      unfold Zje at h3
      split at h3
      · rename_i t' ys henc
        obtain ⟨hsc,hm2⟩:=M.run_guard h3
        obtain ⟨hfx,l2,hm3⟩:=X9 hm2
        obtain ⟨rfl,_⟩:=M.run_ret hm3
        have hbl:base < ZD:=hok.ups (base,_) (Jm ..)
        rw [henc] at hT1
        simp only [TT,Zh4] at hT1
        have hblk:∀ b,blk v = some b → w.heap.size ≤ b:=by
          intro b hbv
          rcases hT1.2 with ⟨_,rfl,_⟩ | ⟨b',off,cap,vs,T,fz,rfl,_,_,_,_,_,_,rfl⟩
          · simp [blk] at hbv
          · simp [blk] at hbv; subst hbv
            rcases hb b' (by simp) with h' | h'
            · cases h'
            · exact h'
        have hU:Upd G σ lim ⟨st.env,Q5 st.tbl⟩ w (fun s => if s = base then v else σ s) lim w' (.own base) v [(base,.live (.arr t' ys false))] :=
          { ext:=hE
            lz:=fun b hb => hR.lz b (VJ hE2.size hb)
            same:=hsame
            sig:=fun r' hr' => by rw [if_neg]; intro e; subst e; exact hr' hfx
            rest:=fun r' hl _ b hb => ⟨(hkeep b (hlive r' b hl hb) (by simp)).1,rfl⟩
            new:=fun r' y hl => by
              rw [Zb] at hl
              split at hl
              · rename_i e; subst e
                simp at hl; subst hl
                refine ⟨?_,by intro q hq; cases hq⟩
                simp only [RR]
                refine ⟨hT1.1,?_⟩
                rcases hT1.2 with ⟨g1,rfl,_⟩ | ⟨b',off,cap,vs,T,fz,rfl,g2,g3,g4,g5,g6,g7,rfl⟩
                · exact .inl ⟨g1,by simp⟩
                · refine .inr ⟨b',off,cap,vs,T,fz,by simp,g2,g3,g4,g5,fun i hi => ZeU hsc (g6 i hi),?_⟩
                  simp only [cond_false]
                  exact hR.lz b' (hblk b' rfl)
              · simp [Zm] at hl
            inj:=fun r1 r2 y b hl hl2 hb1 hb2 => by
              rw [Zb] at hl
              split at hl
              · rename_i e; subst e
                by_cases e:r2 = base
                · exact e
                · rw [Zf,if_neg (Ne.symm e)] at hl2
                  simp only [if_true] at hb1
                  simp only [e,if_false] at hb2
                  have:=hblk b hb1
                  have:=hlive r2 b hl2 hb2
                  omega
              · simp [Zm] at hl
            own:=fun r1 y b hl hb1 => by
              rw [Zb] at hl
              split at hl
              · rename_i e; subst e
                simp only [if_true] at hb1
                exact .inl (VJ hR.ext.size (hblk b hb1))
              · simp [Zm] at hl
            keep:=fun b hb _ => (hkeep b (V1 hb hR.ext.size) (by simp)).1
            limk:=fun _ _ _ => rfl
            nofresh:=by intro r'; rw [Zb]; split <;> simp [Zm]
            val:=by
              simp only [RA]
              rcases hT1.2 with ⟨_,rfl,_⟩ | ⟨b',off,cap,vs,T,fz,rfl,_⟩
              · exact ⟨by simp,_,_,_,rfl⟩
              · exact ⟨by simp,_,_,_,rfl⟩
            known:=Qa (y:=.arr t' ys false) (by rw [Zf]; simp) }
        have hS:=RelW.step (a:=a) hR hU o.dst hd
        exact hn v w' _ lim (QC.of_put hS (fun p hp => by
          simp only [Vy] at hp; subst hp; exact ⟨hbl,rfl⟩) hL2)
      · rename_i t' y henc
        obtain ⟨hsc,hm2⟩:=M.run_guard h3
        obtain ⟨rfl,_⟩:=M.run_ret hm2
        rw [henc] at hT1
        simp only [TT] at hT1
        have hU:Upd G σ lim ⟨st.env,Q5 st.tbl⟩ w σ lim w' (Zgq t' y) v [] :=
          { ext:=hE
            lz:=fun b hb => hR.lz b (VJ hE2.size hb)
            same:=hsame
            sig:=fun _ _ => rfl
            rest:=fun r' hl _ b hb => ⟨(hkeep b (hlive r' b hl hb) (by simp)).1,rfl⟩
            new:=fun r' y hl => by simp [Zm] at hl
            inj:=fun r1 r2 y b hl hl2 hb1 hb2 => by simp [Zm] at hl
            own:=fun r1 y b hl hb1 => by simp [Zm] at hl
            keep:=fun b hb _ => (hkeep b (V1 hb hR.ext.size) (by simp)).1
            limk:=fun _ _ _ => rfl
            nofresh:=by intro r'; simp [Zm]
            val:=Zki hsc hT1.1
            known:=by rw [ZcK]; intro q hq; cases hq }
        have hS:=RelW.step (a:=a) hR hU o.dst hd
        exact hn v w' _ lim (QC.of_put hS (fun p hp => by cases hp) hL2)
      · exact (M.run_fail h3).elim
theorem Zeo (hC:∀ f cal,C.Φ f = some cal → Ctr C.P C.k f cal) (h:QC G σ lim st a.tmps w) {base:Nat} {o:Oper} {m:M Eff} (hs:Zf9 C base o.op ((ZK o.op).map (Xv st.env)) = some m) {l lg:List Nat} {e:Eff}
  (hm:m.run st.tbl l = some (e,lg)) (hok:OkEff true e lg) (hd:∀ d,o.dst = some d → d < a.tmps.size):Ka C G st o a w e:=by
 obtain ⟨hR,hL⟩:=h
 have hL2:=hL.after (d:=o.dst) hok
 obtain ⟨dst,op,type,pos,after,guard⟩:=o
 simp only at hs hd hL2
 unfold Zf9 at hs
 split at hs
 ·rename_i fo args ats f avs hv
  cases hb:(C.live 999998).any (Ja f) with
  | false => rw [hb] at hs; cases hs
  | true =>
   rw [hb] at hs
   cases hs
   simp only [ZK,JS,J1.injEq] at hv
   obtain ⟨hv1,hv2⟩:=hv
   subst hv2
   exact Zkb hC ⟨hR,hL⟩ rfl hv1 hm hok.log hok hL2 hd
 ·rename_i U g y z k i hv
  cases hs
  simp only [ZK,JS,VF,J1.injEq,and_true] at hv
  have h2:=(Zg hR y).1
  simp only at h2
  rw [hv.2] at h2
  exact Ka.value rfl (Zgc hR hm h2) hL2 hd
 ·rename_i U ord x r t i k hv
  cases hs
  simp only [ZK,JS,VF,J1.injEq,and_true] at hv
  have:=(Zg hR x).1
  simp only at this
  rw [hv] at this
  exact Ka.value rfl (Zeh hR hL hm hok.ups this) hL2 hd
 ·rename_i U ord x y r t i k z hv
  cases hs
  simp only [ZK,JS,VF,J1.injEq,and_true] at hv
  have h1:=(Zg hR x).1
  have h2:=(Zg hR y).1
  simp only at h1 h2
  rw [hv.1] at h1
  rw [hv.2] at h2
  exact Ka.unit rfl (ZdF hR hL hm hok.ups h1 h2) hL2 hd
 ·rename_i U x y p q hv
  cases hb:(C.live 1).any (Ja U) with
  | false => rw [hb] at hs; cases hs
  | true =>
   rw [hb] at hs
   cases hs
   simp only [ZK,JS,VF,J1.injEq,and_true] at hv
   have h1:=(Zg hR x).1
   have h2:=(Zg hR y).1
   simp only at h1 h2
   rw [hv.1] at h1
   rw [hv.2] at h2
   exact Ka.value rfl (Zei hR hL hm hok.ups h1 h2) hL2 hd
 ·cases hs
theorem Zhv (hC:∀ f cal,C.Φ f = some cal → Ctr C.P C.k f cal) (h:QC G σ lim st a.tmps w) {rid i:Nat} {o:Oper} {lg:List Nat} {e:Eff}
  (hm:(Ze4 C rid i o st.env).run st.tbl [] = some (e,lg)) (hok:Zcd (ZdW C rid i o st.env).isSome e lg = true) (hd:∀ d,o.dst = some d → d < a.tmps.size) (hT:ZfX C.P o.op = true):Ka C G st o a w e:=by
 have hok:=Zh3 hok
 cases hs:ZdW C rid i o st.env with
 | some m =>
  rw [hs] at hok
  simp only [Ze4,hs] at hm
  exact Zeo hC h hs hm hok hd
 | none =>
  rw [hs] at hok
  simp only [Ze4,hs] at hm
  have hm2:=Zf6 hm hok.log
  have hG:=ZjA hC h.1 (base:=ZhB rid i) hm2 hd hT
  intro next Q hn
  refine hG next Q fun x w' σ' lim' hR => hn x w' σ' lim' ?_
  exact QC.of_put hR (fun p hp => ⟨hok.ups p hp,hok.non rfl p hp⟩) (h.2.after hok)
theorem QC.skip (h:QC G σ lim st a.tmps w) (d:Option Nat) (hd:∀ x,d = some x → x < a.tmps.size):QC G σ lim ⟨Q9 st.env d (.tup []),st.tbl⟩ (a.put d undef).tmps w:=by
 have:=RelW.step h.1 (Upd.quiet (v:=.tup []) (x:=undef) h.1 (by simp only [RA]; exact ⟨[],rfl,by simp [ZA]⟩) (by simp [Za,Zd,Ze])) d hd
 simp only [ZS] at this
 exact ⟨this,h.2.set (by simp [Za,Zd])⟩
end Go.Sh
namespace Go.Sh
open Go
variable [Gl]
variable {C:Ctx} {G:Glob} {σ:QM} {w:World} {lim:Nat → Nat} {st:St} {a:Act}
def Zem (C:Ctx) (rid idx:Nat) (o:Oper) (st:St):Option (Eff × List Nat) :=
 ((Ze4 C rid idx o st.env).run st.tbl []).bind fun x => bif Zcd (ZdW C rid idx o st.env).isSome x.1 x.2 then some x else none
theorem ZbR {rid idx:Nat} {o:Oper} {st:St} {e:Eff} {l:List Nat} (h:Zem C rid idx o st = some (e,l)) :
  (Ze4 C rid idx o st.env).run st.tbl [] = some (e,l) ∧ Zcd (ZdW C rid idx o st.env).isSome e l = true:=by
 unfold Zem at h
 obtain ⟨⟨e',l'⟩,h1,h2⟩:=Option.bind_eq_some_iff.1 h
 simp only at h2
 cases hk:Zcd (ZdW C rid idx o st.env).isSome e' l' with
 | false => rw [hk] at h2; cases h2
 | true => rw [hk] at h2; cases h2; exact ⟨h1,hk⟩
def Zb2 (C:Ctx) (rid idx:Nat) (ops:List Oper) (o:Oper) (st:St):Option (Eff × List Nat) :=
 match o.guard with
 | none => Zem C rid idx o st
 | some (j,want) => match W3 ops j with
  | none => none
  | some d => match st.env d with
   | .val (.v (.bool g)) => bif (g == want) then Zem C rid idx o st else some (⟨.tup [],[]⟩,[])
   | .tup [] => some (⟨.tup [],[]⟩,[])
   | _ => none
def after (st:St) (o:Oper) (e:Eff):St:=⟨Q9 st.env o.dst e.val,st.tbl.put e.ups⟩
def Xn (C:Ctx) (rid idx:Nat) (ops:List Oper) (o:Oper) (st:St):Option (St × Lg) :=
 (Zb2 C rid idx ops o st).map fun x => (after st o x.1,(x.2,x.1.ups.map (·.1)))
theorem Zmq {R:Type} {rid idx:Nat} {o:Oper} {K:St → Lg → Option R} :
  goK C rid idx o st K = (Zem C rid idx o st).bind fun x => K (after st o x.1) (x.2,x.1.ups.map (·.1)):=by
 rw [goK,M.runK_eq,Zem,Option.bind_assoc]
 congr 1
 funext x
 cases Zcd (ZdW C rid idx o st.env).isSome x.1 x.2 <;> rfl
theorem ZbU {e:Nat → AV} {d:Nat} {x:AV} (h:e d = x):XP e d x = e:=by
 funext s
 simp only [XP]
 cases hb:Ja s d with
 | false => rfl
 | true => rw [ZC hb,h]; rfl
theorem Zhb {R:Type} {rid idx:Nat} {ops:List Oper} {o:Oper} {K:St → Lg → Option R} :
  Zjt C rid idx ops o st K = (Xn C rid idx ops o st).bind fun x => K x.1 x.2:=by
 unfold Zjt Xn Zb2
 cases hg:o.guard with
 | none => simp only [Zmq,V2]; rfl
 | some p =>
  obtain ⟨j,want⟩:=p
  cases hj:W3 ops j with
  | none => simp only [hj]; rfl
  | some d =>
   simp only [hj]
   split
   ·rename_i g hd
    simp only [hd]
    cases g <;> cases want <;> simp only [cond_true,cond_false,ZbU hd,Zmq,V2] <;> rfl
   ·rename_i hd; simp only [hd]; rfl
   ·rename_i h1 h2
    split
    ·rename_i g hd; exact (h1 g hd).elim
    ·rename_i hd; exact (h2 hd).elim
    ·rfl
def ZbK (C:Ctx) (rid:Nat) (ops:List Oper):List Oper → Nat → St → Option (St × List Lg)
 | [],_,st => some (st,[])
 | o :: l,idx,st => (Xn C rid idx ops o st).bind fun x => (ZbK C rid ops l (idx + 1) x.1).map fun y => (y.1,x.2 :: y.2)
theorem ZfY {R:Type} {rid:Nat} {ops:List Oper} {K:St → Option R}:∀ (l:List Oper) (idx:Nat) (st:St),
  Znx C rid ops l idx st K = (ZbK C rid ops l idx st).bind fun x => K x.1
 | [],_,_ => rfl
 | o :: l,idx,st => by
  simp only [Znx,ZbK,Zhb]
  cases Xn C rid idx ops o st with
  | none => rfl
  | some x => simp only [VL,ZfY l,V2]; rfl
theorem Zbx {R:Type} {rid:Nat} {ops:List Oper} {K:St → Option R}:∀ (l:List Oper) (idx:Nat) (st:St) (logs:List Lg),
  ZcS C rid ops l idx st logs K = (ZbK C rid ops l idx st).bind fun x => bif XD ops (W1 ops []) (logs ++ x.2) then K x.1 else none
 | [],_,_,_ => by simp [ZcS,ZbK]
 | o :: l,idx,st,logs => by
  simp only [ZcS,ZbK,Zhb]
  cases Xn C rid idx ops o st with
  | none => rfl
  | some x => simp only [VL,Zbx l,V2,Jv,List.singleton_append]; rfl
def Zdm (P:Program) (n:Nat) (o:Oper):Bool:=(match o.dst with | some d => Nat.blt d n | none => true) && ZfX P o.op
def Zjg (ops:List Oper) (j:Nat):Bool:=match ops[j]? with
 | some o => (Z0 o).all fun p => Nat.blt p j
 | none => true
def ZeH (P:Program) (n:Nat) (ops:List Oper):Bool:=ops.all (Zdm P n) && (Jc ops.length).all (Zjg ops)
theorem ZeG {n:Nat} {o:Oper} (h:Zdm C.P n o = true):∀ d,o.dst = some d → d < n:=by
 intro d hd
 simp only [Zdm,hd,Jh,VV] at h
 exact h.1
theorem ZjY {tmps:Array Value} {d:Nat} {g:Bool} (h:tmps.getD d undef = .bool g):tmps[d]? = some (.bool g):=by
 rw [VM] at h
 cases hd:tmps[d]? with
 | none => rw [hd] at h; simp [undef] at h
 | some x => rw [hd] at h; simp at h; rw [h]
theorem Zmn {tmps:Array Value} {d:Nat} (h:tmps.getD d undef = .tuple #[]):∀ g,tmps[d]? ≠ some (.bool g):=by
 rw [VM] at h
 cases hd:tmps[d]? with
 | none => simp
 | some x => rw [hd] at h; simp at h; rw [h]; simp
theorem Zg4 (a:Act) (d:Option Nat) (v:Value):(a.put d v).tmps.size = a.tmps.size:=by cases d <;> simp [Act.put]
theorem Zcf (a:Act) (d:Option Nat) (v:Value):(a.put d v).defers = a.defers:=by cases d <;> simp [Act.put]
theorem Zh9 {σ:QM} {w:World} {lim:Nat → Nat}:RA σ w lim (.tup []) undef:=by simp only [RA]; exact ⟨[],rfl,by simp [ZA]⟩
theorem ZdX (hC:∀ f cal,C.Φ f = some cal → Ctr C.P C.k f cal) (h:QC G σ lim st a.tmps w) {ops:Array Oper} {rid i:Nat} {o:Oper} (ho:ops[i]? = some o)
  {st':St} {lg:Lg} (hs:Xn C rid i ops.toList o st = some (st',lg)) (hf:Zdm C.P a.tmps.size o = true) {K:Act → World → Prop} {Q:Exit → Act → World → Prop}
  (hK:∀ a' w' σ' lim',QC G σ' lim' st' a'.tmps w' → a'.tmps.size = a.tmps.size → a'.defers = a.defers → K a' w'):wpOp C.P ops Q i K a w:=by
 have go:∀ e lg',Zem C rid i o st = some (e,lg') → st' = after st o e → Region.wanted o (yielded ops a.tmps) = true → wpOp C.P ops Q i K a w:=by
  intro e lg' hm hst hw
  subst hst
  unfold wpOp
  simp only [ho,hw,if_true]
  refine .inl (Zhv hC h (ZbR hm).1 (ZbR hm).2 (ZeG hf) ?_ K Q fun x w' σ' lim' hR => hK _ _ σ' lim' hR (Zg4 _ _ _) (Zcf _ _ _))
  simp only [Zdm,Jh] at hf; exact hf.2
 have skip:st' = after st o ⟨.tup [],[]⟩ → Region.wanted o (yielded ops a.tmps) = false → wpOp C.P ops Q i K a w:=by
  intro hst hw
  subst hst
  unfold wpOp
  simp only [ho,hw]
  have hR:=h.skip o.dst (ZeG hf)
  exact hK _ _ σ lim hR (Zg4 _ _ _) (Zcf _ _ _)
 unfold Xn Zb2 at hs
 cases hg:o.guard with
 | none =>
  rw [hg] at hs
  simp only [V4,Prod.mk.injEq] at hs
  obtain ⟨⟨e,l1⟩,h1,h2,h3⟩:=hs
  exact go e l1 h1 h2.symm (by simp [Region.wanted,hg])
 | some p =>
  obtain ⟨j,want⟩:=p
  rw [hg] at hs
  simp only at hs
  cases hj:W3 ops.toList j with
  | none => rw [hj] at hs; simp at hs
  | some d =>
   rw [hj] at hs
   simp only at hs
   have hd0:(ops[j]?).bind (·.dst) = some d:=by
    simp only [W3,VY] at hj
    cases hoj:ops[j]? with
    | none => rw [hoj] at hj; simp at hj
    | some oj => rw [hoj] at hj; simpa using hj
   have henv:=h.1.env d
   split at hs
   ·rename_i g hd
    rw [hd] at henv
    simp only [RA,RP] at henv
    have hy:yielded ops a.tmps j = some g:=by simp [yielded,hd0,ZjY henv]
    cases hgw:(g == want) with
    | true =>
     rw [hgw] at hs
     simp only [cond_true,V4,Prod.mk.injEq] at hs
     obtain ⟨⟨e,l1⟩,h1,h2,h3⟩:=hs
     exact go e l1 h1 h2.symm (by simp [Region.wanted,hg,hy]; simpa using hgw)
    | false =>
     rw [hgw] at hs
     simp only [cond_false,VE,VG.injEq,Prod.mk.injEq] at hs
     exact skip hs.1.symm (by simp [Region.wanted,hg,hy]; simpa using hgw)
   ·rename_i hd
    rw [hd] at henv
    simp only [RA] at henv
    obtain ⟨vs,hv,hvs⟩:=henv
    cases vs with
    | cons _ _ => simp [ZA] at hvs
    | nil =>
     have hy:yielded ops a.tmps j = none:=by
      have:=Zmn hv
      unfold yielded
      rw [hd0]
      simp only [VL]
     simp only [VE,VG.injEq,Prod.mk.injEq] at hs
     exact skip hs.1.symm (by simp [Region.wanted,hg,hy])
   ·simp at hs
def Kb (C:Ctx) (rid:Nat) (ops:List Oper) (lg:Nat → Lg):List Nat → St → St → Prop
 | [],st,stf => st = stf
 | i :: is,st,stf => ∃ o s,ops[i]? = some o ∧ Xn C rid i ops o st = some (s,lg i) ∧ Kb C rid ops lg is s stf
theorem Kb.congr {rid:Nat} {ops:List Oper} {lg lg':Nat → Lg}:∀ {is:List Nat} {st stf:St},(∀ i ∈ is,lg i = lg' i) → Kb C rid ops lg is st stf → Kb C rid ops lg' is st stf
 | [],_,_,_,h => h
 | i :: is,_,_,hl,⟨o,s,h1,h2,h3⟩ => ⟨o,s,h1,by rw [← hl i (by simp)]; exact h2,Kb.congr (fun k hk => hl k (by simp [hk])) h3⟩
theorem Zjo {rid:Nat} {ops:List Oper}:∀ (l:List Oper) (idx:Nat) (st stf:St) (lgs:List Lg),ops.drop idx = l → ZbK C rid ops l idx st = some (stf,lgs) →
  lgs.length = l.length ∧ Kb C rid ops (fun i => lgs.getD (i - idx) ([],[])) (V9 idx l.length) st stf
 | [],idx,st,stf,lgs,hl,h => by simp [ZbK] at h; simp [Kb,h]
 | o :: l,idx,st,stf,lgs,hl,h => by
  simp only [ZbK] at h
  cases hs:Xn C rid idx ops o st with
  | none => simp [hs] at h
  | some x =>
   obtain ⟨s,g⟩:=x
   simp only [hs,VL,V4,Prod.mk.injEq] at h
   obtain ⟨⟨sf,gs⟩,h1,h2,h3⟩:=h
   subst h2 h3
   have ho:ops[idx]? = some o:=by
    have:=congrArg (·[0]?) hl
    simpa using this
   have hd:ops.drop (idx + 1) = l:=by
    rw [← JF,hl]; rfl
   obtain ⟨h4,h5⟩:=Zjo l (idx + 1) s sf gs hd h1
   refine ⟨by simp [h4],?_⟩
   simp only [JG,VA,Kb]
   refine ⟨o,s,ho,by simpa using hs,h5.congr fun i hi => ?_⟩
   have hi':idx + 1 ≤ i:=(Uu.1 hi).1
   have:i - idx = (i - (idx + 1)) + 1:=by omega
   rw [this]; simp
theorem Zd0 (hC:∀ f cal,C.Φ f = some cal → Ctr C.P C.k f cal) {ops:Array Oper} {rid:Nat} {lg:Nat → Lg} {stf:St} {Q:Exit → Act → World → Prop} {n:Nat} {ds:List Deferred}
  (hf:∀ o ∈ ops.toList,Zdm C.P n o = true)
  (hQ:∀ a' w' σ' lim',QC G σ' lim' stf a'.tmps w' → a'.tmps.size = n → a'.defers = ds → Q .normal a' w') :
  ∀ (is:List Nat) (st:St) (a:Act) (w:World) (σ:QM) (lim:Nat → Nat),Kb C rid ops.toList lg is st stf → QC G σ lim st a.tmps w → a.tmps.size = n → a.defers = ds → wpOps C.P ops Q is a w
 | [],st,a,w,σ,lim,hr,h,hn,hd => by
  simp only [Kb] at hr; subst hr; exact hQ a w σ lim h hn hd
 | i :: is,st,a,w,σ,lim,⟨o,s,h1,h2,h3⟩,h,hn,hd => by
  rw [wpOps_cons]
  refine ZdX hC h (by simpa using h1) h2 (by rw [hn]; exact hf o (Vx h1)) fun a' w' σ' lim' hR e1 e2 => ?_
  exact Zd0 hC hf hQ is s a' w' σ' lim' h3 hR (e1.trans hn) (e2.trans hd)
end Go.Sh
namespace Go.Sh
open Go
variable [Gl]
variable {C:Ctx} {G:Glob} {σ:QM} {w:World} {lim:Nat → Nat} {st:St} {a:Act}
theorem Zex {rid i:Nat} {ops:List Oper} {o:Oper} {st st':St} {e:Eff} {lg:List Nat} (h:Zb2 C rid i ops o st = some (e,lg))
  (he:∀ s ∈ Zbk ops o,st'.env s = st.env s) (ht:∀ r ∈ lg,st'.tbl r = st.tbl r):Zb2 C rid i ops o st' = some (e,lg):=by
 have hmap:(ZK o.op).map (Xv st'.env) = (ZK o.op).map (Xv st.env):=by
  refine List.map_congr_left fun x hx => ?_
  cases x with
  | tmp t => exact he t (by simp only [Zbk,Jt,List.mem_filterMap]; exact .inl ⟨.tmp t,hx,rfl⟩)
  | _ => rfl
 have hact:∀ {e lg},Zem C rid i o st = some (e,lg) → (∀ r ∈ lg,st'.tbl r = st.tbl r) → Zem C rid i o st' = some (e,lg):=by
  intro e lg h ht
  obtain ⟨h1,h2⟩:=ZbR h
  have hs:ZdW C rid i o st'.env = ZdW C rid i o st.env:=by simp only [ZdW,hmap]
  have:Ze4 C rid i o st'.env = Ze4 C rid i o st.env:=by simp only [Ze4,ZnK,hs,hmap]
  unfold Zem
  rw [this,hs,M.run_local _ h1 ht]
  simp only [VL,h2,cond_true]
 unfold Zb2 at h ⊢
 cases hg:o.guard with
 | none => rw [hg] at h; exact hact h ht
 | some p =>
  obtain ⟨j,want⟩:=p
  rw [hg] at h
  simp only at h ⊢
  cases hj:W3 ops j with
  | none => rw [hj] at h; simp at h
  | some d =>
   rw [hj] at h
   simp only at h ⊢
   rw [he d (by simp [Zbk,hg,hj])]
   split at h
   ·rename_i g hd
    cases hgw:(g == want) <;> rw [hgw] at h <;> simp only [cond_true,cond_false] at h ⊢
    ·exact h
    ·exact hact h ht
   ·rename_i hd; exact h
   ·simp at h
theorem Xe {a b:List Nat} (h:Ye a b = true):∀ x ∈ a,x ∉ b:=by
 intro x hx hb
 simp only [Ye,Vg,J8,Ul] at h
 exact h x hx x hb (WJ x)
theorem ZbG {u:Qh} {r:Nat} (h:r ∉ u.map (·.1)):Zm u r = none:=by
 induction u with
 | nil => rfl
 | cons p u ih =>
  obtain ⟨i,x⟩:=p
  simp only [JS,VN,not_or] at h
  rw [Zb]
  simp [Ne.symm h.1,ih h.2]
theorem KT {T:ZF} {u:Qh} {r:Nat} (h:r ∉ u.map (·.1)):T.put u r = T r:=by simp [ZF.put,ZbG h]
theorem Wu {e:Nat → AV} {d:Option Nat} {v:AV} {s:Nat} (h:d ≠ some s):Q9 e d v s = e s:=by
 cases d with
 | none => rfl
 | some d => simp [Q9,XP,Zc (fun hs => h (by rw [hs]:some d = some s):s ≠ d)]
theorem Zg3 {T:ZF} {u v:Qh} (h:∀ r ∈ u.map (·.1),r ∉ v.map (·.1)):(T.put u).put v = (T.put v).put u:=by
 funext r
 by_cases hu:r ∈ u.map (·.1)
 ·rw [KT (h r hu)]
  simp only [ZF.put]
  cases hl:Zm u r with
  | some x => rfl
  | none => simp [ZbG (h r hu)]
 ·rw [KT (T:=T.put v) hu]
  simp only [ZF.put]
  cases hl:Zm v r with
  | some x => rfl
  | none => simp [ZbG hu]
theorem Zkj {e:Nat → AV} {c d:Option Nat} {x y:AV} (h:∀ s,c = some s → d ≠ some s):Q9 (Q9 e c x) d y = Q9 (Q9 e d y) c x:=by
 funext s
 by_cases hc:c = some s
 ·rw [Wu (h s hc)]
  subst hc; simp [Q9,XP,WJ]
 ·rw [Wu (e:=Q9 e d y) hc]
  by_cases hd:d = some s
  ·subst hd; simp [Q9,XP,WJ]
  ·rw [Wu hd,Wu hd,Wu hc]
theorem Zkm {rid i j:Nat} {ops:List Oper} {x y:Oper} {st s1 s2:St} {p q:Lg} (h1:Xn C rid i ops x st = some (s1,p)) (h2:Xn C rid j ops y s1 = some (s2,q))
  (hi:ZeN ops x y p q = true):∃ s1',Xn C rid j ops y st = some (s1',q) ∧ Xn C rid i ops x s1' = some (s2,p):=by
 simp only [ZeN,Jh] at hi
 obtain ⟨⟨⟨d1,d2⟩,d3⟩,d4⟩:=hi
 have d1:=Xe d1; have d2:=Xe d2; have d3:=Xe d3; have d4:=Xe d4
 simp only [Xn,V4,Prod.mk.injEq] at h1 h2
 obtain ⟨⟨e1,l1⟩,a1,a2,a3⟩:=h1
 obtain ⟨⟨e2,l2⟩,b1,b2,b3⟩:=h2
 subst a2 a3 b2 b3
 simp only at d1 d2 d3 d4 a1 b1
 have y0:Zb2 C rid j ops y st = some (e2,l2):=by
  refine Zex b1 (fun s hs => ?_) (fun r hr => ?_)
  ·simp only [after]
   rw [Wu]
   intro he
   exact d1 s (by simp [ZcT,he]) (by simp [hs])
  ·simp only [after]
   rw [KT]
   intro he
   exact d3 r he (by simp [hr])
 have x1:Zb2 C rid i ops x (after st y e2) = some (e1,l1):=by
  refine Zex a1 (fun s hs => ?_) (fun r hr => ?_)
  ·simp only [after]
   rw [Wu]
   intro he
   exact d2 s (by simp [ZcT,he]) hs
  ·simp only [after]
   rw [KT]
   intro he
   exact d4 r he hr
 refine ⟨after st y e2,by simp [Xn,y0],?_⟩
 simp only [Xn,x1,VE,VG.injEq,Prod.mk.injEq,and_true]
 simp only [after,St.mk.injEq]
 refine ⟨(Zkj fun s hs hd => ?_).symm,(Zg3 fun r hr hb => ?_).symm⟩
 ·exact d1 s (by simp [ZcT,hs]) (by simp [ZcT,hd])
 ·exact d3 r hr (by simp [hb])
theorem Kb.ahead {rid:Nat} {ops:List Oper} {lg:Nat → Lg} {i:Nat}:∀ {pre post:List Nat} {st stf:St},Kb C rid ops lg (pre ++ i :: post) st stf →
  (∀ j ∈ pre,∀ x y,ops[j]? = some x → ops[i]? = some y → ZeN ops x y (lg j) (lg i) = true) →
  ∃ o s,ops[i]? = some o ∧ Xn C rid i ops o st = some (s,lg i) ∧ Kb C rid ops lg (pre ++ post) s stf
 | [],post,st,stf,h,_ => h
 | j :: pre,post,st,stf,⟨x,s,h1,h2,h3⟩,hd => by
  obtain ⟨y,s',k1,k2,k3⟩:=Kb.ahead h3 fun j' hj' => hd j' (by simp [hj'])
  obtain ⟨s1',e1,e2⟩:=Zkm h2 k2 (hd j (by simp) x y h1 k1)
  exact ⟨y,s1',k1,e1,x,s',h1,e2,k3⟩
theorem Zca:∀ (l:List Oper) (acc:List Nat),∃ r,W1 l acc = acc ++ r ∧ r.length = l.length
 | [],acc => ⟨[],by simp [W1]⟩
 | o :: l,acc => by
  obtain ⟨r,h1,h2⟩:=Zca l (acc ++ [(Z0 o).foldl (fun s p => s ||| 2 ^ p ||| acc.getD p 0) 0])
  exact ⟨_ :: r,by simp only [W1]; rw [h1,Jv]; rfl,by simp [h2]⟩
theorem ZgZ:∀ (l:List Oper) (acc:List Nat) (j:Nat) (o:Oper),l[j]? = some o →
  (W1 l acc).getD (acc.length + j) 0 = (Z0 o).foldl (fun s p => s ||| 2 ^ p ||| ((W1 l acc).take (acc.length + j)).getD p 0) 0
 | [],_,_,_,h => by simp at h
 | x :: l,acc,0,o,h => by
  simp at h; subst h
  simp only [W1]
  obtain ⟨r,h1,h2⟩:=Zca l (acc ++ [(Z0 x).foldl (fun s p => s ||| 2 ^ p ||| acc.getD p 0) 0])
  rw [h1]
  simp [VT,List.getElem?_append,List.take_append]
 | x :: l,acc,j + 1,o,h => by
  have:=ZgZ l (acc ++ [(Z0 x).foldl (fun s p => s ||| 2 ^ p ||| acc.getD p 0) 0]) j o (by simpa using h)
  simp only [W1]
  rw [List.length_append,Ut,Nat.add_assoc,Nat.add_comm 1 j] at this
  exact this
theorem ZgO {f:Nat → Nat} {i:Nat}:∀ (l:List Nat) (s:Nat),VK (l.foldl (fun s p => s ||| 2 ^ p ||| f p) s) i = true → VK s i = true ∨ ∃ p ∈ l,i = p ∨ VK (f p) i = true
 | [],s,h => .inl h
 | p :: l,s,h => by
  rcases ZgO l _ h with h | ⟨q,h1,h2⟩
  ·rw [Nat.testBit_or,Nat.testBit_or,Nat.testBit_two_pow] at h
   simp only [V7,decide_eq_true_eq] at h
   rcases h with (h | h) | h
   ·exact .inl h
   ·exact .inr ⟨p,by simp,.inl h.symm⟩
   ·exact .inr ⟨p,by simp,.inr h⟩
  ·exact .inr ⟨q,by simp [h1],h2⟩
theorem Zh2 {ops:List Oper} {j:Nat} {o:Oper} (ho:ops[j]? = some o) {i:Nat} (h:VK ((W1 ops []).getD j 0) i = true) :
  ∃ p ∈ Z0 o,i = p ∨ VK ((W1 ops []).getD p 0) i = true:=by
 have:=ZgZ ops [] j o ho
 simp only [List.length_nil,Uc] at this
 rw [this] at h
 rcases ZgO _ _ h with h | ⟨p,h1,h2⟩
 ·simp at h
 ·refine ⟨p,h1,h2.imp id fun h2 => ?_⟩
  rw [VT,List.getElem?_take] at h2
  rw [VT]
  split at h2
  ·exact h2
  ·simp at h2
theorem ZdM {o:Oper} {p:Nat}:p ∈ Z0 o ↔ ∃ e ∈ o.after,Region.binds .any e = true ∧ e.on = p:=by
 simp only [Z0,VH,VQ,Array.mem_toList_iff]
 constructor
 ·rintro ⟨e,⟨h1,h2⟩,h3⟩; exact ⟨e,h1,h2,h3⟩
 ·rintro ⟨e,h1,h2,h3⟩; exact ⟨e,⟨h1,h2⟩,h3⟩
theorem Xy {ops:Array Oper} {listed:Array Bool} {i:Nat} (h:i ∈ Region.ready .any ops listed) :
  ∃ o,ops[i]? = some o ∧ listed.getD i true = false ∧ ∀ p ∈ Z0 o,listed.getD p false = true:=by
 simp only [Region.ready,VQ,VI,Jh,J8] at h
 obtain ⟨h1,h2,h3⟩:=h
 have ho:ops[i]? = some ops[i]:=by simp [h1]
 refine ⟨ops[i],ho,h2,fun p hp => ?_⟩
 obtain ⟨e,e1,e2,e3⟩:=ZdM.1 hp
 rw [ho] at h3
 simp only [VE,Uy,Ue] at h3
 have:=h3 e e1
 simp only [e2,Bool.not_true,Bool.false_or] at this
 rw [← e3]; exact this
theorem ZdR {ops:Array Oper} {listed:Array Bool} {i:Nat} {o:Oper} (ho:ops[i]? = some o) (hl:listed.getD i true = false) (hp:∀ p ∈ Z0 o,listed.getD p false = true) :
  i ∈ Region.ready .any ops listed:=by
 have hi:i < ops.size:=by
  rcases VO i ops.size with h | h
  ·exact h
  ·simp [VX h] at ho
 simp only [Region.ready,VQ,VI,Jh,J8,ho,VE,Uy,Ue]
 refine ⟨hi,hl,fun e he => ?_⟩
 cases hb:Region.binds .any e with
 | false => rfl
 | true => simp [hp e.on (ZdM.2 ⟨e,he,hb,rfl⟩)]
def left (n:Nat) (listed:Array Bool):List Nat:=(Jc n).filter fun i => !listed.getD i true
theorem QN {listed:Array Bool} {i k:Nat} {b:Bool} (hi:listed.getD i true = false):(listed.setIfInBounds i true).getD k b = if i = k then true else listed.getD k b:=by
 have hlt:i < listed.size:=by
  rcases VO i listed.size with h | h
  ·exact h
  ·rw [VM,VX h] at hi; simp at hi
 simp only [VM,Array.getElem?_setIfInBounds]
 by_cases h:i = k
 ·subst h; simp [hlt]
 ·simp [h]
theorem Zao {n:Nat} {listed:Array Bool} {i:Nat} (hn:i < n) (hi:listed.getD i true = false) :
  ∃ pre post,left n listed = pre ++ i :: post ∧ left n (listed.setIfInBounds i true) = pre ++ post ∧ (∀ j ∈ pre,j < i ∧ listed.getD j true = false):=by
 have hr:Jc n = Jc i ++ i :: V9 (i + 1) (n - (i + 1)):=by
  rw [Ua,Ua]
  have h1:n = i + (1 + (n - (i + 1))):=by omega
  conv => lhs; rw [h1]
  rw [List.range'_append_1.symm,Uc,Nat.add_comm 1,VA]
 refine ⟨(Jc i).filter fun j => !listed.getD j true,(V9 (i + 1) (n - (i + 1))).filter fun j => !listed.getD j true,?_,?_,?_⟩
 ·simp only [left,hr,Un,Up,hi,Bool.not_false,if_true]
 ·simp only [left,hr,Un,Up,QN hi,if_true,Bool.not_true]
  congr 1
  ·refine Uo fun j hj => ?_
   have:i ≠ j:=by have:=VI.1 hj; omega
   simp [this]
  ·simp only [JK,if_false]
   refine Uo fun j hj => ?_
   have:i ≠ j:=by have:=(Uu.1 hj).1; omega
   simp [this]
 ·intro j hj
  simp only [VQ,VI,J8] at hj
  exact hj
theorem Zij (hC:∀ f cal,C.Φ f = some cal → Ctr C.P C.k f cal) {ops:Array Oper} {rid:Nat} {lg:Nat → Lg} {stf:St} {Q:Exit → Act → World → Prop} {n:Nat} {ds:List Deferred}
  (hf:ZeH C.P n ops.toList = true)
  (hI:∀ i j x y,i < j → ops[i]? = some x → ops[j]? = some y → VK ((W1 ops.toList []).getD j 0) i = true ∨ ZeN ops.toList x y (lg i) (lg j) = true)
  (hQ:∀ a' w' σ' lim',QC G σ' lim' stf a'.tmps w' → a'.tmps.size = n → a'.defers = ds → Q .normal a' w') :
  ∀ (fuel:Nat) (listed:Array Bool) (st:St) (a:Act) (w:World) (σ:QM) (lim:Nat → Nat),listed.size = ops.size → (left ops.size listed).length ≤ fuel →
   (∀ p,listed.getD p false = true → ∀ i,VK ((W1 ops.toList []).getD p 0) i = true → listed.getD i false = true) →
   Kb C rid ops.toList lg (left ops.size listed) st stf → QC G σ lim st a.tmps w → a.tmps.size = n → a.defers = ds → wpAny C.P .any ops Q fuel listed a w:=by
 have hf1:∀ o ∈ ops.toList,Zdm C.P n o = true:=by
  simp only [ZeH,Jh,Vg] at hf; exact hf.1
 have hf2:∀ j o,ops[j]? = some o → ∀ p ∈ Z0 o,p < j:=by
  intro j o ho p hp
  simp only [ZeH,Jh,Vg,VI] at hf
  have hj:j < ops.toList.length:=by
   rcases VO j ops.toList.length with h | h
   ·exact h
   ·rw [← VY,V8 h] at ho; simp at ho
  have:=hf.2 j hj
  simp only [Zjg,VY,ho,Vg,VV] at this
  exact this p hp
 have done:∀ (listed:Array Bool) (st:St) (a:Act) (w:World) (σ:QM) (lim:Nat → Nat),listed.size = ops.size → Kb C rid ops.toList lg (left ops.size listed) st stf →
   QC G σ lim st a.tmps w → a.tmps.size = n → a.defers = ds → Region.ready .any ops listed = [] → Q .normal a w:=by
  intro listed st a w σ lim hsz hr h hn hd h0
  have:left ops.size listed = []:=by
   cases hl:left ops.size listed with
   | nil => rfl
   | cons i is =>
    exfalso
    -- the least one is ready
    have hmem:i ∈ left ops.size listed:=by rw [hl]; simp
    simp only [left,VQ,VI,J8] at hmem
    obtain ⟨m1,m2⟩:=hmem
    have ho:ops[i]? = some ops[i]:=by simp [m1]
    have hlow:∀ p,p < i → listed.getD p false = true:=by
     intro p hp
     cases hb:listed.getD p true with
     | true =>
      have hps:p < listed.size:=by omega
      simpa [VM,hps] using hb
     | false =>
      exfalso
      have hp':p ∈ left ops.size listed:=by
       simp only [left,VQ,VI,J8]; exact ⟨by omega,hb⟩
      have hs:(left ops.size listed).Pairwise (· < ·):=List.Pairwise.filter _ List.pairwise_lt_range
      rw [hl] at hp' hs
      rcases VN.1 hp' with rfl | hp'
      ·omega
      ·have:=(List.pairwise_cons.1 hs).1 p hp'; omega
    have:=ZdR ho m2 fun p hp => hlow p (hf2 i _ ho p hp)
    rw [h0] at this; simp at this
  rw [this] at hr
  simp only [Kb] at hr; subst hr
  exact hQ a w σ lim h hn hd
 intro fuel
 induction fuel with
 | zero =>
  intro listed st a w σ lim hsz hl hc hr h hn hd
  have h0:left ops.size listed = []:=List.length_eq_zero_iff.1 (by omega)
  have hrd:Region.ready .any ops listed = []:=by
   refine List.eq_nil_iff_forall_not_mem.2 fun i hi => ?_
   obtain ⟨o,o1,o2,_⟩:=Xy hi
   have:i ∈ left ops.size listed:=by
    simp only [left,VQ,VI,J8]
    refine ⟨?_,o2⟩
    rcases VO i ops.size with h | h
    ·exact h
    ·simp [VX h] at o1
   rw [h0] at this; simp at this
  exact ⟨hrd,done listed st a w σ lim hsz hr h hn hd hrd⟩
 | succ fuel ih =>
  intro listed st a w σ lim hsz hl hc hr h hn hd
  refine ⟨done listed st a w σ lim hsz hr h hn hd,fun i hi => ?_⟩
  obtain ⟨o,o1,o2,o3⟩:=Xy hi
  have hin:i < ops.size:=by
   rcases VO i ops.size with h | h
   ·exact h
   ·simp [VX h] at o1
  obtain ⟨pre,post,p1,p2,p3⟩:=Zao hin o2
  have hmask:∀ k,VK ((W1 ops.toList []).getD i 0) k = true → listed.getD k false = true:=by
   intro k hk
   obtain ⟨p,q1,q2⟩:=Zh2 (by simpa using o1) hk
   rcases q2 with rfl | q2
   ·exact o3 _ q1
   ·exact hc p (o3 p q1) k q2
  rw [p1] at hr
  obtain ⟨o',s,k1,k2,k3⟩:=hr.ahead (fun j hj x y hx hy => by
   obtain ⟨j1,j2⟩:=p3 j hj
   rcases hI j i x y j1 (by simpa using hx) (by simpa using hy) with hm | hm
   ·exfalso
    have:=hmask j hm
    have hjs:j < listed.size:=by omega
    simp [VM,hjs] at this j2
    rw [this] at j2; simp at j2
   ·exact hm)
  refine ZdX hC h (by simpa using k1) k2 (by rw [hn]; exact hf1 o' (Vx k1)) fun a' w' σ' lim' hR e1 e2 => ?_
  refine ih _ s a' w' σ' lim' (by simpa using hsz) ?_ ?_ (by rw [p2]; exact k3) hR (e1.trans hn) (e2.trans hd)
  ·rw [p1] at hl; rw [p2]; simp at hl ⊢; omega
  ·intro p hp k hk
   rw [QN o2] at hp ⊢
   by_cases hik:i = k
   ·simp [hik]
   ·simp only [hik,if_false]
    by_cases hip:i = p
    ·subst hip; exact hmask k hk
    ·simp only [hip,if_false] at hp; exact hc p hp k hk
theorem RelW.draw (h:RelW G σ lim st a.tmps w):RelW G σ lim st a.tmps { w with drawn:=w.drawn + 1 }:=by
  have u:Upd G σ lim st w σ lim { w with drawn:=w.drawn + 1 } (.tup []) undef [] :=
    { ext:=⟨Jj _,fun _ _ _ => rfl,fun _ _ h => h,fun _ _ h => h,fun _ _ h k => ⟨h,k⟩⟩
      lz:=h.lz,same:=⟨rfl,rfl,rfl⟩,sig:=fun _ _ => rfl,rest:=fun _ _ _ _ _ => ⟨rfl,rfl⟩
      new:=by intro r y hl; simp [Zm] at hl
      inj:=by intro r r' y b hl; simp [Zm] at hl
      own:=by intro r y b hl; simp [Zm] at hl
      keep:=fun _ _ _ => rfl,limk:=fun _ _ _ => rfl,nofresh:=by intro r; simp [Zm]
      val:=Zh9,known:=by simp [Za,Zd,Ze] }
  have:=RelW.step h u none (by simp)
  simpa [Q9,Act.put,ZS] using this
theorem QC.draw (h:QC G σ lim st a.tmps w):QC G σ lim st a.tmps { w with drawn:=w.drawn + 1 }:=⟨h.1.draw,h.2⟩
theorem Zee {ops:List Oper} {ms:List Nat} {logs:List Lg} (h:XD ops ms logs = true) {i j:Nat} {x y:Oper} (hij:i < j) (hx:ops[i]? = some x) (hy:ops[j]? = some y) :
  VK (ms.getD j 0) i = true ∨ ZeN ops x y (logs.getD i ([],[])) (logs.getD j ([],[])) = true:=by
 have hj:j < ops.length:=by
  rcases VO j ops.length with h | h
  ·exact h
  ·simp [V8 h] at hy
 simp only [XD,Vg,VI] at h
 have:=h j hj i hij
 rw [V7] at this
 refine this.imp id fun h => ?_
 rw [hx,hy] at h
 split at h
 ·rename_i x' y' p q h1 h2 h3 h4
  simp only [VG.injEq] at h1 h2; subst h1 h2
  simpa [VT,h3,h4] using h
 ·simp at h
theorem Zf2 (hC:∀ f cal,C.Φ f = some cal → Ctr C.P C.k f cal) (hm:C.P.follows .mixedOrders = true) {ops:Array Oper} {rid:Nat} {d:Bool} {n:Nat} {ds:List Deferred} (hf:ZeH C.P n ops.toList = true)
  (h:QC G σ lim st a.tmps w) (hn:a.tmps.size = n) (hd:a.defers = ds) {stf:St} {lgs:List Lg} (hr:ZbK C rid ops.toList ops.toList 0 st = some (stf,lgs))
  (hi:d = true → XD ops.toList (W1 ops.toList []) lgs = true) {Q:Exit → Act → World → Prop}
  (hQ:∀ a' w' σ' lim',QC G σ' lim' stf a'.tmps w' → a'.tmps.size = n → a'.defers = ds → Q .normal a' w'):(Code.region rid ops d).wp C.P Q a w:=by
 obtain ⟨h1,h2⟩:=Zjo ops.toList 0 st stf lgs (by simp) hr
 rw [← Ua,J6] at h2
 simp only [Nat.sub_zero] at h2
 cases d with
 | false =>
  refine wp_region ?_
  refine Zd0 hC ?_ hQ _ st a w σ lim h2 h hn hd
  simp only [ZeH,Jh,Vg] at hf; exact hf.1
 | true =>
  refine wp_region_any hm ?_
  have hall:left ops.size (Array.replicate ops.size false) = Jc ops.size:=by
   refine List.filter_eq_self.2 fun i hi => ?_
   have:=VI.1 hi
   simp [VM,Uf,this]
  refine Zij hC (lg:=fun i => lgs.getD i ([],[])) hf (fun i j x y hij hx hy => Zee (hi rfl) hij (by simpa using hx) (by simpa using hy)) hQ _ _ st a _ σ lim (by simp) (by rw [hall]; simp) ?_ (by rw [hall]; exact h2) h.draw hn hd
  intro p hp
  simp only [VM,Uf] at hp
  split at hp <;> simp at hp
end Go.Sh
namespace Go.Sh
open Go
variable [Gl]
variable {C:Ctx} {G:Glob} {σ:QM} {w:World} {lim:Nat → Nat} {st:St} {tmps:Array Value}
theorem RelW.setenv (h:RelW G σ lim st tmps w) {s:Nat} {x:AV} (hx:RA σ w lim x (tmps.getD s undef)) (hk:Ze st.tbl (Za x)):RelW G σ lim ⟨XP st.env s x,st.tbl⟩ tmps w :=
 { h with
  env:=fun t => by
   simp only [XP]
   cases hb:Ja t s with
   | false => exact h.env t
   | true => rw [ZC hb]; exact hx
  known:=fun t => by
   simp only [XP]
   cases hb:Ja t s with
   | false => exact h.known t
   | true => exact hk }
theorem Zdt {x:RS} (h:XV x = true):x = .fresh:=by cases x <;> simp [XV] at h ⊢
theorem Zil {cs:List AV} {vs:List Value} {k:Nat} {x:AV} (h:ZA σ w lim cs vs) (hx:∀ v,vs[k]? = some v → RA σ w lim x v):ZA σ w lim (cs.set k x) vs:=by
 induction cs generalizing vs k with
 | nil => simpa using h
 | cons c cs ih =>
  cases vs with
  | nil => simp [ZA] at h
  | cons v vs =>
   simp only [ZA] at h
   cases k with
   | zero => grind [ZA]
   | succ k => grind [ZA]
theorem Zhr {cs:List AV} {vs:List Value} {k:Nat} {x:AV} {v:Value} (h:ZA σ w lim cs vs) (hx:cs[k]? = some x) (hv:vs[k]? = some v):RA σ w lim x v:=by
 induction cs generalizing vs k with
 | nil => simp at hx
 | cons c cs ih =>
  cases vs with
  | nil => simp at hv
  | cons u vs =>
   grind [ZA]
theorem YL {cs:List AV} {k:Nat} {x:AV}:∀ r ∈ Zd (cs.set k x),r ∈ Zd cs ∨ r ∈ Za x:=by
 induction cs generalizing k with
 | nil => intro r hr; simp [Zd] at hr
 | cons c cs ih =>
  intro r hr
  cases k with
  | zero => grind [Zd]
  | succ k =>
   grind [Zd]
theorem ZdN (h:RelW G σ lim st tmps w) (n:Nat) (p:Pro):∃ σ' lim',RelW G σ' lim' (Qq n st p) tmps w:=by
 cases p with
 | slot s t =>
  simp only [Qq]
  split
  ·rename_i x hx
   cases hg:(W0 x && XV (st.tbl n) && Jb 1 t.size) with
   | false => exact ⟨σ,lim,h⟩
   | true =>
    simp only [Jh] at hg
    obtain ⟨⟨g1,g2⟩,g3⟩:=hg
    have g1:=WQ g1; have g2:=Zdt g2; have g3:0 < t.size:=Ju g3
    subst g1
    have hN:=h.nilname g2 t g3 false
    have hv:=h.env s
    rw [hx] at hv; simp only [RA,RP] at hv
    refine ⟨_,lim,hN.setenv (s:=s) (x:=.own n) ?_ ?_⟩
    ·grind [RA]
    ·exact Qa (y:=.arr t [] false) (by simp only [ZT]; simp)
  ·exact ⟨σ,lim,h⟩
 | cell s k t =>
  simp only [Qq]
  split
  ·rename_i r hs
   split
   ·rename_i cs hr
    split
    ·rename_i x hx
     cases hg:(W0 x && XV (st.tbl n) && Jb 1 t.size) with
     | false => exact ⟨σ,lim,h⟩
     | true =>
      simp only [Jh] at hg
      obtain ⟨⟨g1,g2⟩,g3⟩:=hg
      have g1:=WQ g1; have g2:=Zdt g2; have g3:0 < t.size:=Ju g3
      subst g1
      have hN:=h.nilname g2 t g3 false
      have hnr:n ≠ r:=by grind
      have hr':(st.tbl.put [(n,.live (.arr t [] false))]) r = .live (.box cs):=by rw [Zf]; simp [hnr,hr]
      obtain ⟨q1,q2⟩:=hN.res r _ hr'
      simp only [cond_true]
      have hkn:Ze (st.tbl.put [(n,.live (.arr t [] false))]) (Za (.own n)):=by
       intro i hi; simp [Za] at hi; subst hi; rw [ZT]; simp
      have:=hN.reword (r:=r) (y:=.box (cs.set k (.own n))) hr' ?_ ?_
      ·refine ⟨fun s => if s = n then V6 none 0 0 else σ s,lim,?_⟩
       have e:st.tbl.put [(n,.live (.arr t [] false)),(r,.live (.box (cs.set k (.own n))))] = (st.tbl.put [(n,.live (.arr t [] false))]).put [(r,.live (.box (cs.set k (.own n))))]:=by
        rw [show [(n,RS.live (.arr t [] false)),(r,.live (.box (cs.set k (.own n))))] = [(n,RS.live (.arr t [] false))] ++ [(r,.live (.box (cs.set k (.own n))))] from rfl,ZP]
        exact Zg3 (u:=[(r,.live (.box (cs.set k (.own n))))]) (v:=[(n,RS.live (.arr t [] false))]) (by simp; exact fun e => hnr e.symm)
       rw [e]
       exact this
      ·intro i hi
       simp only [ZL] at hi
       rcases YL i hi with hi | hi
       ·exact q2 i hi
       ·exact hkn i hi
      ·simp only [RR] at q1 ⊢
       obtain ⟨b,vs,T,e1,e2,e3,e4⟩:=q1
       refine ⟨b,vs,T,e1,e2,Zil e3 fun v hv => ?_,e4⟩
       have:=Zhr e3 hx hv
       grind [RA,RP]
    ·exact ⟨σ,lim,h⟩
   ·exact ⟨σ,lim,h⟩
  ·exact ⟨σ,lim,h⟩
 | «show» s =>
  simp only [Qq]
  split
  ·rename_i r hs
   split
   ·rename_i t xs sh hr
    obtain ⟨lim',h1,_,_⟩:=RelW.show_one h hr
    exact ⟨σ,lim',h1⟩
   ·exact ⟨σ,lim,h⟩
  ·exact ⟨σ,lim,h⟩
 | see s =>
  simp only [Qq]
  split
  ·rename_i r hs
   split
   ·rename_i t xs sh hr
    obtain ⟨lim',h1,_,h2⟩:=RelW.show_one h hr
    refine ⟨σ,lim',h1.setenv ?_ ?_⟩
    ·have hv:=h.env s
     grind [RA]
    ·intro i hi; simp [Za] at hi
   ·exact ⟨σ,lim,h⟩
  ·exact ⟨σ,lim,h⟩
 | seen s k =>
  simp only [Qq]
  split
  ·rename_i r hs
   split
   ·rename_i cs hr
    split
    ·rename_i n hc
     split
     ·rename_i t xs sh hn
      obtain ⟨lim',h1,_,h2⟩:=RelW.show_one h hn
      have hnr:r ≠ n:=by grind
      have hr':(st.tbl.put [(n,.live (.arr t xs true))]) r = .live (.box cs):=by rw [Zf]; simp [Ne.symm hnr,hr]
      obtain ⟨q1,q2⟩:=h1.res r _ hr'
      have:=h1.reword (r:=r) (y:=.box (cs.set k (.val (.sl t xs)))) hr' ?_ ?_
      ·refine ⟨σ,lim',?_⟩
       rw [show [(r,RS.live (.box (cs.set k (.val (.sl t xs))))),(n,.live (.arr t xs true))] = [(r,RS.live (.box (cs.set k (.val (.sl t xs)))))] ++ [(n,.live (.arr t xs true))] from rfl,ZP]
       exact this
      ·intro i hi
       simp only [ZL] at hi
       rcases YL i hi with hi | hi
       ·exact q2 i hi
       ·simp [Za] at hi
      ·simp only [RR] at q1 ⊢
       obtain ⟨b,vs,T,e1,e2,e3,e4⟩:=q1
       refine ⟨b,vs,T,e1,e2,Zil e3 fun v hv => ?_,e4⟩
       have:=Zhr e3 hc hv
       grind [RA]
     ·exact ⟨σ,lim,h⟩
    ·exact ⟨σ,lim,h⟩
   ·exact ⟨σ,lim,h⟩
  ·exact ⟨σ,lim,h⟩
theorem Zf0 (hL:Low G st) {n:Nat} (hn:n < ZD) (p:Pro):∃ env' u,Qq n st p = ⟨env',st.tbl.put u⟩ ∧ Qq n ⟨st.env,Q5 st.tbl⟩ p = ⟨env',(Q5 st.tbl).put u⟩ ∧
  (∀ p ∈ u,p.1 < ZD ∧ XE p.2 = true) ∧ Low G ⟨env',st.tbl.put u⟩:=by
 have same:∃ env' u,st = ⟨env',st.tbl.put u⟩ ∧ (⟨st.env,Q5 st.tbl⟩:St) = ⟨env',(Q5 st.tbl).put u⟩ ∧ (∀ p ∈ u,p.1 < ZD ∧ XE p.2 = true) ∧ Low G ⟨env',st.tbl.put u⟩ :=
  ⟨st.env,[],rfl,rfl,(by intro p hp; cases hp),hL⟩
 cases p with
 | slot s t =>
  simp only [Qq]
  cases hs:st.env s with
  | val q =>
   cases q with
   | v x =>
    simp only [ZG hn]
    cases hg:(W0 x && XV (st.tbl n) && Jb 1 t.size) with
    | false => simpa using same
    | true =>
     simp only [cond_true]
     refine ⟨_,_,rfl,rfl,?_,?_,?_,hL.pins⟩
     ·intro p hp; simp only [Vy] at hp; subst hp; exact ⟨hn,rfl⟩
     ·intro s' r hr
      simp only [XP] at hr
      cases hb:Ja s' s with
      | true => simp_all [cond_true,Za,Vy]
      | false => rw [hb] at hr; exact hL.env s' r hr
     ·intro r cs hr
      simp only at hr
      rw [Zf] at hr
      split at hr
      ·cases hr
      ·exact hL.box r cs hr
   | sl => simpa using same
  | _ => simpa using same
 | cell s k t =>
  simp only [Qq]
  cases hs:st.env s with
  | bx r j =>
   cases j with
   | succ j => simpa using same
   | zero =>
    have hr:r < ZD:=hL.env s r (by rw [hs]; simp [Za])
    simp only [ZG hr]
    cases hT:st.tbl r with
    | live y =>
     cases y with
     | box cs =>
      simp only
      cases hc:cs[k]? with
      | some c =>
       cases c with
       | val q =>
        cases q with
        | v x =>
         simp only [ZG hn]
         cases hg:(W0 x && XV (st.tbl n) && Jb 1 t.size) with
         | false => simpa using same
         | true =>
          simp only [cond_true]
          refine ⟨_,_,rfl,rfl,?_,hL.env,?_,hL.pins⟩
          ·intro p hp
           simp only [VN,Uw,or_false] at hp
           rcases hp with rfl | rfl
           ·exact ⟨hn,rfl⟩
           ·exact ⟨hr,rfl⟩
          ·intro r' cs' hr'
           simp only at hr'
           rw [ZT] at hr'
           split at hr'
           ·cases hr'
           ·rw [Zf] at hr'
            split at hr'
            ·cases hr'
             intro q hq
             rcases YL q hq with hq | hq
             ·exact hL.box r cs hT q hq
             grind [Za,Vy]
            ·exact hL.box r' cs' hr'
        | sl => simpa using same
       | _ => simpa using same
      | none => simpa using same
     | _ => simpa using same
    | _ => simpa using same
  | _ => simpa using same
 | «show» s =>
  simp only [Qq]
  cases hs:st.env s with
  | own r =>
   have hr:r < ZD:=hL.env s r (by rw [hs]; simp [Za])
   simp only [ZG hr]
   cases hT:st.tbl r with
   | live y =>
    cases y with
    | arr t xs sh =>
     refine ⟨_,_,rfl,rfl,?_,hL.env,?_,hL.pins⟩
     ·intro p hp; simp only [Vy] at hp; subst hp; exact ⟨hr,rfl⟩
     ·intro r' cs hr'
      simp only at hr'
      rw [Zf] at hr'
      split at hr'
      ·cases hr'
      ·exact hL.box r' cs hr'
    | _ => simpa using same
   | _ => simpa using same
  | _ => simpa using same
 | see s =>
  simp only [Qq]
  cases hs:st.env s with
  | own r =>
   have hr:r < ZD:=hL.env s r (by rw [hs]; simp [Za])
   simp only [ZG hr]
   cases hT:st.tbl r with
   | live y =>
    cases y with
    | arr t xs sh =>
     refine ⟨_,_,rfl,rfl,?_,?_,?_,hL.pins⟩
     ·intro p hp; simp only [Vy] at hp; subst hp; exact ⟨hr,rfl⟩
     ·intro s' q hq
      simp only [XP] at hq
      cases hb:Ja s' s with
      | true => rw [hb] at hq; simp [Za] at hq
      | false => rw [hb] at hq; exact hL.env s' q hq
     ·intro r' cs hr'
      simp only at hr'
      rw [Zf] at hr'
      split at hr'
      ·cases hr'
      ·exact hL.box r' cs hr'
    | _ => simpa using same
   | _ => simpa using same
  | _ => simpa using same
 | seen s k =>
  simp only [Qq]
  cases hs:st.env s with
  | bx r j =>
   cases j with
   | succ j => simpa using same
   | zero =>
    have hr:r < ZD:=hL.env s r (by rw [hs]; simp [Za])
    simp only [ZG hr]
    cases hT:st.tbl r with
    | live y =>
     cases y with
     | box cs =>
      simp only
      cases hc:cs[k]? with
      | some c =>
       cases c with
       | own m =>
        have hm:m < ZD:=hL.box r cs hT m (W5 (Vx hc) (by simp [Za]))
        simp only [ZG hm]
        cases hM:st.tbl m with
        | live y =>
         cases y with
         | arr t xs sh =>
          refine ⟨_,_,rfl,rfl,?_,hL.env,?_,hL.pins⟩
          ·intro p hp
           simp only [VN,Uw,or_false] at hp
           rcases hp with rfl | rfl
           ·exact ⟨hr,rfl⟩
           ·exact ⟨hm,rfl⟩
          ·intro r' cs' hr'
           simp only at hr'
           rw [ZT] at hr'
           split at hr'
           ·cases hr'
            rename_i e; subst e
            intro q hq
            rcases YL q hq with hq | hq
            ·exact hL.box r cs hT q hq
            ·simp [Za] at hq
           ·rw [Zf] at hr'
            split at hr'
            ·cases hr'
            ·exact hL.box r' cs' hr'
         | _ => simpa using same
        | _ => simpa using same
       | _ => simpa using same
      | none => simpa using same
     | _ => simpa using same
    | _ => simpa using same
  | _ => simpa using same
theorem Zab:∀ (l:List Pro) (n:Nat) {lim:Nat → Nat} {σ:QM} {st:St},n + l.length ≤ ZD → QC G σ lim st tmps w → ∃ σ' lim',QC G σ' lim' (Zbd n l st) tmps w
 | [],n,lim,σ,st,_,h => ⟨σ,lim,h⟩
 | p :: l,n,lim,σ,st,hn,h => by
  simp only [JG] at hn
  obtain ⟨env',u,e1,e2,e3,e4⟩:=Zf0 h.2 (show n < ZD by omega) p
  obtain ⟨σ1,lim1,h1⟩:=ZdN h.1 n p
  rw [e2] at h1
  have h2:=QC.of_put h1 e3 e4
  rw [← e1] at h2
  exact Zab l (n + 1) (by omega) h2
theorem Za4 {m:List (Nat × Nat)} {r n:Nat} (h:fwd m r = some n):(r,n) ∈ m:=by
 induction m with
 | nil => simp [fwd] at h
 | cons p m ih =>
  obtain ⟨a,b⟩:=p
  simp only [fwd] at h
  cases hb:Ja a r with
  | true => simp_all
  | false => rw [hb] at h; simp at h; simp [ih h]
theorem Zfa {m:List (Nat × Nat)} {r n:Nat} (hn:(m.map (·.2)).Nodup) (h:(r,n) ∈ m):bwd m n = some r:=by
 induction m with
 | nil => simp at h
 | cons p m ih =>
  obtain ⟨a,b⟩:=p
  simp only [JS,J4] at hn
  simp only [bwd]
  rcases VN.1 h with e | h
  ·cases e; simp [WJ]
  ·have:b ≠ n:=by grind
   rw [Zc this]; exact ih hn.2 h
theorem XW:∀ {l:List Nat},KB l = true → l.Nodup
 | [],_ => by simp
 | a :: l,h => by
  simp only [KB,Jh,J8,Ul] at h
  refine J4.2 ⟨fun hm => h.1 a hm (WJ a),XW h.2⟩
theorem Znl {m:List (Nat × Nat)} (hn:(m.map (·.1)).Nodup) {a b c:Nat} (h:(a,b) ∈ m) (k:(a,c) ∈ m):b = c:=by
 induction m with
 | nil => simp at h
 | cons p m ih =>
  grind
theorem Ww {m:List (Nat × Nat)} {T:ZF}:∀ {l:List (Nat × Nat)} {n:Nat},(l.map (·.2)).Nodup → (∀ a,(a,n) ∈ l → Z1 (K3 m T l) n = Q1 m (T a)) ∧ ((∀ a,(a,n) ∉ l) → Z1 (K3 m T l) n = .fresh)
 | [],n,_ => by simp [K3,Z1]
 | (a,b) :: l,n,hn => by
  simp only [JS,J4] at hn
  obtain ⟨h1,h2⟩:=Ww (m:=m) (T:=T) (n:=n) hn.2
  simp only [K3,Z1]
  constructor
  ·intro c hc
   rcases VN.1 hc with e | hm
   ·cases e; rw [WJ]; rfl
   ·have:n ≠ b:=by grind
    rw [Zc this.symm]; exact h1 c hm
  ·intro hc
   have:n ≠ b:=by rintro rfl; exact hc a (by simp)
   rw [Zc this.symm]; simp_all
mutual
theorem Zf3 {m:List (Nat × Nat)}:(x:AV) → ∀ n ∈ Za (Ya m x),∃ r ∈ Za x,fwd m r = some n
 | .own r,n,hn => by
  simp only [Ya] at hn
  split at hn
  ·rename_i k hk; simp [Za] at hn ⊢; rw [hn]; exact hk
  ·simp [Za] at hn
 | .bx r _,n,hn => by
  simp only [Ya] at hn
  split at hn
  ·rename_i k hk; simp [Za] at hn ⊢; rw [hn]; exact hk
  ·simp [Za] at hn
 | .el r _ _ _,n,hn => by
  simp only [Ya] at hn
  split at hn
  ·rename_i k hk; simp [Za] at hn ⊢; rw [hn]; exact hk
  ·simp [Za] at hn
 | .sub r _ _ _,n,hn => by
  simp only [Ya] at hn
  split at hn
  ·rename_i k hk; simp [Za] at hn ⊢; rw [hn]; exact hk
  ·simp [Za] at hn
 | .me r _,n,hn => by
  simp only [Ya] at hn
  split at hn
  ·rename_i k hk; simp [Za] at hn ⊢; rw [hn]; exact hk
  ·simp [Za] at hn
 | .agg cs,n,hn => by simp only [Ya,Za] at hn ⊢; exact Yt cs n hn
 | .tup cs,n,hn => by simp only [Ya,Za] at hn ⊢; exact Yt cs n hn
 | .clo _ cs,n,hn => by simp only [Ya,Za] at hn ⊢; exact Yt cs n hn
 | .dead,n,hn => by simp [Ya,Za] at hn
 | .val p,n,hn => by simp [Ya,Za] at hn
 | .sp ps,n,hn => by simp [Ya,Za] at hn
 | .fn f,n,hn => by simp [Ya,Za] at hn
 | .ns t xs,n,hn => by simp [Ya,Za] at hn
 | .vp t xs,n,hn => by simp [Ya,Za] at hn
theorem Yt {m:List (Nat × Nat)}:(l:List AV) → ∀ n ∈ Zd (Zbg m l),∃ r ∈ Zd l,fwd m r = some n
 | [],n,hn => by simp [Zbg,Zd] at hn
 | x :: l,n,hn => by
  simp only [Zbg,Zd,Jt] at hn ⊢
  rcases hn with hn | hn
  ·obtain ⟨r,h1,h2⟩:=Zf3 x n hn; exact ⟨r,.inl h1,h2⟩
  ·obtain ⟨r,h1,h2⟩:=Yt l n hn; exact ⟨r,.inr h1,h2⟩
end
mutual
theorem ZmF {m:List (Nat × Nat)} {σ':QM} (hσ:∀ r n,fwd m r = some n → σ' n = σ r):(x:AV) → (v:Value) → RA σ w lim x v → RA σ' w lim (Ya m x) v
 | .own r,v,h => by
  simp only [Ya]
  split
  ·rename_i k hk; simp only [RA] at h ⊢; rw [hσ _ _ hk]; exact h
  ·simp [RA]
 | .bx r _,v,h => by
  simp only [Ya]
  split
  ·rename_i k hk; simp only [RA] at h ⊢; rw [hσ _ _ hk]; exact h
  ·simp [RA]
 | .el r _ _ _,v,h => by
  simp only [Ya]
  split
  ·rename_i k hk; simp only [RA] at h ⊢; rw [hσ _ _ hk]; exact h
  ·simp [RA]
 | .sub r _ _ _,v,h => by
  simp only [Ya]
  split
  ·rename_i k hk; simp only [RA] at h ⊢; rw [hσ _ _ hk]; exact h
  ·simp [RA]
 | .me r _,v,h => by
  simp only [Ya]
  split
  ·rename_i k hk; simp only [RA] at h ⊢; rw [hσ _ _ hk]; exact h
  ·simp [RA]
 | .agg cs,v,h => by simp only [Ya,RA] at h ⊢; obtain ⟨vs,e,h⟩:=h; exact ⟨vs,e,Zbh hσ cs vs h⟩
 | .tup cs,v,h => by simp only [Ya,RA] at h ⊢; obtain ⟨vs,e,h⟩:=h; exact ⟨vs,e,Zbh hσ cs vs h⟩
 | .clo _ cs,v,h => by simp only [Ya,RA] at h ⊢; obtain ⟨vs,e,h⟩:=h; exact ⟨vs,e,Zbh hσ cs vs h⟩
 | .dead,v,h => by simp [Ya,RA]
 | .val p,v,h => by simpa only [Ya,RA] using h
 | .sp ps,v,h => by simpa only [Ya,RA] using h
 | .fn f,v,h => by simpa only [Ya,RA] using h
 | .ns t xs,v,h => by simpa only [Ya,RA] using h
 | .vp t xs,v,h => by simpa only [Ya,RA] using h
theorem Zbh {m:List (Nat × Nat)} {σ':QM} (hσ:∀ r n,fwd m r = some n → σ' n = σ r):(l:List AV) → (vs:List Value) → ZA σ w lim l vs → ZA σ' w lim (Zbg m l) vs
 | [],[],h => by simp [Zbg,ZA]
 | [],_ :: _,h => by simp [ZA] at h
 | x :: l,[],h => by simp [ZA] at h
 | x :: l,v :: vs,h => by simp only [Zbg,ZA] at h ⊢; exact ⟨ZmF hσ x v h.1,Zbh hσ l vs h.2⟩
end
theorem YI {m:List (Nat × Nat)} {e:Nat → AV} {s:Nat}:∀ (l:List Nat),Ql (ZbP m (pick l e)) s = .dead ∨ Ql (ZbP m (pick l e)) s = Ya m (e s)
 | [] => .inl rfl
 | a :: l => by
  simp only [pick,ZbP,Ql]
  cases hb:Ja s a with
  | true => rw [ZC hb]; exact .inr rfl
  | false => exact YI l
theorem Zf4 (h:RelW G σ lim st tmps w) {m:List (Nat × Nat)} (h1:(m.map (·.1)).Nodup) (h2:(m.map (·.2)).Nodup) (hp:∀ p ∈ G.pins,fwd m p.1 = some p.1)
  (hN:∀ r n (t:Ty) (xss:List (List t.den)) o,(r,n) ∈ m → st.tbl r = .live (.nest t xss o) → ∀ i,i < xss.length → (Wa r i,Wa n i) ∈ m) (live:List Nat) :
  ∃ σ',RelW G σ' lim ⟨Ql (ZbP m (pick live st.env)),Z1 (K3 m st.tbl m)⟩ tmps w:=by
 let σ':QM:=fun n => match bwd m n with | some r => σ r | none => undef
 have hσ:∀ r n,fwd m r = some n → σ' n = σ r:=by
  intro r n hf
  simp only [σ',Zfa h2 (Za4 hf)]
 have hσ':∀ r n,(r,n) ∈ m → σ' n = σ r:=by
  intro r n hm
  simp only [σ',Zfa h2 hm]
 have ht:∀ r n,(r,n) ∈ m → Z1 (K3 m st.tbl m) n = Q1 m (st.tbl r):=fun r n hm => (Ww h2).1 r hm
 have hlive:∀ n,Z1 (K3 m st.tbl m) n ≠ .fresh → ∃ r,(r,n) ∈ m ∧ Z1 (K3 m st.tbl m) n = Q1 m (st.tbl r):=by
  intro n hn
  by_cases hex:∃ r,(r,n) ∈ m
  ·grind
  ·exact absurd ((Ww h2).2 fun a ha => hex ⟨a,ha⟩) hn
 have hknown:∀ ids:List Nat,Ze st.tbl ids → ∀ ns:List Nat,(∀ n ∈ ns,∃ r ∈ ids,fwd m r = some n) → Ze (Z1 (K3 m st.tbl m)) ns:=by
  intro ids hk ns hn n hin
  obtain ⟨r,hr,hf⟩:=hn n hin
  rw [ht r n (Za4 hf)]
  have:=hk r hr
  cases hx:st.tbl r with
  | fresh => exact absurd hx this
  | gone => simp [Q1]
  | live x => cases x <;> simp [Q1]
 have hl2:∀ x,Zw (Q1 m x) = Zw x:=by intro x; cases x with | live y => cases y <;> rfl | _ => rfl
 have hliv:∀ n,Zw (Z1 (K3 m st.tbl m) n) = true → ∃ r,(r,n) ∈ m ∧ Zw (st.tbl r) = true:=by
  intro n hn
  obtain ⟨r,h3,h4⟩:=hlive n (by intro e; rw [e] at hn; cases hn)
  grind
 refine ⟨σ',{ h with env := ?_,known := ?_,res := ?_,inj := ?_,own := ?_,pin := ?_ }⟩
 ·intro s
  rcases YI (m:=m) (e:=st.env) (s:=s) live with e | e
  ·simp only [e,RA]
  ·simp only [e]; exact ZmF hσ _ _ (h.env s)
 ·intro s
  rcases YI (m:=m) (e:=st.env) (s:=s) live with e | e
  ·simp [e,Za,Ze]
  ·simp only [e]; exact hknown _ (h.known s) _ (Zf3 _)
 ·intro n x hx
  simp only at hx ⊢
  obtain ⟨r,h3,h4⟩:=hlive n (by rw [hx]; simp)
  rw [h4] at hx
  cases hy:st.tbl r with
  | fresh => rw [hy] at hx; simp [Q1] at hx
  | gone => rw [hy] at hx; simp [Q1] at hx
  | live y =>
   obtain ⟨q1,q2⟩:=h.res r y hy
   rw [hy] at hx
   cases y with
   | box cs =>
    simp only [Q1,RS.live.injEq] at hx; subst hx
    simp only [RR] at q1 ⊢
    obtain ⟨b,vs,T,e1,e2,e3,e4⟩:=q1
    exact ⟨⟨b,vs,T,by rw [hσ' r n h3]; exact e1,e2,Zbh hσ _ _ e3,e4⟩,hknown _ q2 _ (by simp only [ZL]; exact Yt cs)⟩
   | arr t xs sh =>
    simp only [Q1,RS.live.injEq] at hx; subst hx
    refine ⟨?_,by simp [ZL,Ze]⟩
    simp only [RR] at q1 ⊢
    rw [hσ' r n h3]; exact q1
   | nest t xss o =>
    simp only [Q1,RS.live.injEq] at hx; subst hx
    have hN:=hN r n t xss o h3 hy
    refine ⟨?_,fun q hq => ?_⟩
    ·simp only [RR] at q1 ⊢
     obtain ⟨h0,b,off,cap,vs,U,fz,s1,s2,s3,s4,s5,s6,s7⟩:=q1
     exact ⟨h0,b,off,cap,vs,U,fz,by rw [hσ' r n h3]; exact s1,s2,s3,s4,s5,fun i hi ho => by grind,s7⟩
    ·obtain ⟨i,hi,ho,rfl⟩:=Qo.1 hq
     rw [ht _ _ (hN i hi)]
     have:=q2 _ (Qo.2 ⟨i,hi,ho,rfl⟩)
     cases hx:st.tbl (Wa r i) with
     | fresh => exact absurd hx this
     | gone => simp [Q1]
     | live x => cases x <;> simp [Q1]
 ·intro n n' b l1 l2 b1 b2
  obtain ⟨r,m1,k1⟩:=hliv n l1
  obtain ⟨r',m2,k2⟩:=hliv n' l2
  rw [hσ' r n m1] at b1
  rw [hσ' r' n' m2] at b2
  have:=h.inj r r' b k1 k2 b1 b2
  subst this
  exact Znl h1 m1 m2
 ·intro n b l1 b1
  obtain ⟨r,m1,k1⟩:=hliv n l1
  rw [hσ' r n m1] at b1
  exact h.own r b k1 b1
 ·intro p hpp
  obtain ⟨e1,e2⟩:=h.pin p hpp
  refine ⟨by rw [hσ _ _ (hp p hpp)]; exact e1,?_⟩
  simp only
  rw [ht _ _ (Za4 (hp p hpp))]
  cases hx:st.tbl p.1 with
  | fresh => exact absurd hx e2
  | gone => simp [Q1]
  | live x => cases x <;> simp [Q1]
def ZhW (T:ZF) (a b:Nat):List (Nat × Nat):=match T a with
 | .live (.nest _ xss _) => (Jc xss.length).map fun i => (Wa a i,Wa b i)
 | _ => []
def hids (T:ZF):List (Nat × Nat) → List (Nat × Nat)
 | [] => []
 | (a,b) :: m => ZhW T a b ++ hids T m
theorem WT {T:ZF} {a b:Nat} {p:Nat × Nat}:p ∈ ZhW T a b ↔ ∃ (t:Ty) (xss:List (List t.den)) (o:Option Nat) (i:Nat),T a = .live (.nest t xss o) ∧ i < xss.length ∧ p = (Wa a i,Wa b i):=by
 unfold ZhW
 grind
theorem Xj {T:ZF} {p:Nat × Nat}:∀ {m:List (Nat × Nat)},p ∈ hids T m ↔ ∃ a b,(a,b) ∈ m ∧ p ∈ ZhW T a b
 | [] => by simp [hids]
 | (a,b) :: m => by
  grind [hids,Xj (m:=m),Prod.mk.injEq]
theorem ZhX {T:ZF} {a b:Nat}:((ZhW T a b).map (·.1)).Nodup ∧ ((ZhW T a b).map (·.2)).Nodup:=by
 unfold ZhW
 split
 ·simp only [V0]
  constructor
  ·refine Ux.2 (Uv.imp fun hne => ?_)
   exact ZbD hne
  ·refine Ux.2 (Uv.imp fun hne => ?_)
   exact ZbD hne
 ·simp
theorem Zdq {T:ZF}:∀ {m:List (Nat × Nat)},(m.map (·.1)).Nodup → (m.map (·.2)).Nodup → (∀ p ∈ m,p.1 < ZD ∧ p.2 < ZD) → ((hids T m).map (·.1)).Nodup ∧ ((hids T m).map (·.2)).Nodup
 | [],_,_,_ => by simp [hids]
 | (a,b) :: m,h1,h2,h3 => by
  simp only [JS,J4] at h1 h2
  obtain ⟨i1,i2⟩:=Zdq (T:=T) h1.2 h2.2 (fun p hp => h3 p (Jo _ hp))
  obtain ⟨j1,j2⟩:=ZhX (T:=T) (a:=a) (b:=b)
  have hab:=h3 (a,b) (Jm ..)
  simp only [hids,List.map_append,VR]
  refine ⟨⟨j1,i1,?_⟩,⟨j2,i2,?_⟩⟩
  ·intro x hx y hy e
   subst e
   obtain ⟨p,hp,rfl⟩:=VH.1 hx
   obtain ⟨q,hq,e⟩:=VH.1 hy
   obtain ⟨t,xss,o,i,_,_,rfl⟩:=WT.1 hp
   obtain ⟨c,d,hcd,hq⟩:=Xj.1 hq
   obtain ⟨t',xss',o',i',_,_,rfl⟩:=WT.1 hq
   have:=(Xt (h3 (c,d) (Jo _ hcd)).1 hab.1 e).1
   simp_all
  ·intro x hx y hy e
   subst e
   obtain ⟨p,hp,rfl⟩:=VH.1 hx
   obtain ⟨q,hq,e⟩:=VH.1 hy
   obtain ⟨t,xss,o,i,_,_,rfl⟩:=WT.1 hp
   obtain ⟨c,d,hcd,hq⟩:=Xj.1 hq
   obtain ⟨t',xss',o',i',_,_,rfl⟩:=WT.1 hq
   have:=(Xt (h3 (c,d) (Jo _ hcd)).2 hab.2 e).1
   simp_all
theorem ZhV {m h:List (Nat × Nat)} {r:Nat} (hh:∀ p ∈ h,p.1 ≠ r):fwd (m ++ h) r = fwd m r:=by
 induction m with
 | nil =>
  induction h with
  | nil => rfl
  | cons p h ih =>
   obtain ⟨a,b⟩:=p
   simp only [VU,fwd]
   rw [Zc (hh (a,b) (Jm ..))]
   exact ih fun q hq => hh q (Jo _ hq)
 | cons p m ih =>
  simp_all [J2,fwd,ih]
mutual
theorem ZeS {m m':List (Nat × Nat)}:(x:AV) → (∀ r ∈ Za x,fwd m' r = fwd m r) → Ya m' x = Ya m x
 | .own r,h => by simp only [Ya,h r (by simp [Za])]
 | .bx r _,h => by simp only [Ya,h r (by simp [Za])]
 | .el r _ _ _,h => by simp only [Ya,h r (by simp [Za])]
 | .sub r _ _ _,h => by simp only [Ya,h r (by simp [Za])]
 | .me r _,h => by simp only [Ya,h r (by simp [Za])]
 | .agg cs,h => by simp only [Ya]; rw [XK cs (by simpa [Za] using h)]
 | .tup cs,h => by simp only [Ya]; rw [XK cs (by simpa [Za] using h)]
 | .clo _ cs,h => by simp only [Ya]; rw [XK cs (by simpa [Za] using h)]
 | .dead,_ => rfl
 | .val _,_ => rfl
 | .sp _,_ => rfl
 | .ns _ _,_ => rfl
 | .vp _ _,_ => rfl
 | .fn _,_ => rfl
theorem XK {m m':List (Nat × Nat)}:(l:List AV) → (∀ r ∈ Zd l,fwd m' r = fwd m r) → Zbg m' l = Zbg m l
 | [],_ => rfl
 | x :: l,h => by
  simp only [Zd,Jt] at h
  simp only [Zbg]
  rw [ZeS x (fun r hr => h r (.inl hr)),XK l (fun r hr => h r (.inr hr))]
end
theorem ZdS {m m':List (Nat × Nat)} {e:Nat → AV}:∀ (l:List Nat),(∀ s,∀ r ∈ Za (e s),fwd m' r = fwd m r) → ZbP m' (pick l e) = ZbP m (pick l e)
 | [],_ => rfl
 | s :: l,h => by
  simp only [pick,ZbP]
  rw [ZeS _ (h s),ZdS l h]
theorem ZbQ (h:QC G σ lim st tmps w) {m:List (Nat × Nat)} (h1:(m.map (·.1)).Nodup) (h2:(m.map (·.2)).Nodup) (hlow:∀ p ∈ m,p.1 < ZD ∧ p.2 < ZD) (hp:∀ p ∈ G.pins,fwd m p.1 = some p.1) (live:List Nat) :
  ∃ σ',QC G σ' lim ⟨Ql (ZbP m (pick live st.env)),Z1 (K3 m st.tbl m)⟩ tmps w:=by
 obtain ⟨hR,hL⟩:=h
 obtain ⟨n1,n2⟩:=Zdq (T:=st.tbl) h1 h2 hlow
 have hge:∀ p ∈ hids st.tbl m,ZD ≤ p.1 ∧ ZD ≤ p.2:=by
  intro p hp
  obtain ⟨a,b,_,hp⟩:=Xj.1 hp
  obtain ⟨_,_,_,i,_,_,rfl⟩:=WT.1 hp
  exact ⟨W4 _ _,W4 _ _⟩
 have hf:∀ r,r < ZD → fwd (m ++ hids st.tbl m) r = fwd m r:=by
  intro r hr
  refine ZhV fun p hp => ?_
  have:=(hge p hp).1
  omega
 have N1:((m ++ hids st.tbl m).map (·.1)).Nodup:=by
  grind
 have N2:((m ++ hids st.tbl m).map (·.2)).Nodup:=by
  grind
 obtain ⟨σ',hR'⟩:=Zf4 hR N1 N2 (fun p hpp => by rw [hf _ (hL.pins p hpp)]; exact hp p hpp) (fun r n t xss o hm hr i hi => by
  obtain ⟨hr1,hr2⟩:=Zgy hr
  rcases Jt.1 hm with hm | hm
  ·exact JB _ (Xj.2 ⟨r,n,hm,WT.2 ⟨t,xss,o,i,hr2,hi,rfl⟩⟩)
  grind) live
 have hE:ZbP (m ++ hids st.tbl m) (pick live st.env) = ZbP m (pick live st.env):=ZdS live fun s r hr => hf r (hL.env s r hr)
 have hren:∀ r,Q1 (m ++ hids st.tbl m) (st.tbl r) = Q1 m (st.tbl r):=by
  intro r
  cases hx:st.tbl r with
  | live y =>
   cases y with
   | box cs => simp only [Q1]; rw [XK cs fun q hq => hf q (hL.box r cs hx q hq)]
   | _ => rfl
  | _ => rfl
 have hT:Z1 (K3 (m ++ hids st.tbl m) (Q5 st.tbl) (m ++ hids st.tbl m)) = Q5 (Z1 (K3 m st.tbl m)):=by
  funext n
  obtain ⟨a1,a2⟩:=Ww (m:=m ++ hids st.tbl m) (T:=Q5 st.tbl) (n:=n) N2
  rcases Wt n with hl | ⟨b,i,hb,rfl⟩
  ·rw [ZG hl]
   obtain ⟨b1,b2⟩:=Ww (m:=m) (T:=st.tbl) (n:=n) h2
   by_cases hex:∃ a,(a,n) ∈ m
   ·obtain ⟨a,ha⟩:=hex
    rw [a1 a (JH _ ha),b1 a ha,ZG (hlow _ ha).1,hren]
   grind
  ·rw [Qw hb]
   obtain ⟨b1,b2⟩:=Ww (m:=m) (T:=st.tbl) (n:=b) h2
   have hnone:∀ a,(a,Wa b i) ∉ m:=fun a ha => by have:=(hlow _ ha).2; have:=W4 b i; simp only at *; omega
   by_cases hex:∃ a,(a,b) ∈ m
   ·obtain ⟨a,ha⟩:=hex
    have hal:=(hlow _ ha).1
    simp only at hal
    rw [b1 a ha]
    by_cases hn:∃ (t:Ty) (xss:List (List t.den)) (o:Option Nat),st.tbl a = .live (.nest t xss o) ∧ i < xss.length
    ·obtain ⟨t,xss,o,hn,hi⟩:=hn
     rw [a1 (Wa a i) (JB _ (Xj.2 ⟨a,b,ha,WT.2 ⟨t,xss,o,i,hn,hi,rfl⟩⟩)),Qw hal,hn]
     simp only [Q1,K1,VP hi]
     by_cases ho:o = some i <;> simp [ho]
    ·have e1:K1 i (Q1 m (st.tbl a)) = .fresh:=by
      cases hx:st.tbl a with
      | live y =>
       cases y with
       | nest t xss o =>
        have:¬ i < xss.length:=fun hi => hn ⟨t,xss,o,hx,hi⟩
        simp only [Q1,K1,V8 (by omega:xss.length ≤ i)]
       | _ => rfl
      | _ => rfl
     rw [e1]
     refine a2 fun c hc => ?_
     rcases Jt.1 hc with hc | hc
     ·exact hnone c hc
     ·obtain ⟨a',b',hab,hc⟩:=Xj.1 hc
      obtain ⟨t,xss,o,j,hT',hj,e⟩:=WT.1 hc
      simp only [Prod.mk.injEq] at e
      obtain ⟨e2,e3⟩:=Xt hb (hlow _ hab).2 e.2
      simp only at e2
      subst e2 e3
      have:=Zfa h2 ha
      rw [Zfa h2 hab] at this
      grind
   ·rw [b2 fun a ha => hex ⟨a,ha⟩]
    refine a2 fun c hc => ?_
    rcases Jt.1 hc with hc | hc
    ·exact hnone c hc
    ·obtain ⟨a',b',hab,hc⟩:=Xj.1 hc
     obtain ⟨t,xss,o,j,hT',hj,e⟩:=WT.1 hc
     simp only [Prod.mk.injEq] at e
     obtain ⟨e2,e3⟩:=Xt hb (hlow _ hab).2 e.2
     simp_all
 simp only at hR'
 rw [hE,hT] at hR'
 refine ⟨σ',hR',⟨fun s r hr => ?_,fun r cs hr q hq => ?_,hL.pins⟩⟩
 ·rcases YI (m:=m) (e:=st.env) (s:=s) live with e | e
  ·simp only [e,Za] at hr; cases hr
  ·simp only [e] at hr
   obtain ⟨q,_,hq⟩:=Zf3 _ r hr
   exact (hlow _ (Za4 hq)).2
 ·simp only at hr
  obtain ⟨b1,b2⟩:=Ww (m:=m) (T:=st.tbl) (n:=r) h2
  by_cases hex:∃ a,(a,r) ∈ m
  ·obtain ⟨a,ha⟩:=hex
   rw [b1 a ha] at hr
   cases hx:st.tbl a with
   | fresh => rw [hx] at hr; cases hr
   | gone => rw [hx] at hr; cases hr
   | live y =>
    rw [hx] at hr
    cases y with
    | arr => cases hr
    | nest => cases hr
    | box ds =>
     simp only [Q1] at hr
     cases hr
     obtain ⟨q',_,hq'⟩:=Yt _ q hq
     exact (hlow _ (Za4 hq')).2
  simp_all
theorem ZdH (h:QC G σ lim st tmps w) {kp:List Nat} (hk:∀ p ∈ G.pins,p.1 ∈ kp) {an:Ann} {st':St} (hn:Zej kp an st = some st'):∃ σ' lim',QC G σ' lim' st' tmps w:=by
 simp only [Zej] at hn
 generalize hm:ZfW kp 8192 _ = m at hn
 cases hg:(KB (m.map (·.1)) && KB (m.map (·.2)) && kp.all (stays m) && (K2 (m.map (·.1)) && K2 (m.map (·.2)) && Zh1 (32768 + an.pro.length))) with
 | false => rw [hg] at hn; simp at hn
 | true =>
  rw [hg] at hn
  simp only [cond_true,VG.injEq] at hn
  subst hn
  simp only [Jh,Vg] at hg
  obtain ⟨⟨⟨g1,g2⟩,g3⟩,⟨g4,g5⟩,g6⟩:=hg
  have g6:32768 + an.pro.length < ZD:=by simpa [Zh1,VV] using g6
  obtain ⟨σ1,lim1,h1⟩:=Zab an.pro 32768 (by omega) h
  suffices hS:∃ σ',QC G σ' lim1 ⟨Ql (ZbP m (pick an.live (Zbd 32768 an.pro st).env)),Z1 (K3 m (Zbd 32768 an.pro st).tbl m)⟩ tmps w by
   grind
  refine ZbQ h1 (XW g1) (XW g2) (fun p hp => ⟨Yp g4 _ (VH.2 ⟨p,hp,rfl⟩),Yp g5 _ (VH.2 ⟨p,hp,rfl⟩)⟩) (fun p hp => ?_) an.live
  have:=g3 p.1 (hk p hp)
  unfold stays at this
  split at this
  ·rename_i n hn; rw [hn,ZC this]
  ·cases this
end Go.Sh
