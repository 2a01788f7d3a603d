/-
  What the row needs, part 3.
-/
import Derived.Test.YtfljgkbgnfbhlaaXLeafKeeps2
import Derived.Orders
set_option linter.unusedSimpArgs false
set_option linter.unusedVariables false
set_option linter.unusedSectionVars false
open Array renaming getD_eq_getD_getElem?→VL,ext'→JI,map→VR,getElem?_eq_none→VW,getElem?_toList→VX,all_eq_true_iff_forall_mem→Ud,getElem?_replicate→Ue,length_toList→J5,range→JW
open Bool renaming and_eq_true→Jh,not_eq_true'→J7,or_eq_true→V6,false_eq_true→JJ
open Go.Builtin renaming max_→VY,complex_→Uf,max2→Ug,min_→Uh
open Go.FloatKind renaming f64→Je
open Go.Instr renaming indexAt→Vc,sureAddr→JL,storeAt→Ve,alloc→J8,loadAt→JZ,makeFunc→Ui,makeSlice→Vn
open Int renaming eq_ofNat_of_zero_le→Vp,toNat_natCast→Uj
open Go.IntKind renaming i64→Jx
open List renaming map_cons→JR,cons→J0,map_nil→VE,mem_append→Js,mem_cons_self→Jm,mem_cons_of_mem→Jn,all_eq_true→Vf,mem_map→VG,mem_range→VH,mem_cons→VM,mem_singleton→Vx,nodup_cons→J3,getElem?_eq_getElem→VO,mem_append_left→JG,mem_filter→VP,nodup_append→VQ,range→Jc,append_nil→Vg,getD_eq_getElem?_getD→VS,mem_append_right→JA,nil_append→VT,append_assoc→Ju,cons_append→J1,length_set→JQ,map_map→VZ,mem_of_getElem?→Vw,getElem?_eq_none→V7,length_cons→JF,range'→V8,range_eq_range'→V9,replicate→Jd,any_eq_false→Uk,drop_drop→JE,drop_eq_getElem_cons→Ul,filter_append→Um,filter_congr→Un,filter_cons→Uo,flatten_cons→J2,getElem?_eq_some_iff→Up,getElem?_replicate→Uq,getElem?_set→Vv,length_replicate→Ur,length_singleton→Us,mem_range'_1→Ut,nodup_range→Uu,not_mem_nil→Uv,pairwise_map→Uw,range'_succ→Vz,size_toArray→VA,toList_toArray→JU
open Nat renaming beq→Ja,le_trans→VI,le_refl→Jj,testBit→VJ,lt_or_ge→VN,blt_eq→VU,le_of_ble_eq_true→Jt,mul_one→VV,ble→Jb,lt_of_lt_of_le→V0,add_zero→JH,mul_comm→Ua,zero_add→Ub
open Option renaming some→VF,bind_some→VK,map_some→VD,bind_map→V1,isSome_none→V2,map_eq_some_iff→V3,toList→V4,isSome_iff_exists→VC,isSome_some→Uc,getD_some→Ux
open Go.Value renaming slice→V5,int→Jv
namespace Go.Sh
open Go
variable [Gl]
variable {C:Ctx} {G:Glob} {σ:Qt} {w:World} {lim:Nat → Nat} {st:St} {tmps:Array Value}
def TL (w:World) (lim:Nat → Nat):List Kd → List Value → List RV → List Nat → Prop
 | [],[],[],bs => bs = []
 | .box _ :: ks,v :: vs,x :: rs,bs => ∃ b1 b2,bs = b1 ++ b2 ∧ TT w lim x v b1 ∧ TL w lim ks vs rs b2
 | .view _ :: ks,_ :: vs,rs,bs => TL w lim ks vs rs bs
 | .own _ _ :: ks,_ :: vs,rs,bs => TL w lim ks vs rs bs
 | .agg _ :: ks,_ :: vs,rs,bs => TL w lim ks vs rs bs
 | .tup _ :: ks,_ :: vs,rs,bs => TL w lim ks vs rs bs
 | .fn _ :: ks,_ :: vs,rs,bs => TL w lim ks vs rs bs
 | .use _ :: ks,_ :: vs,rs,bs => TL w lim ks vs rs bs
 | .clo _ _ :: ks,_ :: vs,rs,bs => TL w lim ks vs rs bs
 | .ns _ :: ks,_ :: vs,rs,bs => TL w lim ks vs rs bs
 | .vp _ :: ks,_ :: vs,rs,bs => TL w lim ks vs rs bs
 | .ref _ :: ks,_ :: vs,rs,bs => TL w lim ks vs rs bs
 | .bld _ :: ks,v :: vs,x :: rs,bs => ∃ b1 b2,bs = b1 ++ b2 ∧ TT w lim x v b1 ∧ TL w lim ks vs rs b2
 | _,_,_,_ => False
theorem Zck (a b:List AV):Zc (a ++ b) = Zc a ++ Zc b:=by
 induction a with
 | nil => rfl
 | cons x a ih => simp [Zc,ih]
def ZeO (P:Program) (f:Nat):Prop := ∃ fn,P.funcs[f]? = some fn ∧ (fn.name == "runtime.NumGoroutine") = false ∧ fn.body.isNone = false
def Wm:List Kd → List Value → List Value → Prop
 | .ref _ :: ks,v :: vs,v' :: vs' => v' = v ∧ Wm ks vs vs'
 | _ :: ks,_ :: vs,_ :: vs' => Wm ks vs vs'
 | _,_,_ => True
def Wo (w w':World):List Kd → List Value → Prop
 | .box ks :: l,v :: vs => (∀ b cs T fz cs' T' fz',v = .pointer (some ⟨b,0,none⟩) → w.heap[b]? = some (.cells cs T fz) → w'.heap[b]? = some (.cells cs' T' fz') → Wm ks cs.toList cs'.toList) ∧ Wo w w' l vs
 | _ :: l,_ :: vs => Wo w w' l vs
 | _,_ => True
def ZC (σ:Qt):List Nat → List Kd → List Value → Prop
 | q :: qs,.ref _ :: ks,v :: vs => v = σ q ∧ ZC σ qs ks vs
 | [],_ :: _,_ :: _ => True
 | qs,_ :: ks,_ :: vs => ZC σ qs ks vs
 | _,_,_ => True
def Qs (σ:Qt) (w:World):List (List Nat) → List Kd → List Value → Prop
 | q :: nm,.box ks :: l,v :: vs => (∀ b cs T fz,v = .pointer (some ⟨b,0,none⟩) → w.heap[b]? = some (.cells cs T fz) → ZC σ q ks cs.toList) ∧ Qs σ w nm l vs
 | nm,_ :: l,_ :: vs => Qs σ w nm l vs
 | _,_,_ => True
theorem QR {σ σ':Qt}:(qs:List Nat) → (ks:List Kd) → (vs:List Value) → (∀ q ∈ qs,σ' q = σ q) → ZC σ qs ks vs → ZC σ' qs ks vs
 | [],[],_,_,_ => by simp [ZC]
 | [],_ :: _,[],_,_ => by simp [ZC]
 | [],_ :: _,_ :: _,_,_ => by simp [ZC]
 | _ :: _,[],_,_,_ => by simp [ZC]
 | _ :: _,_ :: _,[],_,_ => by simp [ZC]
 | q :: qs,k :: ks,v :: vs,hq,h => by
  have other:(∀ l,k ≠ .ref l) → ZC σ' (q :: qs) (k :: ks) (v :: vs):=by
   intro hk
   have e1:∀ τ:Qt,ZC τ (q :: qs) (k :: ks) (v :: vs) = ZC τ (q :: qs) ks vs:=by
    intro τ; cases k <;> first | rfl | exact absurd rfl (hk _)
   rw [e1] at h ⊢
   exact QR (q :: qs) ks vs hq h
  cases k with
  | ref l =>
   simp only [ZC] at h ⊢
   exact ⟨h.1.trans (hq q (Jm ..)).symm,QR qs ks vs (fun q' h' => hq q' (Jn _ h')) h.2⟩
  | _ => exact other (by intro l; simp)
structure Ctr (P:Program) (k:Nat) (f:Nat) (cal:Callee):Prop where
 enters:ZeO P f
 calls:∀ rvs x,cal.run k rvs = some x → ∀ (w:World) (lim:Nat → Nat) (vs:List Value) (bs:List Nat),(∀ b,w.heap.size ≤ b → lim b = 0) → Zcb w lim → Y4 w lim rvs vs bs → bs.Nodup →
  (∀ b ∈ bs,b < w.heap.size) → Calls P f vs.toArray w fun e w' => ∃ v lim' b1 b2,e = .returned v ∧ Ext w lim w' lim' ∧ (∀ b,w'.heap.size ≤ b → lim' b = 0) ∧
   (w'.os = w.os ∧ w'.tape = w.tape ∧ w'.output = w.output) ∧ (∀ b,b < w.heap.size → b ∉ bs → w'.heap[b]? = w.heap[b]? ∧ lim' b = lim b) ∧
   TT w' lim' (cal.enc x).1 v b1 ∧ TL w' lim' (Zp cal.pk) (Qy cal.pk vs) (cal.enc x).2 b2 ∧ Wo w w' (Zp cal.pk) (Qy cal.pk vs) ∧ (b1 ++ b2).Nodup ∧ ∀ b ∈ b1 ++ b2,b ∈ bs ∨ w.heap.size ≤ b
def ZT:List (List Nat) → List Kd → List AV → List Nat
 | q :: nm,.box _ :: ks,.bx r 0 :: as => r :: (q ++ ZT nm ks as)
 | nm,.bld _ :: ks,.bx r 0 :: as => r :: ZT nm ks as
 | nm,_ :: ks,_ :: as => ZT nm ks as
 | _,_,_ => []
theorem ZcX:(ks:List Kd) → (as:List AV) → {tbl:ZA} → {l l':List Nat} → {xs:List RV} → {u:Z5} → (takes ks as).run tbl l = some ((xs,u),l') → ks.length = as.length
 | [],[],tbl,l,l',xs,u,hm => rfl
 | k :: ks,a :: as,tbl,l,l',xs,u,hm => by
  simp only [takes] at hm
  obtain ⟨⟨x,u1⟩,l1,h1,h2⟩:=M.run_bind_some hm
  obtain ⟨⟨ys,u2⟩,l2,h3,h4⟩:=M.run_bind_some h2
  simp only [JF,ZcX ks as h3]
 | [],_ :: _,tbl,l,l',xs,u,hm => by simp [takes,M.run] at hm
 | _ :: _,[],tbl,l,l',xs,u,hm => by simp [takes,M.run] at hm
theorem YI {u v:Z5} (h:∀ r,Zk u r ≠ some .fresh) (k:∀ r,Zk v r ≠ some .fresh):∀ r,Zk (u ++ v) r ≠ some .fresh:=by
 intro r
 have h1:=h r
 clear h
 induction u with
 | nil => exact k r
 | cons p u ih =>
  obtain ⟨i,z⟩:=p
  rw [J1,Zb]
  rw [Zb] at h1
  grind
theorem Xe:(qs:List Nat) → (ks:List Kd) → (cs:List RV) → (n:Nat) → n ≤ (Zl n qs ks cs).2.2
 | [],[],cs,n => by simp only [Zl]; exact QB cs n
 | _ :: _,[],cs,n => by simp only [Zl]; exact QB cs n
 | [],_ :: _,[],n => by simp only [Zl]; exact QB [] n
 | _ :: _,_ :: _,[],n => by simp only [Zl]; exact QB [] n
 | [],k :: ks,x :: cs,n => by
  have e:Zl n [] (k :: ks) (x :: cs) = ((put n x).1 :: (Zl (put n x).2.2 [] ks cs).1,(Zl (put n x).2.2 [] ks cs).2.1 ++ (put n x).2.1,(Zl (put n x).2.2 [] ks cs).2.2):=by cases k <;> rfl
  rw [e]
  exact VI (ZbX x n) (Xe [] ks cs _)
 | q :: qs,k :: ks,x :: cs,n => by
  have other:(∀ l,k ≠ .ref l) → n ≤ (Zl n (q :: qs) (k :: ks) (x :: cs)).2.2:=by
   intro hk
   have e:Zl n (q :: qs) (k :: ks) (x :: cs) = ((put n x).1 :: (Zl (put n x).2.2 (q :: qs) ks cs).1,(Zl (put n x).2.2 (q :: qs) ks cs).2.1 ++ (put n x).2.1,(Zl (put n x).2.2 (q :: qs) ks cs).2.2):=by cases k <;> first | rfl | exact absurd rfl (hk _)
   rw [e]
   exact VI (ZbX x n) (Xe (q :: qs) ks cs _)
  cases k with
  | ref l =>
   cases x with
   | box ds => simp only [Zl]; exact VI (QB ds n) (Xe qs ks cs _)
   | _ => simp only [Zl]; exact VI (ZbX _ n) (Xe qs ks cs _)
  | _ => exact other (by intro l; simp)
theorem QJ:(nm:List (List Nat)) → (ks:List Kd) → (as:List AV) → (rs:List RV) → (n:Nat) → {m:Nat} → {ups:Z5} → Zi n nm ks as rs = some (ups,m) → n ≤ m
 | nm,[],[],[],n,m,ups,h => by simp [Zi] at h; omega
 | nm,k :: ks,a :: as,rs,n,m,ups,h => by
  have rest:(∀ l,k ≠ .box l) → (∀ T,k ≠ .bld T) → n ≤ m:=by
   intro hk hk2
   have e1:Zi n nm (k :: ks) (a :: as) rs = Zi n nm ks as rs:=by cases k <;> first | (cases nm <;> rfl) | exact absurd rfl (hk _) | exact absurd rfl (hk2 _)
   rw [e1] at h
   exact QJ nm ks as rs n h
  cases k with
  | box l =>
   cases nm with
   | nil => cases a <;> simp [Zi] at h
   | cons qs nm =>
   cases a with
   | bx r kk =>
    cases kk with
    | succ kk => simp [Zi] at h
    | zero =>
     cases rs with
     | nil => simp [Zi] at h
     | cons x rs =>
      cases x with
      | box cs =>
       simp only [Zi] at h
       cases hg:Zi (Zl n qs l cs).2.2 nm ks as rs with
       | none => simp [hg] at h
       | some q =>
        obtain ⟨v',m'⟩:=q
        simp only [hg,VF.injEq,Prod.mk.injEq] at h
        have h1:=QJ nm ks as rs _ hg
        have h2:=Xe qs l cs n
        omega
      | _ => simp [Zi] at h
   | _ => simp [Zi] at h
  | bld T =>
   cases a with
   | bx r kk =>
    cases kk with
    | succ kk => cases nm <;> simp [Zi] at h
    | zero =>
     cases rs with
     | nil => cases nm <;> simp [Zi] at h
     | cons x rs =>
      cases x with
      | bld q xs =>
       have e:Zi n nm (.bld T :: ks) (.bx r 0 :: as) (.bld q xs :: rs) = match Zi (n + 1) nm ks as rs with
         | some (v,m') => some (v ++ [(r,.live (.box [.me r q,.own n])),(n,.live (.arr (.int .u8) xs false))],m')
         | none => none:=by cases nm <;> rfl
       rw [e] at h
       cases hg:Zi (n + 1) nm ks as rs with
       | none => simp [hg] at h
       | some q =>
        obtain ⟨v',m'⟩:=q
        simp only [hg,VF.injEq,Prod.mk.injEq] at h
        have h1:=QJ nm ks as rs _ hg
        omega
      | _ => cases nm <;> simp [Zi] at h
   | _ => cases nm <;> simp [Zi] at h
  | _ => simp_all
 | nm,[],_ :: _,rs,n,m,ups,h => by cases nm <;> simp [Zi] at h
 | nm,[],[],_ :: _,n,m,ups,h => by cases nm <;> simp [Zi] at h
 | nm,k :: _,[],rs,n,m,ups,h => by cases k <;> cases nm <;> simp [Zi] at h
structure OneR (G:Glob) (σ:Qt) (lim:Nat → Nat) (st:St) (tmps:Array Value) (w:World) (n m:Nat) (R:List Nat) (U:Z5) (bs:List Nat) (σ':Qt):Prop where
 rel:RelW G σ' lim ⟨st.env,st.tbl.put U⟩ tmps w
 old:∀ s,st.tbl s ≠ .fresh → σ' s = σ s
 out:∀ s,(s < n ∨ m ≤ s) → s ∉ R → (st.tbl.put U) s = st.tbl s
 nf:∀ s,Zk U s ≠ some .fresh
 lv:∀ s b,Zt (st.tbl.put U s) = true → QF (σ' s) = some b → (Zt (st.tbl s) = true ∧ QF (σ s) = some b) ∨ b ∈ bs
 le:n ≤ m
theorem PutR.one {n m:Nat} {U:Z5} {bs:List Nat} {σ':Qt} (h:PutR G σ lim st tmps w n m U bs σ') (hn:∀ s,Zk U s ≠ some .fresh):OneR G σ lim st tmps w n m [] U bs σ' :=
 ⟨h.rel,h.old,fun s hs _ => by simp [ZA.put,h.out s hs],hn,h.lv,h.le⟩
theorem OneR.nil (h:RelW G σ lim st tmps w) (n:Nat):OneR G σ lim st tmps w n n [] [] [] σ :=
 ⟨by rw [ZJ]; exact h,fun _ _ => rfl,fun _ _ _ => rfl,fun _ => by simp [Zk],fun s b hl hb => .inl ⟨hl,hb⟩,Jj _⟩
theorem OneR.keep {n m:Nat} {R:List Nat} {U:Z5} {bs:List Nat} {σ':Qt} (hO:OneR G σ lim st tmps w n m R U bs σ'):∀ s,st.tbl s ≠ .fresh → (st.tbl.put U) s ≠ .fresh:=by
 intro s hs hfr
 simp only [ZA.put] at hfr
 cases hls:Zk U s with
 | none => rw [hls] at hfr; exact hs hfr
 | some z => rw [hls] at hfr; simp only at hfr; subst hfr; exact hO.nf s hls
theorem OneR.fb {n m:Nat} {R:List Nat} {U:Z5} {b1 b2:List Nat} {σ':Qt} (hO:OneR G σ lim st tmps w n m R U b1 σ') (hb:FB G σ st (b1 ++ b2)):FB G σ' ⟨st.env,st.tbl.put U⟩ b2:=by
 obtain ⟨hbn,hbm⟩:=hb
 rw [VQ] at hbn
 exact ⟨hbn.2.1,fun b' hb' => ⟨(hbm b' (JA _ hb')).1,fun s hls hbr => by
  rcases hO.lv s b' hls hbr with ⟨h5,h6⟩ | h5
  ·simp_all
  ·exact hbn.2.2 b' h5 b' hb' rfl⟩⟩
theorem FB.left {bs cs:List Nat} (h:FB G σ st (bs ++ cs)):FB G σ st bs:=⟨(VQ.1 h.1).1,fun b hb => h.2 b (JG _ hb)⟩
theorem OneR.gone {n m:Nat} {R:List Nat} {U:Z5} {bs:List Nat} {σ':Qt} (hO:OneR G σ lim st tmps w n m R U bs σ') (hf:∀ j,n ≤ j → j < m → st.tbl j = .fresh) {s:Nat} (hs:st.tbl s = .gone) (hn:s ∉ R):(st.tbl.put U) s = .gone:=by
 have hso:s < n ∨ m ≤ s:=by
  grind
 rw [hO.out s hso hn]; exact hs
theorem OneR.fresh {n m m2:Nat} {R:List Nat} {U:Z5} {bs:List Nat} {σ':Qt} (hO:OneR G σ lim st tmps w n m R U bs σ') (hR:∀ r ∈ R,st.tbl r = .gone) (hf:∀ j,n ≤ j → j < m2 → st.tbl j = .fresh):∀ j,m ≤ j → j < m2 → (st.tbl.put U) j = .fresh:=by
 intro j h5 h6
 have hj:=hf j (VI hO.le h5) h6
 rw [hO.out j (.inr h5) (fun hm => by simp_all)]; exact hj
theorem OneR.comp {n m1 m:Nat} {R R':List Nat} {U V:Z5} {b1 b2:List Nat} {σ1 σ2:Qt} (hO:OneR G σ lim st tmps w n m1 R U b1 σ1) (hQ:OneR G σ1 lim ⟨st.env,st.tbl.put U⟩ tmps w m1 m R' V b2 σ2) :
  OneR G σ lim st tmps w n m (R ++ R') (V ++ U) (b1 ++ b2) σ2:=by
 refine ⟨by rw [ZH]; exact hQ.rel,fun s hs => (hQ.old s (hO.keep s hs)).trans (hO.old s hs),fun s hs hn => ?_,YI hQ.nf hO.nf,fun s b hl hb => ?_,VI hO.le hQ.le⟩
 ·simp only [Js,not_or] at hn
  have h1:=hO.le; have h2:=hQ.le
  rw [ZH]
  have e1:=hQ.out s (by omega) hn.2
  simp only at e1
  rw [e1,hO.out s (by omega) hn.1]
 ·rw [ZH] at hl
  rcases hQ.lv s b hl hb with ⟨h5,h6⟩ | h5
  ·rcases hO.lv s b h5 h6 with h7 | h7
   ·exact .inl h7
   simp_all
  simp_all
theorem Zh9 {cs:List RV} {n r:Nat} {v:Value} {bs:List Nat} (h:RelW G σ lim st tmps w) (ht:TT w lim (.box cs) v bs) (hgone:st.tbl r = .gone) (hvr:σ r = v)
  (hf:∀ j,n ≤ j → j < (Zo n cs).2.2 → st.tbl j = .fresh) (hb:FB G σ st bs) :
  ∃ σ',OneR G σ lim st tmps w n (Zo n cs).2.2 [r] ((r,.live (.box (Zo n cs).1)) :: (Zo n cs).2.1) bs σ':=by
 simp only [TT] at ht
 obtain ⟨b,ws,U,bs1,rfl,g2,g3,g4,rfl⟩:=ht
 obtain ⟨hbn,hbm⟩:=hb
 rw [J3] at hbn
 have hle1:=QB cs n
 obtain ⟨σ1,hP,hA,hK⟩:=QK cs n h g3 hf ⟨hbn.2,fun b' hb' => hbm b' (Jn _ hb')⟩
 have hrn:r < n ∨ (Zo n cs).2.2 ≤ r:=by
  grind
 have hr1:(st.tbl.put (Zo n cs).2.1) r = .gone:=by simp [ZA.put,hP.out r hrn,hgone]
 have hB:=hP.rel.adopt (n:=r) (v:=.pointer (some ⟨b,0,none⟩)) (.inr ⟨hr1,(hP.old r (by rw [hgone]; simp)).trans hvr⟩) (y:=.box (Zo n cs).1) hK (fun hσ => by
  simp only [RR]
  exact ⟨b,ws,U,by simp,g2,Zw.mono (Ext.refl _ _) hσ _ _ hK hA,g4⟩) (fun b' hb' => by
   simp [QF] at hb'; subst hb'
   refine ⟨(hbm b (Jm ..)).1,fun s hls hbr => ?_⟩
   rcases hP.lv s b hls hbr with ⟨h5,h6⟩ | h5
   ·simp_all
   ·exact hbn.1 h5)
 refine ⟨_,⟨by rw [Wj]; exact hB,fun s hs => ?_,fun s hs hne => ?_,fun s => ?_,fun s b' hls hbr => ?_,hle1⟩⟩
 ·by_cases e:s = r
  ·subst e; simp [hvr]
  ·simp [e]; exact hP.old s hs
 ·have hne:s ≠ r:=by simpa using hne
  rw [ZL,if_neg (Ne.symm hne)]
  simp [ZA.put,hP.out s hs]
 ·rw [Zb]; split
  ·simp
  ·exact Qb cs n s
 ·by_cases e:s = r
  ·grind [QF]
  ·simp only [e,if_false] at hbr
   rw [ZL,if_neg (Ne.symm e)] at hls
   rcases hP.lv s b' hls hbr with h5 | h5
   ·exact .inl h5
   simp_all
theorem ZeC:(qs:List Nat) → (ks:List Kd) → (cs:List RV) → (n:Nat) → {σ:Qt} → {st:St} → {vs:List Value} → {bs:List Nat} → RelW G σ lim st tmps w → Y4 w lim cs vs bs → ZC σ qs ks vs → (∀ q ∈ qs,st.tbl q = .gone) → qs.Nodup →
  (∀ j,n ≤ j → j < (Zl n qs ks cs).2.2 → st.tbl j = .fresh) → FB G σ st bs →
  ∃ σ',OneR G σ lim st tmps w n (Zl n qs ks cs).2.2 qs (Zl n qs ks cs).2.1 bs σ' ∧ Zw σ' w lim (Zl n qs ks cs).1 vs ∧ Zd (st.tbl.put (Zl n qs ks cs).2.1) (Zc (Zl n qs ks cs).1):=by
 intro qs ks cs
 -- without kinds: as ever
 have base:∀ (qs:List Nat) (cs:List RV) (n:Nat) {σ:Qt} {st:St} {vs:List Value} {bs:List Nat},RelW G σ lim st tmps w → Y4 w lim cs vs bs → (∀ j,n ≤ j → j < (Zo n cs).2.2 → st.tbl j = .fresh) → FB G σ st bs →
   ∃ σ',OneR G σ lim st tmps w n (Zo n cs).2.2 qs (Zo n cs).2.1 bs σ' ∧ Zw σ' w lim (Zo n cs).1 vs ∧ Zd (st.tbl.put (Zo n cs).2.1) (Zc (Zo n cs).1):=by
  intro qs cs n σ st vs bs h ht hf hb
  obtain ⟨σ1,hP,hA,hK⟩:=QK cs n h ht hf hb
  have hO:=hP.one (Qb cs n)
  exact ⟨σ1,⟨hO.rel,hO.old,fun s hs _ => hO.out s hs (by simp),hO.nf,hO.lv,hO.le⟩,hA,hK⟩
 -- a cell,and the rest
 have Wz:∀ (x:RV) (n:Nat) (qs:List Nat) (ks:List Kd) (cs:List RV),
   (∀ (n:Nat) {σ:Qt} {st:St} {vs:List Value} {bs:List Nat},RelW G σ lim st tmps w → Y4 w lim cs vs bs → ZC σ qs ks vs → (∀ q ∈ qs,st.tbl q = .gone) → qs.Nodup →
    (∀ j,n ≤ j → j < (Zl n qs ks cs).2.2 → st.tbl j = .fresh) → FB G σ st bs →
    ∃ σ',OneR G σ lim st tmps w n (Zl n qs ks cs).2.2 qs (Zl n qs ks cs).2.1 bs σ' ∧ Zw σ' w lim (Zl n qs ks cs).1 vs ∧ Zd (st.tbl.put (Zl n qs ks cs).2.1) (Zc (Zl n qs ks cs).1)) →
   ∀ {σ:Qt} {st:St} {vs:List Value} {bs:List Nat} (v:Value),RelW G σ lim st tmps w → Y4 w lim (x :: cs) (v :: vs) bs → ZC σ qs ks vs → (∀ q ∈ qs,st.tbl q = .gone) → qs.Nodup →
    (∀ j,n ≤ j → j < (Zl (put n x).2.2 qs ks cs).2.2 → st.tbl j = .fresh) → FB G σ st bs →
    ∃ σ',OneR G σ lim st tmps w n (Zl (put n x).2.2 qs ks cs).2.2 qs ((Zl (put n x).2.2 qs ks cs).2.1 ++ (put n x).2.1) bs σ' ∧ Zw σ' w lim ((put n x).1 :: (Zl (put n x).2.2 qs ks cs).1) (v :: vs) ∧
     Zd (st.tbl.put ((Zl (put n x).2.2 qs ks cs).2.1 ++ (put n x).2.1)) (Zc ((put n x).1 :: (Zl (put n x).2.2 qs ks cs).1)):=by
  intro x n qs ks cs ih σ st vs bs v h ht hrv hqg hqn hf hb
  simp only [Y4] at ht
  obtain ⟨b1,b2,rfl,h1,h2⟩:=ht
  have hle:=Xe qs ks cs (put n x).2.2
  obtain ⟨σ1,hP,hA,hK⟩:=Zam x n h h1 (fun j h5 h6 => hf j h5 (by omega)) hb.left
  have hO:=hP.one (YK x n)
  obtain ⟨σ2,hQ,hB,hL⟩:=ih (put n x).2.2 (st:=⟨st.env,st.tbl.put (put n x).2.1⟩) hO.rel h2 (QR _ _ _ (fun q hq => hO.old q (by rw [hqg q hq]; simp)) hrv)
   (fun q hq => hO.gone (fun j h5 h6 => hf j h5 (by omega)) (hqg q hq) (by simp)) hqn (hO.fresh (by simp) hf) (hO.fb hb)
  have hC:=hO.comp hQ
  simp only [VT] at hC
  refine ⟨σ2,hC,?_,?_⟩
  ·simp only [Zw]
   exact ⟨RA.mono (T:=st.tbl.put (put n x).2.1) (Ext.refl _ _) hQ.old _ _ hK hA,hB⟩
  ·rw [ZH]
   intro r hr
   simp only [Zc,Js] at hr
   rcases hr with hr | hr
   ·exact hK.put hQ.nf r hr
   ·exact hL r hr
 induction ks generalizing qs cs with
 | nil =>
  intro n σ st vs bs h ht hrv hqg hqn hf hb
  have e:Zl n qs [] cs = Zo n cs:=by cases qs <;> rfl
  simp_all
 | cons k ks ih =>
  intro n σ st vs bs h ht hrv hqg hqn hf hb
  cases cs with
  | nil =>
   have e:Zl n qs (k :: ks) [] = Zo n []:=by cases qs <;> cases k <;> rfl
   simp_all
  | cons x cs =>
   match vs,ht with
   | [],ht => simp [Y4] at ht
   | v :: vs,ht =>
    cases qs with
    | nil =>
     have e:Zl n [] (k :: ks) (x :: cs) = ((put n x).1 :: (Zl (put n x).2.2 [] ks cs).1,(Zl (put n x).2.2 [] ks cs).2.1 ++ (put n x).2.1,(Zl (put n x).2.2 [] ks cs).2.2):=by cases k <;> rfl
     rw [e] at hf ⊢
     exact Wz x n [] ks cs (ih [] cs) v h ht (by cases ks <;> cases vs <;> simp [ZC]) hqg hqn hf hb
    | cons q qs =>
     have other:(∀ l,k ≠ .ref l) → ∃ σ',OneR G σ lim st tmps w n (Zl n (q :: qs) (k :: ks) (x :: cs)).2.2 (q :: qs) (Zl n (q :: qs) (k :: ks) (x :: cs)).2.1 bs σ' ∧ Zw σ' w lim (Zl n (q :: qs) (k :: ks) (x :: cs)).1 (v :: vs) ∧
       Zd (st.tbl.put (Zl n (q :: qs) (k :: ks) (x :: cs)).2.1) (Zc (Zl n (q :: qs) (k :: ks) (x :: cs)).1):=by
      intro hk
      have e:Zl n (q :: qs) (k :: ks) (x :: cs) = ((put n x).1 :: (Zl (put n x).2.2 (q :: qs) ks cs).1,(Zl (put n x).2.2 (q :: qs) ks cs).2.1 ++ (put n x).2.1,(Zl (put n x).2.2 (q :: qs) ks cs).2.2):=by cases k <;> first | rfl | exact absurd rfl (hk _)
      have e1:ZC σ (q :: qs) (k :: ks) (v :: vs) = ZC σ (q :: qs) ks vs:=by cases k <;> first | rfl | exact absurd rfl (hk _)
      rw [e] at hf ⊢
      rw [e1] at hrv
      exact Wz x n (q :: qs) ks cs (ih (q :: qs) cs) v h ht hrv hqg hqn hf hb
     cases k with
     | ref l =>
      simp only [ZC] at hrv
      rw [J3] at hqn
      have hqs:∀ q' ∈ qs,st.tbl q' = .gone:=fun q' hq' => hqg q' (Jn _ hq')
      have otherx:Zl n (q :: qs) (.ref l :: ks) (x :: cs) = ((put n x).1 :: (Zl (put n x).2.2 qs ks cs).1,(Zl (put n x).2.2 qs ks cs).2.1 ++ (put n x).2.1,(Zl (put n x).2.2 qs ks cs).2.2) →
        ∃ σ',OneR G σ lim st tmps w n (Zl n (q :: qs) (.ref l :: ks) (x :: cs)).2.2 (q :: qs) (Zl n (q :: qs) (.ref l :: ks) (x :: cs)).2.1 bs σ' ∧ Zw σ' w lim (Zl n (q :: qs) (.ref l :: ks) (x :: cs)).1 (v :: vs) ∧
         Zd (st.tbl.put (Zl n (q :: qs) (.ref l :: ks) (x :: cs)).2.1) (Zc (Zl n (q :: qs) (.ref l :: ks) (x :: cs)).1):=by
       intro e
       rw [e] at hf ⊢
       obtain ⟨σ',hO,hA,hK⟩:=Wz x n qs ks cs (ih qs cs) v h ht hrv.2 hqs hqn.2 hf hb
       exact ⟨σ',⟨hO.rel,hO.old,fun s hs hn => hO.out s hs (fun hm => hn (Jn _ hm)),hO.nf,hO.lv,hO.le⟩,hA,hK⟩
      cases x with
      | box ds =>
       simp only [Y4] at ht
       obtain ⟨b1,b2,rfl,h1,h2⟩:=ht
       simp only [Zl] at hf ⊢
       have hle:=Xe qs ks cs (Zo n ds).2.2
       have hqgone:=hqg q (Jm ..)
       obtain ⟨σ1,hO⟩:=Zh9 h h1 hqgone hrv.1.symm (fun j h5 h6 => hf j h5 (by omega)) hb.left
       have hR:∀ r ∈ [q],st.tbl r = .gone:=by simp_all
       obtain ⟨σ2,hQ,hB,hL⟩:=ih qs cs (Zo n ds).2.2 (st:=⟨st.env,st.tbl.put ((q,.live (.box (Zo n ds).1)) :: (Zo n ds).2.1)⟩) hO.rel h2 (QR _ _ _ (fun q' hq' => hO.old q' (by rw [hqs q' hq']; simp)) hrv.2)
        (fun q' hq' => hO.gone (fun j h5 h6 => hf j h5 (by omega)) (hqs q' hq') (by simp; intro e; subst e; exact hqn.1 hq')) hqn.2 (hO.fresh hR hf) (hO.fb hb)
       have hC:=hO.comp hQ
       refine ⟨σ2,hC,?_,?_⟩
       ·simp only [Zw,RA]
        refine ⟨?_,hB⟩
        simp only [TT] at h1
        obtain ⟨b,ws,U,bs1,hv,_⟩:=h1
        have e1:σ2 q = σ q:=hC.old q (by rw [hqgone]; simp)
        grind
       ·intro r hr
        simp only [Zc,Za,Js,Vx] at hr
        rw [ZH]
        rcases hr with rfl | hr
        ·exact hQ.keep r (by simp only; rw [ZL]; simp)
        ·exact hL r hr
      | _ => exact otherx rfl
     | _ => exact other (by intro l; simp)
theorem ZgM {ks0:List Kd} {cs:List RV} {n r:Nat} {qs:List Nat} {v:Value} {bs:List Nat} (h:RelW G σ lim st tmps w) (ht:TT w lim (.box cs) v bs) (hgone:st.tbl r = .gone) (hvr:σ r = v)
  (hq:∀ b ws T fz,v = .pointer (some ⟨b,0,none⟩) → w.heap[b]? = some (.cells ws T fz) → ZC σ qs ks0 ws.toList) (hqg:∀ q ∈ qs,st.tbl q = .gone) (hqn:(r :: qs).Nodup)
  (hf:∀ j,n ≤ j → j < (Zl n qs ks0 cs).2.2 → st.tbl j = .fresh) (hb:FB G σ st bs) :
  ∃ σ',OneR G σ lim st tmps w n (Zl n qs ks0 cs).2.2 (r :: qs) ((r,.live (.box (Zl n qs ks0 cs).1)) :: (Zl n qs ks0 cs).2.1) bs σ':=by
 simp only [TT] at ht
 obtain ⟨b,ws,U,bs1,rfl,g2,g3,g4,rfl⟩:=ht
 have hb':=hb
 obtain ⟨hbn,hbm⟩:=hb
 rw [J3] at hbn hqn
 obtain ⟨σ1,hP,hA,hK⟩:=ZeC qs ks0 cs n h g3 (hq b ws U (0,0) rfl g2) hqg hqn.2 hf ⟨hbn.2,fun b' hb' => hbm b' (Jn _ hb')⟩
 have hr1:(st.tbl.put (Zl n qs ks0 cs).2.1) r = .gone:=hP.gone hf hgone hqn.1
 have hB:=hP.rel.adopt (n:=r) (v:=.pointer (some ⟨b,0,none⟩)) (.inr ⟨hr1,(hP.old r (by rw [hgone]; simp)).trans hvr⟩) (y:=.box (Zl n qs ks0 cs).1) hK (fun hσ => by
  simp only [RR]
  exact ⟨b,ws,U,by simp,g2,Zw.mono (Ext.refl _ _) hσ _ _ hK hA,g4⟩) (fun b' hb' => by
   simp [QF] at hb'; subst hb'
   refine ⟨(hbm b (Jm ..)).1,fun s hls hbr => ?_⟩
   rcases hP.lv s b hls hbr with ⟨h5,h6⟩ | h5
   ·simp_all
   ·exact hbn.1 h5)
 refine ⟨_,⟨by rw [Wj]; exact hB,fun s hs => ?_,fun s hs hne => ?_,fun s => ?_,fun s b' hls hbr => ?_,hP.le⟩⟩
 ·by_cases e:s = r
  ·subst e; simp [hvr]
  ·simp [e]; exact hP.old s hs
 ·simp only [VM,not_or] at hne
  rw [ZL,if_neg (Ne.symm hne.1)]
  exact hP.out s hs hne.2
 ·rw [Zb]; split
  ·simp
  ·exact hP.nf s
 ·by_cases e:s = r
  ·grind [QF]
  ·simp only [e,if_false] at hbr
   rw [ZL,if_neg (Ne.symm e)] at hls
   rcases hP.lv s b' hls hbr with h5 | h5
   ·exact .inl h5
   simp_all
theorem Zim {T:ZA} {n r:Nat} {x x' y:RS}:((T.put [(n,y)]).put [(r,x')]).put [(r,x)] = T.put [(r,x),(n,y)]:=by
 funext s
 simp only [Ze,ZA.put,Zb]
 by_cases h1:r = s
 ·simp [h1]
 ·by_cases h2:n = s
  ·simp [h1,h2,Zk]
  ·simp [h1,h2,Zk]
theorem Zh8 {n r:Nat} {U:TypeId} {xs:List Int} {v:Value} {bs:List Nat} (h:RelW G σ lim st tmps w) (ht:TT w lim (.bld U xs) v bs) (hgone:st.tbl r = .gone) (hvr:σ r = v)
  (hn:st.tbl n = .fresh) (hb:FB G σ st bs) :
  ∃ σ',OneR G σ lim st tmps w n (n + 1) [r] [(r,.live (.box [AV.me r U,.own n])),(n,.live (.arr (.int .u8) xs false))] bs σ':=by
 simp only [TT] at ht
 obtain ⟨b,x,y,bs1,rfl,h2,h3,h4,h5,rfl⟩:=ht
 obtain ⟨hbn,hbm⟩:=hb
 rw [J3] at hbn
 have hnr:n ≠ r:=by grind
 have hmem:∀ b',QF y = some b' → b' ∈ bs1:=by
  intro b' hbv
  rcases h4.2 with ⟨_,rfl,rfl⟩ | ⟨c,off,cap,vs,T,fz,rfl,_,_,_,_,_,_,rfl⟩
  ·simp [QF] at hbv
  ·simp [QF] at hbv; subst hbv; simp
 have hval:RA (fun s => if s = n then y else σ s) w lim (.own n) y:=by
  simp only [RA]
  rcases h4.2 with ⟨_,rfl,_⟩ | ⟨c,off,cap,vs,T,fz,rfl,_⟩
  ·exact ⟨by simp,_,_,_,rfl⟩
  ·exact ⟨by simp,_,_,_,rfl⟩
 have R1:=h.adopt (n:=n) (v:=y) (.inl hn) (y:=.arr (.int .u8) xs false) (by intro s hs; cases hs) (fun hσ => by
  simp only [RR]
  refine ⟨h4.1,?_⟩
  rcases h4.2 with ⟨e1,rfl,_⟩ | ⟨c,off,cap,vs,T,fz,rfl,e2,e3,e4,e5,e6,e7,_⟩
  ·exact .inl ⟨e1,by simp⟩
  ·exact .inr ⟨c,off,cap,vs,T,fz,by simp,e2,e3,e4,e5,e6,e7⟩) (fun b' hbv => hbm b' (Jn _ (hmem b' hbv)))
 have hg1:(st.tbl.put [(n,.live (.arr (.int .u8) xs false))]) r = .gone:=by rw [Ze,if_neg hnr]; exact hgone
 have hk1:Zd (st.tbl.put [(n,.live (.arr (.int .u8) xs false))]) (Za (.own n)):=Z0 (y:=.arr (.int .u8) xs false) (by rw [ZL]; simp)
 have R2:=R1.adopt (n:=r) (v:=.pointer (some ⟨b,0,none⟩)) (.inr ⟨hg1,by simp only [if_neg hnr.symm]; exact hvr⟩) (y:=.box [.dead,.own n]) (by
   grind [ZF,Zc,Za]) (fun hσ => by
  simp_all [RR,Zw,and_true,RA]) (fun b' hb' => by
   simp [QF] at hb'; subst hb'
   refine ⟨(hbm b (Jm ..)).1,fun s hl hbr => ?_⟩
   simp only at hl
   rw [Ze] at hl
   grind)
 simp only at R2
 have hr2:((st.tbl.put [(n,.live (.arr (.int .u8) xs false))]).put [(r,.live (.box [.dead,.own n]))]) r = .live (.box [.dead,.own n]):=by rw [Ze]; simp
 obtain ⟨q1,q2⟩:=R2.res r _ hr2
 have R3:=R2.reword (r:=r) (y:=.box [AV.me r U,.own n]) hr2 (by
   intro s hs
   simp only [ZF,Zc,Vg,Js] at hs
   rcases hs with hs | hs
   ·rw [Zie s hs]; simp only; rw [hr2]; simp
   ·exact q2 s (by grind [ZF,Zc,Za])) (by
   simp only [RR] at q1 ⊢
   obtain ⟨b',vs,T,e1,e2,e3,e4⟩:=q1
   have hbb:b' = b:=by simp at e1; exact e1.symm
   subst hbb
   rw [h2] at e2
   obtain ⟨rfl,rfl⟩ : #[x,y] = vs ∧ U = T:=by simpa using e2
   simp only [Zw,and_true] at e3
   refine ⟨b',#[x,y],U,by simp,h2,?_,e4⟩
   simp only [Zw,and_true]
   exact ⟨ZjI h3 (by simp) (by simp [ZS,h2]),e3.2⟩)
 simp only at R3
 rw [Zim] at R3
 refine ⟨_,⟨R3,fun s hs => ?_,fun s hs hne => ?_,fun s => ?_,fun s b' hl hbr => ?_,by omega⟩⟩
 ·grind
 ·have hne:s ≠ r:=by simpa using hne
  simp only [ZA.put,Zb]; rw [if_neg (fun e => hne e.symm),if_neg (fun e => by omega)]; rfl
 ·grind [Zk]
 ·by_cases e1:s = r
  ·grind [QF]
  ·by_cases e2:s = n
   ·simp_all
   ·simp only [e1,e2,if_false] at hbr
    have:(st.tbl.put [(r,.live (.box [AV.me r U,.own n])),(n,.live (.arr (.int .u8) xs false))]) s = st.tbl s:=by
     simp only [ZA.put,Zb]; rw [if_neg (fun e => e1 e.symm),if_neg (fun e => e2 e.symm)]; rfl
    simp_all
theorem W6 {σ σ':Qt}:(nm:List (List Nat)) → (ks:List Kd) → (vs:List Value) → (∀ q ∈ nm.flatten,σ' q = σ q) → Qs σ w nm ks vs → Qs σ' w nm ks vs
 | nm,[],vs,_,_ => by cases nm <;> simp [Qs]
 | nm,_ :: _,[],_,_ => by cases nm <;> simp [Qs]
 | [],k :: ks,v :: vs,hq,h => by
  have e:∀ τ:Qt,Qs τ w [] (k :: ks) (v :: vs) = Qs τ w [] ks vs:=by intro τ; cases k <;> rfl
  rw [e] at h ⊢
  exact W6 [] ks vs hq h
 | q :: nm,k :: ks,v :: vs,hq,h => by
  have other:(∀ l,k ≠ .box l) → Qs σ' w (q :: nm) (k :: ks) (v :: vs):=by
   intro hk
   have e:∀ τ:Qt,Qs τ w (q :: nm) (k :: ks) (v :: vs) = Qs τ w (q :: nm) ks vs:=by intro τ; cases k <;> first | rfl | exact absurd rfl (hk _)
   rw [e] at h ⊢
   exact W6 (q :: nm) ks vs hq h
  cases k with
  | box l =>
   simp only [Qs] at h ⊢
   refine ⟨fun b cs T fz h1 h2 => QR _ _ _ (fun q' hq' => hq q' (by simp [hq'])) (h.1 b cs T fz h1 h2),W6 nm ks vs (fun q' hq' => hq q' (by
    simp_all)) h.2⟩
  | _ => exact other (by intro l; simp)
theorem W9 : (nm : List (List Nat)) → (ks : List Kd) → (as : List AV) → (rs : List RV) → (n : Nat) → {m : Nat} → {ups : Z5} → {σ : Qt} → {st : St} → {vs : List Value} → {bs : List Nat} → Zi n nm ks as rs = some (ups, m) →
    RelW G σ lim st tmps w → TL w lim ks vs rs bs → Qs σ w nm ks vs → (∀ (i r : Nat) (v : Value), as[i]? = some (AV.bx r 0) → vs[i]? = some v → σ r = v ∧ st.tbl r ≠ .fresh) → (∀ r ∈ ZT nm ks as, st.tbl r = .gone) → (∀ q ∈ nm.flatten, st.tbl q ≠ .fresh) → (ZT nm ks as).Nodup → (∀ j, n ≤ j → j < m → st.tbl j = .fresh) → FB G σ st bs →
    ∃ σ', RelW G σ' lim ⟨st.env, st.tbl.put ups⟩ tmps w ∧ (∀ r, st.tbl r ≠ .fresh → σ' r = σ r) ∧ (∀ r, Zk ups r ≠ some .fresh) ∧ n ≤ m
  | nm, [], [], [], n, m, ups, σ, st, vs, bs, hm, h, ht, hrv, hv, hl, hq, hn, hf, hb => by
    simp [Zi] at hm
    obtain ⟨rfl, rfl⟩ := hm
    exact ⟨σ, by rw [ZJ]; exact h, fun _ _ => rfl, by simp [Zk], Jj _⟩
  | nm, k :: ks, a :: as, rs, n, m, ups, σ, st, vs, bs, hm, h, ht, hrv, hv, hl, hq, hn, hf, hb => by
    match vs, ht with
    | [], ht => cases k <;> simp [TL] at ht
    | v :: vs, ht =>
      have rest : ∀ (hk : ∀ l, k ≠ .box l) (hk2 : ∀ T, k ≠ .bld T), ∃ σ', RelW G σ' lim ⟨st.env, st.tbl.put ups⟩ tmps w ∧ (∀ r, st.tbl r ≠ .fresh → σ' r = σ r) ∧ (∀ r, Zk ups r ≠ some .fresh) ∧ n ≤ m := by
        intro hk hk2
        have e1 : Zi n nm (k :: ks) (a :: as) rs = Zi n nm ks as rs := by cases k <;> first | (cases nm <;> rfl) | exact absurd rfl (hk _) | exact absurd rfl (hk2 _)
        have e2 : TL w lim ks vs rs bs := by cases k <;> first | exact ht | exact absurd rfl (hk _) | exact absurd rfl (hk2 _)
        have e3 : ZT nm (k :: ks) (a :: as) = ZT nm ks as := by cases k <;> first | (cases nm <;> rfl) | exact absurd rfl (hk _) | exact absurd rfl (hk2 _)
        have e4 : Qs σ w nm ks vs := by cases k <;> first | (cases nm <;> exact hrv) | exact absurd rfl (hk _)
        rw [e1] at hm
        rw [e3] at hl hn
        exact W9 nm ks as rs n hm h e2 e4 (fun i r v h1 h2 => hv (i + 1) r v (by simpa using h1) (by simpa using h2)) hl hq hn hf hb
      -- one box, and the rest
      have more : ∀ (nm' : List (List Nat)) (rs' : List RV) (R : List Nat) (m1 m' : Nat) (U v' : Z5) (b1 b2 : List Nat) (σ1 : Qt), OneR G σ lim st tmps w n m1 R U b1 σ1 → Zi m1 nm' ks as rs' = some (v', m') → ups = v' ++ U → m = m' → bs = b1 ++ b2 →
          TL w lim ks vs rs' b2 → Qs σ w nm' ks vs → (∀ q ∈ nm'.flatten, st.tbl q ≠ .fresh) → ZT nm (k :: ks) (a :: as) = R ++ ZT nm' ks as →
          ∃ σ', RelW G σ' lim ⟨st.env, st.tbl.put ups⟩ tmps w ∧ (∀ r, st.tbl r ≠ .fresh → σ' r = σ r) ∧ (∀ r, Zk ups r ≠ some .fresh) ∧ n ≤ m := by
        intro nm' rs' R m1 m' U v' b1 b2 σ1 hO hg hups hmm hbs ht2 hrv2 hq2 hids
        subst hups hmm hbs
        rw [hids] at hl hn
        rw [VQ] at hn
        have hR : ∀ r ∈ R, st.tbl r = .gone := fun r hr => hl r (JG _ hr)
        have hle2 : m1 ≤ m := QJ nm' ks as rs' _ hg
        have hle1 := hO.le
        obtain ⟨σ2, hQ, hold, hnf, hle⟩ := W9 nm' ks as rs' m1 (st := ⟨st.env, st.tbl.put U⟩) hg hO.rel ht2 (W6 nm' ks vs (fun q' hq' => hO.old q' (hq2 q' hq')) hrv2)
          (fun i s u h5 h6 => by
            obtain ⟨h7, h8⟩ := hv (i + 1) s u (by simpa using h5) (by simpa using h6)
            exact ⟨(hO.old s h8).trans h7, hO.keep s h8⟩)
          (fun s hs => hO.gone (fun j h5 h6 => hf j h5 (by omega)) (hl s (JA _ hs)) (fun hm => hn.2.2 s hm s hs rfl))
          (fun q' hq' => hO.keep q' (hq2 q' hq')) hn.2.1
          (hO.fresh hR hf) (hO.fb hb)
        exact ⟨σ2, by rw [ZH]; exact hQ, fun s hs => (hold s (hO.keep s hs)).trans (hO.old s hs), fun s => YI hnf hO.nf s, by omega⟩
      cases k with
      | box l =>
        cases nm with
        | nil => cases a <;> simp [Zi] at hm
        | cons qs nm =>
        cases a with
        | bx r kk =>
         cases kk with
         | succ kk => simp [Zi] at hm
         | zero =>
          cases rs with
          | nil => simp [TL] at ht
          | cons x rs =>
           cases x with
           | box cs =>
            simp only [Zi] at hm
            simp only [TL] at ht
            simp only [Qs] at hrv
            obtain ⟨b1, b2, hbs, h1, h2⟩ := ht
            simp only [ZT, J2, Js] at hl hn hq
            have hn' : (r :: qs).Nodup := by
              grind
            cases hg : Zi (Zl n qs l cs).2.2 nm ks as rs with
            | none => simp [hg] at hm
            | some q =>
              obtain ⟨v', m'⟩ := q
              simp only [hg, VF.injEq, Prod.mk.injEq] at hm
              have hmm := QJ nm ks as rs _ hg
              obtain ⟨σ1, hO⟩ := ZgM h h1 (hl r (Jm ..)) (hv 0 r v rfl rfl).1 hrv.1 (fun q' hq' => hl q' (Jn _ (JG _ hq'))) hn' (fun j h5 h6 => hf j h5 (by omega)) ⟨(VQ.1 (hbs ▸ hb.1)).1, fun b' hb' => hb.2 b' (hbs ▸ JG _ hb')⟩
              exact more nm rs (r :: qs) _ m' _ v' b1 b2 σ1 hO hg hm.1.symm hm.2.symm hbs h2 hrv.2 (fun q' hq' => hq q' (.inr hq')) rfl
           | _ => simp [Zi] at hm
        | _ => simp [Zi] at hm
      | bld T =>
        cases a with
        | bx r kk =>
         cases kk with
         | succ kk => cases nm <;> simp [Zi] at hm
         | zero =>
          cases rs with
          | nil => simp [TL] at ht
          | cons x rs =>
           cases x with
           | bld mm xs =>
            have e : Zi n nm (.bld T :: ks) (.bx r 0 :: as) (.bld mm xs :: rs) = match Zi (n + 1) nm ks as rs with
                | some (v, m') => some (v ++ [(r, .live (.box [.me r mm, .own n])), (n, .live (.arr (.int .u8) xs false))], m')
                | none => none := by cases nm <;> rfl
            rw [e] at hm
            simp only [TL] at ht
            obtain ⟨b1, b2, hbs, h1, h2⟩ := ht
            have e3 : ZT nm (.bld T :: ks) (.bx r 0 :: as) = r :: ZT nm ks as := by cases nm <;> rfl
            have e4 : Qs σ w nm ks vs := by cases nm <;> exact hrv
            cases hg : Zi (n + 1) nm ks as rs with
            | none => simp [hg] at hm
            | some q =>
              obtain ⟨v', m'⟩ := q
              simp only [hg, VF.injEq, Prod.mk.injEq] at hm
              have hmm := QJ nm ks as rs _ hg
              obtain ⟨σ1, hO⟩ := Zh8 h h1 (hl r (by rw [e3]; simp)) (hv 0 r v rfl rfl).1 (hf n (Jj _) (by omega)) ⟨(VQ.1 (hbs ▸ hb.1)).1, fun b' hb' => hb.2 b' (hbs ▸ JG _ hb')⟩
              grind
           | _ => cases nm <;> simp [Zi] at hm
        | _ => cases nm <;> simp [Zi] at hm
      | _ => exact rest (by intro l; simp) (by intro T; simp)
  | nm, [], _ :: _, rs, n, m, ups, σ, st, vs, bs, hm, h, ht, hrv, hv, hl, hq, hn, hf, hb => by cases nm <;> simp [Zi] at hm
  | nm, [], [], _ :: _, n, m, ups, σ, st, vs, bs, hm, h, ht, hrv, hv, hl, hq, hn, hf, hb => by cases nm <;> simp [Zi] at hm
  | nm, k :: _, [], rs, n, m, ups, σ, st, vs, bs, hm, h, ht, hrv, hv, hl, hq, hn, hf, hb => by cases k <;> cases nm <;> simp [Zi] at hm
theorem Zf8 {α:Type} {tbl:ZA} : {n m:Nat} → {k:M α} → {l l':List Nat} → {x:α} → (ZU n m k).run tbl l = some (x,l') → (∀ j,n ≤ j → j < n + m → tbl j = .fresh) ∧ ∃ l2,k.run tbl l2 = some (x,l')
 | n,0,k,l,l',x,h => ⟨fun j h1 h2 => by omega,l,h⟩
 | n,m + 1,k,l,l',x,h => by
  simp only [ZU,M.run] at h
  cases hf:tbl n with
  | fresh =>
   simp only [hf] at h
   obtain ⟨h1,h2⟩:=Zf8 (n:=n + 1) (m:=m) h
   grind
  | gone => simp [hf,M.run] at h
  | live y => simp [hf,M.run] at h
theorem Kg {l:List Kd} {r:Nat} {tbl:ZA} {lg lg':List Nat} {x:RV} {u:Z5} (h:(take (.box l) (.bx r 0)).run tbl lg = some ((x,u),lg')) :
  ∃ cs u' ys l1 l2,tbl r = .live (.box cs) ∧ u = (r,.gone) :: u' ∧ (takes l cs).run tbl l1 = some ((ys,u'),l2):=by
 simp only [take,M.run] at h
 cases hr:tbl r with
 | fresh => simp [hr,M.run] at h
 | gone => simp [hr,M.run] at h
 | live y =>
  cases y with
  | arr => simp [hr,M.run] at h
  | nest => simp [hr,M.run] at h
  | box cs =>
   simp only [hr] at h
   obtain ⟨⟨ys,u1⟩,l1,h1,h2⟩:=M.run_bind_some h
   obtain ⟨h3,_⟩:=M.run_ret h2
   grind
theorem Kv:(ks:List Kd) → (cs:List AV) → {tbl:ZA} → {l l':List Nat} → {xs:List RV} → {u:Z5} → {q:List Nat} → (takes ks cs).run tbl l = some ((xs,u),l') → Zj ks cs = some q → q.Sublist (Zv u)
 | [],[],tbl,l,l',xs,u,q,hm,hq => by simp [Zj] at hq; subst hq; simp
 | k :: ks,a :: as,tbl,l,l',xs,u,q,hm,hq => by
  simp only [takes] at hm
  obtain ⟨⟨x,u1⟩,l1,h1,h2⟩:=M.run_bind_some hm
  obtain ⟨⟨ys,u2⟩,l2,h3,h4⟩:=M.run_bind_some h2
  obtain ⟨h,_⟩:=M.run_ret h4
  cases h
  rw [Wg]
  have other:(∀ l,k ≠ .ref l) → q.Sublist (Zv u1 ++ Zv u2):=by
   intro hk
   have e:Zj (k :: ks) (a :: as) = Zj ks as:=by cases k <;> first | rfl | exact absurd rfl (hk _)
   rw [e] at hq
   exact (Kv ks as h3 hq).trans (List.sublist_append_right _ _)
  cases k with
  | ref l =>
   cases a with
   | bx r kk =>
    cases kk with
    | succ kk => simp [Zj] at hq
    | zero =>
     simp only [Zj] at hq
     cases hq2:Zj ks as with
     | none => rw [hq2] at hq; simp at hq
     | some q2 =>
      rw [hq2] at hq
      simp only [VF.injEq] at hq
      subst hq
      rw [ZeL] at h1
      obtain ⟨cs,u',ys',l3,l4,e1,e2,e3⟩:=Kg h1
      subst e2
      have hg:[r].Sublist (Zv ((r,RS.gone) :: u')):=by simp [Zv,Qf]
      exact List.Sublist.append (l₁:=[r]) hg (Kv ks as h3 hq2)
   | _ => simp [Zj] at hq
  | _ => exact other (by intro l; simp)
 | [],_ :: _,tbl,l,l',xs,u,q,hm,hq => by simp [takes,M.run] at hm
 | _ :: _,[],tbl,l,l',xs,u,q,hm,hq => by simp [takes,M.run] at hm
theorem Xf {k:Kd} {ks:List Kd} {a:AV} {as:List AV} (hk:∀ l,k ≠ .box l):WQ (k :: ks) (a :: as) = WQ ks as:=by
 cases k <;> first | rfl | exact absurd rfl (hk _)
theorem Zc8 {ks:List Kd} {r:Nat} {tbl:ZA} {l l':List Nat} {q:List Nat} (h:(XY ks r).run tbl l = some (q,l')) {cs:List AV} (hr:tbl r = .live (.box cs)):q = [] ∨ Zj ks cs = some q:=by
 unfold XY at h
 cases hh:WN ks with
 | false => rw [hh] at h; obtain ⟨rfl,_⟩:=M.run_ret h; exact .inl rfl
 | true =>
  rw [hh] at h
  simp only [cond_true,M.run,hr] at h
  exact .inr (M.run_ofOpt h)
theorem Yd:(ks:List Kd) → (as:List AV) → {tbl:ZA} → {l l' l2 l3:List Nat} → {xs:List RV} → {u:Z5} → {nm:List (List Nat)} → (takes ks as).run tbl l = some ((xs,u),l') → (WQ ks as).run tbl l2 = some (nm,l3) → (ZT nm ks as).Sublist (Zv u)
 | [],[],tbl,l,l',l2,l3,xs,u,nm,hm,hr => by cases nm <;> simp [ZT]
 | k :: ks,a :: as,tbl,l,l',l2,l3,xs,u,nm,hm,hr => by
  simp only [takes] at hm
  obtain ⟨⟨x,u1⟩,l1,h1,h2⟩:=M.run_bind_some hm
  obtain ⟨⟨ys,u2⟩,l2',h3,h4⟩:=M.run_bind_some h2
  obtain ⟨h,_⟩:=M.run_ret h4
  cases h
  rw [Wg]
  have rest:(∀ l,k ≠ .box l) → (∀ T,k ≠ .bld T) → (ZT nm (k :: ks) (a :: as)).Sublist (Zv u1 ++ Zv u2):=by
   intro hk hk2
   rw [Xf hk] at hr
   have i2:=Yd ks as h3 hr
   have e:ZT nm (k :: ks) (a :: as) = ZT nm ks as:=by cases k <;> first | (cases nm <;> rfl) | exact absurd rfl (hk _) | exact absurd rfl (hk2 _)
   simp_all
  cases k with
  | box l =>
   cases a with
   | bx r kk =>
    cases kk with
    | succ kk => simp [take,M.run] at h1
    | zero =>
     simp only [WQ] at hr
     obtain ⟨q,l5,h5,h6⟩:=M.run_bind_some hr
     obtain ⟨qs,l6,h7,h8⟩:=M.run_bind_some h6
     obtain ⟨h9,_⟩:=M.run_ret h8
     subst h9
     obtain ⟨cs,u',ys',l3',l4,e1,e2,e3⟩:=Kg h1
     subst e2
     have hq:q.Sublist (Zv u'):=by
      rcases Zc8 h5 e1 with rfl | hq
      ·simp
      ·exact Kv l cs e3 hq
     simp only [ZT]
     have i2:=Yd ks as h3 h7
     grind [Zv,Qf]
   | _ => simp [take,M.run] at h1
  | bld T =>
   rw [Xf (by intro l; simp)] at hr
   have i2:=Yd ks as h3 hr
   cases a with
   | bx r kk =>
    cases kk with
    | succ kk => simp [take,M.run] at h1
    | zero =>
     have hr:r ∈ Zv u1:=by
      simp only [take,M.run] at h1
      cases hr:tbl r with
      | fresh => simp [hr,M.run] at h1
      | gone => simp [hr,M.run] at h1
      | live y =>
       cases y with
       | arr => simp [hr,M.run] at h1
       | nest => simp [hr,M.run] at h1
       | box cs =>
        match cs,hr with
        | [c0,c1],hr =>
         simp only [hr] at h1
         obtain ⟨hg,h1⟩:=M.run_guard h1
         obtain ⟨⟨ys',u1'⟩,l1',h1',h2'⟩:=M.run_bind_some h1
         obtain ⟨h,_⟩:=M.run_ret h2'
         grind [Zv,Qf]
        | [],hr => simp [hr,M.run] at h1
        | [_],hr => simp [hr,M.run] at h1
        | _ :: _ :: _ :: _,hr => simp [hr,M.run] at h1
     have e:ZT nm (.bld T :: ks) (.bx r 0 :: as) = r :: ZT nm ks as:=by cases nm <;> rfl
     grind
   | _ => simp [take,M.run] at h1
  | _ => simp_all
 | [],_ :: _,tbl,l,l',l2,l3,xs,u,nm,hm,hr => by simp [takes,M.run] at hm
 | _ :: _,[],tbl,l,l',l2,l3,xs,u,nm,hm,hr => by simp [takes,M.run] at hm
theorem Zhb {as:List AV} {vs:List Value} (h:Zw σ w lim as vs) {i r:Nat} {v:Value} (h1:as[i]? = some (AV.bx r 0)) (h2:vs[i]? = some v):σ r = v:=by
 obtain ⟨u,h3,h4⟩:=(Zx.1 h).get h1
 grind [RA]
theorem K2 {tbl:ZA}:(ks:List Kd) → (cs:List AV) → {l l1 l2:List Nat} → {xs ys:List RV} → {u v:Z5} → {ls:List Kd} → {as:List AV} → (takes ks cs).run tbl l = some ((xs,u),l1) → (takes ls as).run tbl l1 = some ((ys,v),l2) →
  (takes (ks ++ ls) (cs ++ as)).run tbl l = some ((xs ++ ys,u ++ v),l2)
 | [],[],l,l1,l2,xs,ys,u,v,ls,as,h,k => by
  obtain ⟨e,e2⟩:=M.run_ret h
  cases e; subst e2
  exact k
 | k0 :: ks,a :: cs,l,l1,l2,xs,ys,u,v,ls,as,h,k => by
  simp only [takes] at h
  obtain ⟨⟨x,u1⟩,l3,h1,h2⟩:=M.run_bind_some h
  obtain ⟨⟨zs,u2⟩,l4,h3,h4⟩:=M.run_bind_some h2
  obtain ⟨e,e2⟩:=M.run_ret h4
  cases e; subst e2
  have:=K2 ks cs h3 k
  simp only [J1,takes,M.run_bind,h1,VK,this,M.run,Ju]
 | [],_ :: _,l,l1,l2,xs,ys,u,v,ls,as,h,k => by simp [takes,M.run] at h
 | _ :: _,[],l,l1,l2,xs,ys,u,v,ls,as,h,k => by simp [takes,M.run] at h
theorem Zb5:(ks:List Kd) → (as:List AV) → {tbl:ZA} → {l l':List Nat} → {xs:List RV} → {u:Z5} → (takes ks as).run tbl l = some ((xs,u),l') →
  QG ks as = true ∧ ∃ ys,(takes (Zp ks) (ZD ks as)).run tbl l = some ((ys,u),l')
 | [],[],tbl,l,l',xs,u,hm => ⟨rfl,xs,hm⟩
 | k :: ks,a :: as,tbl,l,l',xs,u,hm => by
  simp only [takes] at hm
  obtain ⟨⟨x,u1⟩,l1,h1,h2⟩:=M.run_bind_some hm
  obtain ⟨⟨ys,u2⟩,l2,h3,h4⟩:=M.run_bind_some h2
  obtain ⟨h,e⟩:=M.run_ret h4
  cases h; subst e
  obtain ⟨i1,zs,i2⟩:=Zb5 ks as h3
  have plainK:(∀ f l,k ≠ .clo f l) → QG (k :: ks) (a :: as) = true ∧ ∃ ys,(takes (Zp (k :: ks)) (ZD (k :: ks) (a :: as))).run tbl l = some ((ys,u1 ++ u2),l'):=by
   intro hk
   have e1:Zp (k :: ks) = k :: Zp ks:=by cases k <;> first | rfl | exact absurd rfl (hk _ _)
   have e2:ZD (k :: ks) (a :: as) = a :: ZD ks as:=by cases k <;> first | rfl | exact absurd rfl (hk _ _)
   have e3:QG (k :: ks) (a :: as) = QG ks as:=by cases k <;> first | rfl | exact absurd rfl (hk _ _)
   simp_all [takes,M.run_bind,h1,VK,i2,M.run]
  cases k with
  | clo f ks0 =>
   cases a with
   | clo g cs =>
    simp only [take] at h1
    obtain ⟨hg,h1⟩:=M.run_guard h1
    obtain ⟨⟨zs',u3⟩,l3,h5,h6⟩:=M.run_bind_some h1
    obtain ⟨h,e⟩:=M.run_ret h6
    cases h; subst e
    have hl:=ZcX ks0 cs h5
    refine ⟨by simp only [QG,hl,Wd,i1,Bool.and_self],zs' ++ zs,?_⟩
    simp only [Zp,ZD]
    exact K2 ks0 cs h5 i2
   | _ => simp [take,M.run] at h1
  | _ => exact plainK (by intro f l; simp)
 | [],_ :: _,tbl,l,l',xs,u,hm => by simp [takes,M.run] at hm
 | _ :: _,[],tbl,l,l',xs,u,hm => by simp [takes,M.run] at hm
theorem Wk {lim:Nat → Nat}:(ks:List Kd) → (cs:List AV) → {q:List Nat} → {vs vs':List Value} → Zj ks cs = some q → Zw σ w lim cs vs → Wm ks vs vs' → ZC σ q ks vs'
 | [],[],q,vs,vs',hq,hv,hs => by grind [Zj,ZC]
 | k :: ks,a :: as,q,vs,vs',hq,hv,hs => by
  match vs,vs',hv,hs with
  | [],_,hv,_ => simp [Zw] at hv
  | _ :: _,[],_,_ => cases q <;> simp [ZC]
  | v :: vs,v' :: vs',hv,hs =>
   simp only [Zw] at hv
   have other:(∀ l,k ≠ .ref l) → ZC σ q (k :: ks) (v' :: vs'):=by
    intro hk
    have e1:Zj (k :: ks) (a :: as) = Zj ks as:=by cases k <;> first | rfl | exact absurd rfl (hk _)
    have e2:Wm (k :: ks) (v :: vs) (v' :: vs') = Wm ks vs vs':=by cases k <;> first | rfl | exact absurd rfl (hk _)
    rw [e1] at hq
    rw [e2] at hs
    have:=Wk ks as hq hv.2 hs
    cases q with
    | nil => simp [ZC]
    | cons q0 q =>
     have e3:ZC σ (q0 :: q) (k :: ks) (v' :: vs') = ZC σ (q0 :: q) ks vs':=by cases k <;> first | rfl | exact absurd rfl (hk _)
     rw [e3]; exact this
   cases k with
   | ref l =>
    cases a with
    | bx r kk =>
     cases kk with
     | succ kk => simp [Zj] at hq
     | zero =>
      simp only [Zj] at hq
      cases hq2:Zj ks as with
      | none => rw [hq2] at hq; simp at hq
      | some q2 =>
       rw [hq2] at hq
       simp only [VF.injEq] at hq
       subst hq
       simp only [Wm] at hs
       simp only [ZC]
       refine ⟨?_,Wk ks as hq2 hv.2 hs.2⟩
       grind [RA]
    | _ => simp [Zj] at hq
   | _ => exact other (by intro l; simp)
 | [],_ :: _,q,vs,vs',hq,hv,hs => by simp [Zj] at hq
 | k :: _,[],q,vs,vs',hq,hv,hs => by cases k <;> simp [Zj] at hq
theorem KB:(ks:List Kd) → (vs:List Value) → Wm ks vs vs
 | [],_ => by simp [Wm]
 | _ :: _,[] => by simp [Wm]
 | k :: ks,v :: vs => by cases k <;> simp [Wm,KB ks vs]
theorem ZaY {lim:Nat → Nat}:(ks:List Kd) → {as:List AV} → {vs:List Value} → QG ks as = true → Zw σ w lim as vs → Zw σ w lim (ZD ks as) (Qy ks vs)
 | [],[],vs,_,h => by grind [Zw,ZD,Qy]
 | [],_ :: _,vs,h,_ => by simp [QG] at h
 | k :: ks,[],vs,h,_ => by cases k <;> simp [QG] at h
 | k :: ks,a :: as,vs,hc,h => by
  match vs,h with
  | v :: vs,h =>
   simp only [Zw] at h
   have plainK:(∀ f l,k ≠ .clo f l) → Zw σ w lim (ZD (k :: ks) (a :: as)) (Qy (k :: ks) (v :: vs)):=by
    intro hk
    have e2:ZD (k :: ks) (a :: as) = a :: ZD ks as:=by cases k <;> first | rfl | exact absurd rfl (hk _ _)
    have e1:Qy (k :: ks) (v :: vs) = v :: Qy ks vs:=by cases k <;> first | rfl | exact absurd rfl (hk _ _)
    have e3:QG (k :: ks) (a :: as) = QG ks as:=by cases k <;> first | rfl | exact absurd rfl (hk _ _)
    rw [e1,e2]
    simp only [Zw]
    exact ⟨h.1,ZaY ks (by rw [← e3]; exact hc) h.2⟩
   cases k with
   | clo f ks0 =>
    cases a with
    | clo g cs =>
     simp only [QG,Jh] at hc
     have h1:=h.1
     simp only [RA] at h1
     obtain ⟨us,rfl,h2⟩:=h1
     simp only [ZD,Qy,JU]
     exact Zx.2 ((Zx.1 h2).append (Zx.1 (ZaY ks hc.2 h.2)))
    | _ => simp [QG] at hc
   | _ => exact plainK (by intro f l; simp)
  | [],h => simp [Zw] at h
theorem Yz:(ks:List Kd) → (as:List AV) → ∀ r ∈ Zc (ZD ks as),r ∈ Zc as
 | [],as,r,hr => by cases as <;> simp [ZD,Zc] at hr
 | k :: ks,[],r,hr => by cases k <;> simp [ZD,Zc] at hr
 | k :: ks,a :: as,r,hr => by
  simp only [Zc,Js]
  have plainK:ZD (k :: ks) (a :: as) = a :: ZD ks as → r ∈ Za a ∨ r ∈ Zc as:=by
   intro e
   rw [e] at hr
   simp only [Zc,Js] at hr
   exact hr.imp id (Yz ks as r)
  cases k with
  | clo f ks0 =>
   cases a with
   | clo g cs =>
    simp only [ZD,Zck,Js] at hr
    exact hr.imp (by intro h; simpa [Za] using h) (Yz ks as r)
   | _ => exact plainK rfl
  | _ => exact plainK rfl
theorem WX:(ks:List Kd) → (cs:List AV) → {q:List Nat} → Zj ks cs = some q → ∀ r ∈ q,r ∈ Zc cs
 | [],[],q,h,r,hr => by simp [Zj] at h; subst h; cases hr
 | k :: ks,a :: as,q,h,r,hr => by
  simp only [Zc,Js]
  have other:(∀ l,k ≠ .ref l) → r ∈ Za a ∨ r ∈ Zc as:=by
   intro hk
   have e:Zj (k :: ks) (a :: as) = Zj ks as:=by cases k <;> first | rfl | exact absurd rfl (hk _)
   rw [e] at h
   exact .inr (WX ks as h r hr)
  cases k with
  | ref l =>
   cases a with
   | bx s kk =>
    cases kk with
    | succ kk => simp [Zj] at h
    | zero =>
     simp only [Zj] at h
     cases hq2:Zj ks as with
     | none => rw [hq2] at h; simp at h
     | some q2 =>
      rw [hq2] at h
      simp only [VF.injEq] at h
      subst h
      rcases VM.1 hr with rfl | hr
      ·exact .inl (by simp [Za])
      ·exact .inr (WX ks as hq2 r hr)
   | _ => simp [Zj] at h
  | _ => exact other (by intro l; simp)
 | [],_ :: _,q,h,r,hr => by simp [Zj] at h
 | k :: _,[],q,h,r,hr => by cases k <;> simp [Zj] at h
theorem Zcg {tbl:ZA} {lim:Nat → Nat} (hres:∀ r x,tbl r = .live x → RR σ w lim r x ∧ Zd tbl (ZF r x)) {ks:List Kd} {r:Nat} {l l':List Nat} {q:List Nat} (h:(XY ks r).run tbl l = some (q,l')):Zd tbl q:=by
 have h0:=h
 unfold XY at h
 cases hh:WN ks with
 | false => rw [hh] at h; obtain ⟨rfl,_⟩:=M.run_ret h; intro s hs; cases hs
 | true =>
  rw [hh] at h
  simp only [cond_true,M.run] at h
  cases hr:tbl r with
  | fresh => simp [hr,M.run] at h
  | gone => simp [hr,M.run] at h
  | live y =>
   cases y with
   | arr => simp [hr,M.run] at h
   | nest => simp [hr,M.run] at h
   | box cs =>
    simp only [hr] at h
    have h1:=M.run_ofOpt h
    intro s hs
    exact (hres r _ hr).2 s (WX ks cs h1 s hs)
theorem YN {tbl:ZA} {lim:Nat → Nat} (hres:∀ r x,tbl r = .live x → RR σ w lim r x ∧ Zd tbl (ZF r x)):(ks:List Kd) → (as:List AV) → {l l':List Nat} → {nm:List (List Nat)} → (WQ ks as).run tbl l = some (nm,l') → ∀ q ∈ nm.flatten,tbl q ≠ .fresh
 | [],as,l,l',nm,h,q,hq => by
  have:WQ [] as = .ret []:=by cases as <;> rfl
  rw [this] at h
  obtain ⟨rfl,_⟩:=M.run_ret h
  simp at hq
 | k :: ks,[],l,l',nm,h,q,hq => by
  have:WQ (k :: ks) [] = .ret []:=by cases k <;> rfl
  rw [this] at h
  obtain ⟨rfl,_⟩:=M.run_ret h
  simp at hq
 | k :: ks,a :: as,l,l',nm,h,q,hq => by
  have other:(∀ l,k ≠ .box l) → tbl q ≠ .fresh:=fun hk => by
   rw [Xf hk] at h
   exact YN hres ks as h q hq
  cases k with
  | box l0 =>
   cases a with
   | bx r kk =>
    cases kk with
    | succ kk => exact (M.run_fail h).elim
    | zero =>
     simp only [WQ] at h
     obtain ⟨q0,l5,h5,h6⟩:=M.run_bind_some h
     obtain ⟨qs,l6,h7,h8⟩:=M.run_bind_some h6
     obtain ⟨h9,_⟩:=M.run_ret h8
     subst h9
     rw [J2,Js] at hq
     rcases hq with hq | hq
     ·exact Zcg hres h5 q hq
     ·exact YN hres ks as h7 q hq
   | _ => exact (M.run_fail h).elim
  | _ => exact other (by intro l; simp)
theorem Z3 {ks:List Kd} {vs:List Value}:ZC σ [] ks vs:=by cases ks <;> cases vs <;> simp [ZC]
theorem Zan (h:RelW G σ lim st tmps w) {w':World}:(ks:List Kd) → {as:List AV} → {vs:List Value} → {l l':List Nat} → {nm:List (List Nat)} → (WQ ks as).run st.tbl l = some (nm,l') → Zw σ w lim as vs → Wo w w' ks vs → Qs σ w' nm ks vs
 | [],as,vs,l,l',nm,hm,hv,hs => by cases nm <;> cases vs <;> simp [Qs]
 | k :: ks,[],vs,l,l',nm,hm,hv,hs => by
  match vs,hv with
  | [],_ => cases nm <;> simp [Qs]
 | k :: ks,a :: as,vs,l,l',nm,hm,hv,hs => by
  match vs,hv with
  | v :: vs,hv =>
   simp only [Zw] at hv
   have other:(∀ l,k ≠ .box l) → Qs σ w' nm (k :: ks) (v :: vs):=fun hk => by
    rw [Xf hk] at hm
    have e:Wo w w' (k :: ks) (v :: vs) = Wo w w' ks vs:=by cases k <;> first | rfl | exact absurd rfl (hk _)
    rw [e] at hs
    have e2:Qs σ w' nm (k :: ks) (v :: vs) = Qs σ w' nm ks vs:=by cases k <;> first | (cases nm <;> rfl) | exact absurd rfl (hk _)
    rw [e2]
    exact Zan h ks hm hv.2 hs
   cases k with
   | box l0 =>
    cases a with
    | bx r kk =>
     cases kk with
     | succ kk => exact (M.run_fail hm).elim
     | zero =>
      simp only [WQ] at hm
      obtain ⟨q0,l5,h5,h6⟩:=M.run_bind_some hm
      obtain ⟨qs,l6,h7,h8⟩:=M.run_bind_some h6
      obtain ⟨h9,_⟩:=M.run_ret h8
      subst h9
      simp only [Wo] at hs
      simp only [Qs]
      refine ⟨fun b cs' T' fz' e1 e2 => ?_,Zan h ks h7 hv.2 hs.2⟩
      cases q0 with
      | nil => exact Z3
      | cons q1 q0 =>
       -- the box,at first
       have hbox:∃ cs0,st.tbl r = .live (.box cs0) ∧ Zj l0 cs0 = some (q1 :: q0):=by
        unfold XY at h5
        cases hh:WN l0 with
        | false => rw [hh] at h5; obtain ⟨e,_⟩:=M.run_ret h5; cases e
        | true =>
         rw [hh] at h5
         simp only [cond_true,M.run] at h5
         cases hr:st.tbl r with
         | fresh => simp [hr,M.run] at h5
         | gone => simp [hr,M.run] at h5
         | live y =>
          cases y with
          | arr => simp [hr,M.run] at h5
          | nest => simp [hr,M.run] at h5
          | box cs =>
           simp only [hr] at h5
           exact ⟨cs,rfl,M.run_ofOpt h5⟩
       obtain ⟨cs0,hr,hq⟩:=hbox
       obtain ⟨hR,_⟩:=h.res r _ hr
       obtain ⟨b0,ws,U,f1,f2,f3,f4,_⟩:=Q9 hv.1 hR
       rw [e1] at f2
       obtain rfl:b = b0:=by simpa using f2
       exact Wk l0 cs0 hq f4 (hs.1 b ws U (0,0) cs' T' fz' e1 f3 e2)
    | _ => exact (M.run_fail hm).elim
   | _ => exact other (by intro l; simp)
  | [],hv => simp [Zw] at hv
theorem Zbj (hC:∀ f cal,C.Φ f = some cal → Ctr C.P C.k f cal) (h:RelW G σ lim st tmps w) {base f:Nat} {args:List AV} {vs:List Value} {l l':List Nat} {e:Eff}
  (hm:(ZaU C base f args).run st.tbl l = some (e,l')) (ha:Zw σ w lim args vs) (hk:∀ a ∈ args,Zd st.tbl (Za a)) :
  ZeO C.P f ∧ Calls C.P f vs.toArray w fun en w' => ∃ v σ' lim',en = .returned v ∧ RelW G σ' lim' ⟨st.env,st.tbl.put e.ups⟩ tmps w' ∧ RA σ' w' lim' e.val v ∧ Zd (st.tbl.put e.ups) (Za e.val):=by
 unfold ZaU at hm
 cases hcal:C.Φ f with
 | none => simp [hcal,M.run] at hm
 | some cal =>
  simp only [hcal] at hm
  have hctr:=hC f cal hcal
  refine ⟨hctr.enters,?_⟩
  obtain ⟨⟨rvs,u⟩,l1,h1,h2'⟩:=M.run_bind_some hm
  obtain ⟨nm,l1',hnm,h2⟩:=M.run_bind_some h2'
  obtain ⟨hok,h3⟩:=M.run_guard h2
  simp only at hok h3
  simp only [M.run] at h3
  cases hrun:cal.run C.k rvs with
  | none => simp [hrun] at h3
  | some x =>
   simp only [hrun,VK] at h3
   cases hg:Zi (put base (cal.enc x).1).2.2 nm (Zp cal.pk) (ZD cal.pk args) (cal.enc x).2 with
   | none => simp [hg,M.run] at h3
   | some q =>
    obtain ⟨wu,m⟩:=q
    simp only [hg] at h3
    obtain ⟨hfr,l2,h4⟩:=Zf8 h3
    obtain ⟨rfl,_⟩:=M.run_ret h4
    obtain ⟨s1,k1⟩:=Qr (st:=st) (σ:=σ) (w:=w) (lim:=lim) cal.pk args h1
    obtain ⟨lim1,hR,hE,hS,hnd,hbl⟩:=h.takes s1 hok
    have hT:=k1 vs ha (fun r y hy => (h.res r y hy).1) lim1 hE hS
    refine (hctr.calls rvs x hrun w lim1 vs _ hR.lz (hR.glob.mono hR.ext) hT hnd (fun b hb => (hbl b hb).2.1)).mono ?_
    rintro en w' ⟨v,lim2,b1,b2,rfl,hE2,hlz2,hsame,hkeep,hT1,hT2,hStay,hnd2,hb2⟩
    -- the world behind the call
    have hW:RelW G σ lim2 ⟨st.env,(st.tbl.put u).put []⟩ tmps w':=RelW.noput (st:=⟨st.env,st.tbl.put u⟩) (ups:=[]) (v:=.dead) (x:=undef) hR (Upd.dead hE2 hlz2 hsame (fun _ _ => rfl)
     (fun r hl _ b hb => by
      have h5:b ∉ ZP σ (Zv u):=fun hm => (hbl b hm).2.2 r hl hb
      exact hkeep b (X3 hR hl hb) h5)
     (fun r y hl => by simp [Zk] at hl) (fun r _ y _ hl => by simp [Zk] at hl) (fun r y _ hl => by simp [Zk] at hl)
     (fun b hb hl => by
      have h5:b ∉ ZP σ (Zv u):=fun hm => by
       grind
      exact (hkeep b (V0 hb h.ext.size) h5).1)
     (fun b hb hl => by
      have h5:b ∉ ZP σ (Zv u):=fun hm => by
       grind
      exact (hkeep b (V0 hb h.ext.size) h5).2)
     (fun r => by simp [Zk]) (by simp [RA]) (by simp [Za,Zd]))
    rw [ZJ] at hW
    have hfb:∀ b ∈ b1 ++ b2,(G.w0.heap.size ≤ b ∨ b ∈ G.lent) ∧ ∀ r,Zt (st.tbl.put u r) = true → QF (σ r) ≠ some b:=by
     intro b hb
     rcases hb2 b hb with h5 | h5
     ·simp_all
     ·refine ⟨.inl (VI h.ext.size h5),fun r hl hbr => ?_⟩
      have:=X3 hR hl hbr
      omega
    rw [VQ] at hnd2
    have hle:=ZbX (cal.enc x).1 base
    have hle2:=QJ _ _ _ _ _ hg
    have hfu:∀ j,base ≤ j → j < m → (st.tbl.put u) j = .fresh:=by
     intro j h5 h6
     have h7:=hfr j h5 (by omega)
     have:∀ y,(j,y) ∉ u:=by
      intro y hy
      rcases s1 _ hy with ⟨_,h8⟩ | ⟨t,xs,sh,_,h8⟩
      ·simp only at h8; rw [h7] at h8; cases h8
      simp_all
     rw [Zgg this]; exact h7
    obtain ⟨σ1,hP,hA,hK⟩:=Zam (cal.enc x).1 base (st:=⟨st.env,st.tbl.put u⟩) hW hT1 (fun j h5 h6 => hfu j h5 (by omega)) ⟨hnd2.1,fun b hb => hfb b (JG _ hb)⟩
    obtain ⟨hco,zs,hflat⟩:=Zb5 cal.pk args h1
    have hl2:=Yd _ _ hflat hnm
    have hl1:∀ r ∈ ZT nm (Zp cal.pk) (ZD cal.pk args),r ∈ Zv u:=fun r hr => hl2.subset hr
    have hfa:=ZaY (σ:=σ) (w:=w) (lim:=lim) cal.pk hco ha
    have hgone:∀ r ∈ Zv u,(st.tbl.put u) r = .gone:=by
     intro r hr
     obtain ⟨y,hy⟩:=ZbK (QQ.1 hr)
     have:=X4 hok (QQ.1 hr) y (Z8 hy)
     simp [ZA.put,hy,this]
    have hputkeep:∀ r,(st.tbl.put u) r ≠ .fresh → ((st.tbl.put u).put (put base (cal.enc x).1).2.1) r = (st.tbl.put u) r:=by
     intro r hr
     have:r < base ∨ (put base (cal.enc x).1).2.2 ≤ r:=by
      grind
     simp only [ZA.put] at hr ⊢
     rw [hP.out r this]
    have hufresh:∀ r,st.tbl r ≠ .fresh → (st.tbl.put u) r ≠ .fresh:=by
     intro r hr hf
     simp only [ZA.put] at hf
     cases hls:Zk u r with
     | none => rw [hls] at hf; exact hr hf
     | some z =>
      rw [hls] at hf; simp only at hf; subst hf
      rcases s1 _ (Z8 hls) with ⟨h8,_⟩ | ⟨t,xs,sh,h8,_⟩ <;> simp at h8
    have hRV:Qs σ w' nm (Zp cal.pk) (Qy cal.pk vs):=Zan h (Zp cal.pk) hnm hfa hStay
    have hrefs:∀ q ∈ nm.flatten,(st.tbl.put u) q ≠ .fresh:=fun q hq => hufresh q (YN h.res (Zp cal.pk) (ZD cal.pk args) hnm q hq)
    obtain ⟨σ2,hQ,hold,hnf,hle3⟩:=W9 nm (Zp cal.pk) (ZD cal.pk args) (cal.enc x).2 _ (st:=⟨st.env,(st.tbl.put u).put (put base (cal.enc x).1).2.1⟩) hg hP.rel hT2 (W6 nm _ _ (fun q hq => hP.old q (hrefs q hq)) hRV)
     (fun i r v' h5 h6 => by
      have h7:st.tbl r ≠ .fresh:=by
       obtain ⟨a,h8,h9⟩:=Wv (Yz cal.pk args r (Wt (Vw h5) (by simp [Za])))
       exact hk a h8 r h9
      have h8:=hufresh r h7
      exact ⟨(hP.old r h8).trans (Zhb hfa h5 h6),by simp only; rw [hputkeep r h8]; exact h8⟩)
     (fun r hr => by
      grind)
     (fun q hq => by grind)
     (hl2.nodup (Xo hok))
     (fun j h5 h6 => by
      have h7:=hfu j (by omega) h6
      simp only [ZA.put] at h7 ⊢
      rw [hP.out j (.inr h5)]; exact h7)
     ⟨hnd2.2.1,fun b hb => ⟨(hfb b (JA _ hb)).1,fun r hls hbr => by
      rcases hP.lv r b hls hbr with ⟨h5,h6⟩ | h5
      ·simp_all
      ·exact hnd2.2.2 b h5 b hb rfl⟩⟩
    refine ⟨v,σ2,lim2,rfl,?_,?_,?_⟩
    ·rw [ZH,ZH]; exact hQ
    ·exact RA.mono (T:=(st.tbl.put u).put (put base (cal.enc x).1).2.1) (Ext.refl _ _) hold _ _ hK hA
    ·rw [ZH,ZH]; exact hK.put hnf
theorem ZgQ {C:Ctx} {G:Glob} {σ:Qt} {w:World} {lim:Nat → Nat} {st:St} {tmps:Array Value} (h:RelW G σ lim st tmps w) {src el:TypeId} (hd:C.P.underlying src = some (.slice el)) (hb:Yo C.P el = true) {r:Nat} {t:Ty} {xs:List t.den} {sh:Bool}
  (hr:st.tbl r = .live (.arr t xs sh)) (hx:1 ≤ xs.length) (hv:∃ A l c,σ r = .slice A l c):Z1 C G st tmps w (convert src src (σ r)) ⟨.own r,[(r,.live (.arr t xs sh))]⟩:=by
 obtain ⟨hR,hk⟩:=h.res r _ hr
 have hlr:Zt (st.tbl r) = true:=by rw [hr]; rfl
 simp only [RR] at hR
 obtain ⟨hsz,hR⟩:=hR
 rcases hR with ⟨rfl,_⟩ | ⟨b,off,cap,vs,U,fz,h4,h5,h6,h7,h8,h9,h10⟩
 ·simp at hx
 obtain ⟨hu8,_⟩:=Km hb
 have hrun:(convert src src (σ r)).run C.P w = .ok (σ r) (w.freeze ⟨b,vs.size,none⟩ 1):=by
  rw [h4]
  have hs:w.shape? b = some (U,vs.size):=by simp [World.shape?,h6]
  simp [convert,run_underlying hd,run_underlying hu8,markStringish,hs]
 obtain ⟨fz',hf1,hf2⟩:∃ fz',(w.freeze ⟨b,vs.size,none⟩ 1).heap = w.heap.modify b (fun _ => .cells vs U fz') ∧ Fit t U vs.size fz':=by
  refine ⟨(if fz.1 == fz.2 then (vs.size,vs.size + 1) else (min fz.1 vs.size,max fz.2 (vs.size + 1))),?_,?_,h8.kind,?_,h8.big⟩
  ·unfold World.freeze
   grind
  ·intro o ho
   have hfree:=h8.free o ho
   have hord:=h8.ord
   by_cases he:fz.1 = fz.2
   ·grind
   ·have hne:(fz.1 == fz.2) = false:=by simpa using he
    have hall:vs.size ≤ fz.1:=by
     rcases VN fz.1 vs.size with h' | h'
     ·exact absurd ⟨Jj _,by omega⟩ (h8.free fz.1 h')
     ·exact h'
    grind
  grind
 have hold:∀ k:Nat,k ≠ b → (w.freeze ⟨b,vs.size,none⟩ 1).heap[k]? = w.heap[k]? := by
  grind
 have hnew:(w.freeze ⟨b,vs.size,none⟩ 1).heap[b]? = some (.cells vs U fz'):=by
  grind
 have hsize:(w.freeze ⟨b,vs.size,none⟩ 1).heap.size = w.heap.size:=by rw [hf1]; simp
 have hsame:(w.freeze ⟨b,vs.size,none⟩ 1).os = w.os ∧ (w.freeze ⟨b,vs.size,none⟩ 1).tape = w.tape ∧ (w.freeze ⟨b,vs.size,none⟩ 1).output = w.output:=by
  unfold World.freeze
  simp_all
 generalize w.freeze ⟨b,vs.size,none⟩ 1 = w' at *
 have hE:Ext w lim w' lim:=⟨by omega,fun b' o _ => by
  by_cases e:b' = b
  ·subst e; simp [World.cell?,hnew,h6]
  ·simp [World.cell?,hold b' e],fun _ _ ho => ho,fun b' T' hT => by
  by_cases e:b' = b
  ·simp_all [ZS,h6,hnew]
  ·simpa [ZS,hold b' e] using hT⟩
 have hbk:QF (σ r) = some b:=by rw [h4]; rfl
 have hRel:RelW G σ lim ⟨st.env,st.tbl.put [(r,.live (.arr t xs sh))]⟩ tmps w':=by
  refine h.noput (v:=.dead) (x:=undef) (Upd.dead hE ?_ hsame (fun _ _ => rfl) ?_ ?_ ?_ ?_ ?_ (fun _ _ _ => rfl) ?_ (by simp [RA]) (by simp [Za,Zd]))
  ·intro b' hb'; exact h.lz b' (by omega)
  ·intro r' hl hn b' hb'
   rw [Zb] at hn
   have hne:r' ≠ r:=by intro e; simp [e] at hn
   have:b' ≠ b:=by intro e; subst e; exact hne (h.inj r' r b' hl hlr hb' hbk)
   exact ⟨hold b' this,rfl⟩
  ·intro r' z hl
   rw [Zb] at hl
   split at hl
   ·rename_i e; subst e
    simp at hl; subst hl
    refine ⟨?_,hk.put (by grind [Zk])⟩
    simp only [RR]
    exact ⟨hsz,.inr ⟨b,off,cap,vs,U,fz',h4,h5,hnew,h7,hf2,fun i hi => (h9 i hi).mono hE,h10⟩⟩
   ·simp [Zk] at hl
  ·intro r1 r2 z b' hl hl2 hb1 hb2
   rw [Zb] at hl
   split at hl
   ·rename_i e; subst e
    rw [Ze] at hl2
    split at hl2
    ·rename_i e; exact e.symm
    ·exact h.inj r2 r b' hl2 hlr hb2 hb1
   ·simp [Zk] at hl
  ·intro r1 z b' hl hb'
   rw [Zb] at hl
   split at hl
   ·rename_i e; subst e; exact h.own r b' hlr hb'
   ·simp [Zk] at hl
  ·intro b' hb' hl
   have:b' ≠ b:=by
    intro e; subst e
    rcases h.own r b' hlr hbk with h1 | h1
    ·omega
    ·exact hl h1
   exact hold b' this
  grind [Zk]
 obtain ⟨A,l,c,hvv⟩:=hv
 exact ⟨_,w',σ,lim,hrun,hRel,QX hvv rfl,Z0 (y:=.arr t xs sh) (by rw [Ze,if_pos rfl])⟩
end Go.Sh
namespace Go.Sh
open Go
variable [Gl]
variable {C:Ctx} {G:Glob} {σ:Qt} {w:World} {lim:Nat → Nat} {st:St} {tmps:Array Value} {tbl:ZA}
theorem Zgu {T e:TypeId} {n:Nat} (h:ZiH C T = some (n,e)):C.P.underlying T = some (.array n e) ∧ ∀ w,(sizeOf e).run C.P w = .ok (C.P.cellsOf e) w:=by
 unfold ZiH at h
 split at h
 ·rename_i n' e' hu
  cases hi:C.P.info? e' with
  | none => rw [hi] at h; cases h
  | some d =>
   rw [hi] at h
   cases h
   exact ⟨hu,fun w => by simp [sizeOf,typeInfo,hi,Program.cellsOf]⟩
 ·cases h
theorem Zat {T e:TypeId} {n:Nat} (h:ZiH C T = some (n,e)) {b o:Nat} {k:IntKind} {i:Int} (h0:0 ≤ i) (h1:i < n) (w:World) :
  (Vc T (.pointer (some ⟨b,o,none⟩)) (.int k i)).run C.P w = .ok (.pointer (some ⟨b,o + i.toNat * C.P.cellsOf e,none⟩)) w:=by
 obtain ⟨hu,hs⟩:=Zgu h
 simp [Vc,asIntOf,run_underlying hu,h0,h1,hs w,JL,ZO]
theorem Zbc {T:TypeId} {a i:AV} {v vi:Value} {l l':List Nat} {e:Eff} (hm:(Zbb C T a i).run tbl l = some (e,l')) (ha:RA σ w lim a v) (hi:RA σ w lim i vi) (hk:Zd tbl (Za a)) :
  ∃ x,(Vc T v vi).run C.P w = .ok x w ∧ RA σ w lim e.val x ∧ Zd tbl (Za e.val) ∧ e.ups = []:=by
 unfold Zbb at hm
 split at hm
 ·rename_i n ee kk i hn
  simp only [RA,RP] at hi; subst hi
  split at hm
  ·rename_i r t j
   obtain ⟨hg,hm⟩:=M.run_guard hm
   obtain ⟨hc,hm⟩:=M.run_need hm
   obtain ⟨h0,h1⟩:=of_decide_eq_true hc
   simp only [RA] at ha
   obtain ⟨b,off,len,cap,h2,rfl⟩:=ha
   have fin:e = ⟨.el r t (i.toNat * C.P.cellsOf ee + j) 0,[]⟩:=by
    cases h3:Ja (C.P.cellsOf ee) 1 with
    | true => rw [h3] at hm; rw [Zu h3,VV]; exact (M.run_ret hm).1
    | false =>
     rw [h3] at hm
     obtain ⟨h4,hm⟩:=M.run_guard hm
     rw [Zu h4]; exact (M.run_ret hm).1
   subst fin
   refine ⟨_,Zat hn h0 h1 w,?_,by simpa [Za] using hk,rfl⟩
   simp only [RA]
   refine ⟨b,off,len,cap,h2,?_⟩
   rw [Zu hg]
   generalize i.toNat * C.P.cellsOf ee = q
   rw [show off + j * 1 + 0 + q = off + (q + j) * 1 + 0 by omega]
  ·rename_i r k
   obtain ⟨hc,hm⟩:=M.run_need hm
   obtain ⟨h0,h1⟩:=of_decide_eq_true hc
   obtain ⟨rfl,_⟩:=M.run_ret hm
   simp only [RA] at ha
   obtain ⟨b,h2,rfl⟩:=ha
   exact ⟨_,Zat hn h0 h1 w,by simp only [RA]; exact ⟨b,h2,rfl⟩,by simpa [Za] using hk,rfl⟩
  ·rename_i t xs
   obtain ⟨hg,hm⟩:=M.run_guard hm
   obtain ⟨hc,hm⟩:=M.run_need hm
   obtain ⟨h0,h1,h3⟩:=of_decide_eq_true hc
   obtain ⟨rfl,_⟩:=M.run_ret hm
   simp only [RA,Rt] at ha
   obtain ⟨p,n1,m1,rfl,A,len,cap,hx,hlen,hcap,hr⟩:=ha
   simp only [J0.injEq,V5.injEq,and_true] at hx
   obtain ⟨rfl,rfl,rfl⟩:=hx
   rcases hr with hr | ⟨b,off,hA,hr⟩
   ·subst hr; simp at h3
   ·cases hA
    obtain ⟨c,hc1,hc2⟩:=hr i.toNat h3
    refine ⟨_,Zat hn h0 h1 w,?_,by intro q hq; simp [Za] at hq,rfl⟩
    simp only [RA]
    rw [Zu hg]
    refine ⟨b,off + i.toNat * t.size,rfl,fun j p hp => ?_⟩
    have hxi:xs.getD i.toNat t.dflt = xs[i.toNat]:=by simp [List.getD,VO h3]
    rw [hxi] at hp
    obtain ⟨v,hv,hpv⟩:=(Qp hc1).get hp
    obtain ⟨q1,q2⟩:=hc2 j v hv
    exact ⟨v,q1,q2,hpv⟩
  ·exact (M.run_fail hm).elim
 ·exact (M.run_fail hm).elim
theorem Zcv (k:IntKind):∀ (ns:List Int),Zs (Rt w lim (.int k)) ns (ns.map fun n => [Jv k n])
 | [] => trivial
 | _ :: l => ⟨rfl,Zcv k l⟩
theorem ZgJ (k:IntKind) (ns:List Int):(ns.map fun n => [Jv k n]).flatten = ns.map (Jv k):=by
 induction ns with
 | nil => rfl
 | cons n l ih => simp [ih]
theorem Zh5 {k:IntKind} {T:TypeId} {n:Nat} (h:(!(Ty.int k).isU8) = true) (hn:n ≤ 1048576):Fit (.int k) T n (0,0) :=
 ⟨fun o _ => ZgS o,by unfold okB; simp only [J7] at h; rw [h]; rfl,Jj _,by simp only [Ty.size]; omega⟩
theorem Zce (h:RelW G σ lim st tmps w) {base:Nat} {T:TypeId} {l l':List Nat} {e:Eff} (hm:(Zba C base T).run st.tbl l = some (e,l')) :
  Z1 C G st tmps w (J8 T true (.tuple #[])) e:=by
 unfold Zba at hm
 cases hz:zeroCells C.P T with
 | none => simp [hz,M.run] at hm
 | some zs =>
  simp only [hz] at hm
  split at hm
  ·rename_i k ns hns
   obtain ⟨hg,hm⟩:=M.run_guard hm
   simp only [Jh] at hg
   obtain ⟨hf,l2,hm⟩:=Xx hm
   obtain ⟨rfl,_⟩:=M.run_ret hm
   obtain ⟨z,hz1,hz2⟩:=QO hz w
   have hv:=WV (σ:=σ) (w:=w) (lim:=lim) hns (KW zs)
   obtain ⟨hN,hE⟩:=KG h hf (w':=w.alloc (.cells zs.toArray T)) (vs:=zs.toArray) (T:=T) (fz:=(0,0)) (cap:=ns.length) (t:=.int k) (xs:=ns) false
    (by simp) (fun k hk => heap_alloc_old w _ k hk) (heap_alloc_new w _) ⟨rfl,rfl,rfl⟩ (by simp [Ty.size]) (Jj _) (by simp [Ty.size,hv]) (Zh5 hg.2.1 (by have:=Jt hg.1; simp [hv]; omega)) (Zcv k ns) (rest:=[]) (by rw [ZgJ]; simpa using hv)
   refine ⟨.pointer (some ⟨w.heap.size,0,none⟩),_,_,_,?_,hN,?_,?_⟩
   ·simp [J8,hz1,newVar,newRow,← hz2]
   ·simp only [RA]; exact ⟨w.heap.size,0,ns.length,ns.length,by simp,by simp⟩
   ·intro r hr; simp [Za] at hr; subst hr; simp [Ze]
  ·exact (M.run_fail hm).elim
theorem Zcf (h:RelW G σ lim st tmps w) {T:TypeId} {a x:AV} {va vx:Value} {l l':List Nat} {e:Eff} (hm:(Zbd C T a x).run st.tbl l = some (e,l'))
  (ha:RA σ w lim a va) (hx:RA σ w lim x vx) (hT:∃ d,C.P.underlying T = some d):Zg7 C G st tmps w (Ve T va vx) e:=by
 unfold Zbd at hm
 obtain ⟨d,hT⟩:=hT
 split at hm
 ·rename_i r t cs
  obtain ⟨hg,hm⟩:=M.run_guard hm
  split at hm
  ·rename_i k ns hns
   simp only [M.run] at hm
   cases hr:st.tbl r with
   | fresh => simp [hr,M.run] at hm
   | gone => simp [hr,M.run] at hm
   | live y =>
    cases y with
    | box => simp [hr,M.run] at hm
    | nest => simp [hr,M.run] at hm
    | arr t' xs sh =>
     cases sh with
     | true => simp [hr,M.run] at hm
     | false =>
      simp only [hr] at hm
      by_cases ht1:t = .int k
      ·subst ht1
       rw [if_pos rfl] at hm
       by_cases ht2:t' = .int k
       ·subst ht2
        rw [if_pos rfl] at hm
        obtain ⟨hc,hm⟩:=M.run_need hm
        have hc:=of_decide_eq_true hc
        obtain ⟨rfl,_⟩:=M.run_ret hm
        simp only [RA] at ha hx
        obtain ⟨b,off,len,cap,h1,rfl⟩:=ha
        obtain ⟨vs,rfl,hvs⟩:=hx
        have hv:=WV hns hvs
        have hlen:vs.length = C.P.cellsOf T:=by rw [← Zu hg]; exact ((Zx.1 hvs).length).symm
        obtain ⟨hR,_⟩:=h.res r _ hr
        simp only [RR,cond_false] at hR
        rcases hR.2 with ⟨g1,g2⟩ | ⟨b',off',cap',cur,U,fz,g1,g2,g3,g4,g5,g6,g7⟩
        ·rw [g2] at h1; simp at h1
        ·rw [g1] at h1
         obtain ⟨⟨rfl,rfl⟩,rfl,rfl⟩:(b' = b ∧ off' = off) ∧ xs.length = len ∧ cap' = cap:=by simpa using h1
         simp only [Ty.size,VV,Nat.zero_mul,JH] at *
         have hvl:vs.length = ns.length:=by rw [hv]; simp
         have hone:vs.all (·.oneCell') = true:=by rw [hv,Vf]; intro v hv'; obtain ⟨n,_,rfl⟩:=VG.1 hv'; rfl
         have hrun:=ZV (P:=C.P) b' off' U fz vs 0 cur w g3 (by omega) g5.free (by simpa using hone)
         simp only [JH] at hrun
         obtain ⟨hW,hE⟩:=h.write hr (y:=.arr (.int k) ns true) (by rw [g1]; rfl) (cs:=(cur.toList.take off' ++ vs ++ cur.toList.drop (off' + vs.length)).toArray) g3 (fun o ho => by omega) (by intro q hq; cases hq)
          (fun hE => by
           simp only [RR,Ty.size,VV,cond_true]
           refine ⟨Nat.one_pos,.inr ⟨b',off',cap',_,U,fz,by rw [← hc]; exact g1,by omega,setRow_heap w b' cur _ U fz g3,by simp; omega,⟨fun o ho => g5.free o (by simp at ho; omega),g5.kind,g5.ord,by have:=g5.big; simp; omega⟩,fun i hi => ?_,by omega⟩⟩
           simp only [Rt]
           have:i < vs.length:=by omega
           have h2:((cur.toList.take off' ++ vs ++ cur.toList.drop (off' + vs.length)).drop (off' + i)).take 1 = [vs[i]]:=by
            have hl:(cur.toList.take off').length = off':=by simp; omega
            generalize cur.toList.take off' = A at hl
            subst hl
            rw [Ju,← JE,List.drop_left,List.drop_append_of_le_length (by omega),Ul this]
            rfl
           rw [h2]
           simp only [hv,List.getElem_map])
         refine ⟨_,_,_,?_,hW,rfl⟩
         simp only [Ve,JL,Sem.run_bind,Sem.run_pure,Result.andThen_ok,storeVar,Z4 hT,Value.cells]
         have hsz:(vs.toArray.size ≠ C.P.cellsOf T) = False:=by simp [hlen]
         simp only [hsz,if_false]
         exact hrun
       ·rw [if_neg ht2] at hm; exact (M.run_fail hm).elim
      ·rw [if_neg ht1] at hm; exact (M.run_fail hm).elim
  ·exact (M.run_fail hm).elim
 ·exact (M.run_fail hm).elim
end Go.Sh
namespace Go.Sh
open Go
variable [Gl]
variable {C:Ctx} {G:Glob} {σ:Qt} {w:World} {lim:Nat → Nat} {st:St} {a:Act}
theorem Zg (h:RelW G σ lim st a.tmps w) (x:Operand):RA σ w lim (WW st.env x) (a.eval x) ∧ Zd st.tbl (Za (WW st.env x)):=by
 cases x with
 | tmp t => exact ⟨h.env t,h.known t⟩
 | const v => exact ⟨Zn,Zh⟩
 | func f => exact ⟨by simp only [WW,RA]; rfl,Zh⟩
 | global g => exact ⟨by simp [WW,RA],Zh⟩
def ZaL (env:Nat → AV) (x:Operand):AV:=Wz (WW env x)
theorem XJ (h:RelW G σ lim st a.tmps w) (l:List Operand):Zw σ w lim (l.map (WW st.env)) (l.map a.eval) ∧ ∀ x ∈ l.map (WW st.env),Zd st.tbl (Za x):=by
 induction l with
 | nil => exact ⟨by simp [Zw],by simp⟩
 | cons x l ih =>
  refine ⟨by simp only [JR,Zw]; exact ⟨(Zg h x).1,ih.1⟩,fun y hy => ?_⟩
  cases hy with
  | head => exact (Zg h x).2
  | tail _ hy => exact ih.2 y hy
theorem WF {vals:List AV} {f:AV → M Eff} {tbl:ZA} {l l':List Nat} {e:Eff} (hm:(v1 vals f).run tbl l = some (e,l')):∃ x,vals = [x] ∧ (f x).run tbl l = some (e,l'):=by
 unfold v1 at hm; split at hm
 ·exact ⟨_,rfl,hm⟩
 ·exact (M.run_fail hm).elim
theorem Ye {vals:List AV} {f:AV → AV → M Eff} {tbl:ZA} {l l':List Nat} {e:Eff} (hm:(v2 vals f).run tbl l = some (e,l')):∃ x y,vals = [x,y] ∧ (f x y).run tbl l = some (e,l'):=by
 unfold v2 at hm; split at hm
 ·exact ⟨_,_,rfl,hm⟩
 ·exact (M.run_fail hm).elim
theorem Zjf {vals:List AV} {f:AV → AV → AV → M Eff} {tbl:ZA} {l l':List Nat} {e:Eff} (hm:(v3 vals f).run tbl l = some (e,l')):∃ x y z,vals = [x,y,z] ∧ (f x y z).run tbl l = some (e,l'):=by
 unfold v3 at hm; split at hm
 ·exact ⟨_,_,_,rfl,hm⟩
 ·exact (M.run_fail hm).elim
def Qc (C:Ctx) (G:Glob) (st:St) (o:Oper) (a:Act) (w:World) (e:Eff):Prop :=
 ∀ (next:Act → World → Prop) (Q:Exit → Act → World → Prop),(∀ x w' σ' lim',RelW G σ' lim' ⟨QD st.env o.dst e.val,st.tbl.put e.ups⟩ (a.put o.dst x).tmps w' → next (a.put o.dst x) w') → o.wp C.P a w next Q
theorem Qc.value {o:Oper} {s:Sem Value} {e:Eff} (hx:execOp a.eval o = (do pure (Next.value (← s)))) (h:Z1 C G st a.tmps w s e) (hd:∀ d,o.dst = some d → d < a.tmps.size):Qc C G st o a w e:=by
 intro next Q hn
 obtain ⟨x,w',σ',lim',hr,hR,hv,hk⟩:=h
 unfold Oper.wp
 rw [hx]
 simp only [bind_pure_comp,Sem.run_map,hr,Result.andThen_ok,Oper.upon_value]
 have:=RelW.step (a:=a) hR (Upd.quiet hR hv hk) o.dst hd
 simp only [ZJ] at this
 exact hn x w' σ' lim' this
theorem Qc.unit {o:Oper} {s:Sem Unit} {e:Eff} (hx:execOp a.eval o = (do s; pure Next.skip)) (h:Zg7 C G st a.tmps w s e) (hd:∀ d,o.dst = some d → d < a.tmps.size):Qc C G st o a w e:=by
 intro next Q hn
 obtain ⟨w',σ',lim',hr,hR,hv⟩:=h
 unfold Oper.wp
 rw [hx]
 simp only [Sem.run_bind,hr,Result.andThen_ok,Sem.run_pure,Oper.upon_skip]
 have:=RelW.step (a:=a) hR (Upd.quiet (v:=.tup []) (x:=undef) hR (by simp only [RA]; exact ⟨[],rfl,by simp [Zw]⟩) (by simp [Za,Zc,Zd])) o.dst hd
 simp only [ZJ] at this
 rw [← hv] at this
 exact hn undef w' σ' lim' this
theorem Zea (h:RelW G σ lim st a.tmps w) {x:AV} {v:Value} (hx:RA σ w lim x v) (hk:Zd st.tbl (Za x)):Z1 C G st a.tmps w (pure v) ⟨x,[]⟩ :=
 ⟨v,w,σ,lim,rfl,h,hx,hk⟩
def ZdD (P:Program):Op → Bool
 | .store T _ _ => (P.underlying T).isSome
 | _ => true
theorem Zhu (fn:Func) (h:fn.name = "math.Float64bits") (ho:fn.origin = ""):Extern.findNext fn = none ∧ Extern.find fn = some Extern.MathFloatBits.float64bits:=by
 have a1:Extern.allNextRows.lookup "math.Float64bits" = none:=by kernel_rfl
 have a2:Extern.allNextRows.lookup "" = none:=by kernel_rfl
 have b1:Extern.allGenericRows.lookup "math.Float64bits" = none:=by kernel_rfl
 have b2:Extern.allTypedRows.lookup "math.Float64bits" = none:=by kernel_rfl
 have b3:Extern.allRows.lookup "math.Float64bits" = some Extern.MathFloatBits.float64bits:=by kernel_rfl
 unfold Extern.findNext Extern.find
 rw [h,ho]
 simp only [a1,a2,b1,b2,b3]
 exact ⟨rfl,rfl⟩
theorem Zhv (fn:Func) (h:fn.name = "math.Float64frombits") (ho:fn.origin = ""):Extern.findNext fn = none ∧ Extern.find fn = some Extern.MathFloatBits.float64frombits:=by
 have a1:Extern.allNextRows.lookup "math.Float64frombits" = none:=by kernel_rfl
 have a2:Extern.allNextRows.lookup "" = none:=by kernel_rfl
 have b1:Extern.allGenericRows.lookup "math.Float64frombits" = none:=by kernel_rfl
 have b2:Extern.allTypedRows.lookup "math.Float64frombits" = none:=by kernel_rfl
 have b3:Extern.allRows.lookup "math.Float64frombits" = some Extern.MathFloatBits.float64frombits:=by kernel_rfl
 unfold Extern.findNext Extern.find
 rw [h,ho]
 simp only [a1,a2,b1,b2,b3]
 exact ⟨rfl,rfl⟩
theorem ZgH (fn:Func) (h:fn.name = "math.archFloor") (ho:fn.origin = ""):Extern.findNext fn = none ∧ Extern.find fn = some (Extern.MathFloor.toIntegral "math.archFloor" .down):=by
 have a1:Extern.allNextRows.lookup "math.archFloor" = none:=by kernel_rfl
 have a2:Extern.allNextRows.lookup "" = none:=by kernel_rfl
 have b1:Extern.allGenericRows.lookup "math.archFloor" = none:=by kernel_rfl
 have b2:Extern.allTypedRows.lookup "math.archFloor" = none:=by kernel_rfl
 have b3:Extern.allRows.lookup "math.archFloor" = some (Extern.MathFloor.toIntegral "math.archFloor" .down):=by kernel_rfl
 unfold Extern.findNext Extern.find
 rw [h,ho]
 simp only [a1,a2,b1,b2,b3]
 exact ⟨rfl,rfl⟩
theorem ZgI (fn:Func) (h:fn.name = "math.archTrunc") (ho:fn.origin = ""):Extern.findNext fn = none ∧ Extern.find fn = some (Extern.MathFloor.toIntegral "math.archTrunc" .zero):=by
 have a1:Extern.allNextRows.lookup "math.archTrunc" = none:=by kernel_rfl
 have a2:Extern.allNextRows.lookup "" = none:=by kernel_rfl
 have b1:Extern.allGenericRows.lookup "math.archTrunc" = none:=by kernel_rfl
 have b2:Extern.allTypedRows.lookup "math.archTrunc" = none:=by kernel_rfl
 have b3:Extern.allRows.lookup "math.archTrunc" = some (Extern.MathFloor.toIntegral "math.archTrunc" .zero):=by kernel_rfl
 unfold Extern.findNext Extern.find
 rw [h,ho]
 simp only [a1,a2,b1,b2,b3]
 exact ⟨rfl,rfl⟩
theorem Zdf {s:String} {c:Nat} (h:Zde s = some c):(c = 0 ∧ s = "math.Float64bits") ∨ (c = 1 ∧ s = "math.Float64frombits") ∨ (c = 2 ∧ s = "math.archFloor") ∨ (c = 3 ∧ s = "math.archTrunc"):=by
 unfold Zde at h
 cases h0:(s == "math.Float64bits") with
 | true => rw [h0] at h; cases h; exact .inl ⟨rfl,by simpa using h0⟩
 | false =>
  rw [h0] at h
  cases h1:(s == "math.Float64frombits") with
  | true => rw [h1] at h; cases h; exact .inr (.inl ⟨rfl,by simpa using h1⟩)
  | false =>
   rw [h1] at h
   cases h2:(s == "math.archFloor") with
   | true => rw [h2] at h; cases h; exact .inr (.inr (.inl ⟨rfl,by simpa using h2⟩))
   | false =>
    rw [h2] at h
    cases h3:(s == "math.archTrunc") with
    | true => rw [h3] at h; cases h; exact .inr (.inr (.inr ⟨rfl,by simpa using h3⟩))
    | false => rw [h3] at h; cases h
theorem KP {P:Program} {name:String} {way:Ieee.Toward} {x r:Nat} (h:X1 way x = some r) (w:World):(Extern.MathFloor.toIntegral name way #[.float .f64 x]).run P w = .ok (.float .f64 r) w:=by
 unfold X1 at h
 show (match Je.decode x with
  | .nan s t => _
  | d => (pure (.float .f64 (Je.encode (d.integral way))):Sem Value)).run P w = _
 split at h
 ·cases h
 ·rename_i d hn
  cases h
  split
  ·rename_i s t he; exact (hn s t he).elim
  ·rfl
theorem KL {P:Program} {f:Nat} {fn:Func} (hf:P.funcs[f]? = some fn) (hb:fn.body.isNone = true) (hn:(fn.name == "runtime.NumGoroutine") = false) {e:Array Value → Sem Value} (h1:Extern.findNext fn = none) (h2:Extern.find fn = some e) {args:Array Value} {v:Value} {w:World}
  (he:(e args).run P w = .ok v w):(callFunc f args).run P w = .ok (.value v) w:=by
 have hb':fn.body = none:=by simpa using hb
 have hn':¬ fn.name = "runtime.NumGoroutine" := by simpa using hn
 simp [callFunc,hf,hb',h1,h2,hn',he]
theorem ZiP {b:Nat} {args:List AV} {vs:List Value} {tbl:ZA} {l l':List Nat} {e:Eff} (hm:(K6 b args).run tbl l = some (e,l')) (ha:Zw σ w lim args vs) {f:Nat} (hx:Zht C f = some b) :
  ∃ v,(callFunc f vs.toArray).run C.P w = .ok (.value v) w ∧ RA σ w lim e.val v ∧ Zd tbl (Za e.val) ∧ e.ups = []:=by
 unfold Zht at hx
 cases hf:C.P.funcs[f]? with
 | none => rw [hf] at hx; cases hx
 | some fn =>
  rw [hf] at hx
  simp only at hx
  cases hg:(fn.body.isNone && (fn.origin == "")) with
  | false => rw [hg] at hx; cases hx
  | true =>
   rw [hg] at hx
   simp only [cond_true] at hx
   simp only [Jh,beq_iff_eq] at hg
   obtain ⟨g1,g2⟩:=hg
   have one:∀ p,args = [.val (.v p)] → vs = [p]:=by
    intro p hp
    subst hp
    match vs,ha with
    | [v],ha => simp only [Zw,RA,RP,and_true] at ha; rw [ha]
    | [],ha => simp [Zw] at ha
    | _ :: _ :: _,ha => simp [Zw] at ha
   rcases Zdf hx with ⟨rfl,hn⟩ | ⟨rfl,hn⟩ | ⟨rfl,hn⟩ | ⟨rfl,hn⟩
   ·obtain ⟨e1,e2⟩:=Zhu fn hn g2
    simp only [K6] at hm
    split at hm <;> first | contradiction | skip
    ·rename_i x _
     obtain ⟨rfl,_⟩:=M.run_ret hm
     rw [one _ rfl]
     exact ⟨.int .u64 x,KL hf g1 (by rw [hn]; rfl) e1 e2 rfl,Zn,Zh,rfl⟩
    all_goals exact (M.run_fail hm).elim
   ·obtain ⟨e1,e2⟩:=Zhv fn hn g2
    simp only [K6] at hm
    split at hm <;> first | contradiction | skip
    ·rename_i x _
     obtain ⟨rfl,_⟩:=M.run_ret hm
     rw [one _ rfl]
     exact ⟨.float .f64 x.toNat,KL hf g1 (by rw [hn]; rfl) e1 e2 rfl,Zn,Zh,rfl⟩
    all_goals exact (M.run_fail hm).elim
   ·obtain ⟨e1,e2⟩:=ZgH fn hn g2
    simp only [K6] at hm
    split at hm <;> first | contradiction | skip
    ·rename_i x _
     obtain ⟨r,hr,hm⟩:=M.run_opt hm
     obtain ⟨rfl,_⟩:=M.run_ret hm
     rw [one _ rfl]
     exact ⟨.float .f64 r,KL hf g1 (by rw [hn]; rfl) e1 e2 (KP hr w),Zn,Zh,rfl⟩
    all_goals exact (M.run_fail hm).elim
   ·obtain ⟨e1,e2⟩:=ZgI fn hn g2
    simp only [K6] at hm
    split at hm <;> first | contradiction | skip
    ·rename_i x _
     obtain ⟨r,hr,hm⟩:=M.run_opt hm
     obtain ⟨rfl,_⟩:=M.run_ret hm
     rw [one _ rfl]
     exact ⟨.float .f64 r,KL hf g1 (by rw [hn]; rfl) e1 e2 (KP hr w),Zn,Zh,rfl⟩
    all_goals exact (M.run_fail hm).elim
theorem Zd8 {P:Program} (ats:Array TypeId) (ty:TypeId) (k:FloatKind) (a b:Nat) (w:World):(Uf ats ty #[.float k a,.float k b]).run P w = .ok (.complex k a b) w:=by
 show (if k = k then (pure (.complex k a b):Sem Value) else _).run P w = _
 rw [if_pos rfl]; rfl
theorem Zgs (hC:∀ f cal,C.Φ f = some cal → Ctr C.P C.k f cal) (h:RelW G σ lim st a.tmps w) {base:Nat} {o:Oper} {l lg:List Nat} {e:Eff}
  (hm:(act C base o.op ((ZE o.op).map (WW st.env))).run st.tbl l = some (e,lg)) (hd:∀ d,o.dst = some d → d < a.tmps.size) (hT:ZdD C.P o.op = true):Qc C G st o a w e:=by
 have hres:=h.res
 have hops:=XJ h (ZE o.op)
 obtain ⟨dst,op,type,pos,after,guard⟩:=o
 simp only at hm hd hT hops
 cases op with
 | move x =>
  simp only [act] at hm
  obtain ⟨y,hy,hm⟩:=WF hm
  obtain ⟨rfl,_⟩:=M.run_ret hm
  simp only [ZE,JR,VE,J0.injEq,and_true] at hy; subst hy
  obtain ⟨h1,h2⟩:=Zg h x
  exact Qc.value (by simp [execOp]) (Zea h h1 h2) hd
 | assign x =>
  simp only [act] at hm
  obtain ⟨y,hy,hm⟩:=WF hm
  obtain ⟨rfl,_⟩:=M.run_ret hm
  simp only [ZE,JR,VE,J0.injEq,and_true] at hy; subst hy
  obtain ⟨h1,h2⟩:=Zg h x
  exact Qc.value (by simp [execOp]) (Zea h h1 h2) hd
 | pick c p q =>
  simp only [act] at hm
  obtain ⟨y,z,u,hy,hm⟩:=Zjf hm
  simp only [ZE,JR,VE,J0.injEq,and_true] at hy; obtain ⟨rfl,rfl,rfl⟩:=hy
  obtain ⟨c1,_⟩:=Zg h c
  obtain ⟨p1,p2⟩:=Zg h p
  obtain ⟨q1,q2⟩:=Zg h q
  obtain ⟨t,x,e1,e2,e3,e4,e5⟩:=Zft hm c1 p1 q1 p2 q2
  refine Qc.value (s:=do pure (if ← asBool (a.eval c) then a.eval p else a.eval q)) (by simp [execOp]) (Z1.quiet h ⟨x,?_,e3,e4,e5⟩) hd
  rw [e1,e2]; cases t <;> rfl
 | alloc T =>
  simp only [act] at hm
  cases hb:(C.live 999997).any (Ja T) with
  | true => simp only [hb,cond_true] at hm; exact Qc.value rfl (Zce h hm) hd
  | false => simp only [hb,cond_false] at hm; exact Qc.value rfl (ZeW h hm) hd
 | box T x =>
  simp only [act] at hm
  obtain ⟨y,hy,hm⟩:=WF hm
  simp only [ZE,JR,VE,J0.injEq,and_true] at hy; subst hy
  obtain ⟨h1,h2⟩:=Zg h x
  exact Qc.value rfl (Zho h hm h1 h2) hd
 | build T ps =>
  simp only [ZE,VZ] at hops hm
  refine Qc.value rfl (ZeZ h (ρ:=a.eval) hm ?_ hops.2) hd
  exact hops.1
 | buildSlice T n ps =>
  simp only [ZE,VZ] at hops hm
  exact Qc.value rfl (ZaR h (ρ:=a.eval) hm hops.1) hd
 | load T x =>
  simp only [act] at hm
  obtain ⟨y,hy,hm⟩:=WF hm
  simp only [ZE,JR,VE,J0.injEq,and_true] at hy; subst hy
  obtain ⟨h1,h2⟩:=Zg h x
  exact Qc.value rfl (Z1.quiet h (ZbG hm h1 hres)) hd
 | store T x y =>
  simp only [act] at hm
  obtain ⟨h1,h2⟩:=Zg h x
  obtain ⟨h3,h4⟩:=Zg h y
  cases hb:Zdw C T && ZkB ((ZE (.store T x y)).map (WW st.env)) with
  | true =>
   simp only [hb,cond_true,cond_false] at hm
   obtain ⟨p,q,hy,hm⟩:=Ye hm
   simp only [ZE,JR,VE,J0.injEq,and_true] at hy; obtain ⟨rfl,rfl⟩:=hy
   exact Qc.unit rfl (Zcf h hm h1 h3 (VC.1 hT)) hd
  | false =>
   simp only [hb,cond_true,cond_false] at hm
   obtain ⟨p,q,hy,hm⟩:=Ye hm
   simp only [ZE,JR,VE,J0.injEq,and_true] at hy; obtain ⟨rfl,rfl⟩:=hy
   exact Qc.unit rfl (ZfB h hm h1 h3 h4 (VC.1 hT)) hd
 | nilCheck x =>
  simp only [act] at hm
  obtain ⟨y,hy,hm⟩:=WF hm
  simp only [ZE,JR,VE,J0.injEq,and_true] at hy; subst hy
  obtain ⟨h1,h2⟩:=Zg h x
  obtain ⟨⟨p,e1⟩,e2,e3⟩:=ZbO hm h1
  refine Qc.value (s:=pure (a.eval x)) (by simp [execOp,e1]) (Z1.quiet h ⟨_,rfl,by rw [e2]; exact h1,by rw [e2]; exact h2,e3⟩) hd
 | binOp op T x y U =>
  simp only [act] at hm
  obtain ⟨p,q,hy,hm⟩:=Ye hm
  simp only [ZE,JR,VE,J0.injEq,and_true] at hy; obtain ⟨rfl,rfl⟩:=hy
  exact Qc.value rfl (Z1.quiet h (Zbh hm (Zg h x).1 (Zg h y).1)) hd
 | unOp op T x =>
  simp only [act] at hm
  obtain ⟨y,hy,hm⟩:=WF hm
  simp only [ZE,JR,VE,J0.injEq,and_true] at hy; subst hy
  exact Qc.value rfl (Z1.quiet h (ZiD hm (Zg h x).1)) hd
 | convert src dst' x =>
  simp only [act] at hm
  obtain ⟨y,hy,hm⟩:=WF hm
  simp only [ZE,JR,VE,J0.injEq,and_true] at hy; subst hy
  obtain ⟨h1,h2⟩:=Zg h x
  rcases Zch hm h1 hres with h3 | ⟨el,s,g1,g2,g3,g3',g4,g5,g6,rfl⟩ | ⟨r,t,xs,sh,el,el',rfl,g1,g2,g3,g4,g5,g6,g7,rfl⟩
  ·exact Qc.value rfl (Z1.quiet h h3) hd
  ·refine Qc.value (s:=convert src dst' (a.eval x)) rfl ?_ hd
   rw [g4]
   exact ZdU h g1 g2 g3 g3' g6 g5
  ·refine Qc.value (s:=convert src src (a.eval x)) rfl ?_ hd
   rw [g4]
   exact ZgQ h g2 g3 g6 g7 (by rw [← g4]; exact g5)
 | makeSlice T x y =>
  simp only [act] at hm
  obtain ⟨p,q,hy,hm⟩:=Ye hm
  simp only [ZE,JR,VE,J0.injEq,and_true] at hy; obtain ⟨rfl,rfl⟩:=hy
  exact Qc.value rfl (ZgP h hm (Zg h x).1 (Zg h y).1) hd
 | slice T x lo hi mx =>
  simp only [act,Za7] at hm
  cases lo with
  | none =>
   cases hi with
   | none =>
    cases mx with
    | none =>
     simp only [ZE,V4,Vg,JR,VE,V2] at hm
     exact Qc.value rfl (Yb h hm (Qk (Zg h x).1) (vlo:=none) (vhi:=none) trivial trivial) hd
    | some m => simp [ZE,M.run] at hm
   | some b =>
    cases mx with
    | none =>
     simp only [ZE,V4,Vg,VT,JR,VE,V2,Uc] at hm
     exact Qc.value rfl (Yb h hm (Qk (Zg h x).1) (vlo:=none) (vhi:=some (a.eval b)) trivial (Qk (Zg h b).1)) hd
    | some m => simp [ZE,M.run] at hm
  | some b =>
   cases hi with
   | none =>
    cases mx with
    | none =>
     simp only [ZE,V4,Vg,JR,VE,V2,Uc] at hm
     exact Qc.value rfl (Yb h hm (Qk (Zg h x).1) (vlo:=some (a.eval b)) (vhi:=none) (Qk (Zg h b).1) trivial) hd
    | some m => simp [ZE,M.run] at hm
   | some c =>
    cases mx with
    | none =>
     simp only [ZE,V4,Vg,J1,VT,JR,VE,V2,Uc] at hm
     exact Qc.value rfl (Yb h hm (Qk (Zg h x).1) (vlo:=some (a.eval b)) (vhi:=some (a.eval c)) (Qk (Zg h b).1) (Qk (Zg h c).1)) hd
    | some m => simp [ZE,M.run] at hm
 | fieldAddr T x f =>
  simp only [act] at hm
  obtain ⟨y,hy,hm⟩:=WF hm
  simp only [ZE,JR,VE,J0.injEq,and_true] at hy; subst hy
  exact Qc.value rfl (Z1.quiet h (ZaS hm (Zg h x).1 (Zg h x).2)) hd
 | indexAddr T x y =>
  simp only [act] at hm
  cases hb:Zdw C T with
  | true =>
   simp only [hb,cond_true,cond_false] at hm
   obtain ⟨p,q,hy,hm⟩:=Ye hm
   simp only [ZE,JR,VE,J0.injEq,and_true] at hy; obtain ⟨rfl,rfl⟩:=hy
   exact Qc.value rfl (Z1.quiet h (Zbc hm (Zg h x).1 (Zg h y).1 (Zg h x).2)) hd
  | false =>
   simp only [hb,cond_true,cond_false] at hm
   obtain ⟨p,q,hy,hm⟩:=Ye hm
   simp only [ZE,JR,VE,J0.injEq,and_true] at hy; obtain ⟨rfl,rfl⟩:=hy
   exact Qc.value rfl (Z1.quiet h (ZaT hm (Qk (Zg h x).1) (Qk (Zg h y).1) (by rw [ZbT]; exact (Zg h x).2) hres)) hd
 | index T x y =>
  simp only [act] at hm
  obtain ⟨p,q,hy,hm⟩:=Ye hm
  simp only [ZE,JR,VE,J0.injEq,and_true] at hy; obtain ⟨rfl,rfl⟩:=hy
  exact Qc.value rfl (Z1.quiet h (Zew hm (Zg h x).1 (Zg h y).1)) hd
 | extract x i =>
  simp only [act] at hm
  obtain ⟨y,hy,hm⟩:=WF hm
  simp only [ZE,JR,VE,J0.injEq,and_true] at hy; subst hy
  exact Qc.value rfl (Z1.quiet h (Zcj hm (Zg h x).1 (Zg h x).2)) hd
 | call c =>
  have Zg:∀ (_:RelW G σ lim st a.tmps w) (x:Operand),RA σ w lim (ZaL st.env x) (a.eval x) ∧ Zd st.tbl (Za (ZaL st.env x)) :=
   fun h x => ⟨Qk (Zg h x).1,by show Zd st.tbl (Za (Wz (WW st.env x))); rw [ZbT]; exact (Zg h x).2⟩
  have XJ:∀ (_:RelW G σ lim st a.tmps w) (l:List Operand),Zw σ w lim (l.map (ZaL st.env)) (l.map a.eval) ∧ ∀ x ∈ l.map (ZaL st.env),Zd st.tbl (Za x):=by
   intro h l
   induction l with
   | nil => exact ⟨by simp [Zw],by simp⟩
   | cons x l ih =>
    refine ⟨by simp only [JR,Zw]; exact ⟨(Zg h x).1,ih.1⟩,fun y hy => ?_⟩
    cases hy with
    | head => exact (Zg h x).2
    | tail _ hy => exact ih.2 y hy
  replace hm:(K5 C base c ((ZE (.call c)).map (ZaL st.env))).run st.tbl l = some (e,lg):=by
   have e1:((ZE (.call c)).map (WW st.env)).map Wz = (ZE (.call c)).map (ZaL st.env):=by rw [VZ]; rfl
   rw [← e1]; exact hm
  obtain ⟨callee,args,argTypes⟩:=c
  cases callee with
  | invoke r n => exact (M.run_fail (show M.run st.tbl .fail l = some (e,lg) from hm)).elim
  | builtin b =>
   replace hm:(Qo C base b argTypes (args.toList.map (ZaL st.env))).run st.tbl l = some (e,lg):=hm
   have hargs:=XJ h args.toList
   obtain ⟨L,rfl⟩:∃ L:List Operand,args = L.toArray:=⟨args.toList,by simp⟩
   simp only [JU] at hm hargs
   cases b with
   | len =>
    match L,hm with
    | [x],hm =>
     have h1:=Zg h x
     obtain ⟨v,e1,e2⟩:=ZgO (ty:=type) hm h1.1 hres
     exact Qc.value (s:=Builtin.len_ argTypes type #[a.eval x]) (by simp [execOp,resolve,invoke,builtin]) (Z1.quiet h ⟨v,e1,e2⟩) hd
    | [],hm => exact (M.run_fail (show M.run st.tbl .fail l = some (e,lg) from hm)).elim
    | _ :: _ :: _,hm => exact (M.run_fail (show M.run st.tbl .fail l = some (e,lg) from hm)).elim
   | append =>
    match L,hm with
    | [x,y],hm =>
     exact Qc.value (s:=Builtin.append_ argTypes type #[a.eval x,a.eval y]) (by simp [execOp,resolve,invoke,builtin]) (Zd2 h hm (Zg h x).1 (Zg h y).1) hd
    | [],hm => exact (M.run_fail (show M.run st.tbl .fail l = some (e,lg) from hm)).elim
    | [_],hm => exact (M.run_fail (show M.run st.tbl .fail l = some (e,lg) from hm)).elim
    | _ :: _ :: _ :: _,hm => exact (M.run_fail (show M.run st.tbl .fail l = some (e,lg) from hm)).elim
   | copy =>
    match L,hm with
    | [x,y],hm =>
     exact Qc.value (s:=Builtin.copy_ argTypes type #[a.eval x,a.eval y]) (by simp [execOp,resolve,invoke,builtin]) (ZgD h hm (Zg h x).1 (Zg h y).1) hd
    | [],hm => exact (M.run_fail (show M.run st.tbl .fail l = some (e,lg) from hm)).elim
    | [_],hm => exact (M.run_fail (show M.run st.tbl .fail l = some (e,lg) from hm)).elim
    | _ :: _ :: _ :: _,hm => exact (M.run_fail (show M.run st.tbl .fail l = some (e,lg) from hm)).elim
   | max =>
    have hb:=hargs.1
    simp only [Qo] at hm
    split at hm <;> first | contradiction | skip
    ·rename_i k n k' n' heq
     obtain ⟨hk,hm2⟩:=M.run_guard hm
     obtain rfl:=of_decide_eq_true hk
     obtain ⟨rfl,_⟩:=M.run_ret hm2
     match L,heq,hb with
     | [],heq,_ => exact (by simp at heq)
     | [_],heq,_ => exact (by simp at heq)
     | _ :: _ :: _ :: _,heq,_ => exact (by simp at heq)
     | [x,y],heq,hb =>
      simp only [JR,VE,J0.injEq,and_true] at heq
      obtain ⟨h1,h2⟩:=heq
      have h3:=(Zg h x).1
      have h4:=(Zg h y).1
      rw [h1] at h3; rw [h2] at h4
      simp only [RA,RP] at h3 h4
      exact Qc.value (s:=VY argTypes type #[a.eval x,a.eval y]) (by simp [execOp,resolve,invoke,builtin]) (Z1.quiet h ⟨_,by simp [VY,h3,h4,Ug],Zn,Zh,rfl⟩) hd
    ·rename_i k n k' n' _ heq
     obtain ⟨hk,hm2⟩:=M.run_guard hm
     obtain rfl:=of_decide_eq_true hk
     obtain ⟨r,hr,hm3⟩:=M.run_opt hm2
     obtain ⟨rfl,_⟩:=M.run_ret hm3
     match L,heq,hb with
     | [],heq,_ => exact (by simp at heq)
     | [_],heq,_ => exact (by simp at heq)
     | _ :: _ :: _ :: _,heq,_ => exact (by simp at heq)
     | [x,y],heq,hb =>
      simp only [JR,VE,J0.injEq,and_true] at heq
      obtain ⟨h1,h2⟩:=heq
      have h3:=(Zg h x).1
      have h4:=(Zg h y).1
      rw [h1] at h3; rw [h2] at h4
      simp only [RA,RP] at h3 h4
      refine Qc.value (s:=VY argTypes type #[a.eval x,a.eval y]) (by simp [execOp,resolve,invoke,builtin]) (Z1.quiet h ⟨.float k r,?_,Zn,Zh,rfl⟩) hd
      simp only [VY,h3,h4,List.foldlM_cons,List.foldlM_nil,Ug]
      unfold ZjH at hr
      split at hr
      ·cases hr
      ·rename_i ho; cases hr; simp [ho]
      ·rename_i ho; cases hr; simp [ho]
      ·rename_i ho; cases hr; simp [ho]
    all_goals exact (M.run_fail hm).elim
   | complex =>
    have hb:=hargs.1
    simp only [Qo] at hm
    split at hm <;> first | contradiction | skip
    ·rename_i k n k' n' heq
     obtain ⟨hk,hm2⟩:=M.run_guard hm
     obtain rfl:=of_decide_eq_true hk
     obtain ⟨rfl,_⟩:=M.run_ret hm2
     match L,heq,hb with
     | [],heq,_ => exact (by simp at heq)
     | [_],heq,_ => exact (by simp at heq)
     | _ :: _ :: _ :: _,heq,_ => exact (by simp at heq)
     | [x,y],heq,hb =>
      simp only [JR,VE,J0.injEq,and_true] at heq
      obtain ⟨h1,h2⟩:=heq
      have h3:=(Zg h x).1
      have h4:=(Zg h y).1
      rw [h1] at h3; rw [h2] at h4
      simp only [RA,RP] at h3 h4
      exact Qc.value (s:=Uf argTypes type #[a.eval x,a.eval y]) (by simp [execOp,resolve,invoke,builtin]) (Z1.quiet h ⟨_,by rw [h3,h4]; exact Zd8 ..,Zn,Zh,rfl⟩) hd
    all_goals exact (M.run_fail hm).elim
   | real =>
    have hb:=hargs.1
    simp only [Qo] at hm
    split at hm <;> first | contradiction | skip
    ·rename_i k n n' heq
     obtain ⟨rfl,_⟩:=M.run_ret hm
     match L,heq,hb with
     | [],heq,_ => exact (by simp at heq)
     | _ :: _ :: _,heq,_ => exact (by simp at heq)
     | [x],heq,hb =>
      simp only [JR,VE,J0.injEq,and_true] at heq
      have h3:=(Zg h x).1
      rw [heq] at h3
      simp only [RA,RP] at h3
      exact Qc.value (s:=Builtin.real_ argTypes type #[a.eval x]) (by simp [execOp,resolve,invoke,builtin]) (Z1.quiet h ⟨_,by rw [h3]; rfl,Zn,Zh,rfl⟩) hd
    all_goals exact (M.run_fail hm).elim
   | imag =>
    have hb:=hargs.1
    simp only [Qo] at hm
    split at hm <;> first | contradiction | skip
    ·rename_i k n n' heq
     obtain ⟨rfl,_⟩:=M.run_ret hm
     match L,heq,hb with
     | [],heq,_ => exact (by simp at heq)
     | _ :: _ :: _,heq,_ => exact (by simp at heq)
     | [x],heq,hb =>
      simp only [JR,VE,J0.injEq,and_true] at heq
      have h3:=(Zg h x).1
      rw [heq] at h3
      simp only [RA,RP] at h3
      exact Qc.value (s:=Builtin.imag_ argTypes type #[a.eval x]) (by simp [execOp,resolve,invoke,builtin]) (Z1.quiet h ⟨_,by rw [h3]; rfl,Zn,Zh,rfl⟩) hd
    all_goals exact (M.run_fail hm).elim
   | min =>
    have hb:=hargs.1
    simp only [Qo] at hm
    split at hm <;> first | contradiction | skip
    ·rename_i k n k' n' heq
     obtain ⟨hk,hm2⟩:=M.run_guard hm
     obtain rfl:=of_decide_eq_true hk
     obtain ⟨rfl,_⟩:=M.run_ret hm2
     match L,heq,hb with
     | [],heq,_ => exact (by simp at heq)
     | [_],heq,_ => exact (by simp at heq)
     | _ :: _ :: _ :: _,heq,_ => exact (by simp at heq)
     | [x,y],heq,hb =>
      simp only [JR,VE,J0.injEq,and_true] at heq
      obtain ⟨h1,h2⟩:=heq
      have h3:=(Zg h x).1
      have h4:=(Zg h y).1
      rw [h1] at h3; rw [h2] at h4
      simp only [RA,RP] at h3 h4
      exact Qc.value (s:=Uh argTypes type #[a.eval x,a.eval y]) (by simp [execOp,resolve,invoke,builtin]) (Z1.quiet h ⟨_,by simp [Uh,h3,h4,Builtin.min2],Zn,Zh,rfl⟩) hd
    all_goals exact (M.run_fail hm).elim
   | _ =>
    match L,hm with
    | [],hm => exact (M.run_fail (show M.run st.tbl .fail l = some (e,lg) from hm)).elim
    | [_],hm => exact (M.run_fail (show M.run st.tbl .fail l = some (e,lg) from hm)).elim
    | [_,_],hm => exact (M.run_fail (show M.run st.tbl .fail l = some (e,lg) from hm)).elim
    | _ :: _ :: _ :: _,hm => exact (M.run_fail (show M.run st.tbl .fail l = some (e,lg) from hm)).elim
  | value f =>
   simp only [K5,ZE,JR] at hm
   split at hm
   ·rename_i g as heq
    simp only [J0.injEq] at heq
    obtain ⟨hf,rfl⟩:=heq
    have hfv:=(Zg h f).1
    rw [hf] at hfv
    simp only [RA] at hfv
    have hargs:=XJ h args.toList
    have hmap:VR a.eval args = (args.toList.map a.eval).toArray:=by apply JI; simp
    split at hm
    ·rename_i b hx
     obtain ⟨v,h1,h2,h3,h4⟩:=ZiP hm hargs.1 hx
     intro next Q hn
     unfold Oper.wp
     have hx:(execOp a.eval { dst:=dst,op:=.call { callee:=.value f,args:=args,argTypes:=argTypes },type:=type,pos:=pos,after:=after,guard:=guard }).run C.P w = .ok (.value v) w:=by
      simp only [execOp,resolve,hfv,Deferred.ofValue,Sem.run_bind,Sem.run_pure,Result.andThen_ok,invoke,hmap,List.append_toArray,VT,Vg,Array.empty_append,Array.append_empty]
      exact h1
     rw [hx,Oper.upon_value]
     have:=RelW.step (a:=a) h (Upd.quiet h h2 h3) dst hd
     simp only [ZJ] at this
     rw [← ZJ st.tbl,← h4] at this
     exact hn v w σ lim (by simpa only [h4,ZJ] using this)
    obtain ⟨⟨fn,e1,e2,e3⟩,hcalls⟩:=Zbj hC h hm hargs.1 hargs.2
    intro next Q hn
    unfold Oper.wp
    have hx:(execOp a.eval { dst:=dst,op:=.call { callee:=.value f,args:=args,argTypes:=argTypes },type:=type,pos:=pos,after:=after,guard:=guard }).run C.P w = .ok (.enter g (args.toList.map a.eval).toArray) w:=by
     have hmap:VR a.eval args = (args.toList.map a.eval).toArray:=by apply JI; simp
     have e2':¬ fn.name = "runtime.NumGoroutine" := by simpa using e2
     have e3':¬ fn.body = none:=by intro h0; rw [h0] at e3; cases e3
     simp [execOp,resolve,hfv,Deferred.ofValue,invoke,callFunc,e1,hmap]
     rw [if_neg e2',if_neg e3']
    rw [hx,Oper.upon_enter]
    refine hcalls.mono ?_
    rintro en w' ⟨v,σ',lim',rfl,hR,hv,hk⟩
    simp only
    have:=RelW.step (a:=a) hR (Upd.quiet hR hv hk) dst hd
    simp only [ZJ] at this
    exact hn v w' σ' lim' this
   ·rename_i g cs as heq
    simp only [J0.injEq] at heq
    obtain ⟨hf,rfl⟩:=heq
    obtain ⟨hfv,hfk⟩:=Zg h f
    rw [hf] at hfv hfk
    simp only [RA] at hfv
    obtain ⟨us,hfv,hus⟩:=hfv
    have hargs:=XJ h args.toList
    have hall:Zw σ w lim (args.toList.map (ZaL st.env) ++ cs) (args.toList.map a.eval ++ us):=Zx.2 ((Zx.1 hargs.1).append (Zx.1 hus))
    obtain ⟨⟨fn,e1,e2,e3⟩,hcalls⟩:=Zbj hC h hm hall (fun x hx => by
     rcases Js.1 hx with hx | hx
     ·exact hargs.2 x hx
     ·intro r hr
      exact hfk r (by simp only [Za]; exact Wt hx hr))
    intro next Q hn
    unfold Oper.wp
    have hx:(execOp a.eval { dst:=dst,op:=.call { callee:=.value f,args:=args,argTypes:=argTypes },type:=type,pos:=pos,after:=after,guard:=guard }).run C.P w = .ok (.enter g (args.toList.map a.eval ++ us).toArray) w:=by
     have hmap:VR a.eval args ++ us.toArray = (args.toList.map a.eval ++ us).toArray:=by apply JI; simp
     have e2':¬ fn.name = "runtime.NumGoroutine" := by simpa using e2
     have e3':¬ fn.body = none:=by intro h0; rw [h0] at e3; cases e3
     simp [execOp,resolve,hfv,Deferred.ofValue,invoke,callFunc,e1,hmap]
     rw [if_neg e2',if_neg e3']
    rw [hx,Oper.upon_enter]
    refine hcalls.mono ?_
    rintro en w' ⟨v,σ',lim',rfl,hR,hv,hk⟩
    simp only
    have:=RelW.step (a:=a) hR (Upd.quiet hR hv hk) dst hd
    simp only [ZJ] at this
    exact hn v w' σ' lim' this
   ·exact (M.run_fail hm).elim
 | field T x f =>
  simp only [act] at hm
  obtain ⟨y,hy,hm⟩:=WF hm
  simp only [ZE,JR,VE,J0.injEq,and_true] at hy; subst hy
  obtain ⟨h1,h2⟩:=Zg h x
  exact Qc.value rfl (Z1.quiet h (Zeq hm h1 h2)) hd
 | makeFunc fn first captured =>
  cases fn with
  | func f =>
   simp only [act] at hm
   obtain ⟨hg,hm1⟩:=M.run_guard hm
   have hz:=Zu hg
   have hfirst:first = #[]:=Array.eq_empty_of_size_eq_zero hz
   subst hfirst
   obtain ⟨rfl,_⟩:=M.run_ret hm1
   simp only [ZE] at hops
   refine Qc.value (s:=Ui (.func f) (#[].map a.eval) (captured.map a.eval)) rfl (Z1.quiet h ⟨.func (.func f) #[] (captured.map a.eval),by simp [Ui],?_,?_,rfl⟩) hd
   ·simp only [ZE]
    have hc:captured.map a.eval = (captured.toList.map a.eval).toArray:=by apply JI; simp
    rw [hc]
    have h1:=hops.1
    revert h1
    generalize captured.toList.map (WW st.env) = L
    generalize captured.toList.map a.eval = V
    intro h1
    cases L with
    | nil => cases V with
     | nil => simp [RA]
     | cons _ _ => simp [Zw] at h1
    | cons x L => simp only [RA]; exact ⟨V,rfl,h1⟩
   ·simp only [ZE]
    have h2:=hops.2
    revert h2
    generalize captured.toList.map (WW st.env) = L
    intro h2
    cases L with
    | nil => simp [Za,Zd]
    | cons x L =>
     simp only [Za]
     intro r hr
     obtain ⟨y,hy,hr⟩:=Wv hr
     exact h2 y hy r hr
  | _ => exact (M.run_fail hm).elim
 | _ => exact (M.run_fail hm).elim
end Go.Sh
namespace Go.Sh
open Go
variable [Gl]
variable {C:Ctx} {G:Glob} {σ:Qt} {w:World} {lim:Nat → Nat} {env:Nat → AV} {tmps:Array Value}
theorem YB:0 < Zy:=by decide
theorem Ws (r i:Nat):Zy ≤ QT r i:=by
 unfold QT
 rw [Nat.add_mul]; omega
theorem Zdu {r:Nat} (h:r < Zy) (i:Nat):QT r i % Zy = r:=by
 unfold QT
 rw [Nat.mul_add_mod_of_lt' h]
where
 Nat.mul_add_mod_of_lt' {a b c:Nat} (h:c < b):(a * b + c) % b = c:=by
  rw [Ua,Nat.mul_add_mod,Nat.mod_eq_of_lt h]
theorem Zdt {r:Nat} (h:r < Zy) (i:Nat):QT r i / Zy - 1 = i:=by
 unfold QT
 rw [Ua,Nat.mul_add_div YB,Nat.div_eq_of_lt h]; omega
theorem WU {r r' i i':Nat} (h:r < Zy) (h':r' < Zy) (e:QT r i = QT r' i'):r = r' ∧ i = i' :=
 ⟨by rw [← Zdu h i,e,Zdu h' i'],by rw [← Zdt h i,e,Zdt h' i']⟩
theorem Q4 (n:Nat):n < Zy ∨ ∃ r i,r < Zy ∧ n = QT r i:=by
 by_cases h:n < Zy
 ·exact .inl h
 ·refine .inr ⟨n % Zy,n / Zy - 1,Nat.mod_lt _ YB,?_⟩
  have h1:1 ≤ n / Zy:=(Nat.le_div_iff_mul_le YB).2 (by omega)
  unfold QT
  rw [show n / Zy - 1 + 1 = n / Zy by omega,Ua,Nat.div_add_mod]
def Y1 (i:Nat):RS → RS
 | .live (.nest t xss h) => match xss[i]? with
  | some xs => if h = some i then .fresh else .live (.arr t xs true)
  | none => .fresh
 | _ => .fresh
def QP (T:ZA):ZA:=fun n => if n < Zy then T n else Y1 (n / Zy - 1) (T (n % Zy))
theorem ZB {T:ZA} {n:Nat} (h:n < Zy):QP T n = T n:=by simp [QP,h]
theorem Qi {T:ZA} {r:Nat} (h:r < Zy) (i:Nat):QP T (QT r i) = Y1 i (T r):=by
 have:=Ws r i
 simp only [QP,Zdu h,Zdt h]
 rw [if_neg (by omega)]
theorem ZcE {i:Nat} {x:RS} {y:Res} (h:Y1 i x = .live y):∃ (t:Ty) (xss:List (List t.den)) (o:Option Nat) (hi:i < xss.length),x = .live (.nest t xss o) ∧ o ≠ some i ∧ y = .arr t xss[i] true:=by
 unfold Y1 at h
 split at h
 ·rename_i t xss o
  split at h
  ·rename_i xs hx
   split at h
   ·cases h
   ·rename_i ho
    obtain ⟨hi,hx⟩:=Up.1 hx
    subst hx
    cases h
    exact ⟨t,xss,o,hi,rfl,ho,rfl⟩
  ·cases h
 ·cases h
theorem Zee {T:ZA} {r:Nat} {t:Ty} {xss:List (List t.den)} {o:Option Nat} (h:QP T r = .live (.nest t xss o)):r < Zy ∧ T r = .live (.nest t xss o):=by
 rcases Q4 r with hl | ⟨q,i,hq,rfl⟩
 ·exact ⟨hl,by rw [← h,ZB hl]⟩
 ·rw [Qi hq] at h
  obtain ⟨_,_,_,_,_,_,e⟩:=ZcE h
  cases e
theorem Zdd {T:ZA} {r:Nat} {cs:List AV} (h:QP T r = .live (.box cs)):r < Zy ∧ T r = .live (.box cs):=by
 rcases Q4 r with hl | ⟨q,i,hq,rfl⟩
 ·exact ⟨hl,by rw [← h,ZB hl]⟩
 ·rw [Qi hq] at h
  obtain ⟨_,_,_,_,_,_,e⟩:=ZcE h
  cases e
theorem Zbp {T:ZA} {r:Nat} {t:Ty} {xss:List (List t.den)} {o:Option Nat} (h:QP T r = .live (.nest t xss o)) {i:Nat} (hi:i < xss.length) (ho:o ≠ some i) :
  QP T (QT r i) = .live (.arr t xss[i] true):=by
 obtain ⟨hr,h⟩:=Zee h
 rw [Qi hr,h]
 simp [Y1,VO hi,ho]
theorem Zab {T:ZA} {r:Nat} {t:Ty} {xss:List (List t.den)} {o:Option Nat} (h:QP T r = .live (.nest t xss o)):Zd (QP T) (ZF r (.nest t xss o)):=by
 intro n hn
 obtain ⟨i,hi,ho,rfl⟩:=Z9.1 hn
 rw [Zbp h hi ho]; simp
theorem RelW.forget {A B:ZA} (h:RelW G σ lim ⟨env,A⟩ tmps w) (hB:∀ n,B n = A n ∨ (Zy ≤ n ∧ B n = .fresh)) (he:∀ s,∀ r ∈ Za (env s),r < Zy)
    (hb:∀ r cs,B r = .live (.box cs) → ∀ q ∈ Zc cs,q < Zy) (hn:∀ r (t:Ty) (xss:List (List t.den)) o,B r = .live (.nest t xss o) → Zd B (ZF r (.nest t xss o)))
    (hp:∀ p ∈ G.pins,p.1 < Zy):RelW G σ lim ⟨env,B⟩ tmps w:=by
  have low:∀ r,r < Zy → B r = A r:=by
    intro r hr
    rcases hB r with h1 | ⟨h1,_⟩
    · exact h1
    · omega
  have liv:∀ r x,B r = .live x → A r = .live x:=by
    intro r x hx
    rcases hB r with h1 | ⟨_,h1⟩
    · rw [← h1]; exact hx
    · rw [h1] at hx; cases hx
  have liv':∀ r,Zt (B r) = true → Zt (A r) = true:=by
    intro r hr
    cases hx:B r with
    | live x => rw [liv r x hx]; rfl
    | fresh => rw [hx] at hr; cases hr
    | gone => rw [hx] at hr; cases hr
  exact
    { env:=h.env
      known:=fun s r hr => by simp only; rw [low r (he s r hr)]; exact h.known s r hr
      res:=fun r x hx => by
        simp only at hx ⊢
        obtain ⟨h1,h2⟩:=h.res r x (liv r x hx)
        refine ⟨h1,?_⟩
        cases x with
        | box cs =>
          intro q hq
          rw [low q (hb r cs hx q hq)]; exact h2 q hq
        | arr t xs sh => intro q hq; cases hq
        | nest t xss o => exact hn r t xss o hx
      inj:=fun r r' b h1 h2 => h.inj r r' b (liv' r h1) (liv' r' h2)
      own:=fun r b h1 => h.own r b (liv' r h1)
      ext:=h.ext,keep:=h.keep,same:=h.same,lz:=h.lz,limk:=h.limk,glob:=h.glob
      pin:=fun p hpp => by
        obtain ⟨h1,h2⟩:=h.pin p hpp
        exact ⟨h1,by simp only; rw [low p.1 (hp p hpp)]; exact h2⟩ }
structure Low (G:Glob) (st:St):Prop where
 env:∀ s,∀ r ∈ Za (st.env s),r < Zy
 box:∀ r cs,st.tbl r = .live (.box cs) → ∀ q ∈ Zc cs,q < Zy
 pins:∀ p ∈ G.pins,p.1 < Zy
def Qd (G:Glob) (σ:Qt) (lim:Nat → Nat) (st:St) (tmps:Array Value) (w:World):Prop:=RelW G σ lim ⟨st.env,QP st.tbl⟩ tmps w ∧ Low G st
theorem ZiO {T:ZA} {u:Z5} (h:∀ p ∈ u,p.1 < Zy ∧ Xc p.2 = true) (n:Nat):QP (T.put u) n = (QP T).put u n ∨ (Zy ≤ n ∧ QP (T.put u) n = .fresh):=by
 rcases Q4 n with hl | ⟨q,i,hq,rfl⟩
 ·left
  rw [ZB hl]
  simp only [ZA.put]
  rw [ZB hl]
 ·have hno:Zk u (QT q i) = none:=by
   cases hk:Zk u (QT q i) with
   | none => rfl
   | some z =>
    have:=(h _ (Z8 hk)).1
    have:=Ws q i
    simp only at *; omega
  rw [Qi hq]
  simp only [ZA.put,hno]
  cases hk:Zk u q with
  | none => left; rw [Qi hq]
  | some z =>
   right
   refine ⟨Ws q i,?_⟩
   have:=(h _ (Z8 hk)).2
   simp only at this ⊢
   cases z with
   | fresh => rfl
   | gone => rfl
   | live y => cases y with
    | nest => simp [Xc] at this
    | box => rfl
    | arr => rfl
theorem Qd.of_put {T:ZA} {u:Z5} (h:RelW G σ lim ⟨env,(QP T).put u⟩ tmps w) (hu:∀ p ∈ u,p.1 < Zy ∧ Xc p.2 = true) (hL:Low G ⟨env,T.put u⟩) :
  Qd G σ lim ⟨env,T.put u⟩ tmps w :=
 ⟨h.forget (ZiO hu) hL.env (fun r cs hr => hL.box r cs (Zdd hr).2) (fun r t xss o hr => Zab hr) hL.pins,hL⟩
theorem RelW.takeout {T:ZA} (h:RelW G σ lim ⟨env,QP T⟩ tmps w) (hL:Low G ⟨env,T⟩) {r base:Nat} {t:Ty} {xss:List (List t.den)} {i:Nat} (hrl:r < Zy) (hbl:base < Zy)
  (hr:T r = .live (.nest t xss none)) (hi:i < xss.length) (hb:T base = .fresh) :
  RelW G (fun s => if s = base then σ (QT r i) else σ s) lim ⟨env,QP (T.put [(r,.live (.nest t xss (some i))),(base,.live (.arr t xss[i] true))])⟩ tmps w:=by
 have er:QP T r = .live (.nest t xss none):=by rw [ZB hrl]; exact hr
 have eb:QP T base = .fresh:=by rw [ZB hbl]; exact hb
 have eq:QP T (QT r i) = .live (.arr t xss[i] true):=Zbp er hi (by simp)
 have hg:=Ws r i
 obtain ⟨hR,hK⟩:=h.res r _ er
 obtain ⟨hQ,_⟩:=h.res (QT r i) _ eq
 have hne:r ≠ base:=by intro e; subst e; rw [hr] at hb; cases hb
 have R1:=h.reword (r:=r) er (y:=.nest t xss (some i)) (fun n hn => by
  obtain ⟨j,hj,ho,rfl⟩:=Z9.1 hn
  exact hK _ (Z9.2 ⟨j,hj,by simp,rfl⟩)) (by
  simp only [RR] at hR ⊢
  obtain ⟨h0,b,off,cap,vs,U,fz,s1,s2,s3,s4,s5,s6,s7⟩:=hR
  exact ⟨h0,b,off,cap,vs,U,fz,s1,s2,s3,s4,s5,fun j hj _ => s6 j hj (by simp),s7⟩)
 have R2:=R1.gone (r:=QT r i) (by simp only; rw [Ze,if_neg (by omega),eq]; simp)
 have tb:(((QP T).put [(r,.live (.nest t xss (some i)))]).put [(QT r i,.gone)]) base = .fresh:=by
  rw [Ze,if_neg (by omega),Ze,if_neg hne]; exact eb
 have R3:=R2.adopt (n:=base) (v:=σ (QT r i)) (.inl tb) (y:=.arr t xss[i] true) (by intro q hq; cases hq) (fun hσ => by
  simp only [RR,if_true] at hQ ⊢
  exact hQ) (fun b hbk => by
   refine ⟨h.own _ b (by simp only; rw [eq]; rfl) hbk,fun s hs hbs => ?_⟩
   simp only at hs
   rw [Ze] at hs
   split at hs
   ·cases hs
   ·rename_i hsq
    have hs0:Zt (QP T s) = true:=by
     rw [Ze] at hs
     split at hs
     ·rename_i e; rw [← e,er]; rfl
     ·exact hs
    exact hsq (h.inj s (QT r i) b hs0 (by simp only; rw [eq]; rfl) hbs hbk).symm)
 simp only at R3
 refine R3.forget (fun n => ?_) hL.env (fun q cs hq => ?_) (fun q t' x o hq => Zab hq) hL.pins
 ·rcases Q4 n with hl | ⟨q,j,hq,rfl⟩
  ·left
   rw [ZB hl,Ze,Ze,Ze,ZL,Ze]
   by_cases e1:base = n
   ·subst e1; simp [hne]
   ·by_cases e2:r = n
    ·subst e2; simp [e1]; intro e; omega
    ·simp [e1,e2]
     rw [if_neg (by omega),ZB hl]
  ·rw [Qi hq,ZL,Ze]
   have g1:=Ws q j
   by_cases e1:r = q
   ·subst e1
    simp only [if_true]
    by_cases e2:i = j
    ·subst e2
     right
     exact ⟨hg,by simp [Y1,VO hi]⟩
    ·left
     rw [Ze,if_neg (by omega),Ze,if_neg (fun e => e2 (WU hrl hrl e).2),Ze,if_neg (by omega),Qi hrl,hr]
     simp [Y1,e2]
   ·rw [if_neg e1]
    have e3:QT r i ≠ QT q j:=fun e => e1 (WU hrl hq e).1
    by_cases e2:base = q
    ·subst e2
     rw [if_pos rfl]
     right; exact ⟨g1,rfl⟩
    ·left
     rw [if_neg e2,Ze,if_neg (by omega),Ze,if_neg e3,Ze,if_neg (by omega),Qi hq]
 ·obtain ⟨_,hq⟩:=Zdd hq
  rw [ZL] at hq
  split at hq
  ·cases hq
  ·rw [Ze] at hq
   split at hq
   ·cases hq
   ·exact hL.box q cs hq
theorem getElem?_mid {α:Type} (l:List α) (k:Nat) (a:α) (hk:k < l.length) (m:Nat):(l.take k ++ [a] ++ l.drop (k + 1))[m]? = if k = m then some a else l[m]? := by
 rw [show l.take k ++ [a] ++ l.drop (k + 1) = l.set k a by rw [List.set_eq_take_append_cons_drop,if_pos hk]; simp]
 rw [Vv]
 by_cases h:k = m
 ·subst h; simp [hk]
 ·simp [h]
theorem RelW.putin {T:ZA} (h:RelW G σ lim ⟨env,QP T⟩ tmps w) (hL:Low G ⟨env,T⟩) {r q:Nat} {t:Ty} {xss:List (List t.den)} {xs:List t.den} {sh:Bool} {i:Nat} (hrl:r < Zy) (hql:q < Zy)
  (hr:T r = .live (.nest t xss (some i))) (hi:i < xss.length) (hq:T q = .live (.arr t xs sh)) {b off len cap:Nat} {vs:Array Value} {U:TypeId} {fz:Nat × Nat}
  (hs:σ r = .slice (some ⟨b,off,none⟩) len cap) (hv:w.heap[b]? = some (.cells vs U fz)) :
  ∃ σ' lim',RelW G σ' lim' ⟨env,QP (T.put [(r,.live (.nest t (xss.set i xs) none)),(q,.gone)])⟩ tmps (w.setRow b (vs.toList.take (off + i) ++ [σ q] ++ vs.toList.drop (off + i + 1)).toArray) ∧
   off + i < vs.size ∧ (∀ o,o < vs.size → ¬ (fz.1 ≤ o ∧ o < fz.2)):=by
 have er:QP T r = .live (.nest t xss (some i)):=by rw [ZB hrl]; exact hr
 have eq:QP T q = .live (.arr t xs sh):=by rw [ZB hql]; exact hq
 have eh:QP T (QT r i) = .fresh:=by rw [Qi hrl,hr]; simp [Y1,VO hi]
 have hg:=Ws r i
 have hne:r ≠ q:=by intro e; subst e; rw [hr] at hq; cases hq
 obtain ⟨hQ,_⟩:=h.res q _ eq
 have R1:=h.gone (r:=q) (by simp only; rw [eq]; simp)
 have th:((QP T).put [(q,.gone)]) (QT r i) = .fresh:=by rw [Ze,if_neg (by omega)]; exact eh
 have R2:=R1.adopt (n:=QT r i) (v:=σ q) (.inl th) (y:=.arr t xs true) (by intro q hq; cases hq) (fun hσ => by
  simp only [RR,if_true] at hQ ⊢
  refine ⟨hQ.1,?_⟩
  rcases hQ.2 with h1 | ⟨b,off,cap,vs,U,fz,h1,h2,h3,h4,h5,h6,h7⟩
  ·exact .inl h1
  ·refine .inr ⟨b,off,cap,vs,U,fz,h1,h2,h3,h4,h5,h6,?_⟩
   cases sh <;> simp at h7 ⊢ <;> omega) (fun b' hbk => by
   refine ⟨h.own _ b' (by simp only; rw [eq]; rfl) hbk,fun s hs' hbs => ?_⟩
   simp only at hs'
   rw [Ze] at hs'
   split at hs'
   ·cases hs'
   ·rename_i hsq
    exact hsq (h.inj s q b' hs' (by simp only; rw [eq]; rfl) hbs hbk).symm)
 simp only at R2
 have hsr:(fun s => if s = QT r i then σ q else σ s) r = σ r:=by simp only; rw [if_neg (by omega)]
 have tr:(((QP T).put [(q,.gone)]).put [(QT r i,.live (.arr t xs true))]) r = .live (.nest t xss (some i)):=by
  rw [Ze,if_neg (by omega),Ze,if_neg (Ne.symm hne)]; exact er
 obtain ⟨hR,hK⟩:=R2.res r _ tr
 simp only [RR] at hR
 obtain ⟨h0,b',off',cap',vs',U',fz',s1,s2,s3,s4,s5,s6,s7⟩:=hR
 rw [if_neg (by omega:r ≠ QT r i),hs] at s1
 obtain ⟨⟨rfl,rfl⟩,rfl,rfl⟩:(b = b' ∧ off = off') ∧ len = xss.length ∧ cap = cap':=by simpa using s1
 rw [hv] at s3
 obtain ⟨rfl,rfl,rfl⟩:vs = vs' ∧ U = U' ∧ fz = fz':=by simpa using s3
 have hsz:(Ty.sl t).size = 1:=rfl
 rw [hsz] at s4
 have hlt:off + i < vs.toList.length:=by simp; omega
 have hlen:(vs.toList.take (off + i) ++ [σ q] ++ vs.toList.drop (off + i + 1)).length = vs.size:=by simp; omega
 obtain ⟨R3,hE⟩:=R2.write (r:=r) tr (b:=b) (by rw [if_neg (by omega),hs]; rfl) hv (cs:=(vs.toList.take (off + i) ++ [σ q] ++ vs.toList.drop (off + i + 1)).toArray) (fun o ho => by rw [s7] at ho; omega)
  (y:=.nest t (xss.set i xs) none) (fun n hn => by
   obtain ⟨j,hj,_,rfl⟩:=Z9.1 hn
   rw [JQ] at hj
   by_cases e:i = j
   ·subst e; show (((QP T).put [(q,.gone)]).put [(QT r i,.live (.arr t xs true))]) (QT r i) ≠ .fresh; rw [Ze]; simp
   ·exact hK _ (Z9.2 ⟨j,hj,by simp [e],rfl⟩)) (fun hE => by
   simp only [RR]
   refine ⟨h0,b,off,cap,_,U,fz,by rw [if_neg (by omega),hs,JQ],by rw [JQ]; exact s2,setRow_heap w b vs _ U fz hv,by rw [VA,hlen,hsz]; omega,?_,fun j hj _ => ?_,s7⟩
   ·rw [VA,hlen]; exact s5
   ·rw [JQ] at hj
    simp only
    rw [getElem?_mid _ _ _ hlt]
    by_cases e:i = j
    ·subst e; simp
    ·rw [if_neg (by omega),s6 j hj (by simp [e])])
 refine ⟨_,_,R3.forget (fun n => ?_) hL.env (fun q' cs hq' => ?_) (fun q' t' x o hq' => Zab hq') hL.pins,by simpa using hlt,fun o ho => s5.free o ho⟩
 ·left
  show QP (T.put [(r,.live (.nest t (xss.set i xs) none)),(q,.gone)]) n = ((((QP T).put [(q,.gone)]).put [(QT r i,.live (.arr t xs true))]).put [(r,.live (.nest t (xss.set i xs) none))]) n
  rcases Q4 n with hl | ⟨q',j,hq',rfl⟩
  ·rw [ZB hl,ZL,Ze,Ze,Ze,Ze]
   rw [if_neg (by omega:QT r i ≠ n),ZB hl]
  ·have g1:=Ws q' j
   rw [Qi hq',ZL,Ze,Ze,if_neg (by omega:r ≠ QT q' j),Ze,Ze,if_neg (by omega:q ≠ QT q' j),Qi hq']
   by_cases e1:r = q'
   ·subst e1
    rw [if_pos rfl,hr]
    by_cases e2:i = j
    ·subst e2; simp [Y1,hi]
    ·rw [if_neg (fun e => e2 (WU hrl hrl e).2)]
     simp only [Y1,Vv,e2,if_false]
     cases xss[j]? <;> simp [e2]
   ·rw [if_neg e1,if_neg (fun e => e1 (WU hrl hq' e).1)]
    by_cases e2:q = q'
    ·subst e2; rw [if_pos rfl,hq]; rfl
    ·rw [if_neg e2]
 ·obtain ⟨_,hq'⟩:=Zdd hq'
  rw [ZL] at hq'
  split at hq'
  ·cases hq'
  ·rw [Ze] at hq'
   split at hq'
   ·cases hq'
   ·exact hL.box q' cs hq'
end Go.Sh
namespace Go.Sh
open Go
variable [Gl]
variable {C:Ctx} {G:Glob} {σ:Qt} {w:World} {lim:Nat → Nat} {env:Nat → AV} {tmps:Array Value}
namespace M
variable {α:Type}
theorem Ziu {T:ZA} (m:M α):∀ {l l':List Nat} {x:α},m.run T l = some (x,l') → ∀ r ∈ l,r ∈ l':=by
 induction m with
 | ret a => intro l l' x h; simp [run] at h; obtain ⟨_,rfl⟩:=h; exact fun _ h => h
 | fail => intro l l' x h; simp [run] at h
 | get r k ih => intro l l' x h s hs; exact ih _ h s (by simp [hs])
 | need b k ih => intro l l' x h; cases b <;> simp [run] at h; exact ih h
 | br b k ih => intro l l' x h; cases b <;> simp [run] at h <;> exact ih _ h
 | opt o k ih => intro l l' x h; cases o <;> simp [run] at h; exact ih _ h
theorem run_local {T T':ZA} (m:M α):∀ {l l':List Nat} {x:α},m.run T l = some (x,l') → (∀ r ∈ l',T' r = T r) → m.run T' l = some (x,l'):=by
 induction m with
 | ret a => intro l l' x h _; exact h
 | fail => intro l l' x h; simp [run] at h
 | get r k ih =>
  intro l l' x h hT
  have hr:T' r = T r:=hT r (Ziu (k (T r)) (l:=r :: l) h r (by simp))
  simp only [run,hr] at h ⊢
  exact ih _ h hT
 | need b k ih => intro l l' x h hT; cases b <;> simp [run] at h ⊢; exact ih h hT
 | br b k ih => intro l l' x h hT; cases b <;> simp [run] at h ⊢ <;> exact ih _ h hT
 | opt o k ih => intro l l' x h hT; cases o <;> simp [run] at h ⊢; exact ih _ h hT
end M
theorem XH {l:List Nat} (h:Y2 l = true):∀ r ∈ l,r < Zy:=by
 intro r hr
 simp only [Y2,Vf] at h
 have:=h r hr
 simpa [Zfk,VU] using this
theorem ZdO {α:Type} {T:ZA} {m:M α} {l l':List Nat} {x:α} (h:m.run T l = some (x,l')) (hl:Y2 l' = true):m.run (QP T) l = some (x,l') :=
 M.run_local m h fun r hr => ZB (XH hl r hr)
structure OkEff (sp:Bool) (e:Eff) (l:List Nat):Prop where
 log:Y2 l = true
 val:∀ r ∈ Za e.val,r < Zy
 ups:∀ p ∈ e.ups,p.1 < Zy
 box:∀ p ∈ e.ups,∀ cs,p.2 = .live (.box cs) → ∀ q ∈ Zc cs,q < Zy
 non:sp = false → ∀ p ∈ e.ups,Xc p.2 = true
theorem Zfp {sp:Bool} {e:Eff} {l:List Nat} (h:ZaK sp e l = true):OkEff sp e l:=by
  simp only [ZaK,Jh,Vf] at h
  obtain ⟨⟨h1,h2⟩,h3⟩:=h
  exact
    { log:=h1
      val:=XH h2
      ups:=fun p hp => by have:=(h3 p hp).1.1; simpa [Zfk,VU] using this
      box:=fun p hp cs hc => by have:=(h3 p hp).1.2; rw [hc] at this; exact XH this
      non:=fun hs p hp => by have:=(h3 p hp).2; rw [hs] at this; simpa using this }
theorem Zgn (e:Nat → AV) (d:Option Nat) (v:AV) (s:Nat):QD e d v s = v ∨ QD e d v s = e s:=by
 cases d with
 | none => exact .inr rfl
 | some d =>
  simp only [QD,Xi]
  cases Ja s d
  ·exact .inr rfl
  ·exact .inl rfl
theorem Low.after {st:St} {sp:Bool} {e:Eff} {l:List Nat} {d:Option Nat} (h:Low G st) (k:OkEff sp e l):Low G ⟨QD st.env d e.val,st.tbl.put e.ups⟩ where
 env s r hr:=by
  rcases Zgn st.env d e.val s with h1 | h1
  ·simp only [h1] at hr; exact k.val r hr
  ·simp only [h1] at hr; exact h.env s r hr
 box r cs hr:=by
  simp only [ZA.put] at hr
  cases hl:Zk e.ups r with
  | none => rw [hl] at hr; exact h.box r cs hr
  | some z => rw [hl] at hr; simp only at hr; exact k.box _ (Z8 hl) cs hr
 pins:=h.pins
theorem Low.set {st:St} (h:Low G st) {d:Option Nat} {v:AV} (hv:∀ r ∈ Za v,r < Zy):Low G ⟨QD st.env d v,st.tbl⟩ where
 env s r hr:=by
  rcases Zgn st.env d v s with h1 | h1
  ·simp only [h1] at hr; exact hv r hr
  ·simp only [h1] at hr; exact h.env s r hr
 box:=h.box
 pins:=h.pins
def Zev (base:Nat) (t:Ty):Nat → ZA → ZA
 | 0,A => A
 | L + 1,A => (Zev base t L A).put [(QT base L,.live (.arr t [] true))]
theorem Zaf {b i j:Nat} (h:i ≠ j):QT b i ≠ QT b j:=by
 unfold QT
 intro e
 have:=YB
 have h1:(i + 1) * Zy = (j + 1) * Zy:=by omega
 have:=Nat.eq_of_mul_eq_mul_right YB h1
 omega
theorem XG {base:Nat} {t:Ty} {A:ZA} {n:Nat}:∀ L,(∀ j,j < L → n ≠ QT base j) → Zev base t L A n = A n
 | 0,_ => rfl
 | L + 1,h => by
  simp only [Zev]
  rw [Ze,if_neg (Ne.symm (h L (by omega)))]
  exact XG L fun j hj => h j (by omega)
theorem Zds {base:Nat} {t:Ty} {A:ZA}:∀ L j,j < L → Zev base t L A (QT base j) = .live (.arr t [] true)
 | 0,j,h => by omega
 | L + 1,j,h => by
  simp only [Zev]
  rw [Ze]
  by_cases e:L = j
  ·subst e; simp
  ·rw [if_neg (Zaf e)]; exact Zds L j (by omega)
theorem RelW.hides {A:ZA} {base:Nat} {t:Ty} (ht:0 < t.size) (hA:∀ j,A (QT base j) = .fresh):∀ L,RelW G σ lim ⟨env,A⟩ tmps w →
  ∃ σ',RelW G σ' lim ⟨env,Zev base t L A⟩ tmps w ∧ (∀ j,j < L → σ' (QT base j) = .slice none 0 0) ∧ (∀ n,(∀ j,j < L → n ≠ QT base j) → σ' n = σ n)
 | 0,h => ⟨σ,h,by omega,fun _ _ => rfl⟩
 | L + 1,h => by
  obtain ⟨σ1,h1,h2,h3⟩:=RelW.hides ht hA L h
  have:=h1.nilname (n:=QT base L) (by simp only; rw [XG L fun j hj => Zaf (by omega)]; exact hA L) t ht true
  refine ⟨_,this,fun j hj => ?_,fun n hn => ?_⟩
  ·by_cases e:j = L
   ·subst e; simp
   ·rw [if_neg (Zaf e)]; exact h2 j (by omega)
  ·rw [if_neg (hn L (by omega))]; exact h3 n fun j hj => hn j (by omega)
def ZfJ (C:Ctx) (G:Glob) (env:Nat → AV) (T:ZA) (tmps:Array Value) (w:World) (s:Sem Value) (e:Eff):Prop :=
 ∃ x w' σ' lim',s.run C.P w = .ok x w' ∧ RelW G σ' lim' ⟨env,QP (T.put e.ups)⟩ tmps w' ∧ RA σ' w' lim' e.val x ∧ Zd (QP (T.put e.ups)) (Za e.val)
theorem Zco {T:ZA} (h:RelW G σ lim ⟨env,QP T⟩ tmps w) (hL:Low G ⟨env,T⟩) {base:Nat} {U:TypeId} {a b:AV} {vl vc:Value} {l l':List Nat} {e:Eff}
  (hm:(ZbM C base U a b).run T l = some (e,l')) (hups:∀ p ∈ e.ups,p.1 < Zy) (ha:RA σ w lim a vl) (hb:RA σ w lim b vc):ZfJ C G env T tmps w (Vn U vl vc) e:=by
 unfold ZbM at hm
 split at hm
 ·rename_i ll cc
  simp only [RA,RP] at ha hb; subst ha; subst hb
  split at hm
  ·rename_i ee t he
   obtain ⟨hg,hm1⟩:=M.run_guard hm
   simp only [Jh] at hg
   have g1:=Jt hg.1.1
   have gk:=(WA hg.1.2).2
   have g2:=Jt hg.2
   split at hm1
   ·rename_i hz
    obtain ⟨hn,hm2⟩:=M.run_need hm1
    obtain ⟨h0,h1,h2⟩:=of_decide_eq_true hn
    obtain ⟨hf,l2,hm3⟩:=Xx hm2
    obtain ⟨rfl,_⟩:=M.run_ret hm3
    have hbl:base < Zy:=hups (base,_) (Jm ..)
    obtain ⟨i,hi,his,hib⟩:=Wq he
    obtain ⟨hu,ht,hs⟩:=ZY he
    obtain ⟨zv,hz1,hz2⟩:=QO hz w
    obtain ⟨L,rfl⟩:=Vp h0
    obtain ⟨N,rfl⟩:=Vp (show 0 ≤ cc by omega)
    have hLN:L ≤ N:=by omega
    have hsz:(Ty.sl t).size = 1:=rfl
    have hzs:zv.cells.size = 1:=by rw [← J5,hz2]; rfl
    have hcell:∀ x,zv.cells[x % zv.cells.size]! = V5 none 0 0:=by
     intro x
     rw [hzs,Nat.mod_one]
     have:zv.cells.toList[0]? = some (V5 none 0 0):=by rw [hz2]; rfl
     rw [VX] at this
     rw [getElem!_def,this]
    have hA:∀ j,QP T (QT base j) = .fresh:=by intro j; rw [Qi hbl,hf]; rfl
    obtain ⟨σ1,hH,hσ1,hσ2⟩:=RelW.hides (t:=t) g2 hA L h
    have hbh:∀ j,j < L → base ≠ QT base j:=fun j _ => by have:=Ws base j; omega
    have tb:Zev base t L (QP T) base = .fresh:=by rw [XG L hbh,ZB hbl]; exact hf
    obtain ⟨hN,hE⟩:=hH.newblk (w':=w.alloc (.cells ((JW (N * i.size)).map (fun x => zv.cells[x % zv.cells.size]!)) ee)) (by simp) (fun k hk => heap_alloc_old w _ k hk) ⟨rfl,rfl,rfl⟩ tb
     (y:=.nest t (Jd L []) none) (x:=.slice (some ⟨w.heap.size,0,none⟩) L N) rfl (fun hE hσ => by
      simp only [RR,Ur,if_true]
      refine ⟨g2,w.heap.size,0,N,_,ee,(0,0),rfl,hLN,heap_alloc_new w _,by simp [hsz,his],⟨fun o _ => ZgS o,gk,Jj _,by simp only [Array.size_map,Array.size_range,his]; exact Nat.mul_le_mul_right _ (by omega)⟩,fun j hj _ => ?_,h.lz _ (Jj _)⟩
      rw [if_neg (Ne.symm (hbh j hj)),hσ1 j hj]
      simp only [Array.toList_map,Array.toList_range,List.getElem?_map,Ub,his,hsz,VV,hcell]
      rw [List.getElem?_range (by omega)]; rfl) (fun n hn => by
      obtain ⟨j,hj,_,rfl⟩:=Z9.1 hn
      rw [Ur] at hj
      simp only; rw [Zds L j hj]; simp)
    have hT:(Zev base t L (QP T)).put [(base,.live (.nest t (Jd L []) none))] = QP (T.put [(base,.live (.nest t (Jd L []) none))]):=by
     funext n
     rw [Ze]
     rcases Q4 n with hl | ⟨q,j,hq,rfl⟩
     ·rw [ZB hl,Ze,XG L (fun j _ => by have:=Ws base j; omega),ZB hl]
     ·have g1:=Ws q j
      rw [if_neg (by omega),Qi hq,Ze]
      by_cases e:base = q
      ·subst e
       rw [if_pos rfl]
       by_cases hj:j < L
       ·rw [Zds L j hj]; simp [Y1,Uq,hj]
       ·rw [XG L (fun k hk => Zaf (by omega)),hA j]; simp [Y1,Uq,hj]
      ·rw [if_neg e,XG L (fun k hk e' => e (WU hbl hq e'.symm).1),Qi hq]
    refine ⟨.slice (some ⟨w.heap.size,0,none⟩) L N,_,_,_,?_,by simp only [Uj]; rw [← hT]; exact hN,QX rfl (by simp),fun r hr => by simp [Za] at hr; subst hr; rw [ZB hbl,Ze]; simp⟩
    have hmul:(i.bytes:Int) * (N:Int) ≤ 281474976710656:=by
     rw [← hib]
     have h3:C.P.bytesOf ee * N ≤ 65536 * 4294967295:=Nat.mul_le_mul g1 (by omega)
     have:((C.P.bytesOf ee * N:Nat):Int) ≤ 281474976710656:=by omega
     simpa using this
    have w1:Jx.wrap (L:Int) = L:=Qh (by omega) (by omega)
    have w2:Jx.wrap (N:Int) = N:=Qh (by omega) (by omega)
    have hc0:¬ ((N:Int) < 0):=by omega
    have hl0:¬ ((L:Int) < 0):=by omega
    have hlc:¬ ((N:Int) < (L:Int)):=by omega
    have hbig:¬ (281474976710656 < (i.bytes:Int) * (N:Int)):=by omega
    simp only [Vn,Sem.run_bind,run_underlying hu,Result.andThen_ok,asInt,asIntOf,Sem.run_pure,typeInfo,run_program,hi,w1,w2]
    simp only [Int.reducePow,decide_eq_true_eq,V6,hc0,hl0,hlc,hbig,gt_iff_lt,or_self,decide_false,JJ,if_false,Sem.run_bind,run_askRoom,Result.andThen_ok,sizeOf,typeInfo,run_program,hi,Sem.run_pure,Uj,Sem.run_ite,hz1]
    by_cases hN0:N * i.size = 0
    ·have hr0:∀ f:Nat → Value,VR f (JW 0) = #[]:=fun f => by simp
     rw [if_pos hN0,hN0]
     simp only [hr0,Result.andThen_ok]
     simp [newRow]
    ·simp [hN0,newRow]
   ·simp [M.run] at hm1
  ·simp [M.run] at hm
 ·simp [M.run] at hm
theorem Zik {T:ZA} {u:Z5} (h:∀ p ∈ u,T p.1 = p.2):T.put u = T:=by
 funext n
 simp only [ZA.put]
 cases hl:Zk u n with
 | none => rfl
 | some z => exact (h _ (Z8 hl)).symm
theorem RelW.melt {T:ZA} (h:RelW G σ lim ⟨env,QP T⟩ tmps w) (hL:Low G ⟨env,T⟩) {r:Nat} {t:Ty} {xss:List (List t.den)} (hrl:r < Zy) (hr:T r = .live (.nest t xss none)) :
  ∃ lim',Qd G σ lim' ⟨env,T.put [(r,.live (.arr (.sl t) xss false))]⟩ tmps w:=by
 have er:QP T r = .live (.nest t xss none):=by rw [ZB hrl]; exact hr
 let U:Z5:=(List.finRange xss.length).map fun (j:Fin xss.length) => (QT r j.val,RS.live (.arr t xss[j.val] true))
 have hU:∀ p ∈ U,∃ (j:Nat) (hj:j < xss.length),p = (QT r j,RS.live (.arr t xss[j] true)):=by
  intro p hp
  obtain ⟨j,_,rfl⟩:=VG.1 hp
  exact ⟨j,j.2,rfl⟩
 obtain ⟨lim1,h1,hE,h2⟩:=RelW.shows U h (fun p hp => by
  obtain ⟨j,hj,rfl⟩:=hU p hp
  exact ⟨t,xss[j],true,rfl,Zbp er hj (by simp)⟩)
 have hsame:(QP T).put U = QP T:=Zik fun p hp => by
  obtain ⟨j,hj,rfl⟩:=hU p hp
  exact Zbp er hj (by simp)
 simp only at h1
 rw [hsame] at h1
 obtain ⟨hR,hK⟩:=h1.res r _ er
 have h3:=h1.reword (r:=r) er (y:=.arr (.sl t) xss false) (by intro q hq; cases hq) (by
  simp only [RR] at hR ⊢
  obtain ⟨h0,b,off,cap,vs,V,fz,s1,s2,s3,s4,s5,s6,s7⟩:=hR
  refine ⟨by simp [Ty.size],.inr ⟨b,off,cap,vs,V,fz,s1,s2,s3,s4,s5,fun i hi => ?_,s7⟩⟩
  have hq:(QT r i,RS.live (.arr t xss[i] true)) ∈ U:=VG.2 ⟨⟨i,hi⟩,List.mem_finRange _,rfl⟩
  have h4:=h2 _ _ _ hq
  simp only [RP] at h4
  have h5:=s6 i hi (by simp)
  have h6:(vs.toList.drop (off + i * (Ty.sl t).size)).take (Ty.sl t).size = [σ (QT r i)]:=by
   rw [show (Ty.sl t).size = 1 from rfl,VV]
   obtain ⟨h7,h8⟩:=Up.1 h5
   rw [Ul h7,h8]; rfl
  rw [h6]; exact h4)
 refine ⟨lim1,Qd.of_put h3 (fun p hp => ?_) ⟨hL.env,fun q cs hq => ?_,hL.pins⟩⟩
 ·simp only [Vx] at hp; subst hp; exact ⟨hrl,rfl⟩
 ·simp only at hq
  rw [Ze] at hq
  split at hq
  ·cases hq
  ·exact hL.box q cs hq
end Go.Sh
namespace Go.Sh
open Go
variable [Gl]
variable {C:Ctx} {G:Glob} {σ:Qt} {w:World} {lim:Nat → Nat} {env:Nat → AV} {tmps:Array Value} {st:St} {a:Act}
theorem ZcO {T:TypeId} (h:Zi2 C T = true):∃ d,C.P.underlying T = some d ∧ Y0 d = false ∧ C.P.cellsOf T = 1:=by
 unfold Zi2 at h
 cases hd:C.P.underlying T with
 | none => rw [hd] at h; cases h
 | some d =>
  rw [hd] at h
  simp only [Jh,J7] at h
  exact ⟨d,rfl,h.1,Zu h.2⟩
theorem Zcn {T:ZA} (h:RelW G σ lim ⟨env,QP T⟩ tmps w) (hL:Low G ⟨env,T⟩) {base:Nat} {U:TypeId} {r:Nat} {t:Ty} {i k:Nat} {v:Value} {l l':List Nat} {e:Eff}
  (hm:(ZbL C base U r t i k).run T l = some (e,l')) (hups:∀ p ∈ e.ups,p.1 < Zy) (ha:RA σ w lim (.el r (.pair .unit (.sl t)) i k) v):ZfJ C G env T tmps w (JZ U v) e:=by
 simp only [ZbL,M.run] at hm
 cases hr:T r with
 | fresh => simp [hr,M.run] at hm
 | gone => simp [hr,M.run] at hm
 | live y =>
  cases y with
  | box => simp [hr,M.run] at hm
  | arr => simp [hr,M.run] at hm
  | nest t' xss o =>
   cases o with
   | some j => simp [hr,M.run] at hm
   | none =>
    simp only [hr] at hm
    split at hm
    ·rename_i ht
     subst ht
     obtain ⟨hg,hm1⟩:=M.run_guard hm
     clear hm
     simp only [Jh] at hg
     obtain ⟨hk,hT⟩:=hg
     have hk0:=Zu hk
     subst hk0
     obtain ⟨d,hd,hag,hc⟩:=ZcO hT
     obtain ⟨hi,hm2⟩:=M.run_need hm1
     have hi:=of_decide_eq_true hi
     obtain ⟨hb,l2,hm3⟩:=Xx hm2
     obtain ⟨rfl,_⟩:=M.run_ret hm3
     have hrl:r < Zy:=hups (r,_) (Jm ..)
     have hbl:base < Zy:=hups (base,_) (Jn _ (Jm ..))
     have hxi:xss.getD i [] = xss[i]:=by simp [List.getD,VO hi]
     have R:=h.takeout hL hrl hbl hr hi hb
     have er:QP T r = .live (.nest t' xss none):=by rw [ZB hrl]; exact hr
     have eq:QP T (QT r i) = .live (.arr t' xss[i] true):=Zbp er hi (by simp)
     obtain ⟨hR,_⟩:=h.res r _ er
     obtain ⟨hQ,_⟩:=h.res _ _ eq
     simp only [RR] at hR
     obtain ⟨h0,b,off,cap,vs,V,fz,s1,s2,s3,s4,s5,s6,s7⟩:=hR
     simp only [RA] at ha
     obtain ⟨b',off',len',cap',h1,rfl⟩:=ha
     rw [s1] at h1
     obtain ⟨⟨rfl,rfl⟩,rfl,rfl⟩:(b = b' ∧ off = off') ∧ xss.length = len' ∧ cap = cap':=by simpa using h1
     have hz:off + i * (Ty.pair Ty.unit (Ty.sl t')).size + 0 = off + i:=by simp [Ty.size]
     rw [hz]
     have hsl:∃ A l c,σ (QT r i) = .slice A l c:=by
      simp only [RR] at hQ
      rcases hQ.2 with ⟨_,e1⟩ | ⟨_,_,_,_,_,_,e1,_⟩
      ·exact ⟨_,_,_,e1⟩
      ·exact ⟨_,_,_,e1⟩
     obtain ⟨A,sl,sc,hsl⟩:=hsl
     refine ⟨σ (QT r i),w,(fun s => if s = base then σ (QT r i) else σ s),lim,?_,?_,QX hsl (by simp),fun q hq => by simp [Za] at hq; subst hq; rw [ZB hbl,ZL,Ze]; split <;> simp⟩
     ·have:=WP (P:=C.P) hd hag (w:=w) (b:=b) (off:=off + i) (v:=σ (QT r i)) (by rw [Wf s3]; exact s6 i hi (by simp))
      simpa [JZ,JL] using this
     ·rw [← hxi] at R; exact R
    ·simp [M.run] at hm
def Zg8 (C:Ctx) (G:Glob) (env:Nat → AV) (T:ZA) (tmps:Array Value) (w:World) (s:Sem Unit) (e:Eff):Prop :=
 ∃ w' σ' lim',s.run C.P w = .ok () w' ∧ RelW G σ' lim' ⟨env,QP (T.put e.ups)⟩ tmps w' ∧ e.val = .tup []
theorem ZbN {T:ZA} (h:RelW G σ lim ⟨env,QP T⟩ tmps w) (hL:Low G ⟨env,T⟩) {U:TypeId} {r:Nat} {t:Ty} {i k:Nat} {x:AV} {v vx:Value} {l l':List Nat} {e:Eff}
  (hm:(Zai C U r t i k x).run T l = some (e,l')) (hups:∀ p ∈ e.ups,p.1 < Zy) (ha:RA σ w lim (.el r (.pair .unit (.sl t)) i k) v) (hx:RA σ w lim x vx) :
  Zg8 C G env T tmps w (Ve U v vx) e:=by
 unfold Zai at hm
 split at hm
 ·rename_i q
  simp only [M.run] at hm
  cases hr:T r with
  | fresh => simp [hr,M.run] at hm
  | gone => simp [hr,M.run] at hm
  | live y =>
   cases y with
   | box => simp [hr,M.run] at hm
   | arr => simp [hr,M.run] at hm
   | nest t' xss o =>
    cases o with
    | none => simp [hr,M.run] at hm
    | some j =>
     simp only [hr,M.run] at hm
     cases hq:T q with
     | fresh => simp [hq,M.run] at hm
     | gone => simp [hq,M.run] at hm
     | live z =>
      cases z with
      | box => simp [hq,M.run] at hm
      | nest => simp [hq,M.run] at hm
      | arr t'' xs sh =>
       simp only [hq] at hm
       split at hm
       ·rename_i ht
        subst ht
        split at hm
        ·rename_i ht
         subst ht
         obtain ⟨hg,hm1⟩:=M.run_guard hm
         clear hm
         simp only [Jh] at hg
         obtain ⟨hk,hT⟩:=hg
         have hk0:=Zu hk
         subst hk0
         obtain ⟨d,hd,hag,hc⟩:=ZcO hT
         obtain ⟨hij,hm2⟩:=M.run_need hm1
         have hij:=of_decide_eq_true hij
         subst hij
         obtain ⟨hi,hm3⟩:=M.run_need hm2
         have hi:=of_decide_eq_true hi
         obtain ⟨rfl,_⟩:=M.run_ret hm3
         have hrl:r < Zy:=hups (r,_) (Jm ..)
         have hql:q < Zy:=hups (q,_) (Jn _ (Jm ..))
         have er:QP T r = .live (.nest t'' xss (some i)):=by rw [ZB hrl]; exact hr
         obtain ⟨hR,_⟩:=h.res r _ er
         simp only [RR] at hR
         obtain ⟨h0,b,off,cap,vs,V,fz,s1,s2,s3,s4,s5,s6,s7⟩:=hR
         simp only [RA] at ha hx
         obtain ⟨b',off',len',cap',h1,rfl⟩:=ha
         obtain ⟨rfl,A,sl,sc,hsl⟩:=hx
         rw [s1] at h1
         obtain ⟨⟨rfl,rfl⟩,rfl,rfl⟩:(b = b' ∧ off = off') ∧ xss.length = len' ∧ cap = cap':=by simpa using h1
         have hz:off + i * (Ty.pair Ty.unit (Ty.sl t'')).size + 0 = off + i:=by simp [Ty.size]
         rw [hz]
         obtain ⟨σ',lim',R,hlt,hfree⟩:=h.putin hL hrl hql hr hi hq s1 s3
         refine ⟨_,σ',lim',?_,R,rfl⟩
         have hone:(σ q).oneCell' = true:=by rw [hsl]; rfl
         have:=ZV (P:=C.P) b (off + i) V fz [σ q] 0 vs w s3 (by simp; omega) hfree (by simpa using hone)
         simp only [JH,Us] at this
         simp only [Ve,JL,Sem.run_bind,Sem.run_pure,Result.andThen_ok,storeVar,Z4 hd,K8 hone,hc]
         rw [if_neg (by simp)]
         exact this
        ·simp [M.run] at hm
       ·simp [M.run] at hm
 ·simp [M.run] at hm
def Yk (C:Ctx) (G:Glob) (st:St) (o:Oper) (a:Act) (w:World) (e:Eff):Prop :=
 ∀ (next:Act → World → Prop) (Q:Exit → Act → World → Prop),(∀ x w' σ' lim',Qd G σ' lim' ⟨QD st.env o.dst e.val,st.tbl.put e.ups⟩ (a.put o.dst x).tmps w' → next (a.put o.dst x) w') → o.wp C.P a w next Q
theorem Yk.value {o:Oper} {s:Sem Value} {e:Eff} (hx:execOp a.eval o = (do pure (Next.value (← s)))) (h:ZfJ C G st.env st.tbl a.tmps w s e) (hL:Low G ⟨QD st.env o.dst e.val,st.tbl.put e.ups⟩) (hd:∀ d,o.dst = some d → d < a.tmps.size):Yk C G st o a w e:=by
 intro next Q hn
 obtain ⟨x,w',σ',lim',hr,hR,hv,hk⟩:=h
 unfold Oper.wp
 rw [hx]
 simp only [bind_pure_comp,Sem.run_map,hr,Result.andThen_ok,Oper.upon_value]
 have:=RelW.step (a:=a) hR (Upd.quiet hR hv hk) o.dst hd
 simp only [ZJ] at this
 exact hn x w' σ' lim' ⟨this,hL⟩
theorem Yk.unit {o:Oper} {s:Sem Unit} {e:Eff} (hx:execOp a.eval o = (do s; pure Next.skip)) (h:Zg8 C G st.env st.tbl a.tmps w s e) (hL:Low G ⟨QD st.env o.dst e.val,st.tbl.put e.ups⟩) (hd:∀ d,o.dst = some d → d < a.tmps.size):Yk C G st o a w e:=by
 intro next Q hn
 obtain ⟨w',σ',lim',hr,hR,hv⟩:=h
 unfold Oper.wp
 rw [hx]
 simp only [Sem.run_bind,hr,Result.andThen_ok,Sem.run_pure,Oper.upon_skip]
 have:=RelW.step (a:=a) hR (Upd.quiet (v:=.tup []) (x:=undef) hR (by simp only [RA]; exact ⟨[],rfl,by simp [Zw]⟩) (by simp [Za,Zc,Zd])) o.dst hd
 simp only [ZJ] at this
 rw [← hv] at this
 exact hn undef w' σ' lim' ⟨this,hL⟩
theorem ZdS {T:ZA} (h:RelW G σ lim ⟨env,QP T⟩ tmps w) {U:TypeId} {g:Nat} {k:IntKind} {i:Int} {l l':List Nat} {e:Eff} {vi:Value}
  (hm:(ZdR C U g i).run T l = some (e,l')) (hi:RA σ w lim (.val (.v (.int k i))) vi):ZfJ C G env T tmps w (Vc U (.pointer (some ⟨g,0,none⟩)) vi) e:=by
 unfold ZdR at hm
 split at hm
 ·rename_i len ee hu
  obtain ⟨hg,hm1⟩:=M.run_guard hm
  clear hm
  simp only [Jh] at hg
  obtain ⟨⟨⟨g1,g2⟩,g3⟩,g4⟩:=hg
  have g1:=Zu g1
  have g3:=Zu g3
  obtain ⟨hc,hm2⟩:=M.run_need hm1
  obtain ⟨c1,c2⟩:=of_decide_eq_true hc
  obtain ⟨rfl,_⟩:=M.run_ret hm2
  simp only [RA,RP] at hi
  subst hi
  obtain ⟨d,hd⟩:=VC.1 g2
  have hLies:=h.glob.mono h.ext
  have hlt:i.toNat < (Gl.tab g).2.length:=by omega
  have hget:(Gl.tab g).2[i.toNat]? = some ((Gl.tab g).2.getD i.toNat 0):=by
   rw [VS,VO hlt]; rfl
  obtain ⟨q1,q2⟩:=hLies g i.toNat _ hget
  refine ⟨.pointer (some ⟨g,i.toNat,none⟩),w,σ,lim,?_,by rw [ZJ]; exact h,?_,by intro q hq; simp [Za] at hq⟩
  ·have hsz:(sizeOf ee).run C.P w = .ok 1 w:=by simp [sizeOf,typeInfo,hd,← g1,Program.cellsOf]
   simp [Vc,asIntOf,run_underlying hu,c1,c2,hsz,JL,ZO]
  ·simp only [RA]
   refine ⟨g,i.toNat,rfl,fun j p hp => ?_⟩
   cases j with
   | zero =>
    simp only [List.getElem?_cons_zero,VF.injEq] at hp
    subst hp
    exact ⟨_,q1,q2,by simp [RP]⟩
   | succ j => simp at hp
 ·exact (M.run_fail hm).elim
theorem ZcU {w':World} {l l':Nat → Nat} {t:Ty} (ht:KZ t = true) {x:t.den} {cs:List Value} (h:Rt w' l t x cs):Rt w' l' t x cs:=by
 cases t <;> first | (simp [KZ] at ht; done) | (simpa only [Rt] using h)
theorem YG:∀ {u:Z5},Zaj u = true → Zv u = []
 | [],_ => rfl
 | (i,x) :: u,h => by
  cases x with
  | gone => simp [Zaj] at h
  | fresh => simp only [Zaj] at h; simp only [Zv,Qf]; exact YG h
  | live y => simp only [Zaj] at h; simp only [Zv,Qf]; exact YG h
theorem ZgZ {t:Ty} {x:t.den} {w':World} {l l':Nat → Nat} {v:Value} (ht:KZ t = true) (h:YQ w' l t x v):RA σ w' l' (Zd5 t x) v :=
 Zbg (by
  obtain ⟨cs,h1,h2⟩:=h
  exact ⟨cs,ZcU ht h1,h2⟩)
set_option maxHeartbeats 1000000 in
theorem ZgV (hC:∀ f cal,C.Φ f = some cal → Ctr C.P C.k f cal) (h:Qd G σ lim st a.tmps w) {base f:Nat} {o:Oper} {fo:Operand} {args:Array Operand} {ats:Array TypeId} (ho:o.op = .call ⟨.value fo,args,ats⟩)
    (hf:WW st.env fo = .fn f) {l lg:List Nat} {e:Eff} (hm:(Zkn C base f (args.toList.map (WW st.env))).run st.tbl l = some (e,lg)) (hlow:Y2 lg = true) (hok:OkEff true e lg)
    (hL2:Low G ⟨QD st.env o.dst e.val,st.tbl.put e.ups⟩) (hd:∀ d,o.dst = some d → d < a.tmps.size):Yk C G st o a w e:=by
  obtain ⟨hR,hL⟩:=h
  have hm:=ZdO hm hlow
  have hfv:=(Zg hR fo).1
  simp only at hfv
  rw [hf] at hfv
  simp only [RA] at hfv
  have hargs:=XJ hR args.toList
  simp only at hargs
  unfold Zkn at hm
  cases hcal:C.Φ f with
  | none => simp [hcal,M.run] at hm
  | some cal =>
    simp only [hcal] at hm
    have hctr:=hC f cal hcal
    obtain ⟨⟨rvs,u⟩,l1,h1,h2⟩:=M.run_bind_some hm
    obtain ⟨hgu,h3⟩:=M.run_guard h2
    simp only at hgu h3
    simp only [Jh] at hgu
    obtain ⟨hou,hng⟩:=hgu
    have hgn:=YG hng
    simp only [M.run] at h3
    cases hrun:cal.run C.k rvs with
    | none => simp [hrun] at h3
    | some x =>
      simp only [hrun,VK] at h3
      obtain ⟨s1,k1⟩:=Qr (st:=⟨st.env,QP st.tbl⟩) (σ:=σ) (w:=w) (lim:=lim) cal.pk _ h1
      obtain ⟨lim1,hR1,hE1,hS,hnd1,hbl1⟩:=RelW.takes (st:=⟨st.env,QP st.tbl⟩) hR s1 hou
      have hT:=k1 _ hargs.1 (fun r y hy => (hR.res r y hy).1) lim1 hE1 hS
      obtain ⟨fn,e1,e2,e3⟩:=hctr.enters
      have hcalls:=hctr.calls rvs x hrun w lim1 _ _ hR1.lz (hR1.glob.mono hR1.ext) hT hnd1 (fun b hb => (hbl1 b hb).2.1)
      rw [hgn] at hcalls
      simp only [ZP,List.filterMap_nil] at hcalls
      intro next Q hn
      unfold Oper.wp
      have hrunx:(execOp a.eval o).run C.P w = .ok (.enter f (args.toList.map a.eval).toArray) w:=by
        have hmap:VR a.eval args = (args.toList.map a.eval).toArray:=by apply JI; simp
        have e2':¬ fn.name = "runtime.NumGoroutine" := by simpa using e2
        have e3':¬ fn.body = none:=by intro h0; rw [h0] at e3; cases e3
        obtain ⟨dst,op,type,pos,after,guard⟩:=o
        simp only at ho
        subst ho
        simp [execOp,resolve,hfv,Deferred.ofValue,invoke,callFunc,e1,hmap]
        rw [if_neg e2',if_neg e3']
      rw [hrunx,Oper.upon_enter]
      refine hcalls.mono ?_
      rintro en w' ⟨v,lim2,b1,b2,rfl,hE2,hlz2,hsame,hkeep,hT1,_,_,hnd,hb⟩
      simp only
      have hE:Ext w lim w' lim:=⟨hE2.size,fun b o ho => by
        have hbs:b < w.heap.size:=by
          rcases VN b w.heap.size with h' | h'
          · exact h'
          · rw [hR.lz b h'] at ho; omega
        simp [World.cell?,(hkeep b hbs (by simp)).1],fun _ _ h => h,hE2.typ⟩
      have hlive:∀ r' b,Zt (QP st.tbl r') = true → QF (σ r') = some b → b < w.heap.size:=fun r' b hl hb => X3 (st:=⟨st.env,QP st.tbl⟩) hR hl hb
      unfold Zge at h3
      split at h3
      · rename_i t' ys henc
        obtain ⟨hsc,hm2⟩:=M.run_guard h3
        obtain ⟨hfx,l2,hm3⟩:=Xx hm2
        obtain ⟨rfl,_⟩:=M.run_ret hm3
        have hbl:base < Zy:=hok.ups (base,_) (Jm ..)
        rw [henc] at hT1
        simp only [TT,Zcq] at hT1
        have hblk:∀ b,QF v = some b → w.heap.size ≤ b:=by
          intro b hbv
          rcases hT1.2 with ⟨_,rfl,_⟩ | ⟨b',off,cap,vs,T,fz,rfl,_,_,_,_,_,_,rfl⟩
          · simp [QF] at hbv
          · simp [QF] at hbv; subst hbv
            rcases hb b' (by simp) with h' | h'
            · cases h'
            · exact h'
        have hU:Upd G σ lim ⟨st.env,QP st.tbl⟩ w (fun s => if s = base then v else σ s) lim w' (.own base) v [(base,.live (.arr t' ys false))] :=
          { ext:=hE
            lz:=fun b hb => hR.lz b (VI hE2.size hb)
            same:=hsame
            sig:=fun r' hr' => by rw [if_neg]; intro e; subst e; exact hr' hfx
            rest:=fun r' hl _ b hb => ⟨(hkeep b (hlive r' b hl hb) (by simp)).1,rfl⟩
            new:=fun r' y hl => by
              rw [Zb] at hl
              split at hl
              · rename_i e; subst e
                simp at hl; subst hl
                refine ⟨?_,by intro q hq; cases hq⟩
                simp only [RR]
                refine ⟨hT1.1,?_⟩
                rcases hT1.2 with ⟨g1,rfl,_⟩ | ⟨b',off,cap,vs,T,fz,rfl,g2,g3,g4,g5,g6,g7,rfl⟩
                · exact .inl ⟨g1,by simp⟩
                · refine .inr ⟨b',off,cap,vs,T,fz,by simp,g2,g3,g4,g5,fun i hi => ZcU hsc (g6 i hi),?_⟩
                  simp only [cond_false]
                  exact hR.lz b' (hblk b' rfl)
              · simp [Zk] at hl
            inj:=fun r1 r2 y b hl hl2 hb1 hb2 => by
              rw [Zb] at hl
              split at hl
              · rename_i e; subst e
                by_cases e:r2 = base
                · exact e
                · rw [Ze,if_neg (Ne.symm e)] at hl2
                  simp only [if_true] at hb1
                  simp only [e,if_false] at hb2
                  have:=hblk b hb1
                  have:=hlive r2 b hl2 hb2
                  omega
              · simp [Zk] at hl
            own:=fun r1 y b hl hb1 => by
              rw [Zb] at hl
              split at hl
              · rename_i e; subst e
                simp only [if_true] at hb1
                exact .inl (VI hR.ext.size (hblk b hb1))
              · simp [Zk] at hl
            keep:=fun b hb _ => (hkeep b (V0 hb hR.ext.size) (by simp)).1
            limk:=fun _ _ _ => rfl
            nofresh:=by intro r'; rw [Zb]; split <;> simp [Zk]
            val:=by
              simp only [RA]
              rcases hT1.2 with ⟨_,rfl,_⟩ | ⟨b',off,cap,vs,T,fz,rfl,_⟩
              · exact ⟨by simp,_,_,_,rfl⟩
              · exact ⟨by simp,_,_,_,rfl⟩
            known:=Z0 (y:=.arr t' ys false) (by rw [Ze]; simp) }
        have hS:=RelW.step (a:=a) hR hU o.dst hd
        exact hn v w' _ lim (Qd.of_put hS (fun p hp => by
          simp only [Vx] at hp; subst hp; exact ⟨hbl,rfl⟩) hL2)
      · rename_i t' y henc
        obtain ⟨hsc,hm2⟩:=M.run_guard h3
        obtain ⟨rfl,_⟩:=M.run_ret hm2
        rw [henc] at hT1
        simp only [TT] at hT1
        have hU:Upd G σ lim ⟨st.env,QP st.tbl⟩ w σ lim w' (Zd5 t' y) v [] :=
          { ext:=hE
            lz:=fun b hb => hR.lz b (VI hE2.size hb)
            same:=hsame
            sig:=fun _ _ => rfl
            rest:=fun r' hl _ b hb => ⟨(hkeep b (hlive r' b hl hb) (by simp)).1,rfl⟩
            new:=fun r' y hl => by simp [Zk] at hl
            inj:=fun r1 r2 y b hl hl2 hb1 hb2 => by simp [Zk] at hl
            own:=fun r1 y b hl hb1 => by simp [Zk] at hl
            keep:=fun b hb _ => (hkeep b (V0 hb hR.ext.size) (by simp)).1
            limk:=fun _ _ _ => rfl
            nofresh:=by intro r'; simp [Zk]
            val:=ZgZ hsc hT1.1
            known:=by rw [Zbf]; intro q hq; cases hq }
        have hS:=RelW.step (a:=a) hR hU o.dst hd
        exact hn v w' _ lim (Qd.of_put hS (fun p hp => by cases hp) hL2)
      · exact (M.run_fail h3).elim
theorem Zct (hC:∀ f cal,C.Φ f = some cal → Ctr C.P C.k f cal) (h:Qd G σ lim st a.tmps w) {base:Nat} {o:Oper} {m:M Eff} (hs:ZdQ C base o.op ((ZE o.op).map (WW st.env)) = some m) {l lg:List Nat} {e:Eff}
  (hm:m.run st.tbl l = some (e,lg)) (hok:OkEff true e lg) (hd:∀ d,o.dst = some d → d < a.tmps.size):Yk C G st o a w e:=by
 obtain ⟨hR,hL⟩:=h
 have hL2:=hL.after (d:=o.dst) hok
 obtain ⟨dst,op,type,pos,after,guard⟩:=o
 simp only at hs hd hL2
 unfold ZdQ at hs
 split at hs
 ·rename_i fo args ats f avs hv
  cases hb:(C.live 999998).any (Ja f) with
  | false => rw [hb] at hs; cases hs
  | true =>
   rw [hb] at hs
   cases hs
   simp only [ZE,JR,J0.injEq] at hv
   obtain ⟨hv1,hv2⟩:=hv
   subst hv2
   exact ZgV hC ⟨hR,hL⟩ rfl hv1 hm hok.log hok hL2 hd
 ·rename_i U g y z k i hv
  cases hs
  simp only [ZE,JR,VE,J0.injEq,and_true] at hv
  have h2:=(Zg hR y).1
  simp only at h2
  rw [hv.2] at h2
  exact Yk.value rfl (ZdS hR hm h2) hL2 hd
 ·rename_i U ord x r t i k hv
  cases hs
  simp only [ZE,JR,VE,J0.injEq,and_true] at hv
  have:=(Zg hR x).1
  simp only at this
  rw [hv] at this
  exact Yk.value rfl (Zcn hR hL hm hok.ups this) hL2 hd
 ·rename_i U ord x y r t i k z hv
  cases hs
  simp only [ZE,JR,VE,J0.injEq,and_true] at hv
  have h1:=(Zg hR x).1
  have h2:=(Zg hR y).1
  simp only at h1 h2
  rw [hv.1] at h1
  rw [hv.2] at h2
  exact Yk.unit rfl (ZbN hR hL hm hok.ups h1 h2) hL2 hd
 ·rename_i U x y p q hv
  cases hb:(C.live 1).any (Ja U) with
  | false => rw [hb] at hs; cases hs
  | true =>
   rw [hb] at hs
   cases hs
   simp only [ZE,JR,VE,J0.injEq,and_true] at hv
   have h1:=(Zg hR x).1
   have h2:=(Zg hR y).1
   simp only at h1 h2
   rw [hv.1] at h1
   rw [hv.2] at h2
   exact Yk.value rfl (Zco hR hL hm hok.ups h1 h2) hL2 hd
 ·cases hs
theorem ZeU (hC:∀ f cal,C.Φ f = some cal → Ctr C.P C.k f cal) (h:Qd G σ lim st a.tmps w) {rid i:Nat} {o:Oper} {lg:List Nat} {e:Eff}
  (hm:(Zc3 C rid i o st.env).run st.tbl [] = some (e,lg)) (hok:ZaK (Zb3 C rid i o st.env).isSome e lg = true) (hd:∀ d,o.dst = some d → d < a.tmps.size) (hT:ZdD C.P o.op = true):Yk C G st o a w e:=by
 have hok:=Zfp hok
 cases hs:Zb3 C rid i o st.env with
 | some m =>
  rw [hs] at hok
  simp only [Zc3,hs] at hm
  exact Zct hC h hs hm hok hd
 | none =>
  rw [hs] at hok
  simp only [Zc3,hs] at hm
  have hm2:=ZdO hm hok.log
  have hG:=Zgs hC h.1 (base:=ZeY rid i) hm2 hd hT
  intro next Q hn
  refine hG next Q fun x w' σ' lim' hR => hn x w' σ' lim' ?_
  exact Qd.of_put hR (fun p hp => ⟨hok.ups p hp,hok.non rfl p hp⟩) (h.2.after hok)
theorem Qd.skip (h:Qd G σ lim st a.tmps w) (d:Option Nat) (hd:∀ x,d = some x → x < a.tmps.size):Qd G σ lim ⟨QD st.env d (.tup []),st.tbl⟩ (a.put d undef).tmps w:=by
 have:=RelW.step h.1 (Upd.quiet (v:=.tup []) (x:=undef) h.1 (by simp only [RA]; exact ⟨[],rfl,by simp [Zw]⟩) (by simp [Za,Zc,Zd])) d hd
 simp only [ZJ] at this
 exact ⟨this,h.2.set (by simp [Za,Zc])⟩
end Go.Sh
namespace Go.Sh
open Go
variable [Gl]
variable {C:Ctx} {G:Glob} {σ:Qt} {w:World} {lim:Nat → Nat} {st:St} {a:Act}
def Zcs (C:Ctx) (rid idx:Nat) (o:Oper) (st:St):Option (Eff × List Nat) :=
 ((Zc3 C rid idx o st.env).run st.tbl []).bind fun x => bif ZaK (Zb3 C rid idx o st.env).isSome x.1 x.2 then some x else none
theorem Zas {rid idx:Nat} {o:Oper} {st:St} {e:Eff} {l:List Nat} (h:Zcs C rid idx o st = some (e,l)) :
  (Zc3 C rid idx o st.env).run st.tbl [] = some (e,l) ∧ ZaK (Zb3 C rid idx o st.env).isSome e l = true:=by
 unfold Zcs at h
 obtain ⟨⟨e',l'⟩,h1,h2⟩:=Option.bind_eq_some_iff.1 h
 simp only at h2
 cases hk:ZaK (Zb3 C rid idx o st.env).isSome e' l' with
 | false => rw [hk] at h2; cases h2
 | true => rw [hk] at h2; cases h2; exact ⟨h1,hk⟩
def ZaA (C:Ctx) (rid idx:Nat) (ops:List Oper) (o:Oper) (st:St):Option (Eff × List Nat) :=
 match o.guard with
 | none => Zcs C rid idx o st
 | some (j,want) => match Wr ops j with
  | none => none
  | some d => match st.env d with
   | .val (.v (.bool g)) => bif (g == want) then Zcs C rid idx o st else some (⟨.tup [],[]⟩,[])
   | .tup [] => some (⟨.tup [],[]⟩,[])
   | _ => none
def after (st:St) (o:Oper) (e:Eff):St:=⟨QD st.env o.dst e.val,st.tbl.put e.ups⟩
def WM (C:Ctx) (rid idx:Nat) (ops:List Oper) (o:Oper) (st:St):Option (St × Lg) :=
 (ZaA C rid idx ops o st).map fun x => (after st o x.1,(x.2,x.1.ups.map (·.1)))
theorem Zia {R:Type} {rid idx:Nat} {o:Oper} {K:St → Lg → Option R} :
  goK C rid idx o st K = (Zcs C rid idx o st).bind fun x => K (after st o x.1) (x.2,x.1.ups.map (·.1)):=by
 rw [goK,M.runK_eq,Zcs,Option.bind_assoc]
 congr 1
 funext x
 cases ZaK (Zb3 C rid idx o st.env).isSome x.1 x.2 <;> rfl
theorem Zau {e:Nat → AV} {d:Nat} {x:AV} (h:e d = x):Xi e d x = e:=by
 funext s
 simp only [Xi]
 cases hb:Ja s d with
 | false => rfl
 | true => rw [Zu hb,h]; rfl
theorem ZeI {R:Type} {rid idx:Nat} {ops:List Oper} {o:Oper} {K:St → Lg → Option R} :
  Zgo C rid idx ops o st K = (WM C rid idx ops o st).bind fun x => K x.1 x.2:=by
 unfold Zgo WM ZaA
 cases hg:o.guard with
 | none => simp only [Zia,V1]; rfl
 | some p =>
  obtain ⟨j,want⟩:=p
  cases hj:Wr ops j with
  | none => simp only [hj]; rfl
  | some d =>
   simp only [hj]
   split
   ·rename_i g hd
    simp only [hd]
    cases g <;> cases want <;> simp only [cond_true,cond_false,Zau hd,Zia,V1] <;> rfl
   ·rename_i hd; simp only [hd]; rfl
   ·rename_i h1 h2
    split
    ·rename_i g hd; exact (h1 g hd).elim
    ·rename_i hd; exact (h2 hd).elim
    ·rfl
def Zal (C:Ctx) (rid:Nat) (ops:List Oper):List Oper → Nat → St → Option (St × List Lg)
 | [],_,st => some (st,[])
 | o :: l,idx,st => (WM C rid idx ops o st).bind fun x => (Zal C rid ops l (idx + 1) x.1).map fun y => (y.1,x.2 :: y.2)
theorem ZdE {R:Type} {rid:Nat} {ops:List Oper} {K:St → Option R}:∀ (l:List Oper) (idx:Nat) (st:St),
  Zi4 C rid ops l idx st K = (Zal C rid ops l idx st).bind fun x => K x.1
 | [],_,_ => rfl
 | o :: l,idx,st => by
  simp only [Zi4,Zal,ZeI]
  cases WM C rid idx ops o st with
  | none => rfl
  | some x => simp only [VK,ZdE l,V1]; rfl
theorem Zaa {R:Type} {rid:Nat} {ops:List Oper} {K:St → Option R}:∀ (l:List Oper) (idx:Nat) (st:St) (logs:List Lg),
  Zbn C rid ops l idx st logs K = (Zal C rid ops l idx st).bind fun x => bif Xa ops (Wn ops []) (logs ++ x.2) then K x.1 else none
 | [],_,_,_ => by simp [Zbn,Zal]
 | o :: l,idx,st,logs => by
  simp only [Zbn,Zal,ZeI]
  cases WM C rid idx ops o st with
  | none => rfl
  | some x => simp only [VK,Zaa l,V1,Ju,List.singleton_append]; rfl
def Zbw (P:Program) (n:Nat) (o:Oper):Bool:=(match o.dst with | some d => Nat.blt d n | none => true) && ZdD P o.op
def Zgf (ops:List Oper) (j:Nat):Bool:=match ops[j]? with
 | some o => (QA o).all fun p => Nat.blt p j
 | none => true
def ZcG (P:Program) (n:Nat) (ops:List Oper):Bool:=ops.all (Zbw P n) && (Jc ops.length).all (Zgf ops)
theorem ZcF {n:Nat} {o:Oper} (h:Zbw C.P n o = true):∀ d,o.dst = some d → d < n:=by
 intro d hd
 simp only [Zbw,hd,Jh,VU] at h
 exact h.1
theorem ZgL {tmps:Array Value} {d:Nat} {g:Bool} (h:tmps.getD d undef = .bool g):tmps[d]? = some (.bool g):=by
 rw [VL] at h
 cases hd:tmps[d]? with
 | none => rw [hd] at h; simp [undef] at h
 | some x => rw [hd] at h; simp at h; rw [h]
theorem Zh7 {tmps:Array Value} {d:Nat} (h:tmps.getD d undef = .tuple #[]):∀ g,tmps[d]? ≠ some (.bool g):=by
 rw [VL] at h
 cases hd:tmps[d]? with
 | none => simp
 | some x => rw [hd] at h; simp at h; rw [h]; simp
theorem YL (a:Act) (d:Option Nat) (v:Value):(a.put d v).tmps.size = a.tmps.size:=by cases d <;> simp [Act.put]
theorem WK (a:Act) (d:Option Nat) (v:Value):(a.put d v).defers = a.defers:=by cases d <;> simp [Act.put]
theorem Zfw {σ:Qt} {w:World} {lim:Nat → Nat}:RA σ w lim (.tup []) undef:=by simp only [RA]; exact ⟨[],rfl,by simp [Zw]⟩
theorem Zb4 (hC:∀ f cal,C.Φ f = some cal → Ctr C.P C.k f cal) (h:Qd G σ lim st a.tmps w) {ops:Array Oper} {rid i:Nat} {o:Oper} (ho:ops[i]? = some o)
  {st':St} {lg:Lg} (hs:WM C rid i ops.toList o st = some (st',lg)) (hf:Zbw C.P a.tmps.size o = true) {K:Act → World → Prop} {Q:Exit → Act → World → Prop}
  (hK:∀ a' w' σ' lim',Qd G σ' lim' st' a'.tmps w' → a'.tmps.size = a.tmps.size → a'.defers = a.defers → K a' w'):wpOp C.P ops Q i K a w:=by
 have go:∀ e lg',Zcs C rid i o st = some (e,lg') → st' = after st o e → Region.wanted o (yielded ops a.tmps) = true → wpOp C.P ops Q i K a w:=by
  intro e lg' hm hst hw
  subst hst
  unfold wpOp
  simp only [ho,hw,if_true]
  refine .inl (ZeU hC h (Zas hm).1 (Zas hm).2 (ZcF hf) ?_ K Q fun x w' σ' lim' hR => hK _ _ σ' lim' hR (YL _ _ _) (WK _ _ _))
  simp only [Zbw,Jh] at hf; exact hf.2
 have skip:st' = after st o ⟨.tup [],[]⟩ → Region.wanted o (yielded ops a.tmps) = false → wpOp C.P ops Q i K a w:=by
  intro hst hw
  subst hst
  unfold wpOp
  simp only [ho,hw]
  have hR:=h.skip o.dst (ZcF hf)
  exact hK _ _ σ lim hR (YL _ _ _) (WK _ _ _)
 unfold WM ZaA at hs
 cases hg:o.guard with
 | none =>
  rw [hg] at hs
  simp only [V3,Prod.mk.injEq] at hs
  obtain ⟨⟨e,l1⟩,h1,h2,h3⟩:=hs
  exact go e l1 h1 h2.symm (by simp [Region.wanted,hg])
 | some p =>
  obtain ⟨j,want⟩:=p
  rw [hg] at hs
  simp only at hs
  cases hj:Wr ops.toList j with
  | none => rw [hj] at hs; simp at hs
  | some d =>
   rw [hj] at hs
   simp only at hs
   have hd0:(ops[j]?).bind (·.dst) = some d:=by
    simp only [Wr,VX] at hj
    cases hoj:ops[j]? with
    | none => rw [hoj] at hj; simp at hj
    | some oj => rw [hoj] at hj; simpa using hj
   have henv:=h.1.env d
   split at hs
   ·rename_i g hd
    rw [hd] at henv
    simp only [RA,RP] at henv
    have hy:yielded ops a.tmps j = some g:=by simp [yielded,hd0,ZgL henv]
    cases hgw:(g == want) with
    | true =>
     rw [hgw] at hs
     simp only [cond_true,V3,Prod.mk.injEq] at hs
     obtain ⟨⟨e,l1⟩,h1,h2,h3⟩:=hs
     exact go e l1 h1 h2.symm (by simp [Region.wanted,hg,hy]; simpa using hgw)
    | false =>
     rw [hgw] at hs
     simp only [cond_false,VD,VF.injEq,Prod.mk.injEq] at hs
     exact skip hs.1.symm (by simp [Region.wanted,hg,hy]; simpa using hgw)
   ·rename_i hd
    rw [hd] at henv
    simp only [RA] at henv
    obtain ⟨vs,hv,hvs⟩:=henv
    cases vs with
    | cons _ _ => simp [Zw] at hvs
    | nil =>
     have hy:yielded ops a.tmps j = none:=by
      have:=Zh7 hv
      unfold yielded
      rw [hd0]
      simp only [VK]
     simp only [VD,VF.injEq,Prod.mk.injEq] at hs
     exact skip hs.1.symm (by simp [Region.wanted,hg,hy])
   ·simp at hs
def Yl (C:Ctx) (rid:Nat) (ops:List Oper) (lg:Nat → Lg):List Nat → St → St → Prop
 | [],st,stf => st = stf
 | i :: is,st,stf => ∃ o s,ops[i]? = some o ∧ WM C rid i ops o st = some (s,lg i) ∧ Yl C rid ops lg is s stf
theorem Yl.congr {rid:Nat} {ops:List Oper} {lg lg':Nat → Lg}:∀ {is:List Nat} {st stf:St},(∀ i ∈ is,lg i = lg' i) → Yl C rid ops lg is st stf → Yl C rid ops lg' is st stf
 | [],_,_,_,h => h
 | i :: is,_,_,hl,⟨o,s,h1,h2,h3⟩ => ⟨o,s,h1,by rw [← hl i (by simp)]; exact h2,Yl.congr (fun k hk => hl k (by simp [hk])) h3⟩
theorem Zgm {rid:Nat} {ops:List Oper}:∀ (l:List Oper) (idx:Nat) (st stf:St) (lgs:List Lg),ops.drop idx = l → Zal C rid ops l idx st = some (stf,lgs) →
  lgs.length = l.length ∧ Yl C rid ops (fun i => lgs.getD (i - idx) ([],[])) (V8 idx l.length) st stf
 | [],idx,st,stf,lgs,hl,h => by simp [Zal] at h; simp [Yl,h]
 | o :: l,idx,st,stf,lgs,hl,h => by
  simp only [Zal] at h
  cases hs:WM C rid idx ops o st with
  | none => simp [hs] at h
  | some x =>
   obtain ⟨s,g⟩:=x
   simp only [hs,VK,V3,Prod.mk.injEq] at h
   obtain ⟨⟨sf,gs⟩,h1,h2,h3⟩:=h
   subst h2 h3
   have ho:ops[idx]? = some o:=by
    have:=congrArg (·[0]?) hl
    simpa using this
   have hd:ops.drop (idx + 1) = l:=by
    rw [← JE,hl]; rfl
   obtain ⟨h4,h5⟩:=Zgm l (idx + 1) s sf gs hd h1
   refine ⟨by simp [h4],?_⟩
   simp only [JF,Vz,Yl]
   refine ⟨o,s,ho,by simpa using hs,h5.congr fun i hi => ?_⟩
   have hi':idx + 1 ≤ i:=(Ut.1 hi).1
   have:i - idx = (i - (idx + 1)) + 1:=by omega
   rw [this]; simp
theorem Zb8 (hC:∀ f cal,C.Φ f = some cal → Ctr C.P C.k f cal) {ops:Array Oper} {rid:Nat} {lg:Nat → Lg} {stf:St} {Q:Exit → Act → World → Prop} {n:Nat} {ds:List Deferred}
  (hf:∀ o ∈ ops.toList,Zbw C.P n o = true)
  (hQ:∀ a' w' σ' lim',Qd G σ' lim' stf a'.tmps w' → a'.tmps.size = n → a'.defers = ds → Q .normal a' w') :
  ∀ (is:List Nat) (st:St) (a:Act) (w:World) (σ:Qt) (lim:Nat → Nat),Yl C rid ops.toList lg is st stf → Qd G σ lim st a.tmps w → a.tmps.size = n → a.defers = ds → wpOps C.P ops Q is a w
 | [],st,a,w,σ,lim,hr,h,hn,hd => by
  simp only [Yl] at hr; subst hr; exact hQ a w σ lim h hn hd
 | i :: is,st,a,w,σ,lim,⟨o,s,h1,h2,h3⟩,h,hn,hd => by
  rw [wpOps_cons]
  refine Zb4 hC h (by simpa using h1) h2 (by rw [hn]; exact hf o (Vw h1)) fun a' w' σ' lim' hR e1 e2 => ?_
  exact Zb8 hC hf hQ is s a' w' σ' lim' h3 hR (e1.trans hn) (e2.trans hd)
end Go.Sh
namespace Go.Sh
open Go
variable [Gl]
variable {C:Ctx} {G:Glob} {σ:Qt} {w:World} {lim:Nat → Nat} {st:St} {a:Act}
theorem ZcC {rid i:Nat} {ops:List Oper} {o:Oper} {st st':St} {e:Eff} {lg:List Nat} (h:ZaA C rid i ops o st = some (e,lg))
  (he:∀ s ∈ K0 ops o,st'.env s = st.env s) (ht:∀ r ∈ lg,st'.tbl r = st.tbl r):ZaA C rid i ops o st' = some (e,lg):=by
 have hmap:(ZE o.op).map (WW st'.env) = (ZE o.op).map (WW st.env):=by
  refine List.map_congr_left fun x hx => ?_
  cases x with
  | tmp t => exact he t (by simp only [K0,Js,List.mem_filterMap]; exact .inl ⟨.tmp t,hx,rfl⟩)
  | _ => rfl
 have hact:∀ {e lg},Zcs C rid i o st = some (e,lg) → (∀ r ∈ lg,st'.tbl r = st.tbl r) → Zcs C rid i o st' = some (e,lg):=by
  intro e lg h ht
  obtain ⟨h1,h2⟩:=Zas h
  have hs:Zb3 C rid i o st'.env = Zb3 C rid i o st.env:=by simp only [Zb3,hmap]
  have:Zc3 C rid i o st'.env = Zc3 C rid i o st.env:=by simp only [Zc3,Zjg,hs,hmap]
  unfold Zcs
  rw [this,hs,M.run_local _ h1 ht]
  simp only [VK,h2,cond_true]
 unfold ZaA at h ⊢
 cases hg:o.guard with
 | none => rw [hg] at h; exact hact h ht
 | some p =>
  obtain ⟨j,want⟩:=p
  rw [hg] at h
  simp only at h ⊢
  cases hj:Wr ops j with
  | none => rw [hj] at h; simp at h
  | some d =>
   rw [hj] at h
   simp only at h ⊢
   rw [he d (by simp [K0,hg,hj])]
   split at h
   ·rename_i g hd
    cases hgw:(g == want) <;> rw [hgw] at h <;> simp only [cond_true,cond_false] at h ⊢
    ·exact h
    ·exact hact h ht
   ·rename_i hd; exact h
   ·simp at h
theorem WE {a b:List Nat} (h:XC a b = true):∀ x ∈ a,x ∉ b:=by
 intro x hx hb
 simp only [XC,Vf,J7,Uk] at h
 exact h x hx x hb (Wd x)
theorem Zah {u:Z5} {r:Nat} (h:r ∉ u.map (·.1)):Zk u r = none:=by
 induction u with
 | nil => rfl
 | cons p u ih =>
  obtain ⟨i,x⟩:=p
  simp only [JR,VM,not_or] at h
  rw [Zb]
  simp [Ne.symm h.1,ih h.2]
theorem YW {T:ZA} {u:Z5} {r:Nat} (h:r ∉ u.map (·.1)):T.put u r = T r:=by simp [ZA.put,Zah h]
theorem Q5 {e:Nat → AV} {d:Option Nat} {v:AV} {s:Nat} (h:d ≠ some s):QD e d v s = e s:=by
 cases d with
 | none => rfl
 | some d => simp [QD,Xi,Zf (fun hs => h (by rw [hs]:some d = some s):s ≠ d)]
theorem ZeB {T:ZA} {u v:Z5} (h:∀ r ∈ u.map (·.1),r ∉ v.map (·.1)):(T.put u).put v = (T.put v).put u:=by
 funext r
 by_cases hu:r ∈ u.map (·.1)
 ·rw [YW (h r hu)]
  simp only [ZA.put]
  cases hl:Zk u r with
  | some x => rfl
  | none => simp [Zah (h r hu)]
 ·rw [YW (T:=T.put v) hu]
  simp only [ZA.put]
  cases hl:Zk v r with
  | some x => rfl
  | none => simp [Zah hu]
theorem Zg0 {e:Nat → AV} {c d:Option Nat} {x y:AV} (h:∀ s,c = some s → d ≠ some s):QD (QD e c x) d y = QD (QD e d y) c x:=by
 funext s
 by_cases hc:c = some s
 ·rw [Q5 (h s hc)]
  subst hc; simp [QD,Xi,Wd]
 ·rw [Q5 (e:=QD e d y) hc]
  by_cases hd:d = some s
  ·subst hd; simp [QD,Xi,Wd]
  ·rw [Q5 hd,Q5 hd,Q5 hc]
theorem Zg2 {rid i j:Nat} {ops:List Oper} {x y:Oper} {st s1 s2:St} {p q:Lg} (h1:WM C rid i ops x st = some (s1,p)) (h2:WM C rid j ops y s1 = some (s2,q))
  (hi:ZcM ops x y p q = true):∃ s1',WM C rid j ops y st = some (s1',q) ∧ WM C rid i ops x s1' = some (s2,p):=by
 simp only [ZcM,Jh] at hi
 obtain ⟨⟨⟨d1,d2⟩,d3⟩,d4⟩:=hi
 have d1:=WE d1; have d2:=WE d2; have d3:=WE d3; have d4:=WE d4
 simp only [WM,V3,Prod.mk.injEq] at h1 h2
 obtain ⟨⟨e1,l1⟩,a1,a2,a3⟩:=h1
 obtain ⟨⟨e2,l2⟩,b1,b2,b3⟩:=h2
 subst a2 a3 b2 b3
 simp only at d1 d2 d3 d4 a1 b1
 have y0:ZaA C rid j ops y st = some (e2,l2):=by
  refine ZcC b1 (fun s hs => ?_) (fun r hr => ?_)
  ·simp only [after]
   rw [Q5]
   intro he
   exact d1 s (by simp [Zbo,he]) (by simp [hs])
  ·simp only [after]
   rw [YW]
   intro he
   exact d3 r he (by simp [hr])
 have x1:ZaA C rid i ops x (after st y e2) = some (e1,l1):=by
  refine ZcC a1 (fun s hs => ?_) (fun r hr => ?_)
  ·simp only [after]
   rw [Q5]
   intro he
   exact d2 s (by simp [Zbo,he]) hs
  ·simp only [after]
   rw [YW]
   intro he
   exact d4 r he hr
 refine ⟨after st y e2,by simp [WM,y0],?_⟩
 simp only [WM,x1,VD,VF.injEq,Prod.mk.injEq,and_true]
 simp only [after,St.mk.injEq]
 refine ⟨(Zg0 fun s hs hd => ?_).symm,(ZeB fun r hr hb => ?_).symm⟩
 ·exact d1 s (by simp [Zbo,hs]) (by simp [Zbo,hd])
 ·exact d3 r hr (by simp [hb])
theorem Yl.ahead {rid:Nat} {ops:List Oper} {lg:Nat → Lg} {i:Nat}:∀ {pre post:List Nat} {st stf:St},Yl C rid ops lg (pre ++ i :: post) st stf →
  (∀ j ∈ pre,∀ x y,ops[j]? = some x → ops[i]? = some y → ZcM ops x y (lg j) (lg i) = true) →
  ∃ o s,ops[i]? = some o ∧ WM C rid i ops o st = some (s,lg i) ∧ Yl C rid ops lg (pre ++ post) s stf
 | [],post,st,stf,h,_ => h
 | j :: pre,post,st,stf,⟨x,s,h1,h2,h3⟩,hd => by
  obtain ⟨y,s',k1,k2,k3⟩:=Yl.ahead h3 fun j' hj' => hd j' (by simp [hj'])
  obtain ⟨s1',e1,e2⟩:=Zg2 h2 k2 (hd j (by simp) x y h1 k1)
  exact ⟨y,s1',k1,e1,x,s',h1,e2,k3⟩
theorem ZaI:∀ (l:List Oper) (acc:List Nat),∃ r,Wn l acc = acc ++ r ∧ r.length = l.length
 | [],acc => ⟨[],by simp [Wn]⟩
 | o :: l,acc => by
  obtain ⟨r,h1,h2⟩:=ZaI l (acc ++ [(QA o).foldl (fun s p => s ||| 2 ^ p ||| acc.getD p 0) 0])
  exact ⟨_ :: r,by simp only [Wn]; rw [h1,Ju]; rfl,by simp [h2]⟩
theorem ZeA:∀ (l:List Oper) (acc:List Nat) (j:Nat) (o:Oper),l[j]? = some o →
  (Wn l acc).getD (acc.length + j) 0 = (QA o).foldl (fun s p => s ||| 2 ^ p ||| ((Wn l acc).take (acc.length + j)).getD p 0) 0
 | [],_,_,_,h => by simp at h
 | x :: l,acc,0,o,h => by
  simp at h; subst h
  simp only [Wn]
  obtain ⟨r,h1,h2⟩:=ZaI l (acc ++ [(QA x).foldl (fun s p => s ||| 2 ^ p ||| acc.getD p 0) 0])
  rw [h1]
  simp [VS,List.getElem?_append,List.take_append]
 | x :: l,acc,j + 1,o,h => by
  have:=ZeA l (acc ++ [(QA x).foldl (fun s p => s ||| 2 ^ p ||| acc.getD p 0) 0]) j o (by simpa using h)
  simp only [Wn]
  rw [List.length_append,Us,Nat.add_assoc,Nat.add_comm 1 j] at this
  exact this
theorem Zet {f:Nat → Nat} {i:Nat}:∀ (l:List Nat) (s:Nat),VJ (l.foldl (fun s p => s ||| 2 ^ p ||| f p) s) i = true → VJ s i = true ∨ ∃ p ∈ l,i = p ∨ VJ (f p) i = true
 | [],s,h => .inl h
 | p :: l,s,h => by
  rcases Zet l _ h with h | ⟨q,h1,h2⟩
  ·rw [Nat.testBit_or,Nat.testBit_or,Nat.testBit_two_pow] at h
   simp only [V6,decide_eq_true_eq] at h
   rcases h with (h | h) | h
   ·exact .inl h
   ·exact .inr ⟨p,by simp,.inl h.symm⟩
   ·exact .inr ⟨p,by simp,.inr h⟩
  ·exact .inr ⟨q,by simp [h1],h2⟩
theorem Zfl {ops:List Oper} {j:Nat} {o:Oper} (ho:ops[j]? = some o) {i:Nat} (h:VJ ((Wn ops []).getD j 0) i = true) :
  ∃ p ∈ QA o,i = p ∨ VJ ((Wn ops []).getD p 0) i = true:=by
 have:=ZeA ops [] j o ho
 simp only [List.length_nil,Ub] at this
 rw [this] at h
 rcases Zet _ _ h with h | ⟨p,h1,h2⟩
 ·simp at h
 ·refine ⟨p,h1,h2.imp id fun h2 => ?_⟩
  rw [VS,List.getElem?_take] at h2
  rw [VS]
  split at h2
  ·exact h2
  ·simp at h2
theorem ZbV {o:Oper} {p:Nat}:p ∈ QA o ↔ ∃ e ∈ o.after,Region.binds .any e = true ∧ e.on = p:=by
 simp only [QA,VG,VP,Array.mem_toList_iff]
 constructor
 ·rintro ⟨e,⟨h1,h2⟩,h3⟩; exact ⟨e,h1,h2,h3⟩
 ·rintro ⟨e,h1,h2,h3⟩; exact ⟨e,⟨h1,h2⟩,h3⟩
theorem YV {ops:Array Oper} {listed:Array Bool} {i:Nat} (h:i ∈ Region.ready .any ops listed) :
  ∃ o,ops[i]? = some o ∧ listed.getD i true = false ∧ ∀ p ∈ QA o,listed.getD p false = true:=by
 simp only [Region.ready,VP,VH,Jh,J7] at h
 obtain ⟨h1,h2,h3⟩:=h
 have ho:ops[i]? = some ops[i]:=by simp [h1]
 refine ⟨ops[i],ho,h2,fun p hp => ?_⟩
 obtain ⟨e,e1,e2,e3⟩:=ZbV.1 hp
 rw [ho] at h3
 simp only [VD,Ux,Ud] at h3
 have:=h3 e e1
 simp only [e2,Bool.not_true,Bool.false_or] at this
 rw [← e3]; exact this
theorem ZeD {ops:Array Oper} {listed:Array Bool} {i:Nat} {o:Oper} (ho:ops[i]? = some o) (hl:listed.getD i true = false) (hp:∀ p ∈ QA o,listed.getD p false = true) :
  i ∈ Region.ready .any ops listed:=by
 have hi:i < ops.size:=by
  rcases VN i ops.size with h | h
  ·exact h
  ·simp [VW h] at ho
 simp only [Region.ready,VP,VH,Jh,J7,ho,VD,Ux,Ud]
 refine ⟨hi,hl,fun e he => ?_⟩
 cases hb:Region.binds .any e with
 | false => rfl
 | true => simp [hp e.on (ZbV.2 ⟨e,he,hb,rfl⟩)]
def left (n:Nat) (listed:Array Bool):List Nat:=(Jc n).filter fun i => !listed.getD i true
theorem XF {listed:Array Bool} {i k:Nat} {b:Bool} (hi:listed.getD i true = false):(listed.setIfInBounds i true).getD k b = if i = k then true else listed.getD k b:=by
 have hlt:i < listed.size:=by
  rcases VN i listed.size with h | h
  ·exact h
  ·rw [VL,VW h] at hi; simp at hi
 simp only [VL,Array.getElem?_setIfInBounds]
 by_cases h:i = k
 ·subst h; simp [hlt]
 ·simp [h]
theorem ZbF {n:Nat} {listed:Array Bool} {i:Nat} (hn:i < n) (hi:listed.getD i true = false) :
  ∃ pre post,left n listed = pre ++ i :: post ∧ left n (listed.setIfInBounds i true) = pre ++ post ∧ (∀ j ∈ pre,j < i ∧ listed.getD j true = false):=by
 have hr:Jc n = Jc i ++ i :: V8 (i + 1) (n - (i + 1)):=by
  rw [V9,V9]
  have h1:n = i + (1 + (n - (i + 1))):=by omega
  conv => lhs; rw [h1]
  rw [List.range'_append_1.symm,Ub,Nat.add_comm 1,Vz]
 refine ⟨(Jc i).filter fun j => !listed.getD j true,(V8 (i + 1) (n - (i + 1))).filter fun j => !listed.getD j true,?_,?_,?_⟩
 ·simp only [left,hr,Um,Uo,hi,Bool.not_false,if_true]
 ·simp only [left,hr,Um,Uo,XF hi,if_true,Bool.not_true]
  congr 1
  ·refine Un fun j hj => ?_
   have:i ≠ j:=by have:=VH.1 hj; omega
   simp [this]
  ·simp only [JJ,if_false]
   refine Un fun j hj => ?_
   have:i ≠ j:=by have:=(Ut.1 hj).1; omega
   simp [this]
 ·intro j hj
  simp only [VP,VH,J7] at hj
  exact hj
theorem ZfH (hC:∀ f cal,C.Φ f = some cal → Ctr C.P C.k f cal) {ops:Array Oper} {rid:Nat} {lg:Nat → Lg} {stf:St} {Q:Exit → Act → World → Prop} {n:Nat} {ds:List Deferred}
  (hf:ZcG C.P n ops.toList = true)
  (hI:∀ i j x y,i < j → ops[i]? = some x → ops[j]? = some y → VJ ((Wn ops.toList []).getD j 0) i = true ∨ ZcM ops.toList x y (lg i) (lg j) = true)
  (hQ:∀ a' w' σ' lim',Qd G σ' lim' stf a'.tmps w' → a'.tmps.size = n → a'.defers = ds → Q .normal a' w') :
  ∀ (fuel:Nat) (listed:Array Bool) (st:St) (a:Act) (w:World) (σ:Qt) (lim:Nat → Nat),listed.size = ops.size → (left ops.size listed).length ≤ fuel →
   (∀ p,listed.getD p false = true → ∀ i,VJ ((Wn ops.toList []).getD p 0) i = true → listed.getD i false = true) →
   Yl C rid ops.toList lg (left ops.size listed) st stf → Qd G σ lim st a.tmps w → a.tmps.size = n → a.defers = ds → wpAny C.P .any ops Q fuel listed a w:=by
 have hf1:∀ o ∈ ops.toList,Zbw C.P n o = true:=by
  simp only [ZcG,Jh,Vf] at hf; exact hf.1
 have hf2:∀ j o,ops[j]? = some o → ∀ p ∈ QA o,p < j:=by
  intro j o ho p hp
  simp only [ZcG,Jh,Vf,VH] at hf
  have hj:j < ops.toList.length:=by
   rcases VN j ops.toList.length with h | h
   ·exact h
   ·rw [← VX,V7 h] at ho; simp at ho
  have:=hf.2 j hj
  simp only [Zgf,VX,ho,Vf,VU] at this
  exact this p hp
 have done:∀ (listed:Array Bool) (st:St) (a:Act) (w:World) (σ:Qt) (lim:Nat → Nat),listed.size = ops.size → Yl C rid ops.toList lg (left ops.size listed) st stf →
   Qd G σ lim st a.tmps w → a.tmps.size = n → a.defers = ds → Region.ready .any ops listed = [] → Q .normal a w:=by
  intro listed st a w σ lim hsz hr h hn hd h0
  have:left ops.size listed = []:=by
   cases hl:left ops.size listed with
   | nil => rfl
   | cons i is =>
    exfalso
    -- the least one is ready
    have hmem:i ∈ left ops.size listed:=by rw [hl]; simp
    simp only [left,VP,VH,J7] at hmem
    obtain ⟨m1,m2⟩:=hmem
    have ho:ops[i]? = some ops[i]:=by simp [m1]
    have hlow:∀ p,p < i → listed.getD p false = true:=by
     intro p hp
     cases hb:listed.getD p true with
     | true =>
      have hps:p < listed.size:=by omega
      simpa [VL,hps] using hb
     | false =>
      exfalso
      have hp':p ∈ left ops.size listed:=by
       simp only [left,VP,VH,J7]; exact ⟨by omega,hb⟩
      have hs:(left ops.size listed).Pairwise (· < ·):=List.Pairwise.filter _ List.pairwise_lt_range
      rw [hl] at hp' hs
      rcases VM.1 hp' with rfl | hp'
      ·omega
      ·have:=(List.pairwise_cons.1 hs).1 p hp'; omega
    have:=ZeD ho m2 fun p hp => hlow p (hf2 i _ ho p hp)
    rw [h0] at this; simp at this
  rw [this] at hr
  simp only [Yl] at hr; subst hr
  exact hQ a w σ lim h hn hd
 intro fuel
 induction fuel with
 | zero =>
  intro listed st a w σ lim hsz hl hc hr h hn hd
  have h0:left ops.size listed = []:=List.length_eq_zero_iff.1 (by omega)
  have hrd:Region.ready .any ops listed = []:=by
   refine List.eq_nil_iff_forall_not_mem.2 fun i hi => ?_
   obtain ⟨o,o1,o2,_⟩:=YV hi
   have:i ∈ left ops.size listed:=by
    simp only [left,VP,VH,J7]
    refine ⟨?_,o2⟩
    rcases VN i ops.size with h | h
    ·exact h
    ·simp [VW h] at o1
   rw [h0] at this; simp at this
  exact ⟨hrd,done listed st a w σ lim hsz hr h hn hd hrd⟩
 | succ fuel ih =>
  intro listed st a w σ lim hsz hl hc hr h hn hd
  refine ⟨done listed st a w σ lim hsz hr h hn hd,fun i hi => ?_⟩
  obtain ⟨o,o1,o2,o3⟩:=YV hi
  have hin:i < ops.size:=by
   rcases VN i ops.size with h | h
   ·exact h
   ·simp [VW h] at o1
  obtain ⟨pre,post,p1,p2,p3⟩:=ZbF hin o2
  have hmask:∀ k,VJ ((Wn ops.toList []).getD i 0) k = true → listed.getD k false = true:=by
   intro k hk
   obtain ⟨p,q1,q2⟩:=Zfl (by simpa using o1) hk
   rcases q2 with rfl | q2
   ·exact o3 _ q1
   ·exact hc p (o3 p q1) k q2
  rw [p1] at hr
  obtain ⟨o',s,k1,k2,k3⟩:=hr.ahead (fun j hj x y hx hy => by
   obtain ⟨j1,j2⟩:=p3 j hj
   rcases hI j i x y j1 (by simpa using hx) (by simpa using hy) with hm | hm
   ·exfalso
    have:=hmask j hm
    have hjs:j < listed.size:=by omega
    simp [VL,hjs] at this j2
    rw [this] at j2; simp at j2
   ·exact hm)
  refine Zb4 hC h (by simpa using k1) k2 (by rw [hn]; exact hf1 o' (Vw k1)) fun a' w' σ' lim' hR e1 e2 => ?_
  refine ih _ s a' w' σ' lim' (by simpa using hsz) ?_ ?_ (by rw [p2]; exact k3) hR (e1.trans hn) (e2.trans hd)
  ·rw [p1] at hl; rw [p2]; simp at hl ⊢; omega
  ·intro p hp k hk
   rw [XF o2] at hp ⊢
   by_cases hik:i = k
   ·simp [hik]
   ·simp only [hik,if_false]
    by_cases hip:i = p
    ·subst hip; exact hmask k hk
    ·simp only [hip,if_false] at hp; exact hc p hp k hk
theorem RelW.draw (h:RelW G σ lim st a.tmps w):RelW G σ lim st a.tmps { w with drawn:=w.drawn + 1 }:=by
  have u:Upd G σ lim st w σ lim { w with drawn:=w.drawn + 1 } (.tup []) undef [] :=
    { ext:=⟨Jj _,fun _ _ _ => rfl,fun _ _ h => h,fun _ _ h => h⟩
      lz:=h.lz,same:=⟨rfl,rfl,rfl⟩,sig:=fun _ _ => rfl,rest:=fun _ _ _ _ _ => ⟨rfl,rfl⟩
      new:=by intro r y hl; simp [Zk] at hl
      inj:=by intro r r' y b hl; simp [Zk] at hl
      own:=by intro r y b hl; simp [Zk] at hl
      keep:=fun _ _ _ => rfl,limk:=fun _ _ _ => rfl,nofresh:=by intro r; simp [Zk]
      val:=Zfw,known:=by simp [Za,Zc,Zd] }
  have:=RelW.step h u none (by simp)
  simpa [QD,Act.put,ZJ] using this
theorem Qd.draw (h:Qd G σ lim st a.tmps w):Qd G σ lim st a.tmps { w with drawn:=w.drawn + 1 }:=⟨h.1.draw,h.2⟩
theorem Zcl {ops:List Oper} {ms:List Nat} {logs:List Lg} (h:Xa ops ms logs = true) {i j:Nat} {x y:Oper} (hij:i < j) (hx:ops[i]? = some x) (hy:ops[j]? = some y) :
  VJ (ms.getD j 0) i = true ∨ ZcM ops x y (logs.getD i ([],[])) (logs.getD j ([],[])) = true:=by
 have hj:j < ops.length:=by
  rcases VN j ops.length with h | h
  ·exact h
  ·simp [V7 h] at hy
 simp only [Xa,Vf,VH] at h
 have:=h j hj i hij
 rw [V6] at this
 refine this.imp id fun h => ?_
 rw [hx,hy] at h
 split at h
 ·rename_i x' y' p q h1 h2 h3 h4
  simp only [VF.injEq] at h1 h2; subst h1 h2
  simpa [VS,h3,h4] using h
 ·simp at h
theorem ZdJ (hC:∀ f cal,C.Φ f = some cal → Ctr C.P C.k f cal) (hm:C.P.follows .mixedOrders = true) {ops:Array Oper} {rid:Nat} {d:Bool} {n:Nat} {ds:List Deferred} (hf:ZcG C.P n ops.toList = true)
  (h:Qd G σ lim st a.tmps w) (hn:a.tmps.size = n) (hd:a.defers = ds) {stf:St} {lgs:List Lg} (hr:Zal C rid ops.toList ops.toList 0 st = some (stf,lgs))
  (hi:d = true → Xa ops.toList (Wn ops.toList []) lgs = true) {Q:Exit → Act → World → Prop}
  (hQ:∀ a' w' σ' lim',Qd G σ' lim' stf a'.tmps w' → a'.tmps.size = n → a'.defers = ds → Q .normal a' w'):(Code.region rid ops d).wp C.P Q a w:=by
 obtain ⟨h1,h2⟩:=Zgm ops.toList 0 st stf lgs (by simp) hr
 rw [← V9,J5] at h2
 simp only [Nat.sub_zero] at h2
 cases d with
 | false =>
  refine wp_region ?_
  refine Zb8 hC ?_ hQ _ st a w σ lim h2 h hn hd
  simp only [ZcG,Jh,Vf] at hf; exact hf.1
 | true =>
  refine wp_region_any hm ?_
  have hall:left ops.size (Array.replicate ops.size false) = Jc ops.size:=by
   refine List.filter_eq_self.2 fun i hi => ?_
   have:=VH.1 hi
   simp [VL,Ue,this]
  refine ZfH hC (lg:=fun i => lgs.getD i ([],[])) hf (fun i j x y hij hx hy => Zcl (hi rfl) hij (by simpa using hx) (by simpa using hy)) hQ _ _ st a _ σ lim (by simp) (by rw [hall]; simp) ?_ (by rw [hall]; exact h2) h.draw hn hd
  intro p hp
  simp only [VL,Ue] at hp
  split at hp <;> simp at hp
end Go.Sh
namespace Go.Sh
open Go
variable [Gl]
variable {C:Ctx} {G:Glob} {σ:Qt} {w:World} {lim:Nat → Nat} {st:St} {tmps:Array Value}
theorem RelW.setenv (h:RelW G σ lim st tmps w) {s:Nat} {x:AV} (hx:RA σ w lim x (tmps.getD s undef)) (hk:Zd st.tbl (Za x)):RelW G σ lim ⟨Xi st.env s x,st.tbl⟩ tmps w :=
 { h with
  env:=fun t => by
   simp only [Xi]
   cases hb:Ja t s with
   | false => exact h.env t
   | true => rw [Zu hb]; exact hx
  known:=fun t => by
   simp only [Xi]
   cases hb:Ja t s with
   | false => exact h.known t
   | true => exact hk }
theorem ZbD {x:RS} (h:Xl x = true):x = .fresh:=by cases x <;> simp [Xl] at h ⊢
theorem ZfK {cs:List AV} {vs:List Value} {k:Nat} {x:AV} (h:Zw σ w lim cs vs) (hx:∀ v,vs[k]? = some v → RA σ w lim x v):Zw σ w lim (cs.set k x) vs:=by
 induction cs generalizing vs k with
 | nil => simpa using h
 | cons c cs ih =>
  cases vs with
  | nil => simp [Zw] at h
  | cons v vs =>
   simp only [Zw] at h
   cases k with
   | zero => grind [Zw]
   | succ k => grind [Zw]
theorem ZeR {cs:List AV} {vs:List Value} {k:Nat} {x:AV} {v:Value} (h:Zw σ w lim cs vs) (hx:cs[k]? = some x) (hv:vs[k]? = some v):RA σ w lim x v:=by
 induction cs generalizing vs k with
 | nil => simp at hx
 | cons c cs ih =>
  cases vs with
  | nil => simp at hv
  | cons u vs =>
   grind [Zw]
theorem X0 {cs:List AV} {k:Nat} {x:AV}:∀ r ∈ Zc (cs.set k x),r ∈ Zc cs ∨ r ∈ Za x:=by
 induction cs generalizing k with
 | nil => intro r hr; simp [Zc] at hr
 | cons c cs ih =>
  intro r hr
  cases k with
  | zero => grind [Zc]
  | succ k =>
   grind [Zc]
theorem ZbW (h:RelW G σ lim st tmps w) (n:Nat) (p:Pro):∃ σ' lim',RelW G σ' lim' (Qa n st p) tmps w:=by
 cases p with
 | slot s t =>
  simp only [Qa]
  split
  ·rename_i x hx
   cases hg:(Xb x && Xl (st.tbl n) && Jb 1 t.size) with
   | false => exact ⟨σ,lim,h⟩
   | true =>
    simp only [Jh] at hg
    obtain ⟨⟨g1,g2⟩,g3⟩:=hg
    have g1:=WI g1; have g2:=ZbD g2; have g3:0 < t.size:=Jt g3
    subst g1
    have hN:=h.nilname g2 t g3 false
    have hv:=h.env s
    rw [hx] at hv; simp only [RA,RP] at hv
    refine ⟨_,lim,hN.setenv (s:=s) (x:=.own n) ?_ ?_⟩
    ·grind [RA]
    ·exact Z0 (y:=.arr t [] false) (by simp only [ZL]; simp)
  ·exact ⟨σ,lim,h⟩
 | cell s k t =>
  simp only [Qa]
  split
  ·rename_i r hs
   split
   ·rename_i cs hr
    split
    ·rename_i x hx
     cases hg:(Xb x && Xl (st.tbl n) && Jb 1 t.size) with
     | false => exact ⟨σ,lim,h⟩
     | true =>
      simp only [Jh] at hg
      obtain ⟨⟨g1,g2⟩,g3⟩:=hg
      have g1:=WI g1; have g2:=ZbD g2; have g3:0 < t.size:=Jt g3
      subst g1
      have hN:=h.nilname g2 t g3 false
      have hnr:n ≠ r:=by grind
      have hr':(st.tbl.put [(n,.live (.arr t [] false))]) r = .live (.box cs):=by rw [Ze]; simp [hnr,hr]
      obtain ⟨q1,q2⟩:=hN.res r _ hr'
      simp only [cond_true]
      have hkn:Zd (st.tbl.put [(n,.live (.arr t [] false))]) (Za (.own n)):=by
       intro i hi; simp [Za] at hi; subst hi; rw [ZL]; simp
      have:=hN.reword (r:=r) (y:=.box (cs.set k (.own n))) hr' ?_ ?_
      ·refine ⟨fun s => if s = n then V5 none 0 0 else σ s,lim,?_⟩
       have e:st.tbl.put [(n,.live (.arr t [] false)),(r,.live (.box (cs.set k (.own n))))] = (st.tbl.put [(n,.live (.arr t [] false))]).put [(r,.live (.box (cs.set k (.own n))))]:=by
        rw [show [(n,RS.live (.arr t [] false)),(r,.live (.box (cs.set k (.own n))))] = [(n,RS.live (.arr t [] false))] ++ [(r,.live (.box (cs.set k (.own n))))] from rfl,ZH]
        exact ZeB (u:=[(r,.live (.box (cs.set k (.own n))))]) (v:=[(n,RS.live (.arr t [] false))]) (by simp; exact fun e => hnr e.symm)
       rw [e]
       exact this
      ·intro i hi
       simp only [ZF] at hi
       rcases X0 i hi with hi | hi
       ·exact q2 i hi
       ·exact hkn i hi
      ·simp only [RR] at q1 ⊢
       obtain ⟨b,vs,T,e1,e2,e3,e4⟩:=q1
       refine ⟨b,vs,T,e1,e2,ZfK e3 fun v hv => ?_,e4⟩
       have:=ZeR e3 hx hv
       grind [RA,RP]
    ·exact ⟨σ,lim,h⟩
   ·exact ⟨σ,lim,h⟩
  ·exact ⟨σ,lim,h⟩
 | «show» s =>
  simp only [Qa]
  split
  ·rename_i r hs
   split
   ·rename_i t xs sh hr
    obtain ⟨lim',h1,_,_⟩:=RelW.show_one h hr
    exact ⟨σ,lim',h1⟩
   ·exact ⟨σ,lim,h⟩
  ·exact ⟨σ,lim,h⟩
 | see s =>
  simp only [Qa]
  split
  ·rename_i r hs
   split
   ·rename_i t xs sh hr
    obtain ⟨lim',h1,_,h2⟩:=RelW.show_one h hr
    refine ⟨σ,lim',h1.setenv ?_ ?_⟩
    ·have hv:=h.env s
     grind [RA]
    ·intro i hi; simp [Za] at hi
   ·exact ⟨σ,lim,h⟩
  ·exact ⟨σ,lim,h⟩
 | seen s k =>
  simp only [Qa]
  split
  ·rename_i r hs
   split
   ·rename_i cs hr
    split
    ·rename_i n hc
     split
     ·rename_i t xs sh hn
      obtain ⟨lim',h1,_,h2⟩:=RelW.show_one h hn
      have hnr:r ≠ n:=by grind
      have hr':(st.tbl.put [(n,.live (.arr t xs true))]) r = .live (.box cs):=by rw [Ze]; simp [Ne.symm hnr,hr]
      obtain ⟨q1,q2⟩:=h1.res r _ hr'
      have:=h1.reword (r:=r) (y:=.box (cs.set k (.val (.sl t xs)))) hr' ?_ ?_
      ·refine ⟨σ,lim',?_⟩
       rw [show [(r,RS.live (.box (cs.set k (.val (.sl t xs))))),(n,.live (.arr t xs true))] = [(r,RS.live (.box (cs.set k (.val (.sl t xs)))))] ++ [(n,.live (.arr t xs true))] from rfl,ZH]
       exact this
      ·intro i hi
       simp only [ZF] at hi
       rcases X0 i hi with hi | hi
       ·exact q2 i hi
       ·simp [Za] at hi
      ·simp only [RR] at q1 ⊢
       obtain ⟨b,vs,T,e1,e2,e3,e4⟩:=q1
       refine ⟨b,vs,T,e1,e2,ZfK e3 fun v hv => ?_,e4⟩
       have:=ZeR e3 hc hv
       grind [RA]
     ·exact ⟨σ,lim,h⟩
    ·exact ⟨σ,lim,h⟩
   ·exact ⟨σ,lim,h⟩
  ·exact ⟨σ,lim,h⟩
theorem ZdH (hL:Low G st) {n:Nat} (hn:n < Zy) (p:Pro):∃ env' u,Qa n st p = ⟨env',st.tbl.put u⟩ ∧ Qa n ⟨st.env,QP st.tbl⟩ p = ⟨env',(QP st.tbl).put u⟩ ∧
  (∀ p ∈ u,p.1 < Zy ∧ Xc p.2 = true) ∧ Low G ⟨env',st.tbl.put u⟩:=by
 have same:∃ env' u,st = ⟨env',st.tbl.put u⟩ ∧ (⟨st.env,QP st.tbl⟩:St) = ⟨env',(QP st.tbl).put u⟩ ∧ (∀ p ∈ u,p.1 < Zy ∧ Xc p.2 = true) ∧ Low G ⟨env',st.tbl.put u⟩ :=
  ⟨st.env,[],rfl,rfl,(by intro p hp; cases hp),hL⟩
 cases p with
 | slot s t =>
  simp only [Qa]
  cases hs:st.env s with
  | val q =>
   cases q with
   | v x =>
    simp only [ZB hn]
    cases hg:(Xb x && Xl (st.tbl n) && Jb 1 t.size) with
    | false => simpa using same
    | true =>
     simp only [cond_true]
     refine ⟨_,_,rfl,rfl,?_,?_,?_,hL.pins⟩
     ·intro p hp; simp only [Vx] at hp; subst hp; exact ⟨hn,rfl⟩
     ·intro s' r hr
      simp only [Xi] at hr
      cases hb:Ja s' s with
      | true => simp_all [cond_true,Za,Vx]
      | false => rw [hb] at hr; exact hL.env s' r hr
     ·intro r cs hr
      simp only at hr
      rw [Ze] at hr
      split at hr
      ·cases hr
      ·exact hL.box r cs hr
   | sl => simpa using same
  | _ => simpa using same
 | cell s k t =>
  simp only [Qa]
  cases hs:st.env s with
  | bx r j =>
   cases j with
   | succ j => simpa using same
   | zero =>
    have hr:r < Zy:=hL.env s r (by rw [hs]; simp [Za])
    simp only [ZB hr]
    cases hT:st.tbl r with
    | live y =>
     cases y with
     | box cs =>
      simp only
      cases hc:cs[k]? with
      | some c =>
       cases c with
       | val q =>
        cases q with
        | v x =>
         simp only [ZB hn]
         cases hg:(Xb x && Xl (st.tbl n) && Jb 1 t.size) with
         | false => simpa using same
         | true =>
          simp only [cond_true]
          refine ⟨_,_,rfl,rfl,?_,hL.env,?_,hL.pins⟩
          ·intro p hp
           simp only [VM,Uv,or_false] at hp
           rcases hp with rfl | rfl
           ·exact ⟨hn,rfl⟩
           ·exact ⟨hr,rfl⟩
          ·intro r' cs' hr'
           simp only at hr'
           rw [ZL] at hr'
           split at hr'
           ·cases hr'
           ·rw [Ze] at hr'
            split at hr'
            ·cases hr'
             intro q hq
             rcases X0 q hq with hq | hq
             ·exact hL.box r cs hT q hq
             grind [Za,Vx]
            ·exact hL.box r' cs' hr'
        | sl => simpa using same
       | _ => simpa using same
      | none => simpa using same
     | _ => simpa using same
    | _ => simpa using same
  | _ => simpa using same
 | «show» s =>
  simp only [Qa]
  cases hs:st.env s with
  | own r =>
   have hr:r < Zy:=hL.env s r (by rw [hs]; simp [Za])
   simp only [ZB hr]
   cases hT:st.tbl r with
   | live y =>
    cases y with
    | arr t xs sh =>
     refine ⟨_,_,rfl,rfl,?_,hL.env,?_,hL.pins⟩
     ·intro p hp; simp only [Vx] at hp; subst hp; exact ⟨hr,rfl⟩
     ·intro r' cs hr'
      simp only at hr'
      rw [Ze] at hr'
      split at hr'
      ·cases hr'
      ·exact hL.box r' cs hr'
    | _ => simpa using same
   | _ => simpa using same
  | _ => simpa using same
 | see s =>
  simp only [Qa]
  cases hs:st.env s with
  | own r =>
   have hr:r < Zy:=hL.env s r (by rw [hs]; simp [Za])
   simp only [ZB hr]
   cases hT:st.tbl r with
   | live y =>
    cases y with
    | arr t xs sh =>
     refine ⟨_,_,rfl,rfl,?_,?_,?_,hL.pins⟩
     ·intro p hp; simp only [Vx] at hp; subst hp; exact ⟨hr,rfl⟩
     ·intro s' q hq
      simp only [Xi] at hq
      cases hb:Ja s' s with
      | true => rw [hb] at hq; simp [Za] at hq
      | false => rw [hb] at hq; exact hL.env s' q hq
     ·intro r' cs hr'
      simp only at hr'
      rw [Ze] at hr'
      split at hr'
      ·cases hr'
      ·exact hL.box r' cs hr'
    | _ => simpa using same
   | _ => simpa using same
  | _ => simpa using same
 | seen s k =>
  simp only [Qa]
  cases hs:st.env s with
  | bx r j =>
   cases j with
   | succ j => simpa using same
   | zero =>
    have hr:r < Zy:=hL.env s r (by rw [hs]; simp [Za])
    simp only [ZB hr]
    cases hT:st.tbl r with
    | live y =>
     cases y with
     | box cs =>
      simp only
      cases hc:cs[k]? with
      | some c =>
       cases c with
       | own m =>
        have hm:m < Zy:=hL.box r cs hT m (Wt (Vw hc) (by simp [Za]))
        simp only [ZB hm]
        cases hM:st.tbl m with
        | live y =>
         cases y with
         | arr t xs sh =>
          refine ⟨_,_,rfl,rfl,?_,hL.env,?_,hL.pins⟩
          ·intro p hp
           simp only [VM,Uv,or_false] at hp
           rcases hp with rfl | rfl
           ·exact ⟨hr,rfl⟩
           ·exact ⟨hm,rfl⟩
          ·intro r' cs' hr'
           simp only at hr'
           rw [ZL] at hr'
           split at hr'
           ·cases hr'
            rename_i e; subst e
            intro q hq
            rcases X0 q hq with hq | hq
            ·exact hL.box r cs hT q hq
            ·simp [Za] at hq
           ·rw [Ze] at hr'
            split at hr'
            ·cases hr'
            ·exact hL.box r' cs' hr'
         | _ => simpa using same
        | _ => simpa using same
       | _ => simpa using same
      | none => simpa using same
     | _ => simpa using same
    | _ => simpa using same
  | _ => simpa using same
theorem Kc:∀ (l:List Pro) (n:Nat) {lim:Nat → Nat} {σ:Qt} {st:St},n + l.length ≤ Zy → Qd G σ lim st tmps w → ∃ σ' lim',Qd G σ' lim' (KU n l st) tmps w
 | [],n,lim,σ,st,_,h => ⟨σ,lim,h⟩
 | p :: l,n,lim,σ,st,hn,h => by
  simp only [JF] at hn
  obtain ⟨env',u,e1,e2,e3,e4⟩:=ZdH h.2 (show n < Zy by omega) p
  obtain ⟨σ1,lim1,h1⟩:=ZbW h.1 n p
  rw [e2] at h1
  have h2:=Qd.of_put h1 e3 e4
  rw [← e1] at h2
  exact Kc l (n + 1) (by omega) h2
theorem KO {m:List (Nat × Nat)} {r n:Nat} (h:KE m r = some n):(r,n) ∈ m:=by
 induction m with
 | nil => simp [KE] at h
 | cons p m ih =>
  obtain ⟨a,b⟩:=p
  simp only [KE] at h
  cases hb:Ja a r with
  | true => simp_all
  | false => rw [hb] at h; simp at h; simp [ih h]
theorem Zda {m:List (Nat × Nat)} {r n:Nat} (hn:(m.map (·.2)).Nodup) (h:(r,n) ∈ m):bwd m n = some r:=by
 induction m with
 | nil => simp at h
 | cons p m ih =>
  obtain ⟨a,b⟩:=p
  simp only [JR,J3] at hn
  simp only [bwd]
  rcases VM.1 h with e | h
  ·cases e; simp [Wd]
  ·have:b ≠ n:=by grind
   rw [Zf this]; exact ih hn.2 h
theorem Xm:∀ {l:List Nat},YH l = true → l.Nodup
 | [],_ => by simp
 | a :: l,h => by
  simp only [YH,Jh,J7,Uk] at h
  refine J3.2 ⟨fun hm => h.1 a hm (Wd a),Xm h.2⟩
theorem ZiU {m:List (Nat × Nat)} (hn:(m.map (·.1)).Nodup) {a b c:Nat} (h:(a,b) ∈ m) (k:(a,c) ∈ m):b = c:=by
 induction m with
 | nil => simp at h
 | cons p m ih =>
  grind
theorem Q6 {m:List (Nat × Nat)} {T:ZA}:∀ {l:List (Nat × Nat)} {n:Nat},(l.map (·.2)).Nodup → (∀ a,(a,n) ∈ l → Ql (Y3 m T l) n = QN m (T a)) ∧ ((∀ a,(a,n) ∉ l) → Ql (Y3 m T l) n = .fresh)
 | [],n,_ => by simp [Y3,Ql]
 | (a,b) :: l,n,hn => by
  simp only [JR,J3] at hn
  obtain ⟨h1,h2⟩:=Q6 (m:=m) (T:=T) (n:=n) hn.2
  simp only [Y3,Ql]
  constructor
  ·intro c hc
   rcases VM.1 hc with e | hm
   ·cases e; rw [Wd]; rfl
   ·have:n ≠ b:=by grind
    rw [Zf this.symm]; exact h1 c hm
  ·intro hc
   have:n ≠ b:=by rintro rfl; exact hc a (by simp)
   rw [Zf this.symm]; simp_all
mutual
theorem ZdK {m:List (Nat × Nat)}:(x:AV) → ∀ n ∈ Za (Xz m x),∃ r ∈ Za x,KE m r = some n
 | .own r,n,hn => by
  simp only [Xz] at hn
  split at hn
  ·rename_i k hk; simp [Za] at hn ⊢; rw [hn]; exact hk
  ·simp [Za] at hn
 | .bx r _,n,hn => by
  simp only [Xz] at hn
  split at hn
  ·rename_i k hk; simp [Za] at hn ⊢; rw [hn]; exact hk
  ·simp [Za] at hn
 | .el r _ _ _,n,hn => by
  simp only [Xz] at hn
  split at hn
  ·rename_i k hk; simp [Za] at hn ⊢; rw [hn]; exact hk
  ·simp [Za] at hn
 | .sub r _ _ _,n,hn => by
  simp only [Xz] at hn
  split at hn
  ·rename_i k hk; simp [Za] at hn ⊢; rw [hn]; exact hk
  ·simp [Za] at hn
 | .me r _,n,hn => by
  simp only [Xz] at hn
  split at hn
  ·rename_i k hk; simp [Za] at hn ⊢; rw [hn]; exact hk
  ·simp [Za] at hn
 | .agg cs,n,hn => by simp only [Xz,Za] at hn ⊢; exact XN cs n hn
 | .tup cs,n,hn => by simp only [Xz,Za] at hn ⊢; exact XN cs n hn
 | .clo _ cs,n,hn => by simp only [Xz,Za] at hn ⊢; exact XN cs n hn
 | .dead,n,hn => by simp [Xz,Za] at hn
 | .val p,n,hn => by simp [Xz,Za] at hn
 | .sp ps,n,hn => by simp [Xz,Za] at hn
 | .fn f,n,hn => by simp [Xz,Za] at hn
 | .ns t xs,n,hn => by simp [Xz,Za] at hn
 | .vp t xs,n,hn => by simp [Xz,Za] at hn
theorem XN {m:List (Nat × Nat)}:(l:List AV) → ∀ n ∈ Zc (KX m l),∃ r ∈ Zc l,KE m r = some n
 | [],n,hn => by simp [KX,Zc] at hn
 | x :: l,n,hn => by
  simp only [KX,Zc,Js] at hn ⊢
  rcases hn with hn | hn
  ·obtain ⟨r,h1,h2⟩:=ZdK x n hn; exact ⟨r,.inl h1,h2⟩
  ·obtain ⟨r,h1,h2⟩:=XN l n hn; exact ⟨r,.inr h1,h2⟩
end
mutual
theorem Zip {m:List (Nat × Nat)} {σ':Qt} (hσ:∀ r n,KE m r = some n → σ' n = σ r):(x:AV) → (v:Value) → RA σ w lim x v → RA σ' w lim (Xz m x) v
 | .own r,v,h => by
  simp only [Xz]
  split
  ·rename_i k hk; simp only [RA] at h ⊢; rw [hσ _ _ hk]; exact h
  ·simp [RA]
 | .bx r _,v,h => by
  simp only [Xz]
  split
  ·rename_i k hk; simp only [RA] at h ⊢; rw [hσ _ _ hk]; exact h
  ·simp [RA]
 | .el r _ _ _,v,h => by
  simp only [Xz]
  split
  ·rename_i k hk; simp only [RA] at h ⊢; rw [hσ _ _ hk]; exact h
  ·simp [RA]
 | .sub r _ _ _,v,h => by
  simp only [Xz]
  split
  ·rename_i k hk; simp only [RA] at h ⊢; rw [hσ _ _ hk]; exact h
  ·simp [RA]
 | .me r _,v,h => by
  simp only [Xz]
  split
  ·rename_i k hk; simp only [RA] at h ⊢; rw [hσ _ _ hk]; exact h
  ·simp [RA]
 | .agg cs,v,h => by simp only [Xz,RA] at h ⊢; obtain ⟨vs,e,h⟩:=h; exact ⟨vs,e,KY hσ cs vs h⟩
 | .tup cs,v,h => by simp only [Xz,RA] at h ⊢; obtain ⟨vs,e,h⟩:=h; exact ⟨vs,e,KY hσ cs vs h⟩
 | .clo _ cs,v,h => by simp only [Xz,RA] at h ⊢; obtain ⟨vs,e,h⟩:=h; exact ⟨vs,e,KY hσ cs vs h⟩
 | .dead,v,h => by simp [Xz,RA]
 | .val p,v,h => by simpa only [Xz,RA] using h
 | .sp ps,v,h => by simpa only [Xz,RA] using h
 | .fn f,v,h => by simpa only [Xz,RA] using h
 | .ns t xs,v,h => by simpa only [Xz,RA] using h
 | .vp t xs,v,h => by simpa only [Xz,RA] using h
theorem KY {m:List (Nat × Nat)} {σ':Qt} (hσ:∀ r n,KE m r = some n → σ' n = σ r):(l:List AV) → (vs:List Value) → Zw σ w lim l vs → Zw σ' w lim (KX m l) vs
 | [],[],h => by simp [KX,Zw]
 | [],_ :: _,h => by simp [Zw] at h
 | x :: l,[],h => by simp [Zw] at h
 | x :: l,v :: vs,h => by simp only [KX,Zw] at h ⊢; exact ⟨Zip hσ x v h.1,KY hσ l vs h.2⟩
end
theorem XZ {m:List (Nat × Nat)} {e:Nat → AV} {s:Nat}:∀ (l:List Nat),Qm (Zap m (pick l e)) s = .dead ∨ Qm (Zap m (pick l e)) s = Xz m (e s)
 | [] => .inl rfl
 | a :: l => by
  simp only [pick,Zap,Qm]
  cases hb:Ja s a with
  | true => rw [Zu hb]; exact .inr rfl
  | false => exact XZ l
theorem ZdL (h:RelW G σ lim st tmps w) {m:List (Nat × Nat)} (h1:(m.map (·.1)).Nodup) (h2:(m.map (·.2)).Nodup) (hp:∀ p ∈ G.pins,KE m p.1 = some p.1)
  (hN:∀ r n (t:Ty) (xss:List (List t.den)) o,(r,n) ∈ m → st.tbl r = .live (.nest t xss o) → ∀ i,i < xss.length → (QT r i,QT n i) ∈ m) (live:List Nat) :
  ∃ σ',RelW G σ' lim ⟨Qm (Zap m (pick live st.env)),Ql (Y3 m st.tbl m)⟩ tmps w:=by
 let σ':Qt:=fun n => match bwd m n with | some r => σ r | none => undef
 have hσ:∀ r n,KE m r = some n → σ' n = σ r:=by
  intro r n hf
  simp only [σ',Zda h2 (KO hf)]
 have hσ':∀ r n,(r,n) ∈ m → σ' n = σ r:=by
  intro r n hm
  simp only [σ',Zda h2 hm]
 have ht:∀ r n,(r,n) ∈ m → Ql (Y3 m st.tbl m) n = QN m (st.tbl r):=fun r n hm => (Q6 h2).1 r hm
 have hlive:∀ n,Ql (Y3 m st.tbl m) n ≠ .fresh → ∃ r,(r,n) ∈ m ∧ Ql (Y3 m st.tbl m) n = QN m (st.tbl r):=by
  intro n hn
  by_cases hex:∃ r,(r,n) ∈ m
  ·grind
  ·exact absurd ((Q6 h2).2 fun a ha => hex ⟨a,ha⟩) hn
 have hknown:∀ ids:List Nat,Zd st.tbl ids → ∀ ns:List Nat,(∀ n ∈ ns,∃ r ∈ ids,KE m r = some n) → Zd (Ql (Y3 m st.tbl m)) ns:=by
  intro ids hk ns hn n hin
  obtain ⟨r,hr,hf⟩:=hn n hin
  rw [ht r n (KO hf)]
  have:=hk r hr
  cases hx:st.tbl r with
  | fresh => exact absurd hx this
  | gone => simp [QN]
  | live x => cases x <;> simp [QN]
 have hl2:∀ x,Zt (QN m x) = Zt x:=by intro x; cases x with | live y => cases y <;> rfl | _ => rfl
 have hliv:∀ n,Zt (Ql (Y3 m st.tbl m) n) = true → ∃ r,(r,n) ∈ m ∧ Zt (st.tbl r) = true:=by
  intro n hn
  obtain ⟨r,h3,h4⟩:=hlive n (by intro e; rw [e] at hn; cases hn)
  grind
 refine ⟨σ',{ h with env := ?_,known := ?_,res := ?_,inj := ?_,own := ?_,pin := ?_ }⟩
 ·intro s
  rcases XZ (m:=m) (e:=st.env) (s:=s) live with e | e
  ·simp only [e,RA]
  ·simp only [e]; exact Zip hσ _ _ (h.env s)
 ·intro s
  rcases XZ (m:=m) (e:=st.env) (s:=s) live with e | e
  ·simp [e,Za,Zd]
  ·simp only [e]; exact hknown _ (h.known s) _ (ZdK _)
 ·intro n x hx
  simp only at hx ⊢
  obtain ⟨r,h3,h4⟩:=hlive n (by rw [hx]; simp)
  rw [h4] at hx
  cases hy:st.tbl r with
  | fresh => rw [hy] at hx; simp [QN] at hx
  | gone => rw [hy] at hx; simp [QN] at hx
  | live y =>
   obtain ⟨q1,q2⟩:=h.res r y hy
   rw [hy] at hx
   cases y with
   | box cs =>
    simp only [QN,RS.live.injEq] at hx; subst hx
    simp only [RR] at q1 ⊢
    obtain ⟨b,vs,T,e1,e2,e3,e4⟩:=q1
    exact ⟨⟨b,vs,T,by rw [hσ' r n h3]; exact e1,e2,KY hσ _ _ e3,e4⟩,hknown _ q2 _ (by simp only [ZF]; exact XN cs)⟩
   | arr t xs sh =>
    simp only [QN,RS.live.injEq] at hx; subst hx
    refine ⟨?_,by simp [ZF,Zd]⟩
    simp only [RR] at q1 ⊢
    rw [hσ' r n h3]; exact q1
   | nest t xss o =>
    simp only [QN,RS.live.injEq] at hx; subst hx
    have hN:=hN r n t xss o h3 hy
    refine ⟨?_,fun q hq => ?_⟩
    ·simp only [RR] at q1 ⊢
     obtain ⟨h0,b,off,cap,vs,U,fz,s1,s2,s3,s4,s5,s6,s7⟩:=q1
     exact ⟨h0,b,off,cap,vs,U,fz,by rw [hσ' r n h3]; exact s1,s2,s3,s4,s5,fun i hi ho => by grind,s7⟩
    ·obtain ⟨i,hi,ho,rfl⟩:=Z9.1 hq
     rw [ht _ _ (hN i hi)]
     have:=q2 _ (Z9.2 ⟨i,hi,ho,rfl⟩)
     cases hx:st.tbl (QT r i) with
     | fresh => exact absurd hx this
     | gone => simp [QN]
     | live x => cases x <;> simp [QN]
 ·intro n n' b l1 l2 b1 b2
  obtain ⟨r,m1,k1⟩:=hliv n l1
  obtain ⟨r',m2,k2⟩:=hliv n' l2
  rw [hσ' r n m1] at b1
  rw [hσ' r' n' m2] at b2
  have:=h.inj r r' b k1 k2 b1 b2
  subst this
  exact ZiU h1 m1 m2
 ·intro n b l1 b1
  obtain ⟨r,m1,k1⟩:=hliv n l1
  rw [hσ' r n m1] at b1
  exact h.own r b k1 b1
 ·intro p hpp
  obtain ⟨e1,e2⟩:=h.pin p hpp
  refine ⟨by rw [hσ _ _ (hp p hpp)]; exact e1,?_⟩
  simp only
  rw [ht _ _ (KO (hp p hpp))]
  cases hx:st.tbl p.1 with
  | fresh => exact absurd hx e2
  | gone => simp [QN]
  | live x => cases x <;> simp [QN]
def Zfe (T:ZA) (a b:Nat):List (Nat × Nat):=match T a with
 | .live (.nest _ xss _) => (Jc xss.length).map fun i => (QT a i,QT b i)
 | _ => []
def hids (T:ZA):List (Nat × Nat) → List (Nat × Nat)
 | [] => []
 | (a,b) :: m => Zfe T a b ++ hids T m
theorem Wi {T:ZA} {a b:Nat} {p:Nat × Nat}:p ∈ Zfe T a b ↔ ∃ (t:Ty) (xss:List (List t.den)) (o:Option Nat) (i:Nat),T a = .live (.nest t xss o) ∧ i < xss.length ∧ p = (QT a i,QT b i):=by
 unfold Zfe
 grind
theorem WJ {T:ZA} {p:Nat × Nat}:∀ {m:List (Nat × Nat)},p ∈ hids T m ↔ ∃ a b,(a,b) ∈ m ∧ p ∈ Zfe T a b
 | [] => by simp [hids]
 | (a,b) :: m => by
  grind [hids,WJ (m:=m),Prod.mk.injEq]
theorem Zff {T:ZA} {a b:Nat}:((Zfe T a b).map (·.1)).Nodup ∧ ((Zfe T a b).map (·.2)).Nodup:=by
 unfold Zfe
 split
 ·simp only [VZ]
  constructor
  ·refine Uw.2 (Uu.imp fun hne => ?_)
   exact Zaf hne
  ·refine Uw.2 (Uu.imp fun hne => ?_)
   exact Zaf hne
 ·simp
theorem ZbB {T:ZA}:∀ {m:List (Nat × Nat)},(m.map (·.1)).Nodup → (m.map (·.2)).Nodup → (∀ p ∈ m,p.1 < Zy ∧ p.2 < Zy) → ((hids T m).map (·.1)).Nodup ∧ ((hids T m).map (·.2)).Nodup
 | [],_,_,_ => by simp [hids]
 | (a,b) :: m,h1,h2,h3 => by
  simp only [JR,J3] at h1 h2
  obtain ⟨i1,i2⟩:=ZbB (T:=T) h1.2 h2.2 (fun p hp => h3 p (Jn _ hp))
  obtain ⟨j1,j2⟩:=Zff (T:=T) (a:=a) (b:=b)
  have hab:=h3 (a,b) (Jm ..)
  simp only [hids,List.map_append,VQ]
  refine ⟨⟨j1,i1,?_⟩,⟨j2,i2,?_⟩⟩
  ·intro x hx y hy e
   subst e
   obtain ⟨p,hp,rfl⟩:=VG.1 hx
   obtain ⟨q,hq,e⟩:=VG.1 hy
   obtain ⟨t,xss,o,i,_,_,rfl⟩:=Wi.1 hp
   obtain ⟨c,d,hcd,hq⟩:=WJ.1 hq
   obtain ⟨t',xss',o',i',_,_,rfl⟩:=Wi.1 hq
   have:=(WU (h3 (c,d) (Jn _ hcd)).1 hab.1 e).1
   simp_all
  ·intro x hx y hy e
   subst e
   obtain ⟨p,hp,rfl⟩:=VG.1 hx
   obtain ⟨q,hq,e⟩:=VG.1 hy
   obtain ⟨t,xss,o,i,_,_,rfl⟩:=Wi.1 hp
   obtain ⟨c,d,hcd,hq⟩:=WJ.1 hq
   obtain ⟨t',xss',o',i',_,_,rfl⟩:=Wi.1 hq
   have:=(WU (h3 (c,d) (Jn _ hcd)).2 hab.2 e).1
   simp_all
theorem Zfd {m h:List (Nat × Nat)} {r:Nat} (hh:∀ p ∈ h,p.1 ≠ r):KE (m ++ h) r = KE m r:=by
 induction m with
 | nil =>
  induction h with
  | nil => rfl
  | cons p h ih =>
   obtain ⟨a,b⟩:=p
   simp only [VT,KE]
   rw [Zf (hh (a,b) (Jm ..))]
   exact ih fun q hq => hh q (Jn _ hq)
 | cons p m ih =>
  simp_all [J1,KE,ih]
mutual
theorem ZcS {m m':List (Nat × Nat)}:(x:AV) → (∀ r ∈ Za x,KE m' r = KE m r) → Xz m' x = Xz m x
 | .own r,h => by simp only [Xz,h r (by simp [Za])]
 | .bx r _,h => by simp only [Xz,h r (by simp [Za])]
 | .el r _ _ _,h => by simp only [Xz,h r (by simp [Za])]
 | .sub r _ _ _,h => by simp only [Xz,h r (by simp [Za])]
 | .me r _,h => by simp only [Xz,h r (by simp [Za])]
 | .agg cs,h => by simp only [Xz]; rw [Xg cs (by simpa [Za] using h)]
 | .tup cs,h => by simp only [Xz]; rw [Xg cs (by simpa [Za] using h)]
 | .clo _ cs,h => by simp only [Xz]; rw [Xg cs (by simpa [Za] using h)]
 | .dead,_ => rfl
 | .val _,_ => rfl
 | .sp _,_ => rfl
 | .ns _ _,_ => rfl
 | .vp _ _,_ => rfl
 | .fn _,_ => rfl
theorem Xg {m m':List (Nat × Nat)}:(l:List AV) → (∀ r ∈ Zc l,KE m' r = KE m r) → KX m' l = KX m l
 | [],_ => rfl
 | x :: l,h => by
  simp only [Zc,Js] at h
  simp only [KX]
  rw [ZcS x (fun r hr => h r (.inl hr)),Xg l (fun r hr => h r (.inr hr))]
end
theorem Zb0 {m m':List (Nat × Nat)} {e:Nat → AV}:∀ (l:List Nat),(∀ s,∀ r ∈ Za (e s),KE m' r = KE m r) → Zap m' (pick l e) = Zap m (pick l e)
 | [],_ => rfl
 | s :: l,h => by
  simp only [pick,Zap]
  rw [ZcS _ (h s),Zb0 l h]
theorem Zaq (h:Qd G σ lim st tmps w) {m:List (Nat × Nat)} (h1:(m.map (·.1)).Nodup) (h2:(m.map (·.2)).Nodup) (hlow:∀ p ∈ m,p.1 < Zy ∧ p.2 < Zy) (hp:∀ p ∈ G.pins,KE m p.1 = some p.1) (live:List Nat) :
  ∃ σ',Qd G σ' lim ⟨Qm (Zap m (pick live st.env)),Ql (Y3 m st.tbl m)⟩ tmps w:=by
 obtain ⟨hR,hL⟩:=h
 obtain ⟨n1,n2⟩:=ZbB (T:=st.tbl) h1 h2 hlow
 have hge:∀ p ∈ hids st.tbl m,Zy ≤ p.1 ∧ Zy ≤ p.2:=by
  intro p hp
  obtain ⟨a,b,_,hp⟩:=WJ.1 hp
  obtain ⟨_,_,_,i,_,_,rfl⟩:=Wi.1 hp
  exact ⟨Ws _ _,Ws _ _⟩
 have hf:∀ r,r < Zy → KE (m ++ hids st.tbl m) r = KE m r:=by
  intro r hr
  refine Zfd fun p hp => ?_
  have:=(hge p hp).1
  omega
 have N1:((m ++ hids st.tbl m).map (·.1)).Nodup:=by
  grind
 have N2:((m ++ hids st.tbl m).map (·.2)).Nodup:=by
  grind
 obtain ⟨σ',hR'⟩:=ZdL hR N1 N2 (fun p hpp => by rw [hf _ (hL.pins p hpp)]; exact hp p hpp) (fun r n t xss o hm hr i hi => by
  obtain ⟨hr1,hr2⟩:=Zee hr
  rcases Js.1 hm with hm | hm
  ·exact JA _ (WJ.2 ⟨r,n,hm,Wi.2 ⟨t,xss,o,i,hr2,hi,rfl⟩⟩)
  grind) live
 have hE:Zap (m ++ hids st.tbl m) (pick live st.env) = Zap m (pick live st.env):=Zb0 live fun s r hr => hf r (hL.env s r hr)
 have hren:∀ r,QN (m ++ hids st.tbl m) (st.tbl r) = QN m (st.tbl r):=by
  intro r
  cases hx:st.tbl r with
  | live y =>
   cases y with
   | box cs => simp only [QN]; rw [Xg cs fun q hq => hf q (hL.box r cs hx q hq)]
   | _ => rfl
  | _ => rfl
 have hT:Ql (Y3 (m ++ hids st.tbl m) (QP st.tbl) (m ++ hids st.tbl m)) = QP (Ql (Y3 m st.tbl m)):=by
  funext n
  obtain ⟨a1,a2⟩:=Q6 (m:=m ++ hids st.tbl m) (T:=QP st.tbl) (n:=n) N2
  rcases Q4 n with hl | ⟨b,i,hb,rfl⟩
  ·rw [ZB hl]
   obtain ⟨b1,b2⟩:=Q6 (m:=m) (T:=st.tbl) (n:=n) h2
   by_cases hex:∃ a,(a,n) ∈ m
   ·obtain ⟨a,ha⟩:=hex
    rw [a1 a (JG _ ha),b1 a ha,ZB (hlow _ ha).1,hren]
   grind
  ·rw [Qi hb]
   obtain ⟨b1,b2⟩:=Q6 (m:=m) (T:=st.tbl) (n:=b) h2
   have hnone:∀ a,(a,QT b i) ∉ m:=fun a ha => by have:=(hlow _ ha).2; have:=Ws b i; simp only at *; omega
   by_cases hex:∃ a,(a,b) ∈ m
   ·obtain ⟨a,ha⟩:=hex
    have hal:=(hlow _ ha).1
    simp only at hal
    rw [b1 a ha]
    by_cases hn:∃ (t:Ty) (xss:List (List t.den)) (o:Option Nat),st.tbl a = .live (.nest t xss o) ∧ i < xss.length
    ·obtain ⟨t,xss,o,hn,hi⟩:=hn
     rw [a1 (QT a i) (JA _ (WJ.2 ⟨a,b,ha,Wi.2 ⟨t,xss,o,i,hn,hi,rfl⟩⟩)),Qi hal,hn]
     simp only [QN,Y1,VO hi]
     by_cases ho:o = some i <;> simp [ho]
    ·have e1:Y1 i (QN m (st.tbl a)) = .fresh:=by
      cases hx:st.tbl a with
      | live y =>
       cases y with
       | nest t xss o =>
        have:¬ i < xss.length:=fun hi => hn ⟨t,xss,o,hx,hi⟩
        simp only [QN,Y1,V7 (by omega:xss.length ≤ i)]
       | _ => rfl
      | _ => rfl
     rw [e1]
     refine a2 fun c hc => ?_
     rcases Js.1 hc with hc | hc
     ·exact hnone c hc
     ·obtain ⟨a',b',hab,hc⟩:=WJ.1 hc
      obtain ⟨t,xss,o,j,hT',hj,e⟩:=Wi.1 hc
      simp only [Prod.mk.injEq] at e
      obtain ⟨e2,e3⟩:=WU hb (hlow _ hab).2 e.2
      simp only at e2
      subst e2 e3
      have:=Zda h2 ha
      rw [Zda h2 hab] at this
      grind
   ·rw [b2 fun a ha => hex ⟨a,ha⟩]
    refine a2 fun c hc => ?_
    rcases Js.1 hc with hc | hc
    ·exact hnone c hc
    ·obtain ⟨a',b',hab,hc⟩:=WJ.1 hc
     obtain ⟨t,xss,o,j,hT',hj,e⟩:=Wi.1 hc
     simp only [Prod.mk.injEq] at e
     obtain ⟨e2,e3⟩:=WU hb (hlow _ hab).2 e.2
     simp_all
 simp only at hR'
 rw [hE,hT] at hR'
 refine ⟨σ',hR',⟨fun s r hr => ?_,fun r cs hr q hq => ?_,hL.pins⟩⟩
 ·rcases XZ (m:=m) (e:=st.env) (s:=s) live with e | e
  ·simp only [e,Za] at hr; cases hr
  ·simp only [e] at hr
   obtain ⟨q,_,hq⟩:=ZdK _ r hr
   exact (hlow _ (KO hq)).2
 ·simp only at hr
  obtain ⟨b1,b2⟩:=Q6 (m:=m) (T:=st.tbl) (n:=r) h2
  by_cases hex:∃ a,(a,r) ∈ m
  ·obtain ⟨a,ha⟩:=hex
   rw [b1 a ha] at hr
   cases hx:st.tbl a with
   | fresh => rw [hx] at hr; cases hr
   | gone => rw [hx] at hr; cases hr
   | live y =>
    rw [hx] at hr
    cases y with
    | arr => cases hr
    | nest => cases hr
    | box ds =>
     simp only [QN] at hr
     cases hr
     obtain ⟨q',_,hq'⟩:=XN _ q hq
     exact (hlow _ (KO hq')).2
  simp_all
theorem ZbP (h:Qd G σ lim st tmps w) {kp:List Nat} (hk:∀ p ∈ G.pins,p.1 ∈ kp) {an:Ann} {st':St} (hn:Zcp kp an st = some st'):∃ σ' lim',Qd G σ' lim' st' tmps w:=by
 simp only [Zcp] at hn
 generalize hm:ZdC kp 8192 _ = m at hn
 cases hg:(YH (m.map (·.1)) && YH (m.map (·.2)) && kp.all (stays m) && (Y2 (m.map (·.1)) && Y2 (m.map (·.2)) && Zfk (32768 + an.pro.length))) with
 | false => rw [hg] at hn; simp at hn
 | true =>
  rw [hg] at hn
  simp only [cond_true,VF.injEq] at hn
  subst hn
  simp only [Jh,Vf] at hg
  obtain ⟨⟨⟨g1,g2⟩,g3⟩,⟨g4,g5⟩,g6⟩:=hg
  have g6:32768 + an.pro.length < Zy:=by simpa [Zfk,VU] using g6
  obtain ⟨σ1,lim1,h1⟩:=Kc an.pro 32768 (by omega) h
  suffices hS:∃ σ',Qd G σ' lim1 ⟨Qm (Zap m (pick an.live (KU 32768 an.pro st).env)),Ql (Y3 m (KU 32768 an.pro st).tbl m)⟩ tmps w by
   grind
  refine Zaq h1 (Xm g1) (Xm g2) (fun p hp => ⟨XH g4 _ (VG.2 ⟨p,hp,rfl⟩),XH g5 _ (VG.2 ⟨p,hp,rfl⟩)⟩) (fun p hp => ?_) an.live
  have:=g3 p.1 (hk p hp)
  unfold stays at this
  split at this
  ·rename_i n hn; rw [hn,Zu this]
  ·cases this
end Go.Sh
