/-
  What the row needs, part 4.
-/
import Derived.Test.YtgbhjfacjekhcaaGreatDoorXStreamBack3
import Derived.Scope
import Derived.LoopN
set_option linter.unusedSimpArgs false
set_option linter.unusedVariables false
set_option linter.unusedSectionVars false
namespace Go.Sh
open Go
variable [Gl]
variable {C:Ctx} {G:Glob} {σ:Xs} {w:World} {lim:Nat → Nat} {st:St} {a:Act}
def Ex.out:Ex → Exit
 | .normal => .normal
 | .exit i => .exit i
 | .ret => .ret
def Yu (P:Program) (n:Nat):Code → Bool
 | .region _ ops _ => Zwf P n ops.toList
 | .seq a b => Yu P n a && Yu P n b
 | .cond _ a b => Yu P n a && Yu P n b
 | .block _ c => Yu P n c
 | .loop c => Yu P n c
 | .scope c => Yu P n c
 | _ => true
def Xb (G:Glob) (n:Nat) (st:St) (a:Act) (w:World):Prop := ∃ σ lim,WP G σ lim st a.tmps w ∧ a.tmps.size = n ∧ a.defers = []
theorem ZQM {n:Nat} (h:Xb G n st a w) {c:Operand} {t:Bool} (hc:Za1 st.env c = .val (.v (.bool t))):a.eval c = .bool t:=by
 obtain ⟨σ,lim,h,_,_⟩:=h
 have:=(Zx h.1 c).1
 grind [RA,RP]
theorem ZoJ {n:Nat} (h:Xb G n st a w) {q:Nat} (hq:q < Ql):Xb G n (ZHB st q) a w:=by
 obtain ⟨σ,lim,h,h2,h3⟩:=h
 unfold ZHB
 split
 ·rename_i t xss hT
  obtain ⟨lim',h4⟩:=RelW.melt h.1 h.2 hq hT
  exact ⟨σ,lim',h4,h2,h3⟩
 ·exact ⟨σ,lim,h,h2,h3⟩
theorem Zzq {n:Nat} (h:Xb G n st a w) (id:Nat):Xb G n (Zjv C id st) a w:=by
 have hL:Low G st:=by obtain ⟨_,_,⟨_,hL⟩,_,_⟩:=h; exact hL
 unfold Zjv
 split
 ·split
  ·rename_i s _ _ q hs
   exact ZoJ h (hL.env s q (by rw [hs]; simp [Zf]))
  ·exact h
 ·split
  ·rename_i s k _ _ r hs
   unfold ZUU
   split
   ·rename_i cs hr
    split
    ·rename_i q hq
     exact ZoJ h (hL.box r cs hr q (KS (List.mem_of_getElem? hq) (by simp [Zf])))
    ·exact h
   ·exact h
  ·exact h
 ·exact h
theorem WR (hC:∀ f cal,C.Φ f = some cal → Ctr C.P C.k f cal) (hm:C.P.follows .mixedOrders = true) {A:Nat → Ann} {kp:List Nat} (hk:∀ p ∈ G.pins,p.1 ∈ kp) {n:Nat} {R:Type} {r:R} :
  (c:Code) → {st:St} → {K:Ex → St → Option R} → XN C A kp c st K = some r → Yu C.P n c = true → {a:Act} → {w:World} → Xb G n st a w → {Q:Exit → Act → World → Prop} →
  (∀ e st' a' w',K e st' = some r → Xb G n st' a' w' → Q e.out a' w') → c.wp C.P Q a w
 | .skip,st,K,h,hf,a,w,hs,Q,hQ => wp_skip (hQ .normal st a w h hs)
 | .label _,st,K,h,hf,a,w,hs,Q,hQ => wp_label (hQ .normal st a w h hs)
 | .ret,st,K,h,hf,a,w,hs,Q,hQ => wp_ret (hQ .ret st a w h hs)
 | .exit i,st,K,h,hf,a,w,hs,Q,hQ => wp_exit (hQ (.exit i) st a w h hs)
 | .region id ops d,st,K,h,hf,a,w,hs,Q,hQ => by
  simp only [XN] at h
  simp only [Yu] at hf
  obtain ⟨σ,lim,hR,hn,hd⟩:=Zzq (C:=C) hs id
  have hb:∃ stf lgs,ZnX C id ops.toList ops.toList 0 (Zjv C id st) = some (stf,lgs) ∧ (d = true → ZbN ops.toList (KA ops.toList []) lgs = true) ∧ K .normal stf = some r:=by
   cases d with
   | false =>
    simp only [cond_false,Zzu] at h
    cases ho:ZnX C id ops.toList ops.toList 0 (Zjv C id st) with
    | none => rw [ho] at h; simp at h
    | some x => grind
   | true =>
    simp only [cond_true,Zm2,List.nil_append] at h
    cases ho:ZnX C id ops.toList ops.toList 0 (Zjv C id st) with
    | none => rw [ho] at h; simp at h
    | some x =>
     grind
  obtain ⟨stf,lgs,h1,h2,h3⟩:=hb
  exact Zzz hC hm hf hR hn hd h1 h2 fun a' w' σ' lim' hR' hn' hd' => hQ .normal stf a' w' h3 ⟨σ',lim',hR',hn',hd'⟩
 | .seq x y,st,K,h,hf,a,w,hs,Q,hQ => by
  simp only [XN] at h
  simp only [Yu,Bool.and_eq_true] at hf
  refine wp_seq (WR hC hm hk x h hf.1 hs fun e st' a' w' hK hs' => ?_)
  cases e with
  | normal => exact WR hC hm hk y hK hf.2 hs' hQ
  | exit i => exact hQ (.exit i) st' a' w' hK hs'
  | ret => exact hQ .ret st' a' w' hK hs'
 | .cond c x y,st,K,h,hf,a,w,hs,Q,hQ => by
  simp only [XN] at h
  simp only [Yu,Bool.and_eq_true] at hf
  split at h
  ·rename_i t hc
   have e1:=ZQM hs hc
   cases t with
   | true =>
    refine wp_cond_true e1 (WR hC hm (A:=A) hk x (K:=K) ?_ hf.1 hs hQ)
    cases c with
    | tmp d => simp_all [Za1,cond_true,Zob hc]
    | _ => exact h
   | false =>
    refine wp_cond_false e1 (WR hC hm (A:=A) hk y (K:=K) ?_ hf.2 hs hQ)
    cases c with
    | tmp d => simp_all [Za1,cond_false,Zob hc]
    | _ => exact h
  ·simp at h
 | .block id c,st,K,h,hf,a,w,hs,Q,hQ => by
  simp only [XN] at h
  simp only [Yu] at hf
  refine wp_block (WR hC hm hk c h hf hs fun e st' a' w' hK hs' => ?_)
  cases e with
  | normal => exact hQ .normal st' a' w' hK hs'
  | ret => exact hQ .ret st' a' w' hK hs'
  | exit i =>
   simp only [Zxf] at hK
   simp only [Ex.out,Exit.inBlock]
   cases hb:Nat.beq i id with
   | true => rw [hb] at hK; rw [if_pos (Qc hb)]; exact hQ .normal st' a' w' hK hs'
   | false =>
    rw [hb] at hK
    rw [if_neg (by rintro rfl; rw [Ka] at hb; cases hb)]
    exact hQ (.exit i) st' a' w' hK hs'
 | .loop c,st,K,h,hf,a,w,hs,Q,hQ => by
  simp only [XN] at h
  simp only [Yu] at hf
  have key:∀ (m:Nat) (st:St) (a:Act) (w:World),ZiH (XN C A kp c) (Zux kp (A (QH c))) m st K = some r → Xb G n st a w → Code.rounds C.P c Q m a w:=by
   intro m
   induction m with
   | zero => intro st a w h; simp [ZiH] at h
   | succ m ih =>
    intro st a w h hs
    rw [rounds_succ]
    simp only [ZiH] at h
    refine WR hC hm hk c h hf hs fun e st' a' w' hK hs' => ?_
    cases e with
    | ret => exact hQ .ret st' a' w' hK hs'
    | exit i => exact hQ (.exit i) st' a' w' hK hs'
    | normal =>
     cases hn:Zux kp (A (QH c)) st' with
     | none => rw [hn] at hK; simp at hK
     | some s =>
      rw [hn] at hK
      obtain ⟨σ,lim,hR,q1,q2⟩:=hs'
      obtain ⟨σ2,lim2,hR2⟩:=Ztv hR hk hn
      exact ih s a' w' hK ⟨σ2,lim2,hR2,q1,q2⟩
  cases hn:Zux kp (A (QH c)) st with
  | none => rw [hn] at h; simp at h
  | some s =>
   rw [hn] at h
   obtain ⟨σ,lim,hR,q1,q2⟩:=hs
   obtain ⟨σ2,lim2,hR2⟩:=Ztv hR hk hn
   exact wp_loop_rounds C.k (key C.k s a w h ⟨σ2,lim2,hR2,q1,q2⟩)
 | .scope c,st,K,h,hf,a,w,hs,Q,hQ => by
  simp only [XN] at h
  simp only [Yu] at hf
  refine wp_scope_straight (WR hC hm hk c h hf hs fun e st' a' w' hK hs' => ?_)
  cases e <;> exact hQ _ st' a' w' hK hs'
 | .rangeFunc _ _ _ _,st,K,h,hf,a,w,hs,Q,hQ => by simp [XN] at h
 | .goto _,st,K,h,hf,a,w,hs,Q,hQ => by simp [XN] at h
end Go.Sh
namespace Go.Sh
open Go
variable [Gl]
variable {C:Ctx} {G:Glob} {σ:Xs} {w:World} {lim:Nat → Nat} {st:St} {tmps:Array Value}
theorem ZFx {P:Program} {T:TypeId} {v x:Value} (h:(Instr.loadAt T v).run P w = .ok x w):(asAddr v >>= fun p => loadVar T p:Sem Value).run P w = .ok x w:=by
 unfold Instr.loadAt at h
 unfold Instr.sureAddr at h
 split at h
 ·simpa [asAddr] using h
 ·simp [stuck,Sem.run_bind] at h
def ZtQ (tmps:Array Value):ResultVar → Sem Value
 | .tmp t => pure (tmps.getD t undef)
 | .cell a t => do loadVar t (← asAddr (tmps.getD a undef))
theorem ZtP (h:RelW G σ lim st tmps w) {r:ResultVar} {l l':List Nat} {x:AV} (hm:(ZdU C st r).run st.tbl l = some (x,l')) :
  ∃ v,(ZtQ tmps r).run C.P w = .ok v w ∧ RA σ w lim x v ∧ Zr st.tbl (Zf x):=by
 cases r with
 | tmp t =>
  obtain ⟨rfl,_⟩:=M.run_ret hm
  exact ⟨_,rfl,h.env t,h.known t⟩
 | cell a T =>
  simp only [ZdU] at hm
  obtain ⟨e,l1,h1,h2⟩:=M.run_bind_some hm
  obtain ⟨rfl,_⟩:=M.run_ret h2
  obtain ⟨v,e1,e2,e3,e4⟩:=Ztj h1 (h.env a) h.res
  exact ⟨v,ZFx e1,e2,e3⟩
theorem Zfi (h:RelW G σ lim st tmps w):(rs:List ResultVar) → {l l':List Nat} → {xs:List AV} → (Y7 C st rs).run st.tbl l = some (xs,l') →
  ∃ vs,(rs.mapM (ZtQ tmps)).run C.P w = .ok vs w ∧ Qh σ w lim xs vs ∧ Zr st.tbl (Zq xs)
 | [],l,l',xs,hm => by
  obtain ⟨rfl,_⟩:=M.run_ret hm
  simp_all [Qh,Zq,Zr]
 | r :: rs,l,l',xs,hm => by
  simp only [Y7] at hm
  obtain ⟨x,l1,h1,h2⟩:=M.run_bind_some hm
  obtain ⟨ys,l2,h3,h4⟩:=M.run_bind_some h2
  obtain ⟨rfl,_⟩:=M.run_ret h4
  obtain ⟨v,e1,e2,e3⟩:=ZtP h h1
  obtain ⟨vs,f1,f2,f3⟩:=Zfi h rs h3
  refine ⟨v :: vs,?_,by simp only [Qh]; exact ⟨e2,f2⟩,?_⟩
  ·simp_all
  ·intro i hi; simp only [Zq,List.mem_append] at hi; rcases hi with hi | hi; exact e3 i hi; exact f3 i hi
theorem ZiM {st st2:St} (he:st2.env = st.env):∀ (rs:List ResultVar),Y7 C st rs = Y7 C st2 rs
 | [] => rfl
 | r :: rs => by
  have h1:ZdU C st r = ZdU C st2 r:=by cases r <;> simp only [ZdU,he]
  simp only [Y7,h1,ZiM he rs]
theorem ZuB (h:RelW G σ lim st tmps w) {fn:Func} {l l':List Nat} {xs:List AV} (hm:(Y7 C st fn.results.toList).run st.tbl l = some (xs,l')) :
  ∃ v,(results fn tmps).run C.P w = .ok v w ∧ RA σ w lim (match (generalizing:=false) xs with | [a] => a | as => .tup as) v:=by
 obtain ⟨vs,e1,e2,e3⟩:=Zfi h _ hm
 have e0:results fn tmps = (do let vs ← fn.results.mapM (ZtQ tmps); pure (if h:vs.size = 1 then vs[0] else .tuple vs)):=by
  unfold results
  congr 1
 rw [e0,Array.mapM_eq_mapM_toList]
 match xs,vs,e2 with
 | [x],[v],e2 =>
  simp_all [Qh,Sem.run_bind,Sem.run_map,e1]
 | [],[],e2 =>
  simp_all [RA,Qh,Sem.run_bind,Sem.run_map,e1]
 | x :: y :: xs,v :: u :: vs,e2 =>
  simp_all [RA,Sem.run_bind,Sem.run_map,e1]
 | [],_ :: _,e2 => simp [Qh] at e2
 | _ :: _,[],e2 => simp [Qh] at e2
 | [_],_ :: _ :: _,e2 => simp [Qh] at e2
 | _ :: _ :: _,[_],e2 => simp [Qh] at e2
def Yx:List Kd → List Value → List Value
 | .box _ :: l,a :: as => a :: Yx l as
 | .bld _ :: l,a :: as => a :: Yx l as
 | _ :: l,_ :: as => Yx l as
 | _,_ => []
def KW:List AV → List Value → List (Nat × Value)
 | .bx r _ :: l,v :: vs => (r,v) :: KW l vs
 | _ :: l,_ :: vs => KW l vs
 | _,_ => []
theorem Zmp:(as:List AV) → (vs:List Value) → ∀ p ∈ KW as vs,p.1 ∈ W8 as
 | [],vs,p,hp => by cases vs <;> simp [KW] at hp
 | x :: as,[],p,hp => by cases x <;> simp [KW] at hp
 | x :: as,v :: vs,p,hp => by
  cases x with
  | bx r k =>
   simp only [KW,List.mem_cons] at hp
   simp only [W8,List.mem_cons]
   rcases hp with rfl | hp
   ·exact .inl rfl
   ·exact .inr (Zmp as vs p hp)
  | _ => simp only [KW] at hp; simp only [W8]; exact Zmp as vs p hp
theorem ZHz:(pk:List Kd) → {as:List AV} → {vs:List Value} → Qh σ w lim as vs → Qh σ w lim (QR pk as) (Yx pk vs)
 | [],as,vs,h => by grind [QR,Yx,Qh]
 | k :: pk,as,vs,h => by
  match as,vs,h with
  | [],[],h => cases k <;> simp [QR,Yx,Qh]
  | x :: as,v :: vs,h =>
   simp only [Qh] at h
   have ih:=ZHz pk h.2
   cases k <;> simp only [QR,Yx,Qh] <;> first | exact ih | exact ⟨h.1,ih⟩
  | [],_ :: _,h => simp [Qh] at h
  | _ :: _,[],h => simp [Qh] at h
def Kb (as:List AV):Bool:=as.all fun | .bx _ 0 => true | _ => false
theorem ZXu {as:List AV} {vs:List Value} (hb:Kb as = true) (h:Qh σ w lim as vs):∀ p ∈ KW as vs,σ p.1 = p.2:=by
 induction as generalizing vs with
 | nil => grind [KW]
 | cons x as ih =>
  cases vs with
  | nil => simp [Qh] at h
  | cons v vs =>
   simp only [Qh] at h
   simp only [Kb,List.all_cons,Bool.and_eq_true] at hb
   intro p hp
   obtain ⟨hb1,hb2⟩:=hb
   split at hb1
   ·rename_i r
    simp only [KW,List.mem_cons] at hp
    rcases hp with rfl | hp
    ·grind [RA]
    ·exact ih hb2 h.2 p hp
   ·cases hb1
theorem ZFM {σ':Xs} {w':World} {lim':Nat → Nat} {as:List AV} {vs:List Value} (hb:Kb as = true) (h:Qh σ w lim as vs) (hp:∀ p ∈ KW as vs,σ' p.1 = p.2):Qh σ' w' lim' as vs:=by
 induction as generalizing vs with
 | nil => cases vs <;> simp [Qh] at h ⊢
 | cons x as ih =>
  cases vs with
  | nil => simp [Qh] at h
  | cons v vs =>
   simp only [Qh] at h ⊢
   simp only [Kb,List.all_cons,Bool.and_eq_true] at hb
   obtain ⟨hb1,hb2⟩:=hb
   split at hb1
   ·rename_i r
    simp only [KW,List.mem_cons] at hp
    refine ⟨?_,ih hb2 h.2 fun p hm => hp p (.inr hm)⟩
    have h1:=h.1
    simp only [RA] at h1 ⊢
    obtain ⟨b,e1,e2⟩:=h1
    simp_all
   ·cases hb1
theorem ZHU:(pk:List Kd) → {vs:List Value} → {rs:List RV} → {bs:List Nat} → vs.length = pk.length → TTs w lim rs (Yx pk vs) bs → TL w lim pk vs rs bs
 | [],[],rs,bs,_,h => by
  grind [Yx,TL,TTs]
 | k :: pk,v :: vs,rs,bs,hl,h => by
  have hl':vs.length = pk.length:=by simpa using hl
  cases k with
  | box l =>
   simp only [Yx] at h
   cases rs with
   | nil => simp [TTs] at h
   | cons x rs =>
    simp only [TTs] at h
    simp only [TL]
    obtain ⟨b1,b2,e,h1,h2⟩:=h
    exact ⟨b1,b2,e,h1,ZHU pk hl' h2⟩
  | bld T =>
   simp only [Yx] at h
   cases rs with
   | nil => simp [TTs] at h
   | cons x rs =>
    simp only [TTs] at h
    simp only [TL]
    obtain ⟨b1,b2,e,h1,h2⟩:=h
    exact ⟨b1,b2,e,h1,ZHU pk hl' h2⟩
  | _ => simp only [Yx] at h; simp only [TL]; exact ZHU pk hl' h
 | [],_ :: _,rs,bs,hl,_ => by simp at hl
 | _ :: _,[],rs,bs,hl,_ => by simp at hl
theorem Zd1:∀ (u:Ws),Zu u = Qo.put (fun _ => .fresh) u
 | [] => rfl
 | (a,x) :: u => by
  funext r
  simp only [Zu,Qo.put,ZI,Zd1 u]
  grind
theorem Zcb:∀ (as:List AV) (i s:Nat),Zw (index i as) s = .dead ∨ ∃ j,s = i + j ∧ as[j]? = some (Zw (index i as) s)
 | [],i,s => .inl rfl
 | x :: as,i,s => by
  simp only [index,Zw]
  cases h:Nat.beq s i with
  | true => simp_all
  | false =>
   simp only [cond_false]
   rcases Zcb as (i + 1) s with h | ⟨j,h1,h2⟩
   ·exact .inl h
   ·exact .inr ⟨j + 1,by omega,by simpa using h2⟩
theorem Zwq {as:List AV} {j:Nat} {x:AV} (h:as[j]? = some x):∀ r ∈ Zf x,r ∈ Zq as:=by
 induction as generalizing j with
 | nil => simp at h
 | cons y as ih =>
  grind [Zq]
theorem ZiT {as:List AV} {vs:List Value} (h:Qh σ w lim as vs):as.length = vs.length:=by
 induction as generalizing vs with
 | nil => cases vs <;> simp [Qh] at h ⊢
 | cons x as ih =>
  cases vs with
  | nil => simp [Qh] at h
  | cons v vs => simp only [Qh] at h; simp [ih h.2]
theorem ZgP:(xs:List RV) → (n:Nat) → (ZX n xs).1.length = xs.length
 | [],n => rfl
 | x :: xs,n => by simp only [ZX,List.length_cons,ZgP xs]
theorem YN:(pk:List Kd) → (as:List AV) → ∀ r ∈ W8 (QR pk as),r ∈ Zq as
 | [],as,r,hr => by contradiction
 | k :: pk,[],r,hr => by grind [QR,W8]
 | k :: pk,x :: as,r,hr => by
  simp only [Zq,List.mem_append]
  cases k with
  | box l =>
   simp only [QR] at hr
   cases x with
   | bx b j =>
    simp only [W8,List.mem_cons] at hr
    rcases hr with rfl | hr
    ·exact .inl (by simp [Zf])
    ·exact .inr (YN pk as r hr)
   | _ => simp only [W8] at hr; exact .inr (YN pk as r hr)
  | bld T =>
   simp only [QR] at hr
   cases x with
   | bx b j =>
    simp only [W8,List.mem_cons] at hr
    rcases hr with rfl | hr
    ·exact .inl (by simp [Zf])
    ·exact .inr (YN pk as r hr)
   | _ => simp only [W8] at hr; exact .inr (YN pk as r hr)
  | _ => simp only [QR] at hr; exact .inr (YN pk as r hr)
mutual
theorem ZT0:(x:RV) → (n:Nat) → (∀ r ∈ Zf (put n x).1,r < (put n x).2.2) ∧ ∀ p ∈ (put n x).2.1,p.1 < (put n x).2.2 ∧ ZbS p.2 = true ∧ ∀ cs,p.2 = .live (.box cs) → ∀ q ∈ Zq cs,q < (put n x).2.2
 | .view t x,n => by simp only [put]; rw [Zqx]; simp
 | .own t sh xs,n => by simp [put,Zf,ZbS]
 | .box cs,n => by
  obtain ⟨h1,h2⟩:=ZdS cs (n + 1)
  have hle:=XC cs (n + 1)
  simp only [put]
  refine ⟨by intro r hr; simp [Zf] at hr; omega,fun p hp => ?_⟩
  cases hp with
  | head => exact ⟨by simp only; omega,rfl,fun ds hd => by simp only [RS.live.injEq,Res.box.injEq] at hd; subst hd; exact h1⟩
  | tail _ hp => exact h2 p hp
 | .agg cs,n => by
  obtain ⟨h1,h2⟩:=ZdS cs n
  simp only [put]
  exact ⟨by simpa [Zf] using h1,h2⟩
 | .tup cs,n => by
  obtain ⟨h1,h2⟩:=ZdS cs n
  simp only [put]
  exact ⟨by simpa [Zf] using h1,h2⟩
 | .fn f,n => by simp [put,Zf]
 | .ns t xs,n => by simp [put,Zf]
 | .vp t xs,n => by simp [put,Zf]
 | .clo f cs,n => by
  obtain ⟨h1,h2⟩:=ZdS cs n
  simp only [put]
  exact ⟨by simpa [Zf] using h1,h2⟩
 | .bld T xs,n => by
  simp only [put]
  refine ⟨by intro r hr; simp [Zf] at hr; omega,fun p hp => ?_⟩
  simp only [List.mem_cons,List.not_mem_nil,or_false] at hp
  rcases hp with rfl | rfl
  ·refine ⟨by simp only; omega,rfl,fun cs hc q hq => ?_⟩
   simp only [RS.live.injEq,Res.box.injEq] at hc
   subst hc
   simp [Zq,Zf] at hq
   omega
  ·exact ⟨by simp only; omega,rfl,fun cs hc => by cases hc⟩
theorem ZdS:(xs:List RV) → (n:Nat) → (∀ r ∈ Zq (ZX n xs).1,r < (ZX n xs).2.2) ∧ ∀ p ∈ (ZX n xs).2.1,p.1 < (ZX n xs).2.2 ∧ ZbS p.2 = true ∧ ∀ cs,p.2 = .live (.box cs) → ∀ q ∈ Zq cs,q < (ZX n xs).2.2
 | [],n => by simp [ZX,Zq]
 | x :: xs,n => by
  obtain ⟨h1,h2⟩:=ZT0 x n
  obtain ⟨h3,h4⟩:=ZdS xs (put n x).2.2
  have hle:=XC xs (put n x).2.2
  simp only [ZX]
  refine ⟨fun r hr => ?_,fun p hp => ?_⟩
  ·simp only [Zq,List.mem_append] at hr
   rcases hr with hr | hr
   ·have:=h1 r hr; omega
   ·exact h3 r hr
  ·rcases List.mem_append.1 hp with hp | hp
   ·exact h4 p hp
   ·obtain ⟨a,b,c⟩:=h2 p hp
    exact ⟨by omega,b,fun cs hc q hq => by have:=c cs hc q hq; omega⟩
end
theorem ZIi:X0 (fun _ => .fresh) = fun _ => .fresh:=by
 funext n
 simp only [X0,Zir,ite_self]
theorem ZU6 {avs:List AV} {u:Ws} (h:RelW G σ lim (enter avs u) tmps w) (hu:∀ p ∈ u,p.1 < Ql ∧ ZbS p.2 = true ∧ ∀ cs,p.2 = .live (.box cs) → ∀ q ∈ Zq cs,q < Ql)
  (hids:∀ r ∈ Zq avs,r < Ql) (hp:∀ p ∈ G.pins,p.1 < Ql):WP G σ lim (enter avs u) tmps w:=by
 have e:Zu u = Qo.put (fun _ => .fresh) u:=Zd1 u
 unfold enter at h ⊢
 rw [e] at h ⊢
 refine WP.of_put (T:=fun _ => .fresh) (by rw [ZIi]; exact h) (fun p hp => ⟨(hu p hp).1,(hu p hp).2.1⟩) ⟨fun s r hr => ?_,fun r cs hr => ?_,hp⟩
 ·simp only at hr
  rcases Zcb avs 0 s with h | ⟨j,h1,h2⟩
  ·rw [h] at hr; simp [Zf] at hr
  ·exact hids r (Zwq h2 r hr)
 ·simp only [Qo.put] at hr
  cases hl:ZI u r with
  | none => rw [hl] at hr; cases hr
  | some z => rw [hl] at hr; simp only at hr; exact (hu _ (WJ hl)).2.2 cs hr
theorem Zs3:(ks:List Kd) → (as:List AV) → XM ks as = true → (Qw ks as).length = (ZS ks).length
 | [],[],_ => rfl
 | [],_ :: _,h => by simp [XM] at h
 | k :: ks,[],h => by cases k <;> simp [XM] at h
 | k :: ks,a :: as,h => by
  cases k with
  | clo f l =>
   cases a with
   | clo g cs =>
    simp only [XM,Bool.and_eq_true] at h
    have:=Qc h.1
    simp only [Qw,ZS,List.length_append,Zs3 ks as h.2,this]
   | _ => simp [XM] at h
  | _ => grind [XM,Qw,ZS,List.length_cons,Zs3 ks as h]
def Zmk:List Kd → Nat
 | [] => 0
 | .ref _ :: l => Zmk l + 1
 | _ :: l => Zmk l
theorem ZoF:(ks:List Kd) → ZaL ks = false → Zmk ks = 0
 | [],_ => rfl
 | k :: ks,h => by
  cases k with
  | ref l => simp [ZaL] at h
  | _ => simp only [ZaL] at h; simp only [Zmk]; exact ZoF ks h
theorem Ze2:(ks:List Kd) → (cs:List AV) → {q:List Nat} → ZH ks cs = some q → q.length = Zmk ks
 | [],[],q,h => by simp [ZH] at h; subst h; rfl
 | k :: ks,a :: as,q,h => by
  have other:(∀ l,k ≠ .ref l) → q.length = Zmk (k :: ks):=by
   intro hk
   have e:ZH (k :: ks) (a :: as) = ZH ks as:=by cases k <;> first | rfl | exact absurd rfl (hk _)
   have e2:Zmk (k :: ks) = Zmk ks:=by cases k <;> first | rfl | exact absurd rfl (hk _)
   rw [e] at h
   rw [e2]; exact Ze2 ks as h
  cases k with
  | ref l =>
   cases a with
   | bx s kk =>
    cases kk with
    | succ kk => simp [ZH] at h
    | zero =>
     simp only [ZH] at h
     cases hq2:ZH ks as with
     | none => rw [hq2] at h; simp at h
     | some q2 =>
      grind [Option.some.injEq,List.length_cons,Zmk,Ze2 ks as hq2]
   | _ => simp [ZH] at h
  | _ => exact other (by intro l; simp)
 | [],_ :: _,q,h => by simp [ZH] at h
 | k :: _,[],q,h => by cases k <;> simp [ZH] at h
theorem ZmB {σ:Xs}:(ks:List Kd) → (q:List Nat) → (vs vs':List Value) → q.length = Zmk ks → Qv σ q ks vs → Qv σ q ks vs' → Kw ks vs vs'
 | [],q,vs,vs',_,_,_ => by simp [Kw]
 | k :: ks,q,[],vs',_,_,_ => by cases k <;> simp [Kw]
 | k :: ks,q,v :: vs,[],_,_,_ => by cases k <;> simp [Kw]
 | k :: ks,q,v :: vs,v' :: vs',hl,h,h' => by
  have other:(∀ l,k ≠ .ref l) → Kw (k :: ks) (v :: vs) (v' :: vs'):=by
   intro hk
   have e2:Zmk (k :: ks) = Zmk ks:=by cases k <;> first | rfl | exact absurd rfl (hk _)
   have e3:Kw (k :: ks) (v :: vs) (v' :: vs') = Kw ks vs vs':=by cases k <;> first | rfl | exact absurd rfl (hk _)
   rw [e3]
   rw [e2] at hl
   cases q with
   | nil => exact ZmB (σ:=σ) ks [] vs vs' hl Wq Wq
   | cons q0 q =>
    have e4:∀ (u:Value) (us:List Value),Qv σ (q0 :: q) (k :: ks) (u :: us) = Qv σ (q0 :: q) ks us:=by intro u us; cases k <;> first | rfl | exact absurd rfl (hk _)
    rw [e4] at h h'
    exact ZmB ks (q0 :: q) vs vs' hl h h'
  cases k with
  | ref l =>
   cases q with
   | nil => simp [Zmk] at hl
   | cons q0 q =>
    simp only [Qv] at h h'
    simp only [Kw]
    exact ⟨h'.1.trans h.1.symm,ZmB ks q vs vs' (by simpa [Zmk] using hl) h.2 h'.2⟩
  | _ => exact other (by intro l; simp)
theorem Zn4 {σ1:Xs} {w0:World} (h:RelW G σ lim st tmps w):(ks:List Kd) → {as:List AV} → {vs:List Value} → {l l':List Nat} → {nm:List (List Nat)} → (ZaP ks as).run st.tbl l = some (nm,l') → Qh σ w lim as vs → Xr σ1 w0 nm ks vs → (∀ q ∈ nm.flatten,σ q = σ1 q) → KC w0 w ks vs
 | [],as,vs,l,l',nm,hm,hv,hr,hq => by cases vs <;> simp [KC]
 | k :: ks,[],vs,l,l',nm,hm,hv,hr,hq => by
  match vs,hv with
  | [],_ => cases k <;> simp [KC]
 | k :: ks,a :: as,vs,l,l',nm,hm,hv,hr,hq => by
  match vs,hv with
  | v :: vs,hv =>
   simp only [Qh] at hv
   have other:(∀ l,k ≠ .box l) → KC w0 w (k :: ks) (v :: vs):=fun hk => by
    rw [ZbV hk] at hm
    have e:KC w0 w (k :: ks) (v :: vs) = KC w0 w ks vs:=by cases k <;> first | rfl | exact absurd rfl (hk _)
    have e2:Xr σ1 w0 nm (k :: ks) (v :: vs) = Xr σ1 w0 nm ks vs:=by cases k <;> first | (cases nm <;> rfl) | exact absurd rfl (hk _)
    rw [e]
    rw [e2] at hr
    exact Zn4 h ks hm hv.2 hr hq
   cases k with
   | box l0 =>
    cases a with
    | bx r kk =>
     cases kk with
     | succ kk => exact (M.run_fail hm).elim
     | zero =>
      simp only [ZaP] at hm
      obtain ⟨q0,l5,h5,h6⟩:=M.run_bind_some hm
      obtain ⟨qs,l6,h7,h8⟩:=M.run_bind_some h6
      obtain ⟨h9,_⟩:=M.run_ret h8
      subst h9
      simp only [Xr] at hr
      simp only [KC]
      refine ⟨fun b cs T fz cs' T' fz' e1 e2 e3 => ?_,Zn4 h ks h7 hv.2 hr.2 (fun q' hq' => hq q' (by simp_all))⟩
      have hold:=hr.1 b cs T fz e1 e2
      cases hh:ZaL l0 with
      | false =>
       have hz:=ZoF l0 hh
       exact ZmB (σ:=σ) l0 [] _ _ (by simp [hz]) Wq Wq
      | true =>
       unfold Zea at h5
       rw [hh] at h5
       simp only [cond_true,M.run] at h5
       cases hrr:st.tbl r with
       | fresh => simp [hrr,M.run] at h5
       | gone => simp [hrr,M.run] at h5
       | live y =>
        cases y with
        | arr => simp [hrr,M.run] at h5
        | nest => simp [hrr,M.run] at h5
        | box as0 =>
         simp only [hrr] at h5
         have hn:=M.run_ofOpt h5
         obtain ⟨hR,_⟩:=h.res r _ hrr
         obtain ⟨b0,ws,U,f1,f2,f3,f4,_⟩:=YZ hv.1 hR
         rw [e1] at f2
         obtain rfl:b = b0:=by simpa using f2
         rw [e3] at f3
         obtain ⟨rfl,_⟩:cs' = ws ∧ _:=by simpa using f3
         have hnew:=Ks l0 as0 hn f4 (ZjK l0 cs'.toList)
         exact ZmB (σ:=σ1) l0 q0 _ _ (Ze2 l0 as0 hn) hold (Yc _ _ _ (fun q' hq' => (hq q' (by simp_all)).symm) hnew)
    | _ => exact (M.run_fail hm).elim
   | _ => exact other (by intro l; simp)
  | [],hv => simp [Qh] at hv
theorem ZwJ (h : RelW G σ lim st tmps w) : (ks : List Kd) → {as : List AV} → {vs : List Value} → Kb as = true → Qh σ w lim as vs → Xr σ w (ZcA st.tbl ks as) ks vs
  | [], as, vs, hb, hv => by
    grind [Xr]
  | k :: ks, [], vs, hb, hv => by
    match vs, hv with
    | [], _ => cases k <;> simp [ZcA, Xr]
  | k :: ks, a :: as, vs, hb, hv => by
    match vs, hv with
    | v :: vs, hv =>
      simp only [Qh] at hv
      simp only [Kb, List.all_cons, Bool.and_eq_true] at hb
      have ih := ZwJ h ks hb.2 hv.2
      have other : (∀ l, k ≠ .box l) → Xr σ w (ZcA st.tbl (k :: ks) (a :: as)) (k :: ks) (v :: vs) := fun hk => by
        have e : ZcA st.tbl (k :: ks) (a :: as) = ZcA st.tbl ks as := by cases k <;> first | rfl | exact absurd rfl (hk _)
        rw [e]
        have e2 : ∀ nm, Xr σ w nm (k :: ks) (v :: vs) = Xr σ w nm ks vs := by intro nm; cases k <;> first | (cases nm <;> rfl) | exact absurd rfl (hk _)
        rw [e2]; exact ih
      cases k with
      | box l0 =>
        cases a with
        | bx r kk =>
         cases kk with
         | succ kk => simp at hb
         | zero =>
          simp only [ZcA, Xr]
          refine ⟨fun b cs T fz e1 e2 => ?_, ih⟩
          cases hh : ZaL l0 with
          | false => exact Wq
          | true =>
            simp only [cond_true]
            cases hr : st.tbl r with
            | fresh => exact Wq
            | gone => exact Wq
            | live y =>
              cases y with
              | arr => exact Wq
              | nest => exact Wq
              | box as0 =>
                simp only
                cases hn : ZH l0 as0 with
                | none => exact Wq
                | some q =>
                  obtain ⟨hR, _⟩ := h.res r _ hr
                  obtain ⟨b0, ws, U, f1, f2, f3, f4, _⟩ := YZ hv.1 hR
                  rw [e1] at f2
                  obtain rfl : b = b0 := by simpa using f2
                  rw [e2] at f3
                  obtain ⟨rfl, _⟩ : cs = ws ∧ _ := by simpa using f3
                  exact Ks l0 as0 hn f4 (ZjK l0 cs.toList)
        | _ => simp at hb
      | _ => exact other (by intro l; simp)
    | [], hv => simp [Qh] at hv
theorem ZcB {tbl:Qo} {lim:Nat → Nat} (hres:∀ r x,tbl r = .live x → RR σ w lim r x ∧ Zr tbl (Qy r x)):(ks:List Kd) → (as:List AV) → ∀ q ∈ (ZcA tbl ks as).flatten,∃ r cs,tbl r = .live (.box cs) ∧ q ∈ Zq cs
 | [],as,q,hq => by
  contradiction
 | k :: ks,[],q,hq => by
  have:ZcA tbl (k :: ks) [] = []:=by cases k <;> rfl
  rw [this] at hq; simp at hq
 | k :: ks,a :: as,q,hq => by
  have other:ZcA tbl (k :: ks) (a :: as) = ZcA tbl ks as → ∃ r cs,tbl r = .live (.box cs) ∧ q ∈ Zq cs:=fun e => by
   rw [e] at hq
   exact ZcB hres ks as q hq
  cases k with
  | box l0 =>
   cases a with
   | bx r kk =>
    cases kk with
    | succ kk => exact other rfl
    | zero =>
     simp only [ZcA,List.flatten_cons,List.mem_append] at hq
     rcases hq with hq | hq
     ·cases hh:ZaL l0 with
      | false => rw [hh] at hq; simp at hq
      | true =>
       rw [hh] at hq
       simp only [cond_true] at hq
       cases hr:tbl r with
       | fresh => rw [hr] at hq; simp at hq
       | gone => rw [hr] at hq; simp at hq
       | live y =>
        rw [hr] at hq
        cases y with
        | arr => simp at hq
        | nest => simp at hq
        | box as0 =>
         simp only at hq
         cases hn:ZH l0 as0 with
         | none => rw [hn] at hq; simp at hq
         | some q' => rw [hn] at hq; exact ⟨r,as0,hr,Za3 l0 as0 hn q hq⟩
     ·exact ZcB hres ks as q hq
   | _ => exact other rfl
  | _ => exact other rfl
theorem ZPM : {a b:List Nat} → nEq a b = true → a = b
 | [],[],_ => rfl
 | x :: a,y :: b,h => by
  simp only [nEq,Bool.and_eq_true] at h
  rw [Qc h.1,ZPM h.2]
 | [],_ :: _,h => by simp [nEq] at h
 | _ :: _,[],h => by simp [nEq] at h
theorem ZHD : {a b:List (List Nat)} → ZKE a b = true → a = b
 | [],[],_ => rfl
 | x :: a,y :: b,h => by
  simp only [ZKE,Bool.and_eq_true] at h
  rw [ZPM h.1,ZHD h.2]
 | [],_ :: _,h => by simp [ZKE] at h
 | _ :: _,[],h => by simp [ZKE] at h
theorem Ziq {w0:World}:(ks:List Kd) → (vs:List Value) → KC w0 w (Yw ks) (Yx ks vs) → KC w0 w ks vs
 | [],vs,_ => by cases vs <;> simp [KC]
 | k :: ks,[],_ => by cases k <;> simp [KC]
 | k :: ks,v :: vs,h => by
  cases k with
  | box l =>
   simp only [Yw,Yx,KC] at h ⊢
   exact ⟨h.1,Ziq ks vs h.2⟩
  | bld T =>
   simp only [Yw,Yx,KC] at h ⊢
   exact Ziq ks vs h
  | _ => simp only [Yw,Yx] at h; simp only [KC]; exact Ziq ks vs h
theorem Zxo {rvs:List RV} {vs:List Value} {bs:List Nat} {pk:List Kd} {n:Nat} (hlz:∀ b,w.heap.size ≤ b → lim b = 0) (hgl:Zw2 w lim) (hT:TTs w lim rvs vs bs) (hnd:bs.Nodup) (hbs:∀ b ∈ bs,b < w.heap.size)
    (hn:rvs.length ≤ n) (hin:(ZX 0 rvs).2.2 ≤ Ql) (hco:XM pk (ZX 0 rvs).1 = true) (hb:Kb (QR (ZS pk) (Qw pk (ZX 0 rvs).1)) = true) :
    ∃ σ,Xb ⟨w,lim,bs,KW (QR (ZS pk) (Qw pk (ZX 0 rvs).1)) (Yx (ZS pk) (WI pk vs)) ++ (ZcT pk rvs).flatten.map (fun q => (q,σ q))⟩ n (enter (ZX 0 rvs).1 (ZX 0 rvs).2.1) { tmps:=vs.toArray ++ Array.replicate (n - vs.toArray.size) undef,defers:=[] } w ∧
      Qh σ w lim (QR (ZS pk) (Qw pk (ZX 0 rvs).1)) (Yx (ZS pk) (WI pk vs)) ∧ vs.length = rvs.length ∧ (WI pk vs).length = (ZS pk).length ∧ Xr σ w (ZcT pk rvs) (Yw (ZS pk)) (Yx (ZS pk) (WI pk vs)):=by
  have h0:RelW ⟨w,lim,bs,[]⟩ (fun _ => undef) lim ⟨fun _ => .dead,fun _ => .fresh⟩ (vs.toArray ++ Array.replicate (n - vs.toArray.size) undef) w :=
    { env:=by intro s; simp [RA]
      known:=by intro s; simp [Zf,Zr]
      res:=by intro r x h; simp at h
      inj:=by intro r r' b h; simp [Z2] at h
      own:=by intro r b h; simp [Z2] at h
      ext:=Ext.refl _ _
      keep:=fun _ _ _ => rfl
      same:=⟨rfl,rfl,rfl⟩
      lz:=hlz
      limk:=fun _ _ _ => rfl
      glob:=hgl
      pin:=by intro p hp; simp at hp }
  obtain ⟨σ,hP,hA,hK⟩:=XV rvs 0 h0 hT (fun _ _ _ => rfl) ⟨hnd,fun b hb => ⟨.inr hb,by intro r h; simp [Z2] at h⟩⟩
  have hlen:vs.length = rvs.length:=by rw [← ZgP rvs 0]; exact (ZiT hA).symm
  have hfA:=Zqd pk hco hA
  have hL:=ZHz (ZS pk) hfA
  have hfl:(WI pk vs).length = (ZS pk).length:=by rw [← ZiT hfA]; exact Zs3 pk _ hco
  have hrv:Xr σ w (ZcT pk rvs) (Yw (ZS pk)) (Yx (ZS pk) (WI pk vs)):=by
    have:=ZwJ hP.rel (Yw (ZS pk)) hb hL
    simp only at this
    rw [← Zd1] at this
    exact this
  refine ⟨σ,⟨σ,lim,?_,by simp; omega,rfl⟩,hL,hlen,hfl,hrv⟩
  have hR:=hP.rel
  simp only at hR hK
  rw [← Zd1] at hR hK
  have hpin:=ZXu hb hL
  obtain ⟨lw1,lw2⟩:=ZdS rvs 0
  refine ZU6 ?_ (fun p hp => ⟨Nat.lt_of_lt_of_le (lw2 p hp).1 hin,(lw2 p hp).2.1,fun cs hc q hq => Nat.lt_of_lt_of_le ((lw2 p hp).2.2 cs hc q hq) hin⟩) (fun r hr => Nat.lt_of_lt_of_le (lw1 r hr) hin)
    (fun p hp => by
      rcases List.mem_append.1 hp with hp | hp
      · exact Nat.lt_of_lt_of_le (lw1 p.1 (Zgx pk _ _ (YN (ZS pk) _ _ (Zmp _ _ p hp)))) hin
      · obtain ⟨q,hq,rfl⟩:=List.mem_map.1 hp
        obtain ⟨r,cs,hr,hqc⟩:=ZcB hR.res (Yw (ZS pk)) (QR (ZS pk) (Qw pk (ZX 0 rvs).1)) q hq
        simp only [Zd1,Qo.put] at hr
        cases hl:ZI (ZX 0 rvs).2.1 r with
        | none => rw [hl] at hr; cases hr
        | some z => rw [hl] at hr; simp only at hr; exact Nat.lt_of_lt_of_le ((lw2 _ (WJ hl)).2.2 cs hr q hqc) hin)
  exact
    { env:=by
        intro s
        rcases Zcb (ZX 0 rvs).1 0 s with h | ⟨j,h1,h2⟩
        · simp only [enter,h,RA]
        · have hs:s = j:=by omega
          subst hs
          have hjl:s < vs.length:=by
            rw [← ZiT hA]
            grind
          have hv:vs[s]? = some vs[s]:=by simp [hjl]
          have:=ZDd hA h2 hv
          simp only [enter]
          rw [Array.getD_eq_getD_getElem?,Array.getElem?_append_left (by simpa using hjl)]
          simpa [hv] using this
      known:=by
        intro s
        rcases Zcb (ZX 0 rvs).1 0 s with h | ⟨j,h1,h2⟩
        · simp [enter,h,Zf,Zr]
        · intro r hr
          exact hK r (Zwq h2 r hr)
      res:=hR.res,inj:=hR.inj,own:=hR.own,ext:=hR.ext,keep:=hR.keep,same:=hR.same,lz:=hR.lz,limk:=hR.limk,glob:=hR.glob
      pin:=by
        intro p hp
        rcases List.mem_append.1 hp with hp | hp
        · refine ⟨hpin p hp,?_⟩
          exact hK p.1 (Zgx pk _ _ (YN (ZS pk) _ _ (Zmp _ _ p hp)))
        · obtain ⟨q,hq,rfl⟩:=List.mem_map.1 hp
          obtain ⟨r,cs,hr,hqc⟩:=ZcB hR.res (Yw (ZS pk)) (QR (ZS pk) (Qw pk (ZX 0 rvs).1)) q hq
          exact ⟨rfl,(hR.res r _ hr).2 q hqc⟩ }
def Zuh (w:World) (lim:Nat → Nat) (vs:List Value) (bs:List Nat) (pk:List Kd) (r:RV × List RV):Ending → World → Prop:=fun e w' => ∃ v lim' b1 b2,e = .returned v ∧ Ext w lim w' lim' ∧ (∀ b,w'.heap.size ≤ b → lim' b = 0) ∧
   (w'.os = w.os ∧ w'.tape = w.tape ∧ w'.output = w.output) ∧ (∀ b,b < w.heap.size → b ∉ bs → w'.heap[b]? = w.heap[b]? ∧ lim' b = lim b) ∧
   TT w' lim' r.1 v b1 ∧ TL w' lim' (ZS pk) (WI pk vs) r.2 b2 ∧ KC w w' (ZS pk) (WI pk vs) ∧ (b1 ++ b2).Nodup ∧ ∀ b ∈ b1 ++ b2,b ∈ bs ∨ w.heap.size ≤ b
theorem Zwl {f:Nat} {fn:Func} {code:Code} {pk:List Kd} {rk:Kd} {rvs:List RV} {r:RV × List RV} {vs:List Value} {bs:List Nat} (hf:C.P.funcs[f]? = some fn) (hb:fn.body = some code)
  (hlz:∀ b,w.heap.size ≤ b → lim b = 0) (hgl:Zw2 w lim) (hT:TTs w lim rvs vs bs) (hnd:bs.Nodup) (hbs:∀ b ∈ bs,b < w.heap.size) (hbx:Kb (QR (ZS pk) (Qw pk (ZX 0 rvs).1)) = true) (hn:rvs.length ≤ fn.ntmps) (hin:(ZX 0 rvs).2.2 ≤ Ql) (hco:XM pk (ZX 0 rvs).1 = true)
  (hwp:∀ (G:Glob),(∀ p ∈ G.pins,p.1 ∈ W8 (QR (ZS pk) (Qw pk (ZX 0 rvs).1)) ++ (ZcT pk rvs).flatten) → Xb G fn.ntmps (enter (ZX 0 rvs).1 (ZX 0 rvs).2.1) { tmps:=vs.toArray ++ Array.replicate (fn.ntmps - vs.toArray.size) undef,defers:=[] } w →
   code.wp C.P (fun e a w => ∃ e' st',e = Ex.out e' ∧ KT C fn.results.toList pk (QR (ZS pk) (Qw pk (ZX 0 rvs).1)) (ZcT pk rvs) rk some e' st' = some r ∧ Xb G fn.ntmps st' a w) { tmps:=vs.toArray ++ Array.replicate (fn.ntmps - vs.toArray.size) undef,defers:=[] } w) :
  Calls C.P f vs.toArray w (Zuh w lim vs bs pk r):=by
 obtain ⟨σ0,hS,hL,hlen,hfl,hRV⟩:=Zxo (pk:=pk) hlz hgl hT hnd hbs hn hin hco hbx
 refine calls_of_wp hf hb (wp_mono (hwp _ (fun p hp => by
  rcases List.mem_append.1 hp with hp | hp
  ·exact List.mem_append_left _ (Zmp _ _ p hp)
  grind) hS) ?_)
 rintro e a' w' ⟨e',st',rfl,hK,hs⟩
 obtain ⟨σ,lim',⟨hR,_⟩,_,hd⟩:=hs
 have leave:(Ztg C fn.results.toList pk (QR (ZS pk) (Qw pk (ZX 0 rvs).1)) (ZcT pk rvs) rk st').runK st'.tbl [] (fun x l => bif Zis l then some x else none) = some r →
   a'.defers = [] ∧ ∃ v,(results fn a'.tmps).run C.P w' = .ok v w' ∧ Zuh w lim vs bs pk r (.returned v) w':=by
  intro hl
  rw [M.runK_eq] at hl
  cases hr:(Ztg C fn.results.toList pk (QR (ZS pk) (Qw pk (ZX 0 rvs).1)) (ZcT pk rvs) rk st').run st'.tbl [] with
  | none => rw [hr] at hl; simp at hl
  | some p =>
   obtain ⟨q,lg⟩:=p
   rw [hr] at hl
   simp only [Option.bind_some] at hl
   have hlow:Zis lg = true:=by
    grind
   rw [hlow] at hl
   simp only [cond_true,Option.some.injEq] at hl
   subst hl
   have hr:=ZzG hr hlow
   unfold Ztg at hr
   rw [ZiM (st:=st') (st2:=⟨st'.env,X0 st'.tbl⟩) rfl] at hr
   obtain ⟨as,l1,h1,hr⟩:=M.run_bind_some hr
   obtain ⟨⟨y,u⟩,l2,h2,hr⟩:=M.run_bind_some hr
   obtain ⟨⟨ys,v⟩,l3,h3,hr⟩:=M.run_bind_some hr
   obtain ⟨nm',l4,h4,hr⟩:=M.run_bind_some hr
   obtain ⟨hok,hr2⟩:=M.run_guard hr
   simp only [Bool.and_eq_true] at hok
   obtain ⟨hok,hnm⟩:=hok
   have hnm:=ZHD hnm
   obtain ⟨hq,_⟩:=M.run_ret hr2
   subst hnm
   obtain ⟨rv,r1,r2⟩:=ZuB hR h1
   obtain ⟨g1,k1⟩:=ZwV (st:=⟨st'.env,X0 st'.tbl⟩) (σ:=σ) (w:=w') (lim:=lim') rk _ h2
   obtain ⟨g2,k2⟩:=Xo (st:=⟨st'.env,X0 st'.tbl⟩) (σ:=σ) (w:=w') (lim:=lim') (Yw (ZS pk)) _ h3
   obtain ⟨lim2,hR2,hE,hSh,hN,hB⟩:=hR.takes (g1.append g2) hok
   have hLf:Qh σ w' lim' (QR (ZS pk) (Qw pk (ZX 0 rvs).1)) (Yx (ZS pk) (WI pk vs)):=ZFM hbx hL fun p hp => (hR.pin p (List.mem_append_left _ hp)).1
   have hStay:KC w w' (ZS pk) (WI pk vs):=Ziq _ _ (Zn4 hR (Yw (ZS pk)) h4 hLf hRV fun q hq => (hR.pin (q,σ0 q) (List.mem_append_right _ (List.mem_map.2 ⟨q,hq,rfl⟩))).1)
   refine ⟨hd,rv,r1,rv,lim2,QT σ (Qb u),QT σ (Qb v),rfl,hR2.ext,hR2.lz,hR2.same,fun b hb1 hb2 => ⟨hR2.keep b hb1 hb2,hR2.limk b hb1 hb2⟩,?_,?_,hStay,?_,?_⟩
   ·rw [hq]; exact k1 rv r2 (fun r y hy => (hR.res r y hy).1) lim2 hE hSh.left
   ·rw [hq]; exact ZHU (ZS pk) hfl (k2 _ hLf (fun r y hy => (hR.res r y hy).1) lim2 hE hSh.right)
   ·rw [← ZcK,← Kl]; exact hN
   ·intro b hb; rw [← ZcK,← Kl] at hb; exact (hB b hb).1.symm
 cases e' with
 | normal => exact leave hK
 | ret => exact leave hK
 | exit i => simp [KT] at hK
theorem ZKn (hC:∀ f cal,C.Φ f = some cal → Ctr C.P C.k f cal) (hm:C.P.follows .mixedOrders = true) {A:Nat → Ann} {f k:Nat} {fn:Func} {code:Code} {cal:Callee} {rk:Kd}
  (hf:C.P.funcs[f]? = some fn) (hb:fn.body = some code) (hname:(fn.name == "runtime.NumGoroutine") = false) (hfit:Yu C.P fn.ntmps code = true)
  (hlent:∀ rvs x,cal.run k rvs = some x → Kb (QR (ZS cal.pk) (Qw cal.pk (ZX 0 rvs).1)) = true)
  (hrun:∀ rvs x,cal.run k rvs = some x → ZFP C A fn.ntmps code fn.results.toList cal.pk rk rvs some = some (cal.enc x)):Ctr C.P k f cal where
 enters:=⟨fn,hf,hname,by rw [hb]; rfl⟩
 calls:=by
  intro rvs x hx w lim vs bs hlz hgl hT hnd hbs
  have h:=hrun rvs x hx
  have hbx:=hlent rvs x hx
  unfold ZFP at h
  cases hg:ZTR cal.pk rvs fn.ntmps with
  | false => rw [hg] at h; simp at h
  | true =>
   rw [hg] at h
   simp only [cond_true] at h
   simp only [ZTR,Bool.and_eq_true] at hg
   exact Zwl (rk:=rk) hf hb hlz hgl hT hnd hbs hbx (Nat.le_of_ble_eq_true hg.1.1) (Nat.le_of_ble_eq_true hg.1.2) hg.2 fun G hp hS => WR hC hm hp code h hfit hS fun e st' a' w' hK hs => ⟨e,st',rfl,hK,hs⟩
end Go.Sh
namespace Go.Sh
open Go
variable [Gl]
def ZHG:Ex → St → Option (Ex × St):=fun e s => some (e,s)
def Zjy {R:Type} (K:Ex → St → Option R):Ex × St → Option R:=fun x => K x.1 x.2
theorem Ztl {R:Type} {nm:St → Option St} {b1:St → (Ex → St → Option (Ex × St)) → Option (Ex × St)} {bR:St → (Ex → St → Option R) → Option R}
  (h1:∀ st K,b1 st K = (b1 st ZHG).bind (Zjy K)) (hb:∀ st K,bR st K = (b1 st ZHG).bind (Zjy K)):∀ (n:Nat) (st:St) (K:Ex → St → Option R),
  ZiH bR nm n st K = (ZiH b1 nm n st ZHG).bind (Zjy K)
 | 0,st,K => rfl
 | n + 1,st,K => by
  simp only [ZiH]
  rw [hb]
  conv => rhs; rw [h1]
  rw [Option.bind_assoc]
  congr 1
  funext x
  obtain ⟨e,s⟩:=x
  cases e with
  | exit i => rfl
  | ret => rfl
  | normal =>
   simp only [Zjy]
   cases nm s with
   | none => rfl
   | some s' => exact Ztl h1 hb n s' K
theorem Wy {C:Ctx} {A:Nat → Ann} {kp:List Nat}:(c:Code) → {R:Type} → (st:St) → (K:Ex → St → Option R) → XN C A kp c st K = (XN C A kp c st ZHG).bind (Zjy K)
 | .skip,R,st,K => rfl
 | .label _,R,st,K => rfl
 | .ret,R,st,K => rfl
 | .exit _,R,st,K => rfl
 | .goto _,R,st,K => rfl
 | .refuse _,R,st,K => rfl
 | .rangeFunc _ _ _ _,R,st,K => rfl
 | .region id ops d,R,st,K => by
  simp only [XN]
  cases d with
  | false => simp only [cond_false,Zzu,Option.bind_assoc]; rfl
  | true =>
   simp only [cond_true,Zm2,Option.bind_assoc]
   congr 1
   funext x
   cases ZbN ops.toList (KA ops.toList []) ([] ++ x.2) <;> rfl
 | .seq a b,R,st,K => by
  simp only [XN]
  rw [Wy a]
  conv => rhs; rw [Wy a]
  rw [Option.bind_assoc]
  congr 1
  funext x
  obtain ⟨e,s⟩:=x
  cases e with
  | normal => exact Wy b s K
  | exit i => rfl
  | ret => rfl
 | .cond c a b,R,st,K => by
  simp only [XN]
  split
  ·rename_i t _
   cases t with
   | true => simp only [cond_true]; exact Wy a _ K
   | false => simp only [cond_false]; exact Wy b _ K
  ·rfl
 | .block id c,R,st,K => by
  simp only [XN]
  rw [Wy c]
  conv => rhs; rw [Wy c]
  rw [Option.bind_assoc]
  congr 1
  funext x
  obtain ⟨e,s⟩:=x
  cases e with
  | normal => rfl
  | ret => rfl
  | exit i => simp only [Zjy,Zxf]; cases Nat.beq i id <;> rfl
 | .loop c,R,st,K => by
  simp only [XN,Option.bind_assoc]
  congr 1
  funext s
  exact Ztl (fun st K => Wy c st K) (fun st K => Wy c st K) C.k s K
 | .scope c,R,st,K => by simp only [XN]; exact Wy c st K
theorem ZKQ {C:Ctx} {A:Nat → Ann} {n:Nat} {body:Code} {rs:List ResultVar} {pk:List Kd} {rk:Kd} {rvs:List RV} {R:Type} (K:RV × List RV → Option R) :
  ZFP C A n body rs pk rk rvs K = (ZFP C A n body rs pk rk rvs some).bind K:=by
 unfold ZFP
 cases ZTR pk rvs n with
 | false => rfl
 | true =>
  simp only [cond_true]
  rw [Wy]
  conv => rhs; rw [Wy]
  rw [Option.bind_assoc]
  congr 1
  funext x
  obtain ⟨e,s⟩:=x
  simp only [Zjy]
  cases e <;> simp only [KT,M.runK_eq,Option.bind_assoc,Option.bind_some,Option.bind_none]
  all_goals grind
mutual
def Kd.den:Kd → Type
 | .view t => t.den
 | .own t _ => List t.den
 | .box ks => Kd.dens ks
 | .agg ks => Kd.dens ks
 | .tup ks => Kd.dens ks
 | .fn _ => Unit
 | .bld _ => List Int
 | .use _ => List Int
 | .clo _ ks => Kd.dens ks
 | .ref ks => Kd.dens ks
 | .ns t => List t.den
 | .vp t => List t.den
def Kd.dens:List Kd → Type
 | [] => Unit
 | k :: ks => k.den × Kd.dens ks
end
mutual
def enc:(k:Kd) → k.den → RV
 | .view t,x => .view t x
 | .own t sh,xs => .own t sh xs
 | .box ks,x => .box (WC ks x)
 | .agg ks,x => .agg (WC ks x)
 | .tup ks,x => .tup (WC ks x)
 | .fn f,_ => .fn f
 | .bld T,xs => .bld T xs
 | .use T,xs => .bld T xs
 | .clo f ks,x => .clo f (WC ks x)
 | .ref ks,x => .box (WC ks x)
 | .ns t,xs => .ns t xs
 | .vp t,xs => .vp t xs
def WC:(ks:List Kd) → Kd.dens ks → List RV
 | [],_ => []
 | k :: ks,x => enc k x.1 :: WC ks x.2
end
def ZmP (t:Ty):RV → Option t.den
 | .view t' x => if h:t' = t then some (h ▸ x:t.den) else none
 | _ => none
def ZLo (t:Ty) (sh:Bool):RV → Option (List t.den)
 | .own t' sh' xs => if h:t' = t then (bif sh == sh' then some (h ▸ xs:List t.den) else none) else none
 | _ => none
def ZGc:RV → Option (List RV)
 | .box cs => some cs
 | _ => none
def asAgg:RV → Option (List RV)
 | .agg cs => some cs
 | _ => none
def ZLq:RV → Option (List RV)
 | .tup cs => some cs
 | _ => none
def ZU2 (f:Nat):RV → Option Unit
 | .fn g => bif Nat.beq f g then some () else none
 | _ => none
def ZLm (f:Nat):RV → Option (List RV)
 | .clo g cs => bif Nat.beq f g then some cs else none
 | _ => none
def ZU3 (t:Ty):RV → Option (List t.den)
 | .ns t' xs => if h:t' = t then some (h ▸ xs:List t.den) else none
 | _ => none
def ZU4 (t:Ty):RV → Option (List t.den)
 | .vp t' xs => if h:t' = t then some (h ▸ xs:List t.den) else none
 | _ => none
def ZGb (T:TypeId):RV → Option (List Int)
 | .bld U xs => bif Nat.beq T U then some xs else none
 | _ => none
mutual
def dec:(k:Kd) → RV → Option k.den
 | .view t,r => ZmP t r
 | .own t sh,r => ZLo t sh r
 | .box ks,r => (ZGc r).bind (Zec ks)
 | .agg ks,r => (asAgg r).bind (Zec ks)
 | .tup ks,r => (ZLq r).bind (Zec ks)
 | .fn f,r => ZU2 f r
 | .bld T,r => ZGb T r
 | .use T,r => ZGb T r
 | .clo f ks,r => (ZLm f r).bind (Zec ks)
 | .ref ks,r => (ZGc r).bind (Zec ks)
 | .ns t,r => ZU3 t r
 | .vp t,r => ZU4 t r
def Zec:(ks:List Kd) → List RV → Option (Kd.dens ks)
 | [],[] => some ()
 | [],_ :: _ => none
 | _ :: _,[] => none
 | k :: ks,x :: xs => (dec k x).bind fun y => (Zec ks xs).bind fun ys => some (y,ys)
end
theorem ZH1 {t:Ty} {r:RV} {x:t.den} (h:ZmP t r = some x):r = .view t x:=by
 unfold ZmP at h
 grind
theorem ZLp {t:Ty} {sh:Bool} {r:RV} {x:List t.den} (h:ZLo t sh r = some x):r = .own t sh x:=by
 unfold ZLo at h
 grind
theorem Zz6 {r:RV} {cs:List RV} (h:ZGc r = some cs):r = .box cs:=by unfold ZGc at h; split at h <;> simp at h; rw [h]
theorem ZLl {r:RV} {cs:List RV} (h:asAgg r = some cs):r = .agg cs:=by unfold asAgg at h; split at h <;> simp at h; rw [h]
theorem ZLr {r:RV} {cs:List RV} (h:ZLq r = some cs):r = .tup cs:=by unfold ZLq at h; split at h <;> simp at h; rw [h]
theorem ZQI {f:Nat} {r:RV} {x:Unit} (h:ZU2 f r = some x):r = .fn f:=by
 unfold ZU2 at h
 split at h
 ·rename_i g
  cases hb:Nat.beq f g with
  | false => rw [hb] at h; simp at h
  | true => rw [Qc hb]
 ·cases h
theorem ZLn {f:Nat} {r:RV} {cs:List RV} (h:ZLm f r = some cs):r = .clo f cs:=by
 unfold ZLm at h
 split at h
 ·rename_i g l
  cases hb:Nat.beq f g with
  | false => rw [hb] at h; simp at h
  | true => simp_all
 ·cases h
theorem ZQJ {t:Ty} {r:RV} {x:List t.den} (h:ZU3 t r = some x):r = .ns t x:=by
 unfold ZU3 at h
 grind
theorem ZQK {t:Ty} {r:RV} {x:List t.den} (h:ZU4 t r = some x):r = .vp t x:=by
 unfold ZU4 at h
 split at h
 ·split at h
  ·rename_i e; subst e; simp at h; rw [h]
  ·cases h
 ·cases h
theorem Zz5 {T:TypeId} {r:RV} {x:List Int} (h:ZGb T r = some x):r = .bld T x:=by
 unfold ZGb at h
 split at h
 ·rename_i U xs
  cases hb:Nat.beq T U with
  | false => rw [hb] at h; simp at h
  | true => simp_all
 ·cases h
mutual
theorem ZGh:(k:Kd) → (r:RV) → (x:k.den) → dec k r = some x → r = enc k x
 | .view t,r,x,h => by simp only [dec] at h; simp only [enc]; exact ZH1 h
 | .own t sh,r,x,h => by simp only [dec] at h; simp only [enc]; exact ZLp h
 | .box ks,r,x,h => by
  simp only [dec] at h
  obtain ⟨cs,h1,h2⟩:=Option.bind_eq_some_iff.1 h
  simp only [enc,Zz6 h1,QY ks cs x h2]
 | .agg ks,r,x,h => by
  simp only [dec] at h
  obtain ⟨cs,h1,h2⟩:=Option.bind_eq_some_iff.1 h
  simp only [enc,ZLl h1,QY ks cs x h2]
 | .tup ks,r,x,h => by
  simp only [dec] at h
  obtain ⟨cs,h1,h2⟩:=Option.bind_eq_some_iff.1 h
  simp only [enc,ZLr h1,QY ks cs x h2]
 | .fn f,r,x,h => by simp only [dec] at h; simp only [enc]; exact ZQI h
 | .bld T,r,x,h => by simp only [dec] at h; simp only [enc]; exact Zz5 h
 | .use T,r,x,h => by simp only [dec] at h; simp only [enc]; exact Zz5 h
 | .clo f ks,r,x,h => by
  simp only [dec] at h
  obtain ⟨cs,h1,h2⟩:=Option.bind_eq_some_iff.1 h
  simp only [enc,ZLn h1,QY ks cs x h2]
 | .ns t,r,x,h => by simp only [dec] at h; simp only [enc]; exact ZQJ h
 | .vp t,r,x,h => by simp only [dec] at h; simp only [enc]; exact ZQK h
 | .ref ks,r,x,h => by
  simp only [dec] at h
  obtain ⟨cs,h1,h2⟩:=Option.bind_eq_some_iff.1 h
  simp only [enc,Zz6 h1,QY ks cs x h2]
theorem QY:(ks:List Kd) → (rs:List RV) → (x:Kd.dens ks) → Zec ks rs = some x → rs = WC ks x
 | [],[],x,h => rfl
 | k :: ks,r :: rs,x,h => by
  simp only [Zec] at h
  obtain ⟨y,h1,h⟩:=Option.bind_eq_some_iff.1 h
  obtain ⟨ys,h2,h⟩:=Option.bind_eq_some_iff.1 h
  cases h
  simp only [WC,← ZGh k r y h1,← QY ks rs ys h2]
 | [],_ :: _,x,h => by simp [Zec] at h
 | _ :: _,[],x,h => by simp [Zec] at h
end
theorem Zou:(ks:List Kd) → (x:Kd.dens ks) → (WC ks x).length = ks.length
 | [],_ => rfl
 | k :: ks,x => by simp only [WC,List.length_cons,Zou ks]
theorem Zzn {ks ls:List Kd} {as bs:List AV} (h:ks.length = as.length):QR (ks ++ ls) (as ++ bs) = QR ks as ++ QR ls bs:=by
 induction ks generalizing as with
 | nil =>
  grind [QR]
 | cons k ks ih =>
  cases as with
  | nil => simp at h
  | cons a as =>
   have ih:=ih (as:=as) (by simpa using h)
   cases k <;> simp [QR,ih]
theorem Zxi (a b:List AV):Kb (a ++ b) = (Kb a && Kb b):=by simp [Kb]
theorem Zol:(ks:List Kd) → (x:Kd.dens ks) → (n:Nat) → Kb (QR ks (ZX n (WC ks x)).1) = true
 | [],_,n => rfl
 | k :: ks,x,n => by
  have ih:=Zol ks x.2
  cases k with
  | box l =>
   simp only [WC,enc,ZX,put,QR,Kb,List.all_cons,Bool.true_and] at ih ⊢
   exact ih _
  | bld T =>
   simp only [WC,enc,ZX,put,QR,Kb,List.all_cons,Bool.true_and] at ih ⊢
   exact ih _
  | _ => grind [WC,enc,ZX,QR]
theorem ZqF:(ks:List Kd) → (x:Kd.dens ks) → (n:Nat) → Kb (QR (ZS ks) (Qw ks (ZX n (WC ks x)).1)) = true
 | [],_,n => rfl
 | k :: ks,x,n => by
  have ih:=ZqF ks x.2
  cases k with
  | box l =>
   simp only [WC,enc,ZX,put,ZS,Qw,QR,Kb,List.all_cons,Bool.true_and] at ih ⊢
   exact ih _
  | bld T =>
   simp only [WC,enc,ZX,put,ZS,Qw,QR,Kb,List.all_cons,Bool.true_and] at ih ⊢
   exact ih _
  | clo f l =>
   simp only [WC,enc,ZX,put,ZS,Qw]
   rw [Zzn (by rw [ZgP]; exact (Zou l x.1).symm),Zxi,Bool.and_eq_true]
   exact ⟨Zol l x.1 n,ih _⟩
  | _ => grind [WC,enc,ZX,ZS,Qw,QR]
abbrev Ans (pk:List Kd) (rk:Kd):Type:=rk.den × Kd.dens (Yw (ZS pk))
def ZLE (pk:List Kd) (rk:Kd) (r:RV × List RV):Option (Ans pk rk):=(dec rk r.1).bind fun x => (Zec (Yw (ZS pk)) r.2).bind fun l => some (x,l)
def ZU5 (pk:List Kd) (rk:Kd) (x:Ans pk rk):RV × List RV:=(enc rk x.1,WC (Yw (ZS pk)) x.2)
theorem ZIh {pk:List Kd} {rk:Kd} {r:RV × List RV} {x:Ans pk rk} (h:ZLE pk rk r = some x):r = ZU5 pk rk x:=by
 unfold ZLE at h
 obtain ⟨y,h1,h⟩:=Option.bind_eq_some_iff.1 h
 obtain ⟨ys,h2,h⟩:=Option.bind_eq_some_iff.1 h
 cases h
 obtain ⟨a,b⟩:=r
 simp only [ZU5,← ZGh rk a y h1,← QY (Yw (ZS pk)) b ys h2]
def mk (pk:List Kd) (rk:Kd) (F:Nat → Kd.dens pk → Option (Ans pk rk)):Callee :=
 { ρ:=Ans pk rk,pk:=pk,run:=fun k rvs => (Zec pk rvs).bind (F k),enc:=ZU5 pk rk }
theorem ZTB {C:Ctx} (hC:∀ f cal,C.Φ f = some cal → Ctr C.P C.k f cal) (hm:C.P.follows .mixedOrders = true) {A:Nat → Ann} {f k:Nat} {fn:Func} {code:Code} {pk:List Kd} {rk:Kd} {F:Nat → Kd.dens pk → Option (Ans pk rk)}
  (hf:C.P.funcs[f]? = some fn) (hb:fn.body = some code) (hname:(fn.name == "runtime.NumGoroutine") = false) (hfit:Yu C.P fn.ntmps code = true)
  (h:∀ x y,F k x = some y → ZFP C A fn.ntmps code fn.results.toList pk rk (WC pk x) (ZLE pk rk) = some y):Ctr C.P k f (mk pk rk F):=by
 refine ZKn (A:=A) (rk:=rk) hC hm hf hb hname hfit (fun rvs x hx => ?_) (fun rvs x hx => ?_)
 ·simp only [mk] at hx ⊢
  obtain ⟨y,h1,h2⟩:=Option.bind_eq_some_iff.1 hx
  rw [QY pk rvs y h1]
  exact ZqF pk y 0
 ·simp only [mk] at hx ⊢
  obtain ⟨y,h1,h2⟩:=Option.bind_eq_some_iff.1 hx
  have h3:=h y x h2
  rw [← QY pk rvs y h1,ZKQ] at h3
  obtain ⟨r,h4,h5⟩:=Option.bind_eq_some_iff.1 h3
  rw [h4,ZIh h5]
def phi:List (Nat × Callee) → Nat → Option Callee
 | [],_ => none
 | (f,c) :: l,g => bif Nat.beq g f then some c else phi l g
theorem Zg {P:Program} {k:Nat}:∀ {l:List (Nat × Callee)},(∀ p ∈ l,Ctr P k p.1 p.2) → ∀ f cal,phi l f = some cal → Ctr P k f cal
 | [],_,f,cal,h => by simp [phi] at h
 | (g,c) :: l,hl,f,cal,h => by
  simp only [phi] at h
  cases hb:Nat.beq f g with
  | true => simp_all
  | false => rw [hb] at h; exact Zg (fun p hp => hl p (by simp [hp])) f cal h
theorem Zd {P:Program} {k:Nat}:∀ p ∈ ([]:List (Nat × Callee)),Ctr P k p.1 p.2:=by intro p hp; simp at hp
theorem Za {P:Program} {k f:Nat} {c:Callee} {l:List (Nat × Callee)} (h:Ctr P k f c) (hl:∀ p ∈ l,Ctr P k p.1 p.2):∀ p ∈ (f,c) :: l,Ctr P k p.1 p.2:=by
 simp_all
def Zn {V R:Type} (step:(V → Option R) → V → Option R):Nat → V → Option R
 | 0,_ => none
 | n + 1,v => step (Zn step n) v
theorem Zh {V R:Type} {L:Nat → V → Option R} {step:(V → Option R) → V → Option R} (h0:∀ v,L 0 v = none) (h:∀ n v,L (n + 1) v = step (L n) v):∀ n,L n = Zn step n
 | 0 => funext h0
 | n + 1 => funext fun v => by rw [h,Zh h0 h n]; rfl
section
variable {R:Type}
def place (C:Ctx) (A:Nat → Ann) (kp:List Nat):List Nat → List Nat → Code → (Ex → St → Option R) → Code × (Ex → St → Option R)
 | 0 :: p,ns,.seq a b,K => place C A kp p ns a (ZQd (fun s => XN C A kp b s K) K)
 | _ :: p,ns,.seq _ b,K => place C A kp p ns b K
 | 0 :: p,ns,.cond _ a _,K => place C A kp p ns a K
 | _ :: p,ns,.cond _ _ b,K => place C A kp p ns b K
 | _ :: p,ns,.block id c,K => place C A kp p ns c (Zxf id K)
 | _ :: p,ns,.scope c,K => place C A kp p ns c K
 | _ :: p,n :: ns,.loop c,K => place C A kp p ns c fun e s => match e with
  | .normal => (Zux kp (A (QH c)) s).bind fun s => ZiH (XN C A kp c) (Zux kp (A (QH c))) n s K
  | .exit i => K (.exit i) s
  | .ret => K .ret s
 | _,_,c,K => (c,K)
def Zs (C:Ctx) (A:Nat → Ann) (kp:List Nat) (p ns:List Nat) (code:Code) (K:Ex → St → Option R) (n:Nat) (st:St):Option R :=
 match place C A kp p ns code K with
 | (.loop c,K) => ZiH (XN C A kp c) (Zux kp (A (QH c))) n st K
 | _ => none
end
end Go.Sh
