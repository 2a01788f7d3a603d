/-
  What the row needs, part 4.
-/
import Derived.Test.YtmeahimfdhdggaaGreatDoorXFrameReads3
import Derived.Scope
import Derived.LoopN
set_option linter.unusedSimpArgs false
set_option linter.unusedVariables false
set_option linter.unusedSectionVars false
namespace Go.Sh
open Go
variable [Gl]
variable {C:Ctx} {G:Glob} {σ:Xa} {w:World} {lim:Nat → Nat} {st:St} {a:Act}
def Ex.out:Ex → Exit
 | .normal => .normal
 | .exit i => .exit i
 | .ret => .ret
def XZ (P:Program) (n:Nat):Code → Bool
 | .region _ ops _ => Zsh P n ops.toList
 | .seq a b => XZ P n a && XZ P n b
 | .cond _ a b => XZ P n a && XZ P n b
 | .block _ c => XZ P n c
 | .loop c => XZ P n c
 | .scope c => XZ P n c
 | _ => true
def WR (G:Glob) (n:Nat) (st:St) (a:Act) (w:World):Prop := ∃ σ lim,Wz G σ lim st a.tmps w ∧ a.tmps.size = n ∧ a.defers = []
theorem ZKT {n:Nat} (h:WR G n st a w) {c:Operand} {t:Bool} (hc:ZaA st.env c = .val (.v (.bool t))):a.eval c = .bool t:=by
 obtain ⟨σ,lim,h,_,_⟩:=h
 have:=(ZB h.1 c).1
 rw [hc] at this
 simpa only [RA,RP] using this
theorem ZlP {n:Nat} (h:WR G n st a w) {q:Nat} (hq:q < Qa):WR G n (ZCO st q) a w:=by
 obtain ⟨σ,lim,h,h2,h3⟩:=h
 unfold ZCO
 split
 ·rename_i t xss hT
  obtain ⟨lim',h4⟩:=RelW.melt h.1 h.2 hq hT
  exact ⟨σ,lim',h4,h2,h3⟩
 ·exact ⟨σ,lim,h,h2,h3⟩
theorem Zvu {n:Nat} (h:WR G n st a w) (id:Nat):WR G n (Zho C id st) a w:=by
 have hL:Low G st:=by obtain ⟨_,_,⟨_,hL⟩,_,_⟩:=h; exact hL
 unfold Zho
 split
 ·split
  ·rename_i s _ _ q hs
   exact ZlP h (hL.env s q (by rw [hs]; simp [Zi]))
  ·exact h
 ·split
  ·rename_i s k _ _ r hs
   unfold ZO8
   split
   ·rename_i cs hr
    split
    ·rename_i q hq
     exact ZlP h (hL.box r cs hr q (Y1 (List.mem_of_getElem? hq) (by simp [Zi])))
    ·exact h
   ·exact h
  ·exact h
 ·exact h
theorem WA (hC:∀ f cal,C.Φ f = some cal → Ctr C.P C.k f cal) (hm:C.P.follows .mixedOrders = true) {A:Nat → Ann} {kp:List Nat} (hk:∀ p ∈ G.pins,p.1 ∈ kp) {n:Nat} {R:Type} {r:R} :
  (c:Code) → {st:St} → {K:Ex → St → Option R} → Xt C A kp c st K = some r → XZ C.P n c = true → {a:Act} → {w:World} → WR G n st a w → {Q:Exit → Act → World → Prop} →
  (∀ e st' a' w',K e st' = some r → WR G n st' a' w' → Q e.out a' w') → c.wp C.P Q a w
 | .skip,st,K,h,hf,a,w,hs,Q,hQ => wp_skip (hQ .normal st a w h hs)
 | .label _,st,K,h,hf,a,w,hs,Q,hQ => wp_label (hQ .normal st a w h hs)
 | .ret,st,K,h,hf,a,w,hs,Q,hQ => wp_ret (hQ .ret st a w h hs)
 | .exit i,st,K,h,hf,a,w,hs,Q,hQ => wp_exit (hQ (.exit i) st a w h hs)
 | .region id ops d,st,K,h,hf,a,w,hs,Q,hQ => by
  simp only [Xt] at h
  simp only [XZ] at hf
  obtain ⟨σ,lim,hR,hn,hd⟩:=Zvu (C:=C) hs id
  have hb:∃ stf lgs,Zld C id ops.toList ops.toList 0 (Zho C id st) = some (stf,lgs) ∧ (d = true → Kv ops.toList (YE ops.toList []) lgs = true) ∧ K .normal stf = some r:=by
   cases d with
   | false =>
    simp only [cond_false,ZvA] at h
    cases ho:Zld C id ops.toList ops.toList 0 (Zho C id st) with
    | none => rw [ho] at h; simp at h
    | some x => rw [ho] at h; exact ⟨x.1,x.2,rfl,by simp,h⟩
   | true =>
    simp only [cond_true,Zkf,List.nil_append] at h
    cases ho:Zld C id ops.toList ops.toList 0 (Zho C id st) with
    | none => rw [ho] at h; simp at h
    | some x =>
     rw [ho] at h
     simp only [Option.bind_some] at h
     cases hi:Kv ops.toList (YE ops.toList []) x.2 with
     | false => rw [hi] at h; simp at h
     | true => rw [hi] at h; exact ⟨x.1,x.2,rfl,fun _ => hi,h⟩
  obtain ⟨stf,lgs,h1,h2,h3⟩:=hb
  exact ZvF hC hm hf hR hn hd h1 h2 fun a' w' σ' lim' hR' hn' hd' => hQ .normal stf a' w' h3 ⟨σ',lim',hR',hn',hd'⟩
 | .seq x y,st,K,h,hf,a,w,hs,Q,hQ => by
  simp only [Xt] at h
  simp only [XZ,Bool.and_eq_true] at hf
  refine wp_seq (WA hC hm hk x h hf.1 hs fun e st' a' w' hK hs' => ?_)
  cases e with
  | normal => exact WA hC hm hk y hK hf.2 hs' hQ
  | exit i => exact hQ (.exit i) st' a' w' hK hs'
  | ret => exact hQ .ret st' a' w' hK hs'
 | .cond c x y,st,K,h,hf,a,w,hs,Q,hQ => by
  simp only [Xt] at h
  simp only [XZ,Bool.and_eq_true] at hf
  split at h
  ·rename_i t hc
   have e1:=ZKT hs hc
   cases t with
   | true =>
    refine wp_cond_true e1 (WA hC hm (A:=A) hk x (K:=K) ?_ hf.1 hs hQ)
    cases c with
    | tmp d => simp only [ZaA] at hc; simpa only [cond_true,Zlp hc] using h
    | _ => exact h
   | false =>
    refine wp_cond_false e1 (WA hC hm (A:=A) hk y (K:=K) ?_ hf.2 hs hQ)
    cases c with
    | tmp d => simp only [ZaA] at hc; simpa only [cond_false,Zlp hc] using h
    | _ => exact h
  ·simp at h
 | .block id c,st,K,h,hf,a,w,hs,Q,hQ => by
  simp only [Xt] at h
  simp only [XZ] at hf
  refine wp_block (WA hC hm hk c h hf hs fun e st' a' w' hK hs' => ?_)
  cases e with
  | normal => exact hQ .normal st' a' w' hK hs'
  | ret => exact hQ .ret st' a' w' hK hs'
  | exit i =>
   simp only [Zs7] at hK
   simp only [Ex.out,Exit.inBlock]
   cases hb:Nat.beq i id with
   | true => rw [hb] at hK; rw [if_pos (Z4 hb)]; exact hQ .normal st' a' w' hK hs'
   | false =>
    rw [hb] at hK
    rw [if_neg (by rintro rfl; rw [W8] at hb; cases hb)]
    exact hQ (.exit i) st' a' w' hK hs'
 | .loop c,st,K,h,hf,a,w,hs,Q,hQ => by
  simp only [Xt] at h
  simp only [XZ] at hf
  have key:∀ (m:Nat) (st:St) (a:Act) (w:World),ZgI (Xt C A kp c) (ZqV kp (A (Qz c))) m st K = some r → WR G n st a w → Code.rounds C.P c Q m a w:=by
   intro m
   induction m with
   | zero => intro st a w h; simp [ZgI] at h
   | succ m ih =>
    intro st a w h hs
    rw [rounds_succ]
    simp only [ZgI] at h
    refine WA hC hm hk c h hf hs fun e st' a' w' hK hs' => ?_
    cases e with
    | ret => exact hQ .ret st' a' w' hK hs'
    | exit i => exact hQ (.exit i) st' a' w' hK hs'
    | normal =>
     cases hn:ZqV kp (A (Qz c)) st' with
     | none => rw [hn] at hK; simp at hK
     | some s =>
      rw [hn] at hK
      obtain ⟨σ,lim,hR,q1,q2⟩:=hs'
      obtain ⟨σ2,lim2,hR2⟩:=Zp1 hR hk hn
      exact ih s a' w' hK ⟨σ2,lim2,hR2,q1,q2⟩
  cases hn:ZqV kp (A (Qz c)) st with
  | none => rw [hn] at h; simp at h
  | some s =>
   rw [hn] at h
   obtain ⟨σ,lim,hR,q1,q2⟩:=hs
   obtain ⟨σ2,lim2,hR2⟩:=Zp1 hR hk hn
   exact wp_loop_rounds C.k (key C.k s a w h ⟨σ2,lim2,hR2,q1,q2⟩)
 | .scope c,st,K,h,hf,a,w,hs,Q,hQ => by
  simp only [Xt] at h
  simp only [XZ] at hf
  refine wp_scope_straight (WA hC hm hk c h hf hs fun e st' a' w' hK hs' => ?_)
  cases e <;> exact hQ _ st' a' w' hK hs'
 | .rangeFunc _ _ _ _,st,K,h,hf,a,w,hs,Q,hQ => by simp [Xt] at h
 | .goto _,st,K,h,hf,a,w,hs,Q,hQ => by simp [Xt] at h
end Go.Sh
namespace Go.Sh
open Go
variable [Gl]
variable {C:Ctx} {G:Glob} {σ:Xa} {w:World} {lim:Nat → Nat} {st:St} {tmps:Array Value}
theorem ZA2 {P:Program} {T:TypeId} {v x:Value} (h:(Instr.loadAt T v).run P w = .ok x w):(asAddr v >>= fun p => loadVar T p:Sem Value).run P w = .ok x w:=by
 unfold Instr.loadAt at h
 unfold Instr.sureAddr at h
 split at h
 ·simpa [asAddr] using h
 ·simp [stuck,Sem.run_bind] at h
def Zqk (tmps:Array Value):ResultVar → Sem Value
 | .tmp t => pure (tmps.getD t undef)
 | .cell a t => do loadVar t (← asAddr (tmps.getD a undef))
theorem Zqj (h:RelW G σ lim st tmps w) {r:ResultVar} {l l':List Nat} {x:AV} (hm:(Zcr C st r).run st.tbl l = some (x,l')) :
  ∃ v,(Zqk tmps r).run C.P w = .ok v w ∧ RA σ w lim x v ∧ Zv st.tbl (Zi x):=by
 cases r with
 | tmp t =>
  obtain ⟨rfl,_⟩:=M.run_ret hm
  exact ⟨_,rfl,h.env t,h.known t⟩
 | cell a T =>
  simp only [Zcr] at hm
  obtain ⟨e,l1,h1,h2⟩:=M.run_bind_some hm
  obtain ⟨rfl,_⟩:=M.run_ret h2
  obtain ⟨v,e1,e2,e3,e4⟩:=ZpS h1 (h.env a) h.res
  exact ⟨v,ZA2 e1,e2,e3⟩
theorem Zdl (h:RelW G σ lim st tmps w):(rs:List ResultVar) → {l l':List Nat} → {xs:List AV} → (Ys C st rs).run st.tbl l = some (xs,l') →
  ∃ vs,(rs.mapM (Zqk tmps)).run C.P w = .ok vs w ∧ Z9 σ w lim xs vs ∧ Zv st.tbl (Zu xs)
 | [],l,l',xs,hm => by
  obtain ⟨rfl,_⟩:=M.run_ret hm
  exact ⟨[],rfl,by simp [Z9],by simp [Zu,Zv]⟩
 | r :: rs,l,l',xs,hm => by
  simp only [Ys] at hm
  obtain ⟨x,l1,h1,h2⟩:=M.run_bind_some hm
  obtain ⟨ys,l2,h3,h4⟩:=M.run_bind_some h2
  obtain ⟨rfl,_⟩:=M.run_ret h4
  obtain ⟨v,e1,e2,e3⟩:=Zqj h h1
  obtain ⟨vs,f1,f2,f3⟩:=Zdl h rs h3
  refine ⟨v :: vs,?_,by simp only [Z9]; exact ⟨e2,f2⟩,?_⟩
  ·simp [List.mapM_cons,Sem.run_bind,e1,f1]
  ·intro i hi; simp only [Zu,List.mem_append] at hi; rcases hi with hi | hi; exact e3 i hi; exact f3 i hi
theorem ZgP {st st2:St} (he:st2.env = st.env):∀ (rs:List ResultVar),Ys C st rs = Ys C st2 rs
 | [] => rfl
 | r :: rs => by
  have h1:Zcr C st r = Zcr C st2 r:=by cases r <;> simp only [Zcr,he]
  simp only [Ys,h1,ZgP he rs]
theorem ZqY (h:RelW G σ lim st tmps w) {fn:Func} {l l':List Nat} {xs:List AV} (hm:(Ys C st fn.results.toList).run st.tbl l = some (xs,l')) :
  ∃ v,(results fn tmps).run C.P w = .ok v w ∧ RA σ w lim (match (generalizing:=false) xs with | [a] => a | as => .tup as) v:=by
 obtain ⟨vs,e1,e2,e3⟩:=Zdl h _ hm
 have e0:results fn tmps = (do let vs ← fn.results.mapM (Zqk tmps); pure (if h:vs.size = 1 then vs[0] else .tuple vs)):=by
  unfold results
  congr 1
 rw [e0,Array.mapM_eq_mapM_toList]
 match xs,vs,e2 with
 | [x],[v],e2 =>
  refine ⟨v,?_,by simpa [Z9] using e2⟩
  simp [Sem.run_bind,Sem.run_map,e1]
 | [],[],e2 =>
  refine ⟨.tuple #[],?_,by simp only [RA]; exact ⟨[],rfl,by simp [Z9]⟩⟩
  simp [Sem.run_bind,Sem.run_map,e1]
 | x :: y :: xs,v :: u :: vs,e2 =>
  refine ⟨.tuple (v :: u :: vs).toArray,?_,by simp only [RA]; exact ⟨_,rfl,e2⟩⟩
  simp [Sem.run_bind,Sem.run_map,e1]
 | [],_ :: _,e2 => simp [Z9] at e2
 | _ :: _,[],e2 => simp [Z9] at e2
 | [_],_ :: _ :: _,e2 => simp [Z9] at e2
 | _ :: _ :: _,[_],e2 => simp [Z9] at e2
def X2:List Kd → List Value → List Value
 | .box _ :: l,a :: as => a :: X2 l as
 | .bld _ :: l,a :: as => a :: X2 l as
 | _ :: l,_ :: as => X2 l as
 | _,_ => []
def Y7:List AV → List Value → List (Nat × Value)
 | .bx r _ :: l,v :: vs => (r,v) :: Y7 l vs
 | _ :: l,_ :: vs => Y7 l vs
 | _,_ => []
theorem ZjG:(as:List AV) → (vs:List Value) → ∀ p ∈ Y7 as vs,p.1 ∈ Wu as
 | [],vs,p,hp => by cases vs <;> simp [Y7] at hp
 | x :: as,[],p,hp => by cases x <;> simp [Y7] at hp
 | x :: as,v :: vs,p,hp => by
  cases x with
  | bx r k =>
   simp only [Y7,List.mem_cons] at hp
   simp only [Wu,List.mem_cons]
   rcases hp with rfl | hp
   ·exact .inl rfl
   ·exact .inr (ZjG as vs p hp)
  | _ => simp only [Y7] at hp; simp only [Wu]; exact ZjG as vs p hp
theorem ZCM:(pk:List Kd) → {as:List AV} → {vs:List Value} → Z9 σ w lim as vs → Z9 σ w lim (QD pk as) (X2 pk vs)
 | [],as,vs,h => by cases as <;> cases vs <;> simp [QD,X2,Z9]
 | k :: pk,as,vs,h => by
  match as,vs,h with
  | [],[],h => cases k <;> simp [QD,X2,Z9]
  | x :: as,v :: vs,h =>
   simp only [Z9] at h
   have ih:=ZCM pk h.2
   cases k <;> simp only [QD,X2,Z9] <;> first | exact ih | exact ⟨h.1,ih⟩
  | [],_ :: _,h => simp [Z9] at h
  | _ :: _,[],h => simp [Z9] at h
def Yv (as:List AV):Bool:=as.all fun | .bx _ 0 => true | _ => false
theorem ZSB {as:List AV} {vs:List Value} (hb:Yv as = true) (h:Z9 σ w lim as vs):∀ p ∈ Y7 as vs,σ p.1 = p.2:=by
 induction as generalizing vs with
 | nil => intro p hp; cases vs <;> simp [Y7] at hp
 | cons x as ih =>
  cases vs with
  | nil => simp [Z9] at h
  | cons v vs =>
   simp only [Z9] at h
   simp only [Yv,List.all_cons,Bool.and_eq_true] at hb
   intro p hp
   obtain ⟨hb1,hb2⟩:=hb
   split at hb1
   ·rename_i r
    simp only [Y7,List.mem_cons] at hp
    rcases hp with rfl | hp
    ·have:=h.1
     simp only [RA] at this
     obtain ⟨b,e1,e2⟩:=this
     rw [e1,e2]
    ·exact ih hb2 h.2 p hp
   ·cases hb1
theorem ZBd {σ':Xa} {w':World} {lim':Nat → Nat} {as:List AV} {vs:List Value} (hb:Yv as = true) (h:Z9 σ w lim as vs) (hp:∀ p ∈ Y7 as vs,σ' p.1 = p.2):Z9 σ' w' lim' as vs:=by
 induction as generalizing vs with
 | nil => cases vs <;> simp [Z9] at h ⊢
 | cons x as ih =>
  cases vs with
  | nil => simp [Z9] at h
  | cons v vs =>
   simp only [Z9] at h ⊢
   simp only [Yv,List.all_cons,Bool.and_eq_true] at hb
   obtain ⟨hb1,hb2⟩:=hb
   split at hb1
   ·rename_i r
    simp only [Y7,List.mem_cons] at hp
    refine ⟨?_,ih hb2 h.2 fun p hm => hp p (.inr hm)⟩
    have h1:=h.1
    simp only [RA] at h1 ⊢
    obtain ⟨b,e1,e2⟩:=h1
    exact ⟨b,by rw [hp (r,v) (.inl rfl)]; exact e2,e2⟩
   ·cases hb1
theorem ZC4:(pk:List Kd) → {vs:List Value} → {rs:List RV} → {bs:List Nat} → vs.length = pk.length → TTs w lim rs (X2 pk vs) bs → TL w lim pk vs rs bs
 | [],[],rs,bs,_,h => by
  simp only [X2] at h
  cases rs with
  | nil => simpa [TL,TTs] using h
  | cons _ _ => simp [TTs] at h
 | k :: pk,v :: vs,rs,bs,hl,h => by
  have hl':vs.length = pk.length:=by simpa using hl
  cases k with
  | box l =>
   simp only [X2] at h
   cases rs with
   | nil => simp [TTs] at h
   | cons x rs =>
    simp only [TTs] at h
    simp only [TL]
    obtain ⟨b1,b2,e,h1,h2⟩:=h
    exact ⟨b1,b2,e,h1,ZC4 pk hl' h2⟩
  | bld T =>
   simp only [X2] at h
   cases rs with
   | nil => simp [TTs] at h
   | cons x rs =>
    simp only [TTs] at h
    simp only [TL]
    obtain ⟨b1,b2,e,h1,h2⟩:=h
    exact ⟨b1,b2,e,h1,ZC4 pk hl' h2⟩
  | _ => simp only [X2] at h; simp only [TL]; exact ZC4 pk hl' h
 | [],_ :: _,rs,bs,hl,_ => by simp at hl
 | _ :: _,[],rs,bs,hl,_ => by simp at hl
theorem Zcy:∀ (u:Wi),ZA u = Qg.put (fun _ => .fresh) u
 | [] => rfl
 | (a,x) :: u => by
  funext r
  simp only [ZA,Qg.put,ZM,Zcy u]
  rw [show Nat.beq a r = Nat.beq r a from by
   cases h:Nat.beq r a with
   | true => rw [Z4 h]; exact W8 _
   | false => exact ZcF fun e => by rw [e,W8] at h; cases h]
  cases Nat.beq r a <;> rfl
theorem ZaN:∀ (as:List AV) (i s:Nat),ZC (index i as) s = .dead ∨ ∃ j,s = i + j ∧ as[j]? = some (ZC (index i as) s)
 | [],i,s => .inl rfl
 | x :: as,i,s => by
  simp only [index,ZC]
  cases h:Nat.beq s i with
  | true => exact .inr ⟨0,by simpa using Z4 h,rfl⟩
  | false =>
   simp only [cond_false]
   rcases ZaN as (i + 1) s with h | ⟨j,h1,h2⟩
   ·exact .inl h
   ·exact .inr ⟨j + 1,by omega,by simpa using h2⟩
theorem Zso {as:List AV} {j:Nat} {x:AV} (h:as[j]? = some x):∀ r ∈ Zi x,r ∈ Zu as:=by
 induction as generalizing j with
 | nil => simp at h
 | cons y as ih =>
  intro r hr
  simp only [Zu,List.mem_append]
  cases j with
  | zero => simp at h; subst h; exact .inl hr
  | succ j => exact .inr (ih (by simpa using h) r hr)
theorem ZgV {as:List AV} {vs:List Value} (h:Z9 σ w lim as vs):as.length = vs.length:=by
 induction as generalizing vs with
 | nil => cases vs <;> simp [Z9] at h ⊢
 | cons x as ih =>
  cases vs with
  | nil => simp [Z9] at h
  | cons v vs => simp only [Z9] at h; simp [ih h.2]
theorem ZeT:(xs:List RV) → (n:Nat) → (ZW n xs).1.length = xs.length
 | [],n => rfl
 | x :: xs,n => by simp only [ZW,List.length_cons,ZeT xs]
theorem Yd:(pk:List Kd) → (as:List AV) → ∀ r ∈ Wu (QD pk as),r ∈ Zu as
 | [],as,r,hr => by cases as <;> simp [QD,Wu] at hr
 | k :: pk,[],r,hr => by cases k <;> simp [QD,Wu] at hr
 | k :: pk,x :: as,r,hr => by
  simp only [Zu,List.mem_append]
  cases k with
  | box l =>
   simp only [QD] at hr
   cases x with
   | bx b j =>
    simp only [Wu,List.mem_cons] at hr
    rcases hr with rfl | hr
    ·exact .inl (by simp [Zi])
    ·exact .inr (Yd pk as r hr)
   | _ => simp only [Wu] at hr; exact .inr (Yd pk as r hr)
  | bld T =>
   simp only [QD] at hr
   cases x with
   | bx b j =>
    simp only [Wu,List.mem_cons] at hr
    rcases hr with rfl | hr
    ·exact .inl (by simp [Zi])
    ·exact .inr (Yd pk as r hr)
   | _ => simp only [Wu] at hr; exact .inr (Yd pk as r hr)
  | _ => simp only [QD] at hr; exact .inr (Yd pk as r hr)
mutual
theorem ZN6:(x:RV) → (n:Nat) → (∀ r ∈ Zi (put n x).1,r < (put n x).2.2) ∧ ∀ p ∈ (put n x).2.1,p.1 < (put n x).2.2 ∧ Zay p.2 = true ∧ ∀ cs,p.2 = .live (.box cs) → ∀ q ∈ Zu cs,q < (put n x).2.2
 | .view t x,n => by simp only [put]; rw [ZnB]; simp
 | .own t sh xs,n => by simp [put,Zi,Zay]
 | .box cs,n => by
  obtain ⟨h1,h2⟩:=Zco cs (n + 1)
  have hle:=Xk cs (n + 1)
  simp only [put]
  refine ⟨by intro r hr; simp [Zi] at hr; omega,fun p hp => ?_⟩
  cases hp with
  | head => exact ⟨by simp only; omega,rfl,fun ds hd => by simp only [RS.live.injEq,Res.box.injEq] at hd; subst hd; exact h1⟩
  | tail _ hp => exact h2 p hp
 | .agg cs,n => by
  obtain ⟨h1,h2⟩:=Zco cs n
  simp only [put]
  exact ⟨by simpa [Zi] using h1,h2⟩
 | .tup cs,n => by
  obtain ⟨h1,h2⟩:=Zco cs n
  simp only [put]
  exact ⟨by simpa [Zi] using h1,h2⟩
 | .fn f,n => by simp [put,Zi]
 | .ns t xs,n => by simp [put,Zi]
 | .clo f cs,n => by
  obtain ⟨h1,h2⟩:=Zco cs n
  simp only [put]
  exact ⟨by simpa [Zi] using h1,h2⟩
 | .bld T xs,n => by
  simp only [put]
  refine ⟨by intro r hr; simp [Zi] at hr; omega,fun p hp => ?_⟩
  simp only [List.mem_cons,List.not_mem_nil,or_false] at hp
  rcases hp with rfl | rfl
  ·refine ⟨by simp only; omega,rfl,fun cs hc q hq => ?_⟩
   simp only [RS.live.injEq,Res.box.injEq] at hc
   subst hc
   simp [Zu,Zi] at hq
   omega
  ·exact ⟨by simp only; omega,rfl,fun cs hc => by cases hc⟩
theorem Zco:(xs:List RV) → (n:Nat) → (∀ r ∈ Zu (ZW n xs).1,r < (ZW n xs).2.2) ∧ ∀ p ∈ (ZW n xs).2.1,p.1 < (ZW n xs).2.2 ∧ Zay p.2 = true ∧ ∀ cs,p.2 = .live (.box cs) → ∀ q ∈ Zu cs,q < (ZW n xs).2.2
 | [],n => by simp [ZW,Zu]
 | x :: xs,n => by
  obtain ⟨h1,h2⟩:=ZN6 x n
  obtain ⟨h3,h4⟩:=Zco xs (put n x).2.2
  have hle:=Xk xs (put n x).2.2
  simp only [ZW]
  refine ⟨fun r hr => ?_,fun p hp => ?_⟩
  ·simp only [Zu,List.mem_append] at hr
   rcases hr with hr | hr
   ·have:=h1 r hr; omega
   ·exact h3 r hr
  ·rcases List.mem_append.1 hp with hp | hp
   ·exact h4 p hp
   ·obtain ⟨a,b,c⟩:=h2 p hp
    exact ⟨by omega,b,fun cs hc q hq => by have:=c cs hc q hq; omega⟩
end
theorem ZDq:XE (fun _ => .fresh) = fun _ => .fresh:=by
 funext n
 simp only [XE,Zgu,ite_self]
theorem ZPj {avs:List AV} {u:Wi} (h:RelW G σ lim (enter avs u) tmps w) (hu:∀ p ∈ u,p.1 < Qa ∧ Zay p.2 = true ∧ ∀ cs,p.2 = .live (.box cs) → ∀ q ∈ Zu cs,q < Qa)
  (hids:∀ r ∈ Zu avs,r < Qa) (hp:∀ p ∈ G.pins,p.1 < Qa):Wz G σ lim (enter avs u) tmps w:=by
 have e:ZA u = Qg.put (fun _ => .fresh) u:=Zcy u
 unfold enter at h ⊢
 rw [e] at h ⊢
 refine Wz.of_put (T:=fun _ => .fresh) (by rw [ZDq]; exact h) (fun p hp => ⟨(hu p hp).1,(hu p hp).2.1⟩) ⟨fun s r hr => ?_,fun r cs hr => ?_,hp⟩
 ·simp only at hr
  rcases ZaN avs 0 s with h | ⟨j,h1,h2⟩
  ·rw [h] at hr; simp [Zi] at hr
  ·exact hids r (Zso h2 r hr)
 ·simp only [Qg.put] at hr
  cases hl:ZM u r with
  | none => rw [hl] at hr; cases hr
  | some z => rw [hl] at hr; simp only at hr; exact (hu _ (Wv hl)).2.2 cs hr
theorem ZpB:(ks:List Kd) → (as:List AV) → Xr ks as = true → (Qn ks as).length = (ZY ks).length
 | [],[],_ => rfl
 | [],_ :: _,h => by simp [Xr] at h
 | k :: ks,[],h => by cases k <;> simp [Xr] at h
 | k :: ks,a :: as,h => by
  cases k with
  | clo f l =>
   cases a with
   | clo g cs =>
    simp only [Xr,Bool.and_eq_true] at h
    have:=Z4 h.1
    simp only [Qn,ZY,List.length_append,ZpB ks as h.2,this]
   | _ => simp [Xr] at h
  | _ => simp only [Xr] at h; simp only [Qn,ZY,List.length_cons,ZpB ks as h]
def ZjA:List Kd → Nat
 | [] => 0
 | .ref _ :: l => ZjA l + 1
 | _ :: l => ZjA l
theorem ZlN:(ks:List Kd) → KL ks = false → ZjA ks = 0
 | [],_ => rfl
 | k :: ks,h => by
  cases k with
  | ref l => simp [KL] at h
  | _ => simp only [KL] at h; simp only [ZjA]; exact ZlN ks h
theorem Zc4:(ks:List Kd) → (cs:List AV) → {q:List Nat} → ZL ks cs = some q → q.length = ZjA ks
 | [],[],q,h => by simp [ZL] at h; subst h; rfl
 | k :: ks,a :: as,q,h => by
  have other:(∀ l,k ≠ .ref l) → q.length = ZjA (k :: ks):=by
   intro hk
   have e:ZL (k :: ks) (a :: as) = ZL ks as:=by cases k <;> first | rfl | exact absurd rfl (hk _)
   have e2:ZjA (k :: ks) = ZjA ks:=by cases k <;> first | rfl | exact absurd rfl (hk _)
   rw [e] at h
   rw [e2]; exact Zc4 ks as h
  cases k with
  | ref l =>
   cases a with
   | bx s kk =>
    cases kk with
    | succ kk => simp [ZL] at h
    | zero =>
     simp only [ZL] at h
     cases hq2:ZL ks as with
     | none => rw [hq2] at h; simp at h
     | some q2 =>
      rw [hq2] at h
      simp only [Option.some.injEq] at h
      subst h
      simp only [List.length_cons,ZjA,Zc4 ks as hq2]
   | _ => simp [ZL] at h
  | _ => exact other (by intro l; simp)
 | [],_ :: _,q,h => by simp [ZL] at h
 | k :: _,[],q,h => by cases k <;> simp [ZL] at h
theorem ZjS {σ:Xa}:(ks:List Kd) → (q:List Nat) → (vs vs':List Value) → q.length = ZjA ks → Qm σ q ks vs → Qm σ q ks vs' → YM ks vs vs'
 | [],q,vs,vs',_,_,_ => by simp [YM]
 | k :: ks,q,[],vs',_,_,_ => by cases k <;> simp [YM]
 | k :: ks,q,v :: vs,[],_,_,_ => by cases k <;> simp [YM]
 | k :: ks,q,v :: vs,v' :: vs',hl,h,h' => by
  have other:(∀ l,k ≠ .ref l) → YM (k :: ks) (v :: vs) (v' :: vs'):=by
   intro hk
   have e2:ZjA (k :: ks) = ZjA ks:=by cases k <;> first | rfl | exact absurd rfl (hk _)
   have e3:YM (k :: ks) (v :: vs) (v' :: vs') = YM ks vs vs':=by cases k <;> first | rfl | exact absurd rfl (hk _)
   rw [e3]
   rw [e2] at hl
   cases q with
   | nil => exact ZjS (σ:=σ) ks [] vs vs' hl Wf Wf
   | cons q0 q =>
    have e4:∀ (u:Value) (us:List Value),Qm σ (q0 :: q) (k :: ks) (u :: us) = Qm σ (q0 :: q) ks us:=by intro u us; cases k <;> first | rfl | exact absurd rfl (hk _)
    rw [e4] at h h'
    exact ZjS ks (q0 :: q) vs vs' hl h h'
  cases k with
  | ref l =>
   cases q with
   | nil => simp [ZjA] at hl
   | cons q0 q =>
    simp only [Qm] at h h'
    simp only [YM]
    exact ⟨h'.1.trans h.1.symm,ZjS ks q vs vs' (by simpa [ZjA] using hl) h.2 h'.2⟩
  | _ => exact other (by intro l; simp)
theorem Zlj {σ1:Xa} {w0:World} (h:RelW G σ lim st tmps w):(ks:List Kd) → {as:List AV} → {vs:List Value} → {l l':List Nat} → {nm:List (List Nat)} → (KW ks as).run st.tbl l = some (nm,l') → Z9 σ w lim as vs → W7 σ1 w0 nm ks vs → (∀ q ∈ nm.flatten,σ q = σ1 q) → YU w0 w ks vs
 | [],as,vs,l,l',nm,hm,hv,hr,hq => by cases vs <;> simp [YU]
 | k :: ks,[],vs,l,l',nm,hm,hv,hr,hq => by
  match vs,hv with
  | [],_ => cases k <;> simp [YU]
 | k :: ks,a :: as,vs,l,l',nm,hm,hv,hr,hq => by
  match vs,hv with
  | v :: vs,hv =>
   simp only [Z9] at hv
   have other:(∀ l,k ≠ .box l) → YU w0 w (k :: ks) (v :: vs):=fun hk => by
    rw [ZaD hk] at hm
    have e:YU w0 w (k :: ks) (v :: vs) = YU w0 w ks vs:=by cases k <;> first | rfl | exact absurd rfl (hk _)
    have e2:W7 σ1 w0 nm (k :: ks) (v :: vs) = W7 σ1 w0 nm ks vs:=by cases k <;> first | (cases nm <;> rfl) | exact absurd rfl (hk _)
    rw [e]
    rw [e2] at hr
    exact Zlj h ks hm hv.2 hr hq
   cases k with
   | box l0 =>
    cases a with
    | bx r kk =>
     cases kk with
     | succ kk => exact (M.run_fail hm).elim
     | zero =>
      simp only [KW] at hm
      obtain ⟨q0,l5,h5,h6⟩:=M.run_bind_some hm
      obtain ⟨qs,l6,h7,h8⟩:=M.run_bind_some h6
      obtain ⟨h9,_⟩:=M.run_ret h8
      subst h9
      simp only [W7] at hr
      simp only [YU]
      refine ⟨fun b cs T fz cs' T' fz' e1 e2 e3 => ?_,Zlj h ks h7 hv.2 hr.2 (fun q' hq' => hq q' (by rw [List.flatten_cons]; exact List.mem_append_right _ hq'))⟩
      have hold:=hr.1 b cs T fz e1 e2
      cases hh:KL l0 with
      | false =>
       have hz:=ZlN l0 hh
       exact ZjS (σ:=σ) l0 [] _ _ (by simp [hz]) Wf Wf
      | true =>
       unfold ZcG at h5
       rw [hh] at h5
       simp only [cond_true,M.run] at h5
       cases hrr:st.tbl r with
       | fresh => simp [hrr,M.run] at h5
       | gone => simp [hrr,M.run] at h5
       | live y =>
        cases y with
        | arr => simp [hrr,M.run] at h5
        | nest => simp [hrr,M.run] at h5
        | box as0 =>
         simp only [hrr] at h5
         have hn:=M.run_ofOpt h5
         obtain ⟨hR,_⟩:=h.res r _ hrr
         obtain ⟨b0,ws,U,f1,f2,f3,f4,_⟩:=Yk hv.1 hR
         rw [e1] at f2
         obtain rfl:b = b0:=by simpa using f2
         rw [e3] at f3
         obtain ⟨rfl,_⟩:cs' = ws ∧ _:=by simpa using f3
         have hnew:=YJ l0 as0 hn f4 (ZhC l0 cs'.toList)
         exact ZjS (σ:=σ1) l0 q0 _ _ (Zc4 l0 as0 hn) hold (XN _ _ _ (fun q' hq' => (hq q' (by rw [List.flatten_cons]; exact List.mem_append_left _ hq')).symm) hnew)
    | _ => exact (M.run_fail hm).elim
   | _ => exact other (by intro l; simp)
  | [],hv => simp [Z9] at hv
theorem ZsC (h : RelW G σ lim st tmps w) : (ks : List Kd) → {as : List AV} → {vs : List Value} → Yv as = true → Z9 σ w lim as vs → W7 σ w (KV st.tbl ks as) ks vs
  | [], as, vs, hb, hv => by
    have : KV st.tbl [] as = [] := by cases as <;> rfl
    rw [this]; cases vs <;> simp [W7]
  | k :: ks, [], vs, hb, hv => by
    match vs, hv with
    | [], _ => cases k <;> simp [KV, W7]
  | k :: ks, a :: as, vs, hb, hv => by
    match vs, hv with
    | v :: vs, hv =>
      simp only [Z9] at hv
      simp only [Yv, List.all_cons, Bool.and_eq_true] at hb
      have ih := ZsC h ks hb.2 hv.2
      have other : (∀ l, k ≠ .box l) → W7 σ w (KV st.tbl (k :: ks) (a :: as)) (k :: ks) (v :: vs) := fun hk => by
        have e : KV st.tbl (k :: ks) (a :: as) = KV st.tbl ks as := by cases k <;> first | rfl | exact absurd rfl (hk _)
        rw [e]
        have e2 : ∀ nm, W7 σ w nm (k :: ks) (v :: vs) = W7 σ w nm ks vs := by intro nm; cases k <;> first | (cases nm <;> rfl) | exact absurd rfl (hk _)
        rw [e2]; exact ih
      cases k with
      | box l0 =>
        cases a with
        | bx r kk =>
         cases kk with
         | succ kk => simp at hb
         | zero =>
          simp only [KV, W7]
          refine ⟨fun b cs T fz e1 e2 => ?_, ih⟩
          cases hh : KL l0 with
          | false => exact Wf
          | true =>
            simp only [cond_true]
            cases hr : st.tbl r with
            | fresh => exact Wf
            | gone => exact Wf
            | live y =>
              cases y with
              | arr => exact Wf
              | nest => exact Wf
              | box as0 =>
                simp only
                cases hn : ZL l0 as0 with
                | none => exact Wf
                | some q =>
                  obtain ⟨hR, _⟩ := h.res r _ hr
                  obtain ⟨b0, ws, U, f1, f2, f3, f4, _⟩ := Yk hv.1 hR
                  rw [e1] at f2
                  obtain rfl : b = b0 := by simpa using f2
                  rw [e2] at f3
                  obtain ⟨rfl, _⟩ : cs = ws ∧ _ := by simpa using f3
                  exact YJ l0 as0 hn f4 (ZhC l0 cs.toList)
        | _ => simp at hb
      | _ => exact other (by intro l; simp)
    | [], hv => simp [Z9] at hv
theorem Zbc {tbl:Qg} {lim:Nat → Nat} (hres:∀ r x,tbl r = .live x → RR σ w lim r x ∧ Zv tbl (Qo r x)):(ks:List Kd) → (as:List AV) → ∀ q ∈ (KV tbl ks as).flatten,∃ r cs,tbl r = .live (.box cs) ∧ q ∈ Zu cs
 | [],as,q,hq => by
  have:KV tbl [] as = []:=by cases as <;> rfl
  rw [this] at hq; simp at hq
 | k :: ks,[],q,hq => by
  have:KV tbl (k :: ks) [] = []:=by cases k <;> rfl
  rw [this] at hq; simp at hq
 | k :: ks,a :: as,q,hq => by
  have other:KV tbl (k :: ks) (a :: as) = KV tbl ks as → ∃ r cs,tbl r = .live (.box cs) ∧ q ∈ Zu cs:=fun e => by
   rw [e] at hq
   exact Zbc hres ks as q hq
  cases k with
  | box l0 =>
   cases a with
   | bx r kk =>
    cases kk with
    | succ kk => exact other rfl
    | zero =>
     simp only [KV,List.flatten_cons,List.mem_append] at hq
     rcases hq with hq | hq
     ·cases hh:KL l0 with
      | false => rw [hh] at hq; simp at hq
      | true =>
       rw [hh] at hq
       simp only [cond_true] at hq
       cases hr:tbl r with
       | fresh => rw [hr] at hq; simp at hq
       | gone => rw [hr] at hq; simp at hq
       | live y =>
        rw [hr] at hq
        cases y with
        | arr => simp at hq
        | nest => simp at hq
        | box as0 =>
         simp only at hq
         cases hn:ZL l0 as0 with
         | none => rw [hn] at hq; simp at hq
         | some q' => rw [hn] at hq; exact ⟨r,as0,hr,K7 l0 as0 hn q hq⟩
     ·exact Zbc hres ks as q hq
   | _ => exact other rfl
  | _ => exact other rfl
theorem ZKd : {a b:List Nat} → nEq a b = true → a = b
 | [],[],_ => rfl
 | x :: a,y :: b,h => by
  simp only [nEq,Bool.and_eq_true] at h
  rw [Z4 h.1,ZKd h.2]
 | [],_ :: _,h => by simp [nEq] at h
 | _ :: _,[],h => by simp [nEq] at h
theorem ZCQ : {a b:List (List Nat)} → ZFu a b = true → a = b
 | [],[],_ => rfl
 | x :: a,y :: b,h => by
  simp only [ZFu,Bool.and_eq_true] at h
  rw [ZKd h.1,ZCQ h.2]
 | [],_ :: _,h => by simp [ZFu] at h
 | _ :: _,[],h => by simp [ZFu] at h
theorem Zgr {w0:World}:(ks:List Kd) → (vs:List Value) → YU w0 w (X1 ks) (X2 ks vs) → YU w0 w ks vs
 | [],vs,_ => by cases vs <;> simp [YU]
 | k :: ks,[],_ => by cases k <;> simp [YU]
 | k :: ks,v :: vs,h => by
  cases k with
  | box l =>
   simp only [X1,X2,YU] at h ⊢
   exact ⟨h.1,Zgr ks vs h.2⟩
  | bld T =>
   simp only [X1,X2,YU] at h ⊢
   exact Zgr ks vs h
  | _ => simp only [X1,X2] at h; simp only [YU]; exact Zgr ks vs h
theorem Zte {rvs:List RV} {vs:List Value} {bs:List Nat} {pk:List Kd} {n:Nat} (hlz:∀ b,w.heap.size ≤ b → lim b = 0) (hgl:ZsT w lim) (hT:TTs w lim rvs vs bs) (hnd:bs.Nodup) (hbs:∀ b ∈ bs,b < w.heap.size)
    (hn:rvs.length ≤ n) (hin:(ZW 0 rvs).2.2 ≤ Qa) (hco:Xr pk (ZW 0 rvs).1 = true) (hb:Yv (QD (ZY pk) (Qn pk (ZW 0 rvs).1)) = true) :
    ∃ σ,WR ⟨w,lim,bs,Y7 (QD (ZY pk) (Qn pk (ZW 0 rvs).1)) (X2 (ZY pk) (Xj pk vs)) ++ (Zbu pk rvs).flatten.map (fun q => (q,σ q))⟩ n (enter (ZW 0 rvs).1 (ZW 0 rvs).2.1) { tmps:=vs.toArray ++ Array.replicate (n - vs.toArray.size) undef,defers:=[] } w ∧
      Z9 σ w lim (QD (ZY pk) (Qn pk (ZW 0 rvs).1)) (X2 (ZY pk) (Xj pk vs)) ∧ vs.length = rvs.length ∧ (Xj pk vs).length = (ZY pk).length ∧ W7 σ w (Zbu pk rvs) (X1 (ZY pk)) (X2 (ZY pk) (Xj pk vs)):=by
  have h0:RelW ⟨w,lim,bs,[]⟩ (fun _ => undef) lim ⟨fun _ => .dead,fun _ => .fresh⟩ (vs.toArray ++ Array.replicate (n - vs.toArray.size) undef) w :=
    { env:=by intro s; simp [RA]
      known:=by intro s; simp [Zi,Zv]
      res:=by intro r x h; simp at h
      inj:=by intro r r' b h; simp [ZZ] at h
      own:=by intro r b h; simp [ZZ] at h
      ext:=Ext.refl _ _
      keep:=fun _ _ _ => rfl
      same:=⟨rfl,rfl,rfl⟩
      lz:=hlz
      limk:=fun _ _ _ => rfl
      glob:=hgl
      pin:=by intro p hp; simp at hp }
  obtain ⟨σ,hP,hA,hK⟩:=Xy rvs 0 h0 hT (fun _ _ _ => rfl) ⟨hnd,fun b hb => ⟨.inr hb,by intro r h; simp [ZZ] at h⟩⟩
  have hlen:vs.length = rvs.length:=by rw [← ZeT rvs 0]; exact (ZgV hA).symm
  have hfA:=Zno pk hco hA
  have hL:=ZCM (ZY pk) hfA
  have hfl:(Xj pk vs).length = (ZY pk).length:=by rw [← ZgV hfA]; exact ZpB pk _ hco
  have hrv:W7 σ w (Zbu pk rvs) (X1 (ZY pk)) (X2 (ZY pk) (Xj pk vs)):=by
    have:=ZsC hP.rel (X1 (ZY pk)) hb hL
    simp only at this
    rw [← Zcy] at this
    exact this
  refine ⟨σ,⟨σ,lim,?_,by simp; omega,rfl⟩,hL,hlen,hfl,hrv⟩
  have hR:=hP.rel
  simp only at hR hK
  rw [← Zcy] at hR hK
  have hpin:=ZSB hb hL
  obtain ⟨lw1,lw2⟩:=Zco rvs 0
  refine ZPj ?_ (fun p hp => ⟨Nat.lt_of_lt_of_le (lw2 p hp).1 hin,(lw2 p hp).2.1,fun cs hc q hq => Nat.lt_of_lt_of_le ((lw2 p hp).2.2 cs hc q hq) hin⟩) (fun r hr => Nat.lt_of_lt_of_le (lw1 r hr) hin)
    (fun p hp => by
      rcases List.mem_append.1 hp with hp | hp
      · exact Nat.lt_of_lt_of_le (lw1 p.1 (ZeD pk _ _ (Yd (ZY pk) _ _ (ZjG _ _ p hp)))) hin
      · obtain ⟨q,hq,rfl⟩:=List.mem_map.1 hp
        obtain ⟨r,cs,hr,hqc⟩:=Zbc hR.res (X1 (ZY pk)) (QD (ZY pk) (Qn pk (ZW 0 rvs).1)) q hq
        simp only [Zcy,Qg.put] at hr
        cases hl:ZM (ZW 0 rvs).2.1 r with
        | none => rw [hl] at hr; cases hr
        | some z => rw [hl] at hr; simp only at hr; exact Nat.lt_of_lt_of_le ((lw2 _ (Wv hl)).2.2 cs hr q hqc) hin)
  exact
    { env:=by
        intro s
        rcases ZaN (ZW 0 rvs).1 0 s with h | ⟨j,h1,h2⟩
        · simp only [enter,h,RA]
        · have hs:s = j:=by omega
          subst hs
          have hjl:s < vs.length:=by
            rw [← ZgV hA]
            rcases Nat.lt_or_ge s (ZW 0 rvs).1.length with h | h
            · exact h
            · rw [List.getElem?_eq_none h] at h2; cases h2
          have hv:vs[s]? = some vs[s]:=by simp [hjl]
          have:=Zzd hA h2 hv
          simp only [enter]
          rw [Array.getD_eq_getD_getElem?,Array.getElem?_append_left (by simpa using hjl)]
          simpa [hv] using this
      known:=by
        intro s
        rcases ZaN (ZW 0 rvs).1 0 s with h | ⟨j,h1,h2⟩
        · simp [enter,h,Zi,Zv]
        · intro r hr
          exact hK r (Zso h2 r hr)
      res:=hR.res,inj:=hR.inj,own:=hR.own,ext:=hR.ext,keep:=hR.keep,same:=hR.same,lz:=hR.lz,limk:=hR.limk,glob:=hR.glob
      pin:=by
        intro p hp
        rcases List.mem_append.1 hp with hp | hp
        · refine ⟨hpin p hp,?_⟩
          exact hK p.1 (ZeD pk _ _ (Yd (ZY pk) _ _ (ZjG _ _ p hp)))
        · obtain ⟨q,hq,rfl⟩:=List.mem_map.1 hp
          obtain ⟨r,cs,hr,hqc⟩:=Zbc hR.res (X1 (ZY pk)) (QD (ZY pk) (Qn pk (ZW 0 rvs).1)) q hq
          exact ⟨rfl,(hR.res r _ hr).2 q hqc⟩ }
def ZC7 (w:World) (lim:Nat → Nat) (vs:List Value) (bs:List Nat) (pk:List Kd) (r:RV × List RV):Ending → World → Prop:=fun e w' => ∃ v lim' b1 b2,e = .returned v ∧ Ext w lim w' lim' ∧ (∀ b,w'.heap.size ≤ b → lim' b = 0) ∧
   (w'.os = w.os ∧ w'.tape = w.tape ∧ w'.output = w.output) ∧ (∀ b,b < w.heap.size → b ∉ bs → w'.heap[b]? = w.heap[b]? ∧ lim' b = lim b) ∧
   TT w' lim' r.1 v b1 ∧ TL w' lim' (ZY pk) (Xj pk vs) r.2 b2 ∧ YU w w' (ZY pk) (Xj pk vs) ∧ (b1 ++ b2).Nodup ∧ ∀ b ∈ b1 ++ b2,b ∈ bs ∨ w.heap.size ≤ b
theorem Zsl {f:Nat} {fn:Func} {code:Code} {pk:List Kd} {rk:Kd} {rvs:List RV} {r:RV × List RV} {vs:List Value} {bs:List Nat} (hf:C.P.funcs[f]? = some fn) (hb:fn.body = some code)
  (hlz:∀ b,w.heap.size ≤ b → lim b = 0) (hgl:ZsT w lim) (hT:TTs w lim rvs vs bs) (hnd:bs.Nodup) (hbs:∀ b ∈ bs,b < w.heap.size) (hbx:Yv (QD (ZY pk) (Qn pk (ZW 0 rvs).1)) = true) (hn:rvs.length ≤ fn.ntmps) (hin:(ZW 0 rvs).2.2 ≤ Qa) (hco:Xr pk (ZW 0 rvs).1 = true)
  (hwp:∀ (G:Glob),(∀ p ∈ G.pins,p.1 ∈ Wu (QD (ZY pk) (Qn pk (ZW 0 rvs).1)) ++ (Zbu pk rvs).flatten) → WR G fn.ntmps (enter (ZW 0 rvs).1 (ZW 0 rvs).2.1) { tmps:=vs.toArray ++ Array.replicate (fn.ntmps - vs.toArray.size) undef,defers:=[] } w →
   code.wp C.P (fun e a w => ∃ e' st',e = Ex.out e' ∧ Y3 C fn.results.toList pk (QD (ZY pk) (Qn pk (ZW 0 rvs).1)) (Zbu pk rvs) rk some e' st' = some r ∧ WR G fn.ntmps st' a w) { tmps:=vs.toArray ++ Array.replicate (fn.ntmps - vs.toArray.size) undef,defers:=[] } w) :
  Calls C.P f vs.toArray w (ZC7 w lim vs bs pk r):=by
 obtain ⟨σ0,hS,hL,hlen,hfl,hRV⟩:=Zte (pk:=pk) hlz hgl hT hnd hbs hn hin hco hbx
 refine calls_of_wp hf hb (wp_mono (hwp _ (fun p hp => by
  rcases List.mem_append.1 hp with hp | hp
  ·exact List.mem_append_left _ (ZjG _ _ p hp)
  ·obtain ⟨q,hq,rfl⟩:=List.mem_map.1 hp
   exact List.mem_append_right _ hq) hS) ?_)
 rintro e a' w' ⟨e',st',rfl,hK,hs⟩
 obtain ⟨σ,lim',⟨hR,_⟩,_,hd⟩:=hs
 have leave:(ZpR C fn.results.toList pk (QD (ZY pk) (Qn pk (ZW 0 rvs).1)) (Zbu pk rvs) rk st').runK st'.tbl [] (fun x l => bif Zdq l then some x else none) = some r →
   a'.defers = [] ∧ ∃ v,(results fn a'.tmps).run C.P w' = .ok v w' ∧ ZC7 w lim vs bs pk r (.returned v) w':=by
  intro hl
  rw [M.runK_eq] at hl
  cases hr:(ZpR C fn.results.toList pk (QD (ZY pk) (Qn pk (ZW 0 rvs).1)) (Zbu pk rvs) rk st').run st'.tbl [] with
  | none => rw [hr] at hl; simp at hl
  | some p =>
   obtain ⟨q,lg⟩:=p
   rw [hr] at hl
   simp only [Option.bind_some] at hl
   have hlow:Zdq lg = true:=by
    cases hlg:Zdq lg with
    | true => rfl
    | false => rw [hlg] at hl; cases hl
   rw [hlow] at hl
   simp only [cond_true,Option.some.injEq] at hl
   subst hl
   have hr:=ZvN hr hlow
   unfold ZpR at hr
   rw [ZgP (st:=st') (st2:=⟨st'.env,XE st'.tbl⟩) rfl] at hr
   obtain ⟨as,l1,h1,hr⟩:=M.run_bind_some hr
   obtain ⟨⟨y,u⟩,l2,h2,hr⟩:=M.run_bind_some hr
   obtain ⟨⟨ys,v⟩,l3,h3,hr⟩:=M.run_bind_some hr
   obtain ⟨nm',l4,h4,hr⟩:=M.run_bind_some hr
   obtain ⟨hok,hr2⟩:=M.run_guard hr
   simp only [Bool.and_eq_true] at hok
   obtain ⟨hok,hnm⟩:=hok
   have hnm:=ZCQ hnm
   obtain ⟨hq,_⟩:=M.run_ret hr2
   subst hnm
   obtain ⟨rv,r1,r2⟩:=ZqY hR h1
   obtain ⟨g1,k1⟩:=ZsN (st:=⟨st'.env,XE st'.tbl⟩) (σ:=σ) (w:=w') (lim:=lim') rk _ h2
   obtain ⟨g2,k2⟩:=W4 (st:=⟨st'.env,XE st'.tbl⟩) (σ:=σ) (w:=w') (lim:=lim') (X1 (ZY pk)) _ h3
   obtain ⟨lim2,hR2,hE,hSh,hN,hB⟩:=hR.takes (g1.append g2) hok
   have hLf:Z9 σ w' lim' (QD (ZY pk) (Qn pk (ZW 0 rvs).1)) (X2 (ZY pk) (Xj pk vs)):=ZBd hbx hL fun p hp => (hR.pin p (List.mem_append_left _ hp)).1
   have hStay:YU w w' (ZY pk) (Xj pk vs):=Zgr _ _ (Zlj hR (X1 (ZY pk)) h4 hLf hRV fun q hq => (hR.pin (q,σ0 q) (List.mem_append_right _ (List.mem_map.2 ⟨q,hq,rfl⟩))).1)
   refine ⟨hd,rv,r1,rv,lim2,QR σ (Z7 u),QR σ (Z7 v),rfl,hR2.ext,hR2.lz,hR2.same,fun b hb1 hb2 => ⟨hR2.keep b hb1 hb2,hR2.limk b hb1 hb2⟩,?_,?_,hStay,?_,?_⟩
   ·rw [hq]; exact k1 rv r2 (fun r y hy => (hR.res r y hy).1) lim2 hE hSh.left
   ·rw [hq]; exact ZC4 (ZY pk) hfl (k2 _ hLf (fun r y hy => (hR.res r y hy).1) lim2 hE hSh.right)
   ·rw [← Zbh,← YB]; exact hN
   ·intro b hb; rw [← Zbh,← YB] at hb; exact (hB b hb).1.symm
 cases e' with
 | normal => exact leave hK
 | ret => exact leave hK
 | exit i => simp [Y3] at hK
theorem ZFf (hC:∀ f cal,C.Φ f = some cal → Ctr C.P C.k f cal) (hm:C.P.follows .mixedOrders = true) {A:Nat → Ann} {f k:Nat} {fn:Func} {code:Code} {cal:Callee} {rk:Kd}
  (hf:C.P.funcs[f]? = some fn) (hb:fn.body = some code) (hname:(fn.name == "runtime.NumGoroutine") = false) (hfit:XZ C.P fn.ntmps code = true)
  (hlent:∀ rvs x,cal.run k rvs = some x → Yv (QD (ZY cal.pk) (Qn cal.pk (ZW 0 rvs).1)) = true)
  (hrun:∀ rvs x,cal.run k rvs = some x → ZBg C A fn.ntmps code fn.results.toList cal.pk rk rvs some = some (cal.enc x)):Ctr C.P k f cal where
 enters:=⟨fn,hf,hname,by rw [hb]; rfl⟩
 calls:=by
  intro rvs x hx w lim vs bs hlz hgl hT hnd hbs
  have h:=hrun rvs x hx
  have hbx:=hlent rvs x hx
  unfold ZBg at h
  cases hg:ZNY cal.pk rvs fn.ntmps with
  | false => rw [hg] at h; simp at h
  | true =>
   rw [hg] at h
   simp only [cond_true] at h
   simp only [ZNY,Bool.and_eq_true] at hg
   exact Zsl (rk:=rk) hf hb hlz hgl hT hnd hbs hbx (Nat.le_of_ble_eq_true hg.1.1) (Nat.le_of_ble_eq_true hg.1.2) hg.2 fun G hp hS => WA hC hm hp code h hfit hS fun e st' a' w' hK hs => ⟨e,st',rfl,hK,hs⟩
end Go.Sh
namespace Go.Sh
open Go
variable [Gl]
def ZCT:Ex → St → Option (Ex × St):=fun e s => some (e,s)
def Zhs {R:Type} (K:Ex → St → Option R):Ex × St → Option R:=fun x => K x.1 x.2
theorem ZpU {R:Type} {nm:St → Option St} {b1:St → (Ex → St → Option (Ex × St)) → Option (Ex × St)} {bR:St → (Ex → St → Option R) → Option R}
  (h1:∀ st K,b1 st K = (b1 st ZCT).bind (Zhs K)) (hb:∀ st K,bR st K = (b1 st ZCT).bind (Zhs K)):∀ (n:Nat) (st:St) (K:Ex → St → Option R),
  ZgI bR nm n st K = (ZgI b1 nm n st ZCT).bind (Zhs K)
 | 0,st,K => rfl
 | n + 1,st,K => by
  simp only [ZgI]
  rw [hb]
  conv => rhs; rw [h1]
  rw [Option.bind_assoc]
  congr 1
  funext x
  obtain ⟨e,s⟩:=x
  cases e with
  | exit i => rfl
  | ret => rfl
  | normal =>
   simp only [Zhs]
   cases nm s with
   | none => rfl
   | some s' => exact ZpU h1 hb n s' K
theorem Wm {C:Ctx} {A:Nat → Ann} {kp:List Nat}:(c:Code) → {R:Type} → (st:St) → (K:Ex → St → Option R) → Xt C A kp c st K = (Xt C A kp c st ZCT).bind (Zhs K)
 | .skip,R,st,K => rfl
 | .label _,R,st,K => rfl
 | .ret,R,st,K => rfl
 | .exit _,R,st,K => rfl
 | .goto _,R,st,K => rfl
 | .refuse _,R,st,K => rfl
 | .rangeFunc _ _ _ _,R,st,K => rfl
 | .region id ops d,R,st,K => by
  simp only [Xt]
  cases d with
  | false => simp only [cond_false,ZvA,Option.bind_assoc]; rfl
  | true =>
   simp only [cond_true,Zkf,Option.bind_assoc]
   congr 1
   funext x
   cases Kv ops.toList (YE ops.toList []) ([] ++ x.2) <;> rfl
 | .seq a b,R,st,K => by
  simp only [Xt]
  rw [Wm a]
  conv => rhs; rw [Wm a]
  rw [Option.bind_assoc]
  congr 1
  funext x
  obtain ⟨e,s⟩:=x
  cases e with
  | normal => exact Wm b s K
  | exit i => rfl
  | ret => rfl
 | .cond c a b,R,st,K => by
  simp only [Xt]
  split
  ·rename_i t _
   cases t with
   | true => simp only [cond_true]; exact Wm a _ K
   | false => simp only [cond_false]; exact Wm b _ K
  ·rfl
 | .block id c,R,st,K => by
  simp only [Xt]
  rw [Wm c]
  conv => rhs; rw [Wm c]
  rw [Option.bind_assoc]
  congr 1
  funext x
  obtain ⟨e,s⟩:=x
  cases e with
  | normal => rfl
  | ret => rfl
  | exit i => simp only [Zhs,Zs7]; cases Nat.beq i id <;> rfl
 | .loop c,R,st,K => by
  simp only [Xt,Option.bind_assoc]
  congr 1
  funext s
  exact ZpU (fun st K => Wm c st K) (fun st K => Wm c st K) C.k s K
 | .scope c,R,st,K => by simp only [Xt]; exact Wm c st K
theorem ZFC {C:Ctx} {A:Nat → Ann} {n:Nat} {body:Code} {rs:List ResultVar} {pk:List Kd} {rk:Kd} {rvs:List RV} {R:Type} (K:RV × List RV → Option R) :
  ZBg C A n body rs pk rk rvs K = (ZBg C A n body rs pk rk rvs some).bind K:=by
 unfold ZBg
 cases ZNY pk rvs n with
 | false => rfl
 | true =>
  simp only [cond_true]
  rw [Wm]
  conv => rhs; rw [Wm]
  rw [Option.bind_assoc]
  congr 1
  funext x
  obtain ⟨e,s⟩:=x
  simp only [Zhs]
  cases e <;> simp only [Y3,M.runK_eq,Option.bind_assoc,Option.bind_some,Option.bind_none]
  all_goals (congr 1; funext x; cases Zdq x.2 <;> rfl)
mutual
def Kd.den:Kd → Type
 | .view t => t.den
 | .own t _ => List t.den
 | .box ks => Kd.dens ks
 | .agg ks => Kd.dens ks
 | .tup ks => Kd.dens ks
 | .fn _ => Unit
 | .bld _ => List Int
 | .use _ => List Int
 | .clo _ ks => Kd.dens ks
 | .ref ks => Kd.dens ks
 | .ns t => List t.den
def Kd.dens:List Kd → Type
 | [] => Unit
 | k :: ks => k.den × Kd.dens ks
end
mutual
def enc:(k:Kd) → k.den → RV
 | .view t,x => .view t x
 | .own t sh,xs => .own t sh xs
 | .box ks,x => .box (Xs ks x)
 | .agg ks,x => .agg (Xs ks x)
 | .tup ks,x => .tup (Xs ks x)
 | .fn f,_ => .fn f
 | .bld T,xs => .bld T xs
 | .use T,xs => .bld T xs
 | .clo f ks,x => .clo f (Xs ks x)
 | .ref ks,x => .box (Xs ks x)
 | .ns t,xs => .ns t xs
def Xs:(ks:List Kd) → Kd.dens ks → List RV
 | [],_ => []
 | k :: ks,x => enc k x.1 :: Xs ks x.2
end
def ZnA (t:Ty):RV → Option t.den
 | .view t' x => if h:t' = t then some (h ▸ x:t.den) else none
 | _ => none
def ZF3 (t:Ty) (sh:Bool):RV → Option (List t.den)
 | .own t' sh' xs => if h:t' = t then (bif sh == sh' then some (h ▸ xs:List t.den) else none) else none
 | _ => none
def ZBu:RV → Option (List RV)
 | .box cs => some cs
 | _ => none
def asAgg:RV → Option (List RV)
 | .agg cs => some cs
 | _ => none
def ZF5:RV → Option (List RV)
 | .tup cs => some cs
 | _ => none
def ZPd (f:Nat):RV → Option Unit
 | .fn g => bif Nat.beq f g then some () else none
 | _ => none
def ZF1 (f:Nat):RV → Option (List RV)
 | .clo g cs => bif Nat.beq f g then some cs else none
 | _ => none
def ZPe (t:Ty):RV → Option (List t.den)
 | .ns t' xs => if h:t' = t then some (h ▸ xs:List t.den) else none
 | _ => none
def ZBt (T:TypeId):RV → Option (List Int)
 | .bld U xs => bif Nat.beq T U then some xs else none
 | _ => none
mutual
def dec:(k:Kd) → RV → Option k.den
 | .view t,r => ZnA t r
 | .own t sh,r => ZF3 t sh r
 | .box ks,r => (ZBu r).bind (Zgt ks)
 | .agg ks,r => (asAgg r).bind (Zgt ks)
 | .tup ks,r => (ZF5 r).bind (Zgt ks)
 | .fn f,r => ZPd f r
 | .bld T,r => ZBt T r
 | .use T,r => ZBt T r
 | .clo f ks,r => (ZF1 f r).bind (Zgt ks)
 | .ref ks,r => (ZBu r).bind (Zgt ks)
 | .ns t,r => ZPe t r
def Zgt:(ks:List Kd) → List RV → Option (Kd.dens ks)
 | [],[] => some ()
 | [],_ :: _ => none
 | _ :: _,[] => none
 | k :: ks,x :: xs => (dec k x).bind fun y => (Zgt ks xs).bind fun ys => some (y,ys)
end
theorem ZDb {t:Ty} {r:RV} {x:t.den} (h:ZnA t r = some x):r = .view t x:=by
 unfold ZnA at h
 split at h
 ·split at h
  ·rename_i e; subst e; simp at h; rw [h]
  ·cases h
 ·cases h
theorem ZF4 {t:Ty} {sh:Bool} {r:RV} {x:List t.den} (h:ZF3 t sh r = some x):r = .own t sh x:=by
 unfold ZF3 at h
 split at h
 ·split at h
  ·rename_i sh' _ e
   subst e
   cases hs:(sh == sh') with
   | false => rw [hs] at h; simp at h
   | true => rw [hs] at h; simp at h hs; rw [h,hs]
  ·cases h
 ·cases h
theorem Zwc {r:RV} {cs:List RV} (h:ZBu r = some cs):r = .box cs:=by unfold ZBu at h; split at h <;> simp at h; rw [h]
theorem ZF0 {r:RV} {cs:List RV} (h:asAgg r = some cs):r = .agg cs:=by unfold asAgg at h; split at h <;> simp at h; rw [h]
theorem ZF6 {r:RV} {cs:List RV} (h:ZF5 r = some cs):r = .tup cs:=by unfold ZF5 at h; split at h <;> simp at h; rw [h]
theorem ZKP {f:Nat} {r:RV} {x:Unit} (h:ZPd f r = some x):r = .fn f:=by
 unfold ZPd at h
 split at h
 ·rename_i g
  cases hb:Nat.beq f g with
  | false => rw [hb] at h; simp at h
  | true => rw [Z4 hb]
 ·cases h
theorem ZF2 {f:Nat} {r:RV} {cs:List RV} (h:ZF1 f r = some cs):r = .clo f cs:=by
 unfold ZF1 at h
 split at h
 ·rename_i g l
  cases hb:Nat.beq f g with
  | false => rw [hb] at h; simp at h
  | true => rw [hb] at h; simp at h; rw [Z4 hb,h]
 ·cases h
theorem ZKQ {t:Ty} {r:RV} {x:List t.den} (h:ZPe t r = some x):r = .ns t x:=by
 unfold ZPe at h
 split at h
 ·split at h
  ·rename_i e; subst e; simp at h; rw [h]
  ·cases h
 ·cases h
theorem Zwb {T:TypeId} {r:RV} {x:List Int} (h:ZBt T r = some x):r = .bld T x:=by
 unfold ZBt at h
 split at h
 ·rename_i U xs
  cases hb:Nat.beq T U with
  | false => rw [hb] at h; simp at h
  | true => rw [hb] at h; simp at h; rw [Z4 hb,h]
 ·cases h
mutual
theorem ZBy:(k:Kd) → (r:RV) → (x:k.den) → dec k r = some x → r = enc k x
 | .view t,r,x,h => by simp only [dec] at h; simp only [enc]; exact ZDb h
 | .own t sh,r,x,h => by simp only [dec] at h; simp only [enc]; exact ZF4 h
 | .box ks,r,x,h => by
  simp only [dec] at h
  obtain ⟨cs,h1,h2⟩:=Option.bind_eq_some_iff.1 h
  simp only [enc,Zwc h1,Wl ks cs x h2]
 | .agg ks,r,x,h => by
  simp only [dec] at h
  obtain ⟨cs,h1,h2⟩:=Option.bind_eq_some_iff.1 h
  simp only [enc,ZF0 h1,Wl ks cs x h2]
 | .tup ks,r,x,h => by
  simp only [dec] at h
  obtain ⟨cs,h1,h2⟩:=Option.bind_eq_some_iff.1 h
  simp only [enc,ZF6 h1,Wl ks cs x h2]
 | .fn f,r,x,h => by simp only [dec] at h; simp only [enc]; exact ZKP h
 | .bld T,r,x,h => by simp only [dec] at h; simp only [enc]; exact Zwb h
 | .use T,r,x,h => by simp only [dec] at h; simp only [enc]; exact Zwb h
 | .clo f ks,r,x,h => by
  simp only [dec] at h
  obtain ⟨cs,h1,h2⟩:=Option.bind_eq_some_iff.1 h
  simp only [enc,ZF2 h1,Wl ks cs x h2]
 | .ns t,r,x,h => by simp only [dec] at h; simp only [enc]; exact ZKQ h
 | .ref ks,r,x,h => by
  simp only [dec] at h
  obtain ⟨cs,h1,h2⟩:=Option.bind_eq_some_iff.1 h
  simp only [enc,Zwc h1,Wl ks cs x h2]
theorem Wl:(ks:List Kd) → (rs:List RV) → (x:Kd.dens ks) → Zgt ks rs = some x → rs = Xs ks x
 | [],[],x,h => rfl
 | k :: ks,r :: rs,x,h => by
  simp only [Zgt] at h
  obtain ⟨y,h1,h⟩:=Option.bind_eq_some_iff.1 h
  obtain ⟨ys,h2,h⟩:=Option.bind_eq_some_iff.1 h
  cases h
  simp only [Xs,← ZBy k r y h1,← Wl ks rs ys h2]
 | [],_ :: _,x,h => by simp [Zgt] at h
 | _ :: _,[],x,h => by simp [Zgt] at h
end
theorem ZlE:(ks:List Kd) → (x:Kd.dens ks) → (Xs ks x).length = ks.length
 | [],_ => rfl
 | k :: ks,x => by simp only [Xs,List.length_cons,ZlE ks]
theorem Zvr {ks ls:List Kd} {as bs:List AV} (h:ks.length = as.length):QD (ks ++ ls) (as ++ bs) = QD ks as ++ QD ls bs:=by
 induction ks generalizing as with
 | nil =>
  cases as with
  | nil => simp [QD]
  | cons _ _ => simp at h
 | cons k ks ih =>
  cases as with
  | nil => simp at h
  | cons a as =>
   have ih:=ih (as:=as) (by simpa using h)
   cases k <;> simp [QD,ih]
theorem Zta (a b:List AV):Yv (a ++ b) = (Yv a && Yv b):=by simp [Yv]
theorem Zlx:(ks:List Kd) → (x:Kd.dens ks) → (n:Nat) → Yv (QD ks (ZW n (Xs ks x)).1) = true
 | [],_,n => rfl
 | k :: ks,x,n => by
  have ih:=Zlx ks x.2
  cases k with
  | box l =>
   simp only [Xs,enc,ZW,put,QD,Yv,List.all_cons,Bool.true_and] at ih ⊢
   exact ih _
  | bld T =>
   simp only [Xs,enc,ZW,put,QD,Yv,List.all_cons,Bool.true_and] at ih ⊢
   exact ih _
  | _ => simp only [Xs,enc,ZW,QD]; exact ih _
theorem ZnJ:(ks:List Kd) → (x:Kd.dens ks) → (n:Nat) → Yv (QD (ZY ks) (Qn ks (ZW n (Xs ks x)).1)) = true
 | [],_,n => rfl
 | k :: ks,x,n => by
  have ih:=ZnJ ks x.2
  cases k with
  | box l =>
   simp only [Xs,enc,ZW,put,ZY,Qn,QD,Yv,List.all_cons,Bool.true_and] at ih ⊢
   exact ih _
  | bld T =>
   simp only [Xs,enc,ZW,put,ZY,Qn,QD,Yv,List.all_cons,Bool.true_and] at ih ⊢
   exact ih _
  | clo f l =>
   simp only [Xs,enc,ZW,put,ZY,Qn]
   rw [Zvr (by rw [ZeT]; exact (ZlE l x.1).symm),Zta,Bool.and_eq_true]
   exact ⟨Zlx l x.1 n,ih _⟩
  | _ => simp only [Xs,enc,ZW,ZY,Qn,QD]; exact ih _
abbrev Ans (pk:List Kd) (rk:Kd):Type:=rk.den × Kd.dens (X1 (ZY pk))
def ZGi (pk:List Kd) (rk:Kd) (r:RV × List RV):Option (Ans pk rk):=(dec rk r.1).bind fun x => (Zgt (X1 (ZY pk)) r.2).bind fun l => some (x,l)
def ZPi (pk:List Kd) (rk:Kd) (x:Ans pk rk):RV × List RV:=(enc rk x.1,Xs (X1 (ZY pk)) x.2)
theorem ZDo {pk:List Kd} {rk:Kd} {r:RV × List RV} {x:Ans pk rk} (h:ZGi pk rk r = some x):r = ZPi pk rk x:=by
 unfold ZGi at h
 obtain ⟨y,h1,h⟩:=Option.bind_eq_some_iff.1 h
 obtain ⟨ys,h2,h⟩:=Option.bind_eq_some_iff.1 h
 cases h
 obtain ⟨a,b⟩:=r
 simp only [ZPi,← ZBy rk a y h1,← Wl (X1 (ZY pk)) b ys h2]
def mk (pk:List Kd) (rk:Kd) (F:Nat → Kd.dens pk → Option (Ans pk rk)):Callee :=
 { ρ:=Ans pk rk,pk:=pk,run:=fun k rvs => (Zgt pk rvs).bind (F k),enc:=ZPi pk rk }
theorem ZNK {C:Ctx} (hC:∀ f cal,C.Φ f = some cal → Ctr C.P C.k f cal) (hm:C.P.follows .mixedOrders = true) {A:Nat → Ann} {f k:Nat} {fn:Func} {code:Code} {pk:List Kd} {rk:Kd} {F:Nat → Kd.dens pk → Option (Ans pk rk)}
  (hf:C.P.funcs[f]? = some fn) (hb:fn.body = some code) (hname:(fn.name == "runtime.NumGoroutine") = false) (hfit:XZ C.P fn.ntmps code = true)
  (h:∀ x y,F k x = some y → ZBg C A fn.ntmps code fn.results.toList pk rk (Xs pk x) (ZGi pk rk) = some y):Ctr C.P k f (mk pk rk F):=by
 refine ZFf (A:=A) (rk:=rk) hC hm hf hb hname hfit (fun rvs x hx => ?_) (fun rvs x hx => ?_)
 ·simp only [mk] at hx ⊢
  obtain ⟨y,h1,h2⟩:=Option.bind_eq_some_iff.1 hx
  rw [Wl pk rvs y h1]
  exact ZnJ pk y 0
 ·simp only [mk] at hx ⊢
  obtain ⟨y,h1,h2⟩:=Option.bind_eq_some_iff.1 hx
  have h3:=h y x h2
  rw [← Wl pk rvs y h1,ZFC] at h3
  obtain ⟨r,h4,h5⟩:=Option.bind_eq_some_iff.1 h3
  rw [h4,ZDo h5]
def phi:List (Nat × Callee) → Nat → Option Callee
 | [],_ => none
 | (f,c) :: l,g => bif Nat.beq g f then some c else phi l g
theorem Zh {P:Program} {k:Nat}:∀ {l:List (Nat × Callee)},(∀ p ∈ l,Ctr P k p.1 p.2) → ∀ f cal,phi l f = some cal → Ctr P k f cal
 | [],_,f,cal,h => by simp [phi] at h
 | (g,c) :: l,hl,f,cal,h => by
  simp only [phi] at h
  cases hb:Nat.beq f g with
  | true => rw [hb] at h; simp at h; rw [Z4 hb,← h]; exact hl (g,c) (by simp)
  | false => rw [hb] at h; exact Zh (fun p hp => hl p (by simp [hp])) f cal h
theorem Zd {P:Program} {k:Nat}:∀ p ∈ ([]:List (Nat × Callee)),Ctr P k p.1 p.2:=by intro p hp; simp at hp
theorem Za {P:Program} {k f:Nat} {c:Callee} {l:List (Nat × Callee)} (h:Ctr P k f c) (hl:∀ p ∈ l,Ctr P k p.1 p.2):∀ p ∈ (f,c) :: l,Ctr P k p.1 p.2:=by
 intro p hp
 rcases List.mem_cons.1 hp with rfl | hp
 ·exact h
 ·exact hl p hp
def Zp {V R:Type} (step:(V → Option R) → V → Option R):Nat → V → Option R
 | 0,_ => none
 | n + 1,v => step (Zp step n) v
theorem Zl {V R:Type} {L:Nat → V → Option R} {step:(V → Option R) → V → Option R} (h0:∀ v,L 0 v = none) (h:∀ n v,L (n + 1) v = step (L n) v):∀ n,L n = Zp step n
 | 0 => funext h0
 | n + 1 => funext fun v => by rw [h,Zl h0 h n]; rfl
section
variable {R:Type}
def place (C:Ctx) (A:Nat → Ann) (kp:List Nat):List Nat → List Nat → Code → (Ex → St → Option R) → Code × (Ex → St → Option R)
 | 0 :: p,ns,.seq a b,K => place C A kp p ns a (ZKy (fun s => Xt C A kp b s K) K)
 | _ :: p,ns,.seq _ b,K => place C A kp p ns b K
 | 0 :: p,ns,.cond _ a _,K => place C A kp p ns a K
 | _ :: p,ns,.cond _ _ b,K => place C A kp p ns b K
 | _ :: p,ns,.block id c,K => place C A kp p ns c (Zs7 id K)
 | _ :: p,ns,.scope c,K => place C A kp p ns c K
 | _ :: p,n :: ns,.loop c,K => place C A kp p ns c fun e s => match e with
  | .normal => (ZqV kp (A (Qz c)) s).bind fun s => ZgI (Xt C A kp c) (ZqV kp (A (Qz c))) n s K
  | .exit i => K (.exit i) s
  | .ret => K .ret s
 | _,_,c,K => (c,K)
def Zy (C:Ctx) (A:Nat → Ann) (kp:List Nat) (p ns:List Nat) (code:Code) (K:Ex → St → Option R) (n:Nat) (st:St):Option R :=
 match place C A kp p ns code K with
 | (.loop c,K) => ZgI (Xt C A kp c) (ZqV kp (A (Qz c))) n st K
 | _ => none
end
end Go.Sh
