/-
  What the row needs, part 4.
-/
import Derived.Test.YtmeahimfdhdggaaGreatDoorXFrameWrites3
import Derived.Scope
import Derived.LoopN
set_option linter.unusedSimpArgs false
set_option linter.unusedVariables false
set_option linter.unusedSectionVars false
namespace Go.Sh
open Go
variable [Gl]
variable {C:Ctx} {G:Glob} {σ:Xk} {w:World} {lim:Nat → Nat} {st:St} {a:Act}
def Ex.out:Ex → Exit
 | .normal => .normal
 | .exit i => .exit i
 | .ret => .ret
def Yb (P:Program) (n:Nat):Code → Bool
 | .region _ ops _ => ZsT P n ops.toList
 | .seq a b => Yb P n a && Yb P n b
 | .cond _ a b => Yb P n a && Yb P n b
 | .block _ c => Yb P n c
 | .loop c => Yb P n c
 | .scope c => Yb P n c
 | _ => true
def W4 (G:Glob) (n:Nat) (st:St) (a:Act) (w:World):Prop := ∃ σ lim,WN G σ lim st a.tmps w ∧ a.tmps.size = n ∧ a.defers = []
theorem ZL3 {n:Nat} (h:W4 G n st a w) {c:Operand} {t:Bool} (hc:ZaM st.env c = .val (.v (.bool t))):a.eval c = .bool t:=by
 obtain ⟨σ,lim,h,_,_⟩:=h
 have:=(ZE h.1 c).1
 rw [hc] at this
 simpa only [RA,RP] using this
theorem Zl9 {n:Nat} (h:W4 G n st a w) {q:Nat} (hq:q < Qg):W4 G n (ZDI st q) a w:=by
 obtain ⟨σ,lim,h,h2,h3⟩:=h
 unfold ZDI
 split
 ·rename_i t xss hT
  obtain ⟨lim',h4⟩:=RelW.melt h.1 h.2 hq hT
  exact ⟨σ,lim',h4,h2,h3⟩
 ·exact ⟨σ,lim,h,h2,h3⟩
theorem Zwl {n:Nat} (h:W4 G n st a w) (id:Nat):W4 G n (ZhO C id st) a w:=by
 have hL:Low G st:=by obtain ⟨_,_,⟨_,hL⟩,_,_⟩:=h; exact hL
 unfold ZhO
 split
 ·split
  ·rename_i s _ _ q hs
   exact Zl9 h (hL.env s q (by rw [hs]; simp [Zj]))
  ·exact h
 ·split
  ·rename_i s k _ _ r hs
   unfold ZQn
   split
   ·rename_i cs hr
    split
    ·rename_i q hq
     exact Zl9 h (hL.box r cs hr q (Y9 (List.mem_of_getElem? hq) (by simp [Zj])))
    ·exact h
   ·exact h
  ·exact h
 ·exact h
theorem WO (hC:∀ f cal,C.Φ f = some cal → Ctr C.P C.k f cal) (hm:C.P.follows .mixedOrders = true) {A:Nat → Ann} {kp:List Nat} (hk:∀ p ∈ G.pins,p.1 ∈ kp) {n:Nat} {R:Type} {r:R} :
  (c:Code) → {st:St} → {K:Ex → St → Option R} → XF C A kp c st K = some r → Yb C.P n c = true → {a:Act} → {w:World} → W4 G n st a w → {Q:Exit → Act → World → Prop} →
  (∀ e st' a' w',K e st' = some r → W4 G n st' a' w' → Q e.out a' w') → c.wp C.P Q a w
 | .skip,st,K,h,hf,a,w,hs,Q,hQ => wp_skip (hQ .normal st a w h hs)
 | .label _,st,K,h,hf,a,w,hs,Q,hQ => wp_label (hQ .normal st a w h hs)
 | .ret,st,K,h,hf,a,w,hs,Q,hQ => wp_ret (hQ .ret st a w h hs)
 | .exit i,st,K,h,hf,a,w,hs,Q,hQ => wp_exit (hQ (.exit i) st a w h hs)
 | .region id ops d,st,K,h,hf,a,w,hs,Q,hQ => by
  simp only [XF] at h
  simp only [Yb] at hf
  obtain ⟨σ,lim,hR,hn,hd⟩:=Zwl (C:=C) hs id
  have hb:∃ stf lgs,ZlA C id ops.toList ops.toList 0 (ZhO C id st) = some (stf,lgs) ∧ (d = true → KK ops.toList (YR ops.toList []) lgs = true) ∧ K .normal stf = some r:=by
   cases d with
   | false =>
    simp only [cond_false,Zwq] at h
    cases ho:ZlA C id ops.toList ops.toList 0 (ZhO C id st) with
    | none => rw [ho] at h; simp at h
    | some x => rw [ho] at h; exact ⟨x.1,x.2,rfl,by simp,h⟩
   | true =>
    simp only [cond_true,Zkz,List.nil_append] at h
    cases ho:ZlA C id ops.toList ops.toList 0 (ZhO C id st) with
    | none => rw [ho] at h; simp at h
    | some x =>
     rw [ho] at h
     simp only [Option.bind_some] at h
     cases hi:KK ops.toList (YR ops.toList []) x.2 with
     | false => rw [hi] at h; simp at h
     | true => rw [hi] at h; exact ⟨x.1,x.2,rfl,fun _ => hi,h⟩
  obtain ⟨stf,lgs,h1,h2,h3⟩:=hb
  exact Zwu hC hm hf hR hn hd h1 h2 fun a' w' σ' lim' hR' hn' hd' => hQ .normal stf a' w' h3 ⟨σ',lim',hR',hn',hd'⟩
 | .seq x y,st,K,h,hf,a,w,hs,Q,hQ => by
  simp only [XF] at h
  simp only [Yb,Bool.and_eq_true] at hf
  refine wp_seq (WO hC hm hk x h hf.1 hs fun e st' a' w' hK hs' => ?_)
  cases e with
  | normal => exact WO hC hm hk y hK hf.2 hs' hQ
  | exit i => exact hQ (.exit i) st' a' w' hK hs'
  | ret => exact hQ .ret st' a' w' hK hs'
 | .cond c x y,st,K,h,hf,a,w,hs,Q,hQ => by
  simp only [XF] at h
  simp only [Yb,Bool.and_eq_true] at hf
  split at h
  ·rename_i t hc
   have e1:=ZL3 hs hc
   cases t with
   | true =>
    refine wp_cond_true e1 (WO hC hm (A:=A) hk x (K:=K) ?_ hf.1 hs hQ)
    cases c with
    | tmp d => simp only [ZaM] at hc; simpa only [cond_true,ZlL hc] using h
    | _ => exact h
   | false =>
    refine wp_cond_false e1 (WO hC hm (A:=A) hk y (K:=K) ?_ hf.2 hs hQ)
    cases c with
    | tmp d => simp only [ZaM] at hc; simpa only [cond_false,ZlL hc] using h
    | _ => exact h
  ·simp at h
 | .block id c,st,K,h,hf,a,w,hs,Q,hQ => by
  simp only [XF] at h
  simp only [Yb] at hf
  refine wp_block (WO hC hm hk c h hf hs fun e st' a' w' hK hs' => ?_)
  cases e with
  | normal => exact hQ .normal st' a' w' hK hs'
  | ret => exact hQ .ret st' a' w' hK hs'
  | exit i =>
   simp only [ZtJ] at hK
   simp only [Ex.out,Exit.inBlock]
   cases hb:Nat.beq i id with
   | true => rw [hb] at hK; rw [if_pos (Z6 hb)]; exact hQ .normal st' a' w' hK hs'
   | false =>
    rw [hb] at hK
    rw [if_neg (by rintro rfl; rw [Xg] at hb; cases hb)]
    exact hQ (.exit i) st' a' w' hK hs'
 | .loop c,st,K,h,hf,a,w,hs,Q,hQ => by
  simp only [XF] at h
  simp only [Yb] at hf
  have key:∀ (m:Nat) (st:St) (a:Act) (w:World),Zg3 (XF C A kp c) (Zrn kp (A (QC c))) m st K = some r → W4 G n st a w → Code.rounds C.P c Q m a w:=by
   intro m
   induction m with
   | zero => intro st a w h; simp [Zg3] at h
   | succ m ih =>
    intro st a w h hs
    rw [rounds_succ]
    simp only [Zg3] at h
    refine WO hC hm hk c h hf hs fun e st' a' w' hK hs' => ?_
    cases e with
    | ret => exact hQ .ret st' a' w' hK hs'
    | exit i => exact hQ (.exit i) st' a' w' hK hs'
    | normal =>
     cases hn:Zrn kp (A (QC c)) st' with
     | none => rw [hn] at hK; simp at hK
     | some s =>
      rw [hn] at hK
      obtain ⟨σ,lim,hR,q1,q2⟩:=hs'
      obtain ⟨σ2,lim2,hR2⟩:=Zqx hR hk hn
      exact ih s a' w' hK ⟨σ2,lim2,hR2,q1,q2⟩
  cases hn:Zrn kp (A (QC c)) st with
  | none => rw [hn] at h; simp at h
  | some s =>
   rw [hn] at h
   obtain ⟨σ,lim,hR,q1,q2⟩:=hs
   obtain ⟨σ2,lim2,hR2⟩:=Zqx hR hk hn
   exact wp_loop_rounds C.k (key C.k s a w h ⟨σ2,lim2,hR2,q1,q2⟩)
 | .scope c,st,K,h,hf,a,w,hs,Q,hQ => by
  simp only [XF] at h
  simp only [Yb] at hf
  refine wp_scope_straight (WO hC hm hk c h hf hs fun e st' a' w' hK hs' => ?_)
  cases e <;> exact hQ _ st' a' w' hK hs'
 | .rangeFunc _ _ _ _,st,K,h,hf,a,w,hs,Q,hQ => by simp [XF] at h
 | .goto _,st,K,h,hf,a,w,hs,Q,hQ => by simp [XF] at h
end Go.Sh
namespace Go.Sh
open Go
variable [Gl]
variable {C:Ctx} {G:Glob} {σ:Xk} {w:World} {lim:Nat → Nat} {st:St} {tmps:Array Value}
theorem ZBY {P:Program} {T:TypeId} {v x:Value} (h:(Instr.loadAt T v).run P w = .ok x w):(asAddr v >>= fun p => loadVar T p:Sem Value).run P w = .ok x w:=by
 unfold Instr.loadAt at h
 unfold Instr.sureAddr at h
 split at h
 ·simpa [asAddr] using h
 ·simp [stuck,Sem.run_bind] at h
def ZqT (tmps:Array Value):ResultVar → Sem Value
 | .tmp t => pure (tmps.getD t undef)
 | .cell a t => do loadVar t (← asAddr (tmps.getD a undef))
theorem ZqS (h:RelW G σ lim st tmps w) {r:ResultVar} {l l':List Nat} {x:AV} (hm:(ZcV C st r).run st.tbl l = some (x,l')) :
  ∃ v,(ZqT tmps r).run C.P w = .ok v w ∧ RA σ w lim x v ∧ Zw st.tbl (Zj x):=by
 cases r with
 | tmp t =>
  obtain ⟨rfl,_⟩:=M.run_ret hm
  exact ⟨_,rfl,h.env t,h.known t⟩
 | cell a T =>
  simp only [ZcV] at hm
  obtain ⟨e,l1,h1,h2⟩:=M.run_bind_some hm
  obtain ⟨rfl,_⟩:=M.run_ret h2
  obtain ⟨v,e1,e2,e3,e4⟩:=Zqo h1 (h.env a) h.res
  exact ⟨v,ZBY e1,e2,e3⟩
theorem ZdI (h:RelW G σ lim st tmps w):(rs:List ResultVar) → {l l':List Nat} → {xs:List AV} → (Yz C st rs).run st.tbl l = some (xs,l') →
  ∃ vs,(rs.mapM (ZqT tmps)).run C.P w = .ok vs w ∧ Qd σ w lim xs vs ∧ Zw st.tbl (Zv xs)
 | [],l,l',xs,hm => by
  obtain ⟨rfl,_⟩:=M.run_ret hm
  exact ⟨[],rfl,by simp [Qd],by simp [Zv,Zw]⟩
 | r :: rs,l,l',xs,hm => by
  simp only [Yz] at hm
  obtain ⟨x,l1,h1,h2⟩:=M.run_bind_some hm
  obtain ⟨ys,l2,h3,h4⟩:=M.run_bind_some h2
  obtain ⟨rfl,_⟩:=M.run_ret h4
  obtain ⟨v,e1,e2,e3⟩:=ZqS h h1
  obtain ⟨vs,f1,f2,f3⟩:=ZdI h rs h3
  refine ⟨v :: vs,?_,by simp only [Qd]; exact ⟨e2,f2⟩,?_⟩
  ·simp [List.mapM_cons,Sem.run_bind,e1,f1]
  ·intro i hi; simp only [Zv,List.mem_append] at hi; rcases hi with hi | hi; exact e3 i hi; exact f3 i hi
theorem Zg7 {st st2:St} (he:st2.env = st.env):∀ (rs:List ResultVar),Yz C st rs = Yz C st2 rs
 | [] => rfl
 | r :: rs => by
  have h1:ZcV C st r = ZcV C st2 r:=by cases r <;> simp only [ZcV,he]
  simp only [Yz,h1,Zg7 he rs]
theorem Zrq (h:RelW G σ lim st tmps w) {fn:Func} {l l':List Nat} {xs:List AV} (hm:(Yz C st fn.results.toList).run st.tbl l = some (xs,l')) :
  ∃ v,(results fn tmps).run C.P w = .ok v w ∧ RA σ w lim (match (generalizing:=false) xs with | [a] => a | as => .tup as) v:=by
 obtain ⟨vs,e1,e2,e3⟩:=ZdI h _ hm
 have e0:results fn tmps = (do let vs ← fn.results.mapM (ZqT tmps); pure (if h:vs.size = 1 then vs[0] else .tuple vs)):=by
  unfold results
  congr 1
 rw [e0,Array.mapM_eq_mapM_toList]
 match xs,vs,e2 with
 | [x],[v],e2 =>
  refine ⟨v,?_,by simpa [Qd] using e2⟩
  simp [Sem.run_bind,Sem.run_map,e1]
 | [],[],e2 =>
  refine ⟨.tuple #[],?_,by simp only [RA]; exact ⟨[],rfl,by simp [Qd]⟩⟩
  simp [Sem.run_bind,Sem.run_map,e1]
 | x :: y :: xs,v :: u :: vs,e2 =>
  refine ⟨.tuple (v :: u :: vs).toArray,?_,by simp only [RA]; exact ⟨_,rfl,e2⟩⟩
  simp [Sem.run_bind,Sem.run_map,e1]
 | [],_ :: _,e2 => simp [Qd] at e2
 | _ :: _,[],e2 => simp [Qd] at e2
 | [_],_ :: _ :: _,e2 => simp [Qd] at e2
 | _ :: _ :: _,[_],e2 => simp [Qd] at e2
def Yd:List Kd → List Value → List Value
 | .box _ :: l,a :: as => a :: Yd l as
 | .bld _ :: l,a :: as => a :: Yd l as
 | _ :: l,_ :: as => Yd l as
 | _,_ => []
def Kf:List AV → List Value → List (Nat × Value)
 | .bx r _ :: l,v :: vs => (r,v) :: Kf l vs
 | _ :: l,_ :: vs => Kf l vs
 | _,_ => []
theorem Zj2:(as:List AV) → (vs:List Value) → ∀ p ∈ Kf as vs,p.1 ∈ WF as
 | [],vs,p,hp => by cases vs <;> simp [Kf] at hp
 | x :: as,[],p,hp => by cases x <;> simp [Kf] at hp
 | x :: as,v :: vs,p,hp => by
  cases x with
  | bx r k =>
   simp only [Kf,List.mem_cons] at hp
   simp only [WF,List.mem_cons]
   rcases hp with rfl | hp
   ·exact .inl rfl
   ·exact .inr (Zj2 as vs p hp)
  | _ => simp only [Kf] at hp; simp only [WF]; exact Zj2 as vs p hp
theorem ZDH:(pk:List Kd) → {as:List AV} → {vs:List Value} → Qd σ w lim as vs → Qd σ w lim (QI pk as) (Yd pk vs)
 | [],as,vs,h => by cases as <;> cases vs <;> simp [QI,Yd,Qd]
 | k :: pk,as,vs,h => by
  match as,vs,h with
  | [],[],h => cases k <;> simp [QI,Yd,Qd]
  | x :: as,v :: vs,h =>
   simp only [Qd] at h
   have ih:=ZDH pk h.2
   cases k <;> simp only [QI,Yd,Qd] <;> first | exact ih | exact ⟨h.1,ih⟩
  | [],_ :: _,h => simp [Qd] at h
  | _ :: _,[],h => simp [Qd] at h
def YD (as:List AV):Bool:=as.all fun | .bx _ 0 => true | _ => false
theorem ZTR {as:List AV} {vs:List Value} (hb:YD as = true) (h:Qd σ w lim as vs):∀ p ∈ Kf as vs,σ p.1 = p.2:=by
 induction as generalizing vs with
 | nil => intro p hp; cases vs <;> simp [Kf] at hp
 | cons x as ih =>
  cases vs with
  | nil => simp [Qd] at h
  | cons v vs =>
   simp only [Qd] at h
   simp only [YD,List.all_cons,Bool.and_eq_true] at hb
   intro p hp
   obtain ⟨hb1,hb2⟩:=hb
   split at hb1
   ·rename_i r
    simp only [Kf,List.mem_cons] at hp
    rcases hp with rfl | hp
    ·have:=h.1
     simp only [RA] at this
     obtain ⟨b,e1,e2⟩:=this
     rw [e1,e2]
    ·exact ih hb2 h.2 p hp
   ·cases hb1
theorem ZB9 {σ':Xk} {w':World} {lim':Nat → Nat} {as:List AV} {vs:List Value} (hb:YD as = true) (h:Qd σ w lim as vs) (hp:∀ p ∈ Kf as vs,σ' p.1 = p.2):Qd σ' w' lim' as vs:=by
 induction as generalizing vs with
 | nil => cases vs <;> simp [Qd] at h ⊢
 | cons x as ih =>
  cases vs with
  | nil => simp [Qd] at h
  | cons v vs =>
   simp only [Qd] at h ⊢
   simp only [YD,List.all_cons,Bool.and_eq_true] at hb
   obtain ⟨hb1,hb2⟩:=hb
   split at hb1
   ·rename_i r
    simp only [Kf,List.mem_cons] at hp
    refine ⟨?_,ih hb2 h.2 fun p hm => hp p (.inr hm)⟩
    have h1:=h.1
    simp only [RA] at h1 ⊢
    obtain ⟨b,e1,e2⟩:=h1
    exact ⟨b,by rw [hp (r,v) (.inl rfl)]; exact e2,e2⟩
   ·cases hb1
theorem ZD2:(pk:List Kd) → {vs:List Value} → {rs:List RV} → {bs:List Nat} → vs.length = pk.length → TTs w lim rs (Yd pk vs) bs → TL w lim pk vs rs bs
 | [],[],rs,bs,_,h => by
  simp only [Yd] at h
  cases rs with
  | nil => simpa [TL,TTs] using h
  | cons _ _ => simp [TTs] at h
 | k :: pk,v :: vs,rs,bs,hl,h => by
  have hl':vs.length = pk.length:=by simpa using hl
  cases k with
  | box l =>
   simp only [Yd] at h
   cases rs with
   | nil => simp [TTs] at h
   | cons x rs =>
    simp only [TTs] at h
    simp only [TL]
    obtain ⟨b1,b2,e,h1,h2⟩:=h
    exact ⟨b1,b2,e,h1,ZD2 pk hl' h2⟩
  | bld T =>
   simp only [Yd] at h
   cases rs with
   | nil => simp [TTs] at h
   | cons x rs =>
    simp only [TTs] at h
    simp only [TL]
    obtain ⟨b1,b2,e,h1,h2⟩:=h
    exact ⟨b1,b2,e,h1,ZD2 pk hl' h2⟩
  | _ => simp only [Yd] at h; simp only [TL]; exact ZD2 pk hl' h
 | [],_ :: _,rs,bs,hl,_ => by simp at hl
 | _ :: _,[],rs,bs,hl,_ => by simp at hl
theorem Zc0:∀ (u:Wo),Zx u = Ql.put (fun _ => .fresh) u
 | [] => rfl
 | (a,x) :: u => by
  funext r
  simp only [Zx,Ql.put,ZN,Zc0 u]
  rw [show Nat.beq a r = Nat.beq r a from by
   cases h:Nat.beq r a with
   | true => rw [Z6 h]; exact Xg _
   | false => exact Zc8 fun e => by rw [e,Xg] at h; cases h]
  cases Nat.beq r a <;> rfl
theorem ZaZ:∀ (as:List AV) (i s:Nat),Zy (index i as) s = .dead ∨ ∃ j,s = i + j ∧ as[j]? = some (Zy (index i as) s)
 | [],i,s => .inl rfl
 | x :: as,i,s => by
  simp only [index,Zy]
  cases h:Nat.beq s i with
  | true => exact .inr ⟨0,by simpa using Z6 h,rfl⟩
  | false =>
   simp only [cond_false]
   rcases ZaZ as (i + 1) s with h | ⟨j,h1,h2⟩
   ·exact .inl h
   ·exact .inr ⟨j + 1,by omega,by simpa using h2⟩
theorem ZsY {as:List AV} {j:Nat} {x:AV} (h:as[j]? = some x):∀ r ∈ Zj x,r ∈ Zv as:=by
 induction as generalizing j with
 | nil => simp at h
 | cons y as ih =>
  intro r hr
  simp only [Zv,List.mem_append]
  cases j with
  | zero => simp at h; subst h; exact .inl hr
  | succ j => exact .inr (ih (by simpa using h) r hr)
theorem Zhe {as:List AV} {vs:List Value} (h:Qd σ w lim as vs):as.length = vs.length:=by
 induction as generalizing vs with
 | nil => cases vs <;> simp [Qd] at h ⊢
 | cons x as ih =>
  cases vs with
  | nil => simp [Qd] at h
  | cons v vs => simp only [Qd] at h; simp [ih h.2]
theorem Ze7:(xs:List RV) → (n:Nat) → (ZR n xs).1.length = xs.length
 | [],n => rfl
 | x :: xs,n => by simp only [ZR,List.length_cons,Ze7 xs]
theorem Yl:(pk:List Kd) → (as:List AV) → ∀ r ∈ WF (QI pk as),r ∈ Zv as
 | [],as,r,hr => by cases as <;> simp [QI,WF] at hr
 | k :: pk,[],r,hr => by cases k <;> simp [QI,WF] at hr
 | k :: pk,x :: as,r,hr => by
  simp only [Zv,List.mem_append]
  cases k with
  | box l =>
   simp only [QI] at hr
   cases x with
   | bx b j =>
    simp only [WF,List.mem_cons] at hr
    rcases hr with rfl | hr
    ·exact .inl (by simp [Zj])
    ·exact .inr (Yl pk as r hr)
   | _ => simp only [WF] at hr; exact .inr (Yl pk as r hr)
  | bld T =>
   simp only [QI] at hr
   cases x with
   | bx b j =>
    simp only [WF,List.mem_cons] at hr
    rcases hr with rfl | hr
    ·exact .inl (by simp [Zj])
    ·exact .inr (Yl pk as r hr)
   | _ => simp only [WF] at hr; exact .inr (Yl pk as r hr)
  | _ => simp only [QI] at hr; exact .inr (Yl pk as r hr)
mutual
theorem ZPq:(x:RV) → (n:Nat) → (∀ r ∈ Zj (put n x).1,r < (put n x).2.2) ∧ ∀ p ∈ (put n x).2.1,p.1 < (put n x).2.2 ∧ ZaK p.2 = true ∧ ∀ cs,p.2 = .live (.box cs) → ∀ q ∈ Zv cs,q < (put n x).2.2
 | .view t x,n => by simp only [put]; rw [Zn4]; simp
 | .own t sh xs,n => by simp [put,Zj,ZaK]
 | .box cs,n => by
  obtain ⟨h1,h2⟩:=ZcQ cs (n + 1)
  have hle:=Xv cs (n + 1)
  simp only [put]
  refine ⟨by intro r hr; simp [Zj] at hr; omega,fun p hp => ?_⟩
  cases hp with
  | head => exact ⟨by simp only; omega,rfl,fun ds hd => by simp only [RS.live.injEq,Res.box.injEq] at hd; subst hd; exact h1⟩
  | tail _ hp => exact h2 p hp
 | .agg cs,n => by
  obtain ⟨h1,h2⟩:=ZcQ cs n
  simp only [put]
  exact ⟨by simpa [Zj] using h1,h2⟩
 | .tup cs,n => by
  obtain ⟨h1,h2⟩:=ZcQ cs n
  simp only [put]
  exact ⟨by simpa [Zj] using h1,h2⟩
 | .fn f,n => by simp [put,Zj]
 | .ns t xs,n => by simp [put,Zj]
 | .clo f cs,n => by
  obtain ⟨h1,h2⟩:=ZcQ cs n
  simp only [put]
  exact ⟨by simpa [Zj] using h1,h2⟩
 | .bld T xs,n => by
  simp only [put]
  refine ⟨by intro r hr; simp [Zj] at hr; omega,fun p hp => ?_⟩
  simp only [List.mem_cons,List.not_mem_nil,or_false] at hp
  rcases hp with rfl | rfl
  ·refine ⟨by simp only; omega,rfl,fun cs hc q hq => ?_⟩
   simp only [RS.live.injEq,Res.box.injEq] at hc
   subst hc
   simp [Zv,Zj] at hq
   omega
  ·exact ⟨by simp only; omega,rfl,fun cs hc => by cases hc⟩
theorem ZcQ:(xs:List RV) → (n:Nat) → (∀ r ∈ Zv (ZR n xs).1,r < (ZR n xs).2.2) ∧ ∀ p ∈ (ZR n xs).2.1,p.1 < (ZR n xs).2.2 ∧ ZaK p.2 = true ∧ ∀ cs,p.2 = .live (.box cs) → ∀ q ∈ Zv cs,q < (ZR n xs).2.2
 | [],n => by simp [ZR,Zv]
 | x :: xs,n => by
  obtain ⟨h1,h2⟩:=ZPq x n
  obtain ⟨h3,h4⟩:=ZcQ xs (put n x).2.2
  have hle:=Xv xs (put n x).2.2
  simp only [ZR]
  refine ⟨fun r hr => ?_,fun p hp => ?_⟩
  ·simp only [Zv,List.mem_append] at hr
   rcases hr with hr | hr
   ·have:=h1 r hr; omega
   ·exact h3 r hr
  ·rcases List.mem_append.1 hp with hp | hp
   ·exact h4 p hp
   ·obtain ⟨a,b,c⟩:=h2 p hp
    exact ⟨by omega,b,fun cs hc q hq => by have:=c cs hc q hq; omega⟩
end
theorem ZEj:XS (fun _ => .fresh) = fun _ => .fresh:=by
 funext n
 simp only [XS,ZgR,ite_self]
theorem ZQz {avs:List AV} {u:Wo} (h:RelW G σ lim (enter avs u) tmps w) (hu:∀ p ∈ u,p.1 < Qg ∧ ZaK p.2 = true ∧ ∀ cs,p.2 = .live (.box cs) → ∀ q ∈ Zv cs,q < Qg)
  (hids:∀ r ∈ Zv avs,r < Qg) (hp:∀ p ∈ G.pins,p.1 < Qg):WN G σ lim (enter avs u) tmps w:=by
 have e:Zx u = Ql.put (fun _ => .fresh) u:=Zc0 u
 unfold enter at h ⊢
 rw [e] at h ⊢
 refine WN.of_put (T:=fun _ => .fresh) (by rw [ZEj]; exact h) (fun p hp => ⟨(hu p hp).1,(hu p hp).2.1⟩) ⟨fun s r hr => ?_,fun r cs hr => ?_,hp⟩
 ·simp only at hr
  rcases ZaZ avs 0 s with h | ⟨j,h1,h2⟩
  ·rw [h] at hr; simp [Zj] at hr
  ·exact hids r (ZsY h2 r hr)
 ·simp only [Ql.put] at hr
  cases hl:ZN u r with
  | none => rw [hl] at hr; cases hr
  | some z => rw [hl] at hr; simp only at hr; exact (hu _ (WG hl)).2.2 cs hr
theorem Zqd:(ks:List Kd) → (as:List AV) → XD ks as = true → (Qo ks as).length = (ZV ks).length
 | [],[],_ => rfl
 | [],_ :: _,h => by simp [XD] at h
 | k :: ks,[],h => by cases k <;> simp [XD] at h
 | k :: ks,a :: as,h => by
  cases k with
  | clo f l =>
   cases a with
   | clo g cs =>
    simp only [XD,Bool.and_eq_true] at h
    have:=Z6 h.1
    simp only [Qo,ZV,List.length_append,Zqd ks as h.2,this]
   | _ => simp [XD] at h
  | _ => simp only [XD] at h; simp only [Qo,ZV,List.length_cons,Zqd ks as h]
def ZjY:List Kd → Nat
 | [] => 0
 | .ref _ :: l => ZjY l + 1
 | _ :: l => ZjY l
theorem Zl7:(ks:List Kd) → K0 ks = false → ZjY ks = 0
 | [],_ => rfl
 | k :: ks,h => by
  cases k with
  | ref l => simp [K0] at h
  | _ => simp only [K0] at h; simp only [ZjY]; exact Zl7 ks h
theorem Zdu:(ks:List Kd) → (cs:List AV) → {q:List Nat} → ZM ks cs = some q → q.length = ZjY ks
 | [],[],q,h => by simp [ZM] at h; subst h; rfl
 | k :: ks,a :: as,q,h => by
  have other:(∀ l,k ≠ .ref l) → q.length = ZjY (k :: ks):=by
   intro hk
   have e:ZM (k :: ks) (a :: as) = ZM ks as:=by cases k <;> first | rfl | exact absurd rfl (hk _)
   have e2:ZjY (k :: ks) = ZjY ks:=by cases k <;> first | rfl | exact absurd rfl (hk _)
   rw [e] at h
   rw [e2]; exact Zdu ks as h
  cases k with
  | ref l =>
   cases a with
   | bx s kk =>
    cases kk with
    | succ kk => simp [ZM] at h
    | zero =>
     simp only [ZM] at h
     cases hq2:ZM ks as with
     | none => rw [hq2] at h; simp at h
     | some q2 =>
      rw [hq2] at h
      simp only [Option.some.injEq] at h
      subst h
      simp only [List.length_cons,ZjY,Zdu ks as hq2]
   | _ => simp [ZM] at h
  | _ => exact other (by intro l; simp)
 | [],_ :: _,q,h => by simp [ZM] at h
 | k :: _,[],q,h => by cases k <;> simp [ZM] at h
theorem Zkb {σ:Xk}:(ks:List Kd) → (q:List Nat) → (vs vs':List Value) → q.length = ZjY ks → Qn σ q ks vs → Qn σ q ks vs' → YY ks vs vs'
 | [],q,vs,vs',_,_,_ => by simp [YY]
 | k :: ks,q,[],vs',_,_,_ => by cases k <;> simp [YY]
 | k :: ks,q,v :: vs,[],_,_,_ => by cases k <;> simp [YY]
 | k :: ks,q,v :: vs,v' :: vs',hl,h,h' => by
  have other:(∀ l,k ≠ .ref l) → YY (k :: ks) (v :: vs) (v' :: vs'):=by
   intro hk
   have e2:ZjY (k :: ks) = ZjY ks:=by cases k <;> first | rfl | exact absurd rfl (hk _)
   have e3:YY (k :: ks) (v :: vs) (v' :: vs') = YY ks vs vs':=by cases k <;> first | rfl | exact absurd rfl (hk _)
   rw [e3]
   rw [e2] at hl
   cases q with
   | nil => exact Zkb (σ:=σ) ks [] vs vs' hl Wm Wm
   | cons q0 q =>
    have e4:∀ (u:Value) (us:List Value),Qn σ (q0 :: q) (k :: ks) (u :: us) = Qn σ (q0 :: q) ks us:=by intro u us; cases k <;> first | rfl | exact absurd rfl (hk _)
    rw [e4] at h h'
    exact Zkb ks (q0 :: q) vs vs' hl h h'
  cases k with
  | ref l =>
   cases q with
   | nil => simp [ZjY] at hl
   | cons q0 q =>
    simp only [Qn] at h h'
    simp only [YY]
    exact ⟨h'.1.trans h.1.symm,Zkb ks q vs vs' (by simpa [ZjY] using hl) h.2 h'.2⟩
  | _ => exact other (by intro l; simp)
theorem ZlG {σ1:Xk} {w0:World} (h:RelW G σ lim st tmps w):(ks:List Kd) → {as:List AV} → {vs:List Value} → {l l':List Nat} → {nm:List (List Nat)} → (K8 ks as).run st.tbl l = some (nm,l') → Qd σ w lim as vs → Xf σ1 w0 nm ks vs → (∀ q ∈ nm.flatten,σ q = σ1 q) → Y3 w0 w ks vs
 | [],as,vs,l,l',nm,hm,hv,hr,hq => by cases vs <;> simp [Y3]
 | k :: ks,[],vs,l,l',nm,hm,hv,hr,hq => by
  match vs,hv with
  | [],_ => cases k <;> simp [Y3]
 | k :: ks,a :: as,vs,l,l',nm,hm,hv,hr,hq => by
  match vs,hv with
  | v :: vs,hv =>
   simp only [Qd] at hv
   have other:(∀ l,k ≠ .box l) → Y3 w0 w (k :: ks) (v :: vs):=fun hk => by
    rw [ZaP hk] at hm
    have e:Y3 w0 w (k :: ks) (v :: vs) = Y3 w0 w ks vs:=by cases k <;> first | rfl | exact absurd rfl (hk _)
    have e2:Xf σ1 w0 nm (k :: ks) (v :: vs) = Xf σ1 w0 nm ks vs:=by cases k <;> first | (cases nm <;> rfl) | exact absurd rfl (hk _)
    rw [e]
    rw [e2] at hr
    exact ZlG h ks hm hv.2 hr hq
   cases k with
   | box l0 =>
    cases a with
    | bx r kk =>
     cases kk with
     | succ kk => exact (M.run_fail hm).elim
     | zero =>
      simp only [K8] at hm
      obtain ⟨q0,l5,h5,h6⟩:=M.run_bind_some hm
      obtain ⟨qs,l6,h7,h8⟩:=M.run_bind_some h6
      obtain ⟨h9,_⟩:=M.run_ret h8
      subst h9
      simp only [Xf] at hr
      simp only [Y3]
      refine ⟨fun b cs T fz cs' T' fz' e1 e2 e3 => ?_,ZlG h ks h7 hv.2 hr.2 (fun q' hq' => hq q' (by rw [List.flatten_cons]; exact List.mem_append_right _ hq'))⟩
      have hold:=hr.1 b cs T fz e1 e2
      cases hh:K0 l0 with
      | false =>
       have hz:=Zl7 l0 hh
       exact Zkb (σ:=σ) l0 [] _ _ (by simp [hz]) Wm Wm
      | true =>
       unfold Zdb at h5
       rw [hh] at h5
       simp only [cond_true,M.run] at h5
       cases hrr:st.tbl r with
       | fresh => simp [hrr,M.run] at h5
       | gone => simp [hrr,M.run] at h5
       | live y =>
        cases y with
        | arr => simp [hrr,M.run] at h5
        | nest => simp [hrr,M.run] at h5
        | box as0 =>
         simp only [hrr] at h5
         have hn:=M.run_ofOpt h5
         obtain ⟨hR,_⟩:=h.res r _ hrr
         obtain ⟨b0,ws,U,f1,f2,f3,f4,_⟩:=Yr hv.1 hR
         rw [e1] at f2
         obtain rfl:b = b0:=by simpa using f2
         rw [e3] at f3
         obtain ⟨rfl,_⟩:cs' = ws ∧ _:=by simpa using f3
         have hnew:=YU l0 as0 hn f4 (Zh2 l0 cs'.toList)
         exact Zkb (σ:=σ1) l0 q0 _ _ (Zdu l0 as0 hn) hold (X3 _ _ _ (fun q' hq' => (hq q' (by rw [List.flatten_cons]; exact List.mem_append_left _ hq')).symm) hnew)
    | _ => exact (M.run_fail hm).elim
   | _ => exact other (by intro l; simp)
  | [],hv => simp [Qd] at hv
theorem Zte (h : RelW G σ lim st tmps w) : (ks : List Kd) → {as : List AV} → {vs : List Value} → YD as = true → Qd σ w lim as vs → Xf σ w (K7 st.tbl ks as) ks vs
  | [], as, vs, hb, hv => by
    have : K7 st.tbl [] as = [] := by cases as <;> rfl
    rw [this]; cases vs <;> simp [Xf]
  | k :: ks, [], vs, hb, hv => by
    match vs, hv with
    | [], _ => cases k <;> simp [K7, Xf]
  | k :: ks, a :: as, vs, hb, hv => by
    match vs, hv with
    | v :: vs, hv =>
      simp only [Qd] at hv
      simp only [YD, List.all_cons, Bool.and_eq_true] at hb
      have ih := Zte h ks hb.2 hv.2
      have other : (∀ l, k ≠ .box l) → Xf σ w (K7 st.tbl (k :: ks) (a :: as)) (k :: ks) (v :: vs) := fun hk => by
        have e : K7 st.tbl (k :: ks) (a :: as) = K7 st.tbl ks as := by cases k <;> first | rfl | exact absurd rfl (hk _)
        rw [e]
        have e2 : ∀ nm, Xf σ w nm (k :: ks) (v :: vs) = Xf σ w nm ks vs := by intro nm; cases k <;> first | (cases nm <;> rfl) | exact absurd rfl (hk _)
        rw [e2]; exact ih
      cases k with
      | box l0 =>
        cases a with
        | bx r kk =>
         cases kk with
         | succ kk => simp at hb
         | zero =>
          simp only [K7, Xf]
          refine ⟨fun b cs T fz e1 e2 => ?_, ih⟩
          cases hh : K0 l0 with
          | false => exact Wm
          | true =>
            simp only [cond_true]
            cases hr : st.tbl r with
            | fresh => exact Wm
            | gone => exact Wm
            | live y =>
              cases y with
              | arr => exact Wm
              | nest => exact Wm
              | box as0 =>
                simp only
                cases hn : ZM l0 as0 with
                | none => exact Wm
                | some q =>
                  obtain ⟨hR, _⟩ := h.res r _ hr
                  obtain ⟨b0, ws, U, f1, f2, f3, f4, _⟩ := Yr hv.1 hR
                  rw [e1] at f2
                  obtain rfl : b = b0 := by simpa using f2
                  rw [e2] at f3
                  obtain ⟨rfl, _⟩ : cs = ws ∧ _ := by simpa using f3
                  exact YU l0 as0 hn f4 (Zh2 l0 cs.toList)
        | _ => simp at hb
      | _ => exact other (by intro l; simp)
    | [], hv => simp [Qd] at hv
theorem Zbr {tbl:Ql} {lim:Nat → Nat} (hres:∀ r x,tbl r = .live x → RR σ w lim r x ∧ Zw tbl (Qr r x)):(ks:List Kd) → (as:List AV) → ∀ q ∈ (K7 tbl ks as).flatten,∃ r cs,tbl r = .live (.box cs) ∧ q ∈ Zv cs
 | [],as,q,hq => by
  have:K7 tbl [] as = []:=by cases as <;> rfl
  rw [this] at hq; simp at hq
 | k :: ks,[],q,hq => by
  have:K7 tbl (k :: ks) [] = []:=by cases k <;> rfl
  rw [this] at hq; simp at hq
 | k :: ks,a :: as,q,hq => by
  have other:K7 tbl (k :: ks) (a :: as) = K7 tbl ks as → ∃ r cs,tbl r = .live (.box cs) ∧ q ∈ Zv cs:=fun e => by
   rw [e] at hq
   exact Zbr hres ks as q hq
  cases k with
  | box l0 =>
   cases a with
   | bx r kk =>
    cases kk with
    | succ kk => exact other rfl
    | zero =>
     simp only [K7,List.flatten_cons,List.mem_append] at hq
     rcases hq with hq | hq
     ·cases hh:K0 l0 with
      | false => rw [hh] at hq; simp at hq
      | true =>
       rw [hh] at hq
       simp only [cond_true] at hq
       cases hr:tbl r with
       | fresh => rw [hr] at hq; simp at hq
       | gone => rw [hr] at hq; simp at hq
       | live y =>
        rw [hr] at hq
        cases y with
        | arr => simp at hq
        | nest => simp at hq
        | box as0 =>
         simp only at hq
         cases hn:ZM l0 as0 with
         | none => rw [hn] at hq; simp at hq
         | some q' => rw [hn] at hq; exact ⟨r,as0,hr,Zaj l0 as0 hn q hq⟩
     ·exact Zbr hres ks as q hq
   | _ => exact other rfl
  | _ => exact other rfl
theorem ZLp : {a b:List Nat} → nEq a b = true → a = b
 | [],[],_ => rfl
 | x :: a,y :: b,h => by
  simp only [nEq,Bool.and_eq_true] at h
  rw [Z6 h.1,ZLp h.2]
 | [],_ :: _,h => by simp [nEq] at h
 | _ :: _,[],h => by simp [nEq] at h
theorem ZDK : {a b:List (List Nat)} → ZGw a b = true → a = b
 | [],[],_ => rfl
 | x :: a,y :: b,h => by
  simp only [ZGw,Bool.and_eq_true] at h
  rw [ZLp h.1,ZDK h.2]
 | [],_ :: _,h => by simp [ZGw] at h
 | _ :: _,[],h => by simp [ZGw] at h
theorem ZgP {w0:World}:(ks:List Kd) → (vs:List Value) → Y3 w0 w (Yc ks) (Yd ks vs) → Y3 w0 w ks vs
 | [],vs,_ => by cases vs <;> simp [Y3]
 | k :: ks,[],_ => by cases k <;> simp [Y3]
 | k :: ks,v :: vs,h => by
  cases k with
  | box l =>
   simp only [Yc,Yd,Y3] at h ⊢
   exact ⟨h.1,ZgP ks vs h.2⟩
  | bld T =>
   simp only [Yc,Yd,Y3] at h ⊢
   exact ZgP ks vs h
  | _ => simp only [Yc,Yd] at h; simp only [Y3]; exact ZgP ks vs h
theorem ZtR {rvs:List RV} {vs:List Value} {bs:List Nat} {pk:List Kd} {n:Nat} (hlz:∀ b,w.heap.size ≤ b → lim b = 0) (hgl:Ztx w lim) (hT:TTs w lim rvs vs bs) (hnd:bs.Nodup) (hbs:∀ b ∈ bs,b < w.heap.size)
    (hn:rvs.length ≤ n) (hin:(ZR 0 rvs).2.2 ≤ Qg) (hco:XD pk (ZR 0 rvs).1 = true) (hb:YD (QI (ZV pk) (Qo pk (ZR 0 rvs).1)) = true) :
    ∃ σ,W4 ⟨w,lim,bs,Kf (QI (ZV pk) (Qo pk (ZR 0 rvs).1)) (Yd (ZV pk) (Xu pk vs)) ++ (ZbK pk rvs).flatten.map (fun q => (q,σ q))⟩ n (enter (ZR 0 rvs).1 (ZR 0 rvs).2.1) { tmps:=vs.toArray ++ Array.replicate (n - vs.toArray.size) undef,defers:=[] } w ∧
      Qd σ w lim (QI (ZV pk) (Qo pk (ZR 0 rvs).1)) (Yd (ZV pk) (Xu pk vs)) ∧ vs.length = rvs.length ∧ (Xu pk vs).length = (ZV pk).length ∧ Xf σ w (ZbK pk rvs) (Yc (ZV pk)) (Yd (ZV pk) (Xu pk vs)):=by
  have h0:RelW ⟨w,lim,bs,[]⟩ (fun _ => undef) lim ⟨fun _ => .dead,fun _ => .fresh⟩ (vs.toArray ++ Array.replicate (n - vs.toArray.size) undef) w :=
    { env:=by intro s; simp [RA]
      known:=by intro s; simp [Zj,Zw]
      res:=by intro r x h; simp at h
      inj:=by intro r r' b h; simp [Z1] at h
      own:=by intro r b h; simp [Z1] at h
      ext:=Ext.refl _ _
      keep:=fun _ _ _ => rfl
      same:=⟨rfl,rfl,rfl⟩
      lz:=hlz
      limk:=fun _ _ _ => rfl
      glob:=hgl
      pin:=by intro p hp; simp at hp }
  obtain ⟨σ,hP,hA,hK⟩:=XM rvs 0 h0 hT (fun _ _ _ => rfl) ⟨hnd,fun b hb => ⟨.inr hb,by intro r h; simp [Z1] at h⟩⟩
  have hlen:vs.length = rvs.length:=by rw [← Ze7 rvs 0]; exact (Zhe hA).symm
  have hfA:=ZnS pk hco hA
  have hL:=ZDH (ZV pk) hfA
  have hfl:(Xu pk vs).length = (ZV pk).length:=by rw [← Zhe hfA]; exact Zqd pk _ hco
  have hrv:Xf σ w (ZbK pk rvs) (Yc (ZV pk)) (Yd (ZV pk) (Xu pk vs)):=by
    have:=Zte hP.rel (Yc (ZV pk)) hb hL
    simp only at this
    rw [← Zc0] at this
    exact this
  refine ⟨σ,⟨σ,lim,?_,by simp; omega,rfl⟩,hL,hlen,hfl,hrv⟩
  have hR:=hP.rel
  simp only at hR hK
  rw [← Zc0] at hR hK
  have hpin:=ZTR hb hL
  obtain ⟨lw1,lw2⟩:=ZcQ rvs 0
  refine ZQz ?_ (fun p hp => ⟨Nat.lt_of_lt_of_le (lw2 p hp).1 hin,(lw2 p hp).2.1,fun cs hc q hq => Nat.lt_of_lt_of_le ((lw2 p hp).2.2 cs hc q hq) hin⟩) (fun r hr => Nat.lt_of_lt_of_le (lw1 r hr) hin)
    (fun p hp => by
      rcases List.mem_append.1 hp with hp | hp
      · exact Nat.lt_of_lt_of_le (lw1 p.1 (ZeT pk _ _ (Yl (ZV pk) _ _ (Zj2 _ _ p hp)))) hin
      · obtain ⟨q,hq,rfl⟩:=List.mem_map.1 hp
        obtain ⟨r,cs,hr,hqc⟩:=Zbr hR.res (Yc (ZV pk)) (QI (ZV pk) (Qo pk (ZR 0 rvs).1)) q hq
        simp only [Zc0,Ql.put] at hr
        cases hl:ZN (ZR 0 rvs).2.1 r with
        | none => rw [hl] at hr; cases hr
        | some z => rw [hl] at hr; simp only at hr; exact Nat.lt_of_lt_of_le ((lw2 _ (WG hl)).2.2 cs hr q hqc) hin)
  exact
    { env:=by
        intro s
        rcases ZaZ (ZR 0 rvs).1 0 s with h | ⟨j,h1,h2⟩
        · simp only [enter,h,RA]
        · have hs:s = j:=by omega
          subst hs
          have hjl:s < vs.length:=by
            rw [← Zhe hA]
            rcases Nat.lt_or_ge s (ZR 0 rvs).1.length with h | h
            · exact h
            · rw [List.getElem?_eq_none h] at h2; cases h2
          have hv:vs[s]? = some vs[s]:=by simp [hjl]
          have:=Zz2 hA h2 hv
          simp only [enter]
          rw [Array.getD_eq_getD_getElem?,Array.getElem?_append_left (by simpa using hjl)]
          simpa [hv] using this
      known:=by
        intro s
        rcases ZaZ (ZR 0 rvs).1 0 s with h | ⟨j,h1,h2⟩
        · simp [enter,h,Zj,Zw]
        · intro r hr
          exact hK r (ZsY h2 r hr)
      res:=hR.res,inj:=hR.inj,own:=hR.own,ext:=hR.ext,keep:=hR.keep,same:=hR.same,lz:=hR.lz,limk:=hR.limk,glob:=hR.glob
      pin:=by
        intro p hp
        rcases List.mem_append.1 hp with hp | hp
        · refine ⟨hpin p hp,?_⟩
          exact hK p.1 (ZeT pk _ _ (Yl (ZV pk) _ _ (Zj2 _ _ p hp)))
        · obtain ⟨q,hq,rfl⟩:=List.mem_map.1 hp
          obtain ⟨r,cs,hr,hqc⟩:=Zbr hR.res (Yc (ZV pk)) (QI (ZV pk) (Qo pk (ZR 0 rvs).1)) q hq
          exact ⟨rfl,(hR.res r _ hr).2 q hqc⟩ }
def ZD6 (w:World) (lim:Nat → Nat) (vs:List Value) (bs:List Nat) (pk:List Kd) (r:RV × List RV):Ending → World → Prop:=fun e w' => ∃ v lim' b1 b2,e = .returned v ∧ Ext w lim w' lim' ∧ (∀ b,w'.heap.size ≤ b → lim' b = 0) ∧
   (w'.os = w.os ∧ w'.tape = w.tape ∧ w'.output = w.output) ∧ (∀ b,b < w.heap.size → b ∉ bs → w'.heap[b]? = w.heap[b]? ∧ lim' b = lim b) ∧
   TT w' lim' r.1 v b1 ∧ TL w' lim' (ZV pk) (Xu pk vs) r.2 b2 ∧ Y3 w w' (ZV pk) (Xu pk vs) ∧ (b1 ++ b2).Nodup ∧ ∀ b ∈ b1 ++ b2,b ∈ bs ∨ w.heap.size ≤ b
theorem ZsX {f:Nat} {fn:Func} {code:Code} {pk:List Kd} {rk:Kd} {rvs:List RV} {r:RV × List RV} {vs:List Value} {bs:List Nat} (hf:C.P.funcs[f]? = some fn) (hb:fn.body = some code)
  (hlz:∀ b,w.heap.size ≤ b → lim b = 0) (hgl:Ztx w lim) (hT:TTs w lim rvs vs bs) (hnd:bs.Nodup) (hbs:∀ b ∈ bs,b < w.heap.size) (hbx:YD (QI (ZV pk) (Qo pk (ZR 0 rvs).1)) = true) (hn:rvs.length ≤ fn.ntmps) (hin:(ZR 0 rvs).2.2 ≤ Qg) (hco:XD pk (ZR 0 rvs).1 = true)
  (hwp:∀ (G:Glob),(∀ p ∈ G.pins,p.1 ∈ WF (QI (ZV pk) (Qo pk (ZR 0 rvs).1)) ++ (ZbK pk rvs).flatten) → W4 G fn.ntmps (enter (ZR 0 rvs).1 (ZR 0 rvs).2.1) { tmps:=vs.toArray ++ Array.replicate (fn.ntmps - vs.toArray.size) undef,defers:=[] } w →
   code.wp C.P (fun e a w => ∃ e' st',e = Ex.out e' ∧ Ka C fn.results.toList pk (QI (ZV pk) (Qo pk (ZR 0 rvs).1)) (ZbK pk rvs) rk some e' st' = some r ∧ W4 G fn.ntmps st' a w) { tmps:=vs.toArray ++ Array.replicate (fn.ntmps - vs.toArray.size) undef,defers:=[] } w) :
  Calls C.P f vs.toArray w (ZD6 w lim vs bs pk r):=by
 obtain ⟨σ0,hS,hL,hlen,hfl,hRV⟩:=ZtR (pk:=pk) hlz hgl hT hnd hbs hn hin hco hbx
 refine calls_of_wp hf hb (wp_mono (hwp _ (fun p hp => by
  rcases List.mem_append.1 hp with hp | hp
  ·exact List.mem_append_left _ (Zj2 _ _ p hp)
  ·obtain ⟨q,hq,rfl⟩:=List.mem_map.1 hp
   exact List.mem_append_right _ hq) hS) ?_)
 rintro e a' w' ⟨e',st',rfl,hK,hs⟩
 obtain ⟨σ,lim',⟨hR,_⟩,_,hd⟩:=hs
 have leave:(Zqn C fn.results.toList pk (QI (ZV pk) (Qo pk (ZR 0 rvs).1)) (ZbK pk rvs) rk st').runK st'.tbl [] (fun x l => bif ZdM l then some x else none) = some r →
   a'.defers = [] ∧ ∃ v,(results fn a'.tmps).run C.P w' = .ok v w' ∧ ZD6 w lim vs bs pk r (.returned v) w':=by
  intro hl
  rw [M.runK_eq] at hl
  cases hr:(Zqn C fn.results.toList pk (QI (ZV pk) (Qo pk (ZR 0 rvs).1)) (ZbK pk rvs) rk st').run st'.tbl [] with
  | none => rw [hr] at hl; simp at hl
  | some p =>
   obtain ⟨q,lg⟩:=p
   rw [hr] at hl
   simp only [Option.bind_some] at hl
   have hlow:ZdM lg = true:=by
    cases hlg:ZdM lg with
    | true => rfl
    | false => rw [hlg] at hl; cases hl
   rw [hlow] at hl
   simp only [cond_true,Option.some.injEq] at hl
   subst hl
   have hr:=ZwA hr hlow
   unfold Zqn at hr
   rw [Zg7 (st:=st') (st2:=⟨st'.env,XS st'.tbl⟩) rfl] at hr
   obtain ⟨as,l1,h1,hr⟩:=M.run_bind_some hr
   obtain ⟨⟨y,u⟩,l2,h2,hr⟩:=M.run_bind_some hr
   obtain ⟨⟨ys,v⟩,l3,h3,hr⟩:=M.run_bind_some hr
   obtain ⟨nm',l4,h4,hr⟩:=M.run_bind_some hr
   obtain ⟨hok,hr2⟩:=M.run_guard hr
   simp only [Bool.and_eq_true] at hok
   obtain ⟨hok,hnm⟩:=hok
   have hnm:=ZDK hnm
   obtain ⟨hq,_⟩:=M.run_ret hr2
   subst hnm
   obtain ⟨rv,r1,r2⟩:=Zrq hR h1
   obtain ⟨g1,k1⟩:=Ztq (st:=⟨st'.env,XS st'.tbl⟩) (σ:=σ) (w:=w') (lim:=lim') rk _ h2
   obtain ⟨g2,k2⟩:=Xd (st:=⟨st'.env,XS st'.tbl⟩) (σ:=σ) (w:=w') (lim:=lim') (Yc (ZV pk)) _ h3
   obtain ⟨lim2,hR2,hE,hSh,hN,hB⟩:=hR.takes (g1.append g2) hok
   have hLf:Qd σ w' lim' (QI (ZV pk) (Qo pk (ZR 0 rvs).1)) (Yd (ZV pk) (Xu pk vs)):=ZB9 hbx hL fun p hp => (hR.pin p (List.mem_append_left _ hp)).1
   have hStay:Y3 w w' (ZV pk) (Xu pk vs):=ZgP _ _ (ZlG hR (Yc (ZV pk)) h4 hLf hRV fun q hq => (hR.pin (q,σ0 q) (List.mem_append_right _ (List.mem_map.2 ⟨q,hq,rfl⟩))).1)
   refine ⟨hd,rv,r1,rv,lim2,QW σ (Z8 u),QW σ (Z8 v),rfl,hR2.ext,hR2.lz,hR2.same,fun b hb1 hb2 => ⟨hR2.keep b hb1 hb2,hR2.limk b hb1 hb2⟩,?_,?_,hStay,?_,?_⟩
   ·rw [hq]; exact k1 rv r2 (fun r y hy => (hR.res r y hy).1) lim2 hE hSh.left
   ·rw [hq]; exact ZD2 (ZV pk) hfl (k2 _ hLf (fun r y hy => (hR.res r y hy).1) lim2 hE hSh.right)
   ·rw [← ZbA,← YO]; exact hN
   ·intro b hb; rw [← ZbA,← YO] at hb; exact (hB b hb).1.symm
 cases e' with
 | normal => exact leave hK
 | ret => exact leave hK
 | exit i => simp [Ka] at hK
theorem ZGl (hC:∀ f cal,C.Φ f = some cal → Ctr C.P C.k f cal) (hm:C.P.follows .mixedOrders = true) {A:Nat → Ann} {f k:Nat} {fn:Func} {code:Code} {cal:Callee} {rk:Kd}
  (hf:C.P.funcs[f]? = some fn) (hb:fn.body = some code) (hname:(fn.name == "runtime.NumGoroutine") = false) (hfit:Yb C.P fn.ntmps code = true)
  (hlent:∀ rvs x,cal.run k rvs = some x → YD (QI (ZV cal.pk) (Qo cal.pk (ZR 0 rvs).1)) = true)
  (hrun:∀ rvs x,cal.run k rvs = some x → ZCb C A fn.ntmps code fn.results.toList cal.pk rk rvs some = some (cal.enc x)):Ctr C.P k f cal where
 enters:=⟨fn,hf,hname,by rw [hb]; rfl⟩
 calls:=by
  intro rvs x hx w lim vs bs hlz hgl hT hnd hbs
  have h:=hrun rvs x hx
  have hbx:=hlent rvs x hx
  unfold ZCb at h
  cases hg:ZPh cal.pk rvs fn.ntmps with
  | false => rw [hg] at h; simp at h
  | true =>
   rw [hg] at h
   simp only [cond_true] at h
   simp only [ZPh,Bool.and_eq_true] at hg
   exact ZsX (rk:=rk) hf hb hlz hgl hT hnd hbs hbx (Nat.le_of_ble_eq_true hg.1.1) (Nat.le_of_ble_eq_true hg.1.2) hg.2 fun G hp hS => WO hC hm hp code h hfit hS fun e st' a' w' hK hs => ⟨e,st',rfl,hK,hs⟩
end Go.Sh
namespace Go.Sh
open Go
variable [Gl]
def ZDN:Ex → St → Option (Ex × St):=fun e s => some (e,s)
def ZhR {R:Type} (K:Ex → St → Option R):Ex × St → Option R:=fun x => K x.1 x.2
theorem Zqq {R:Type} {nm:St → Option St} {b1:St → (Ex → St → Option (Ex × St)) → Option (Ex × St)} {bR:St → (Ex → St → Option R) → Option R}
  (h1:∀ st K,b1 st K = (b1 st ZDN).bind (ZhR K)) (hb:∀ st K,bR st K = (b1 st ZDN).bind (ZhR K)):∀ (n:Nat) (st:St) (K:Ex → St → Option R),
  Zg3 bR nm n st K = (Zg3 b1 nm n st ZDN).bind (ZhR K)
 | 0,st,K => rfl
 | n + 1,st,K => by
  simp only [Zg3]
  rw [hb]
  conv => rhs; rw [h1]
  rw [Option.bind_assoc]
  congr 1
  funext x
  obtain ⟨e,s⟩:=x
  cases e with
  | exit i => rfl
  | ret => rfl
  | normal =>
   simp only [ZhR]
   cases nm s with
   | none => rfl
   | some s' => exact Zqq h1 hb n s' K
theorem Ww {C:Ctx} {A:Nat → Ann} {kp:List Nat}:(c:Code) → {R:Type} → (st:St) → (K:Ex → St → Option R) → XF C A kp c st K = (XF C A kp c st ZDN).bind (ZhR K)
 | .skip,R,st,K => rfl
 | .label _,R,st,K => rfl
 | .ret,R,st,K => rfl
 | .exit _,R,st,K => rfl
 | .goto _,R,st,K => rfl
 | .refuse _,R,st,K => rfl
 | .rangeFunc _ _ _ _,R,st,K => rfl
 | .region id ops d,R,st,K => by
  simp only [XF]
  cases d with
  | false => simp only [cond_false,Zwq,Option.bind_assoc]; rfl
  | true =>
   simp only [cond_true,Zkz,Option.bind_assoc]
   congr 1
   funext x
   cases KK ops.toList (YR ops.toList []) ([] ++ x.2) <;> rfl
 | .seq a b,R,st,K => by
  simp only [XF]
  rw [Ww a]
  conv => rhs; rw [Ww a]
  rw [Option.bind_assoc]
  congr 1
  funext x
  obtain ⟨e,s⟩:=x
  cases e with
  | normal => exact Ww b s K
  | exit i => rfl
  | ret => rfl
 | .cond c a b,R,st,K => by
  simp only [XF]
  split
  ·rename_i t _
   cases t with
   | true => simp only [cond_true]; exact Ww a _ K
   | false => simp only [cond_false]; exact Ww b _ K
  ·rfl
 | .block id c,R,st,K => by
  simp only [XF]
  rw [Ww c]
  conv => rhs; rw [Ww c]
  rw [Option.bind_assoc]
  congr 1
  funext x
  obtain ⟨e,s⟩:=x
  cases e with
  | normal => rfl
  | ret => rfl
  | exit i => simp only [ZhR,ZtJ]; cases Nat.beq i id <;> rfl
 | .loop c,R,st,K => by
  simp only [XF,Option.bind_assoc]
  congr 1
  funext s
  exact Zqq (fun st K => Ww c st K) (fun st K => Ww c st K) C.k s K
 | .scope c,R,st,K => by simp only [XF]; exact Ww c st K
theorem ZGD {C:Ctx} {A:Nat → Ann} {n:Nat} {body:Code} {rs:List ResultVar} {pk:List Kd} {rk:Kd} {rvs:List RV} {R:Type} (K:RV × List RV → Option R) :
  ZCb C A n body rs pk rk rvs K = (ZCb C A n body rs pk rk rvs some).bind K:=by
 unfold ZCb
 cases ZPh pk rvs n with
 | false => rfl
 | true =>
  simp only [cond_true]
  rw [Ww]
  conv => rhs; rw [Ww]
  rw [Option.bind_assoc]
  congr 1
  funext x
  obtain ⟨e,s⟩:=x
  simp only [ZhR]
  cases e <;> simp only [Ka,M.runK_eq,Option.bind_assoc,Option.bind_some,Option.bind_none]
  all_goals (congr 1; funext x; cases ZdM x.2 <;> rfl)
mutual
def Kd.den:Kd → Type
 | .view t => t.den
 | .own t _ => List t.den
 | .box ks => Kd.dens ks
 | .agg ks => Kd.dens ks
 | .tup ks => Kd.dens ks
 | .fn _ => Unit
 | .bld _ => List Int
 | .use _ => List Int
 | .clo _ ks => Kd.dens ks
 | .ref ks => Kd.dens ks
 | .ns t => List t.den
def Kd.dens:List Kd → Type
 | [] => Unit
 | k :: ks => k.den × Kd.dens ks
end
mutual
def enc:(k:Kd) → k.den → RV
 | .view t,x => .view t x
 | .own t sh,xs => .own t sh xs
 | .box ks,x => .box (XE ks x)
 | .agg ks,x => .agg (XE ks x)
 | .tup ks,x => .tup (XE ks x)
 | .fn f,_ => .fn f
 | .bld T,xs => .bld T xs
 | .use T,xs => .bld T xs
 | .clo f ks,x => .clo f (XE ks x)
 | .ref ks,x => .box (XE ks x)
 | .ns t,xs => .ns t xs
def XE:(ks:List Kd) → Kd.dens ks → List RV
 | [],_ => []
 | k :: ks,x => enc k x.1 :: XE ks x.2
end
def Zn3 (t:Ty):RV → Option t.den
 | .view t' x => if h:t' = t then some (h ▸ x:t.den) else none
 | _ => none
def ZG4 (t:Ty) (sh:Bool):RV → Option (List t.den)
 | .own t' sh' xs => if h:t' = t then (bif sh == sh' then some (h ▸ xs:List t.den) else none) else none
 | _ => none
def ZCp:RV → Option (List RV)
 | .box cs => some cs
 | _ => none
def asAgg:RV → Option (List RV)
 | .agg cs => some cs
 | _ => none
def ZG6:RV → Option (List RV)
 | .tup cs => some cs
 | _ => none
def ZQu (f:Nat):RV → Option Unit
 | .fn g => bif Nat.beq f g then some () else none
 | _ => none
def ZG2 (f:Nat):RV → Option (List RV)
 | .clo g cs => bif Nat.beq f g then some cs else none
 | _ => none
def ZQv (t:Ty):RV → Option (List t.den)
 | .ns t' xs => if h:t' = t then some (h ▸ xs:List t.den) else none
 | _ => none
def ZCo (T:TypeId):RV → Option (List Int)
 | .bld U xs => bif Nat.beq T U then some xs else none
 | _ => none
mutual
def dec:(k:Kd) → RV → Option k.den
 | .view t,r => Zn3 t r
 | .own t sh,r => ZG4 t sh r
 | .box ks,r => (ZCp r).bind (ZgQ ks)
 | .agg ks,r => (asAgg r).bind (ZgQ ks)
 | .tup ks,r => (ZG6 r).bind (ZgQ ks)
 | .fn f,r => ZQu f r
 | .bld T,r => ZCo T r
 | .use T,r => ZCo T r
 | .clo f ks,r => (ZG2 f r).bind (ZgQ ks)
 | .ref ks,r => (ZCp r).bind (ZgQ ks)
 | .ns t,r => ZQv t r
def ZgQ:(ks:List Kd) → List RV → Option (Kd.dens ks)
 | [],[] => some ()
 | [],_ :: _ => none
 | _ :: _,[] => none
 | k :: ks,x :: xs => (dec k x).bind fun y => (ZgQ ks xs).bind fun ys => some (y,ys)
end
theorem ZD8 {t:Ty} {r:RV} {x:t.den} (h:Zn3 t r = some x):r = .view t x:=by
 unfold Zn3 at h
 split at h
 ·split at h
  ·rename_i e; subst e; simp at h; rw [h]
  ·cases h
 ·cases h
theorem ZG5 {t:Ty} {sh:Bool} {r:RV} {x:List t.den} (h:ZG4 t sh r = some x):r = .own t sh x:=by
 unfold ZG4 at h
 split at h
 ·split at h
  ·rename_i sh' _ e
   subst e
   cases hs:(sh == sh') with
   | false => rw [hs] at h; simp at h
   | true => rw [hs] at h; simp at h hs; rw [h,hs]
  ·cases h
 ·cases h
theorem ZwV {r:RV} {cs:List RV} (h:ZCp r = some cs):r = .box cs:=by unfold ZCp at h; split at h <;> simp at h; rw [h]
theorem ZG1 {r:RV} {cs:List RV} (h:asAgg r = some cs):r = .agg cs:=by unfold asAgg at h; split at h <;> simp at h; rw [h]
theorem ZG7 {r:RV} {cs:List RV} (h:ZG6 r = some cs):r = .tup cs:=by unfold ZG6 at h; split at h <;> simp at h; rw [h]
theorem ZL0 {f:Nat} {r:RV} {x:Unit} (h:ZQu f r = some x):r = .fn f:=by
 unfold ZQu at h
 split at h
 ·rename_i g
  cases hb:Nat.beq f g with
  | false => rw [hb] at h; simp at h
  | true => rw [Z6 hb]
 ·cases h
theorem ZG3 {f:Nat} {r:RV} {cs:List RV} (h:ZG2 f r = some cs):r = .clo f cs:=by
 unfold ZG2 at h
 split at h
 ·rename_i g l
  cases hb:Nat.beq f g with
  | false => rw [hb] at h; simp at h
  | true => rw [hb] at h; simp at h; rw [Z6 hb,h]
 ·cases h
theorem ZL1 {t:Ty} {r:RV} {x:List t.den} (h:ZQv t r = some x):r = .ns t x:=by
 unfold ZQv at h
 split at h
 ·split at h
  ·rename_i e; subst e; simp at h; rw [h]
  ·cases h
 ·cases h
theorem ZwU {T:TypeId} {r:RV} {x:List Int} (h:ZCo T r = some x):r = .bld T x:=by
 unfold ZCo at h
 split at h
 ·rename_i U xs
  cases hb:Nat.beq T U with
  | false => rw [hb] at h; simp at h
  | true => rw [hb] at h; simp at h; rw [Z6 hb,h]
 ·cases h
mutual
theorem ZCt:(k:Kd) → (r:RV) → (x:k.den) → dec k r = some x → r = enc k x
 | .view t,r,x,h => by simp only [dec] at h; simp only [enc]; exact ZD8 h
 | .own t sh,r,x,h => by simp only [dec] at h; simp only [enc]; exact ZG5 h
 | .box ks,r,x,h => by
  simp only [dec] at h
  obtain ⟨cs,h1,h2⟩:=Option.bind_eq_some_iff.1 h
  simp only [enc,ZwV h1,Wv ks cs x h2]
 | .agg ks,r,x,h => by
  simp only [dec] at h
  obtain ⟨cs,h1,h2⟩:=Option.bind_eq_some_iff.1 h
  simp only [enc,ZG1 h1,Wv ks cs x h2]
 | .tup ks,r,x,h => by
  simp only [dec] at h
  obtain ⟨cs,h1,h2⟩:=Option.bind_eq_some_iff.1 h
  simp only [enc,ZG7 h1,Wv ks cs x h2]
 | .fn f,r,x,h => by simp only [dec] at h; simp only [enc]; exact ZL0 h
 | .bld T,r,x,h => by simp only [dec] at h; simp only [enc]; exact ZwU h
 | .use T,r,x,h => by simp only [dec] at h; simp only [enc]; exact ZwU h
 | .clo f ks,r,x,h => by
  simp only [dec] at h
  obtain ⟨cs,h1,h2⟩:=Option.bind_eq_some_iff.1 h
  simp only [enc,ZG3 h1,Wv ks cs x h2]
 | .ns t,r,x,h => by simp only [dec] at h; simp only [enc]; exact ZL1 h
 | .ref ks,r,x,h => by
  simp only [dec] at h
  obtain ⟨cs,h1,h2⟩:=Option.bind_eq_some_iff.1 h
  simp only [enc,ZwV h1,Wv ks cs x h2]
theorem Wv:(ks:List Kd) → (rs:List RV) → (x:Kd.dens ks) → ZgQ ks rs = some x → rs = XE ks x
 | [],[],x,h => rfl
 | k :: ks,r :: rs,x,h => by
  simp only [ZgQ] at h
  obtain ⟨y,h1,h⟩:=Option.bind_eq_some_iff.1 h
  obtain ⟨ys,h2,h⟩:=Option.bind_eq_some_iff.1 h
  cases h
  simp only [XE,← ZCt k r y h1,← Wv ks rs ys h2]
 | [],_ :: _,x,h => by simp [ZgQ] at h
 | _ :: _,[],x,h => by simp [ZgQ] at h
end
theorem ZlW:(ks:List Kd) → (x:Kd.dens ks) → (XE ks x).length = ks.length
 | [],_ => rfl
 | k :: ks,x => by simp only [XE,List.length_cons,ZlW ks]
theorem Zwh {ks ls:List Kd} {as bs:List AV} (h:ks.length = as.length):QI (ks ++ ls) (as ++ bs) = QI ks as ++ QI ls bs:=by
 induction ks generalizing as with
 | nil =>
  cases as with
  | nil => simp [QI]
  | cons _ _ => simp at h
 | cons k ks ih =>
  cases as with
  | nil => simp at h
  | cons a as =>
   have ih:=ih (as:=as) (by simpa using h)
   cases k <;> simp [QI,ih]
theorem ZtL (a b:List AV):YD (a ++ b) = (YD a && YD b):=by simp [YD]
theorem ZlS:(ks:List Kd) → (x:Kd.dens ks) → (n:Nat) → YD (QI ks (ZR n (XE ks x)).1) = true
 | [],_,n => rfl
 | k :: ks,x,n => by
  have ih:=ZlS ks x.2
  cases k with
  | box l =>
   simp only [XE,enc,ZR,put,QI,YD,List.all_cons,Bool.true_and] at ih ⊢
   exact ih _
  | bld T =>
   simp only [XE,enc,ZR,put,QI,YD,List.all_cons,Bool.true_and] at ih ⊢
   exact ih _
  | _ => simp only [XE,enc,ZR,QI]; exact ih _
theorem Zoc:(ks:List Kd) → (x:Kd.dens ks) → (n:Nat) → YD (QI (ZV ks) (Qo ks (ZR n (XE ks x)).1)) = true
 | [],_,n => rfl
 | k :: ks,x,n => by
  have ih:=Zoc ks x.2
  cases k with
  | box l =>
   simp only [XE,enc,ZR,put,ZV,Qo,QI,YD,List.all_cons,Bool.true_and] at ih ⊢
   exact ih _
  | bld T =>
   simp only [XE,enc,ZR,put,ZV,Qo,QI,YD,List.all_cons,Bool.true_and] at ih ⊢
   exact ih _
  | clo f l =>
   simp only [XE,enc,ZR,put,ZV,Qo]
   rw [Zwh (by rw [Ze7]; exact (ZlW l x.1).symm),ZtL,Bool.and_eq_true]
   exact ⟨ZlS l x.1 n,ih _⟩
  | _ => simp only [XE,enc,ZR,ZV,Qo,QI]; exact ih _
abbrev Ans (pk:List Kd) (rk:Kd):Type:=rk.den × Kd.dens (Yc (ZV pk))
def ZHg (pk:List Kd) (rk:Kd) (r:RV × List RV):Option (Ans pk rk):=(dec rk r.1).bind fun x => (ZgQ (Yc (ZV pk)) r.2).bind fun l => some (x,l)
def ZQy (pk:List Kd) (rk:Kd) (x:Ans pk rk):RV × List RV:=(enc rk x.1,XE (Yc (ZV pk)) x.2)
theorem ZEi {pk:List Kd} {rk:Kd} {r:RV × List RV} {x:Ans pk rk} (h:ZHg pk rk r = some x):r = ZQy pk rk x:=by
 unfold ZHg at h
 obtain ⟨y,h1,h⟩:=Option.bind_eq_some_iff.1 h
 obtain ⟨ys,h2,h⟩:=Option.bind_eq_some_iff.1 h
 cases h
 obtain ⟨a,b⟩:=r
 simp only [ZQy,← ZCt rk a y h1,← Wv (Yc (ZV pk)) b ys h2]
def mk (pk:List Kd) (rk:Kd) (F:Nat → Kd.dens pk → Option (Ans pk rk)):Callee :=
 { ρ:=Ans pk rk,pk:=pk,run:=fun k rvs => (ZgQ pk rvs).bind (F k),enc:=ZQy pk rk }
theorem ZO4 {C:Ctx} (hC:∀ f cal,C.Φ f = some cal → Ctr C.P C.k f cal) (hm:C.P.follows .mixedOrders = true) {A:Nat → Ann} {f k:Nat} {fn:Func} {code:Code} {pk:List Kd} {rk:Kd} {F:Nat → Kd.dens pk → Option (Ans pk rk)}
  (hf:C.P.funcs[f]? = some fn) (hb:fn.body = some code) (hname:(fn.name == "runtime.NumGoroutine") = false) (hfit:Yb C.P fn.ntmps code = true)
  (h:∀ x y,F k x = some y → ZCb C A fn.ntmps code fn.results.toList pk rk (XE pk x) (ZHg pk rk) = some y):Ctr C.P k f (mk pk rk F):=by
 refine ZGl (A:=A) (rk:=rk) hC hm hf hb hname hfit (fun rvs x hx => ?_) (fun rvs x hx => ?_)
 ·simp only [mk] at hx ⊢
  obtain ⟨y,h1,h2⟩:=Option.bind_eq_some_iff.1 hx
  rw [Wv pk rvs y h1]
  exact Zoc pk y 0
 ·simp only [mk] at hx ⊢
  obtain ⟨y,h1,h2⟩:=Option.bind_eq_some_iff.1 hx
  have h3:=h y x h2
  rw [← Wv pk rvs y h1,ZGD] at h3
  obtain ⟨r,h4,h5⟩:=Option.bind_eq_some_iff.1 h3
  rw [h4,ZEi h5]
def phi:List (Nat × Callee) → Nat → Option Callee
 | [],_ => none
 | (f,c) :: l,g => bif Nat.beq g f then some c else phi l g
theorem Zh {P:Program} {k:Nat}:∀ {l:List (Nat × Callee)},(∀ p ∈ l,Ctr P k p.1 p.2) → ∀ f cal,phi l f = some cal → Ctr P k f cal
 | [],_,f,cal,h => by simp [phi] at h
 | (g,c) :: l,hl,f,cal,h => by
  simp only [phi] at h
  cases hb:Nat.beq f g with
  | true => rw [hb] at h; simp at h; rw [Z6 hb,← h]; exact hl (g,c) (by simp)
  | false => rw [hb] at h; exact Zh (fun p hp => hl p (by simp [hp])) f cal h
theorem Zc {P:Program} {k:Nat}:∀ p ∈ ([]:List (Nat × Callee)),Ctr P k p.1 p.2:=by intro p hp; simp at hp
theorem Za {P:Program} {k f:Nat} {c:Callee} {l:List (Nat × Callee)} (h:Ctr P k f c) (hl:∀ p ∈ l,Ctr P k p.1 p.2):∀ p ∈ (f,c) :: l,Ctr P k p.1 p.2:=by
 intro p hp
 rcases List.mem_cons.1 hp with rfl | hp
 ·exact h
 ·exact hl p hp
def Zm {V R:Type} (step:(V → Option R) → V → Option R):Nat → V → Option R
 | 0,_ => none
 | n + 1,v => step (Zm step n) v
theorem Zk {V R:Type} {L:Nat → V → Option R} {step:(V → Option R) → V → Option R} (h0:∀ v,L 0 v = none) (h:∀ n v,L (n + 1) v = step (L n) v):∀ n,L n = Zm step n
 | 0 => funext h0
 | n + 1 => funext fun v => by rw [h,Zk h0 h n]; rfl
section
variable {R:Type}
def place (C:Ctx) (A:Nat → Ann) (kp:List Nat):List Nat → List Nat → Code → (Ex → St → Option R) → Code × (Ex → St → Option R)
 | 0 :: p,ns,.seq a b,K => place C A kp p ns a (ZLI (fun s => XF C A kp b s K) K)
 | _ :: p,ns,.seq _ b,K => place C A kp p ns b K
 | 0 :: p,ns,.cond _ a _,K => place C A kp p ns a K
 | _ :: p,ns,.cond _ _ b,K => place C A kp p ns b K
 | _ :: p,ns,.block id c,K => place C A kp p ns c (ZtJ id K)
 | _ :: p,ns,.scope c,K => place C A kp p ns c K
 | _ :: p,n :: ns,.loop c,K => place C A kp p ns c fun e s => match e with
  | .normal => (Zrn kp (A (QC c)) s).bind fun s => Zg3 (XF C A kp c) (Zrn kp (A (QC c))) n s K
  | .exit i => K (.exit i) s
  | .ret => K .ret s
 | _,_,c,K => (c,K)
def Zt (C:Ctx) (A:Nat → Ann) (kp:List Nat) (p ns:List Nat) (code:Code) (K:Ex → St → Option R) (n:Nat) (st:St):Option R :=
 match place C A kp p ns code K with
 | (.loop c,K) => Zg3 (XF C A kp c) (Zrn kp (A (QC c))) n st K
 | _ => none
end
end Go.Sh
