/-
  What the row needs, part 4.
-/
import Derived.Test.YtmeahimfdhdggaaGreatDoorXFrameBack3
import Derived.Scope
import Derived.LoopN
set_option linter.unusedSimpArgs false
set_option linter.unusedVariables false
set_option linter.unusedSectionVars false
namespace Go.Sh
open Go
variable [Gl]
variable {C:Ctx} {G:Glob} {σ:W0} {w:World} {lim:Nat → Nat} {st:St} {a:Act}
def Ex.out:Ex → Exit
 | .normal => .normal
 | .exit i => .exit i
 | .ret => .ret
def XL (P:Program) (n:Nat):Code → Bool
 | .region _ ops _ => Zpv P n ops.toList
 | .seq a b => XL P n a && XL P n b
 | .cond _ a b => XL P n a && XL P n b
 | .block _ c => XL P n c
 | .loop c => XL P n c
 | .scope c => XL P n c
 | _ => true
def WI (G:Glob) (n:Nat) (st:St) (a:Act) (w:World):Prop := ∃ σ lim,Wn G σ lim st a.tmps w ∧ a.tmps.size = n ∧ a.defers = []
theorem ZFl {n:Nat} (h:WI G n st a w) {c:Operand} {t:Bool} (hc:Zad st.env c = .val (.v (.bool t))):a.eval c = .bool t:=by
 obtain ⟨σ,lim,h,_,_⟩:=h
 have:=(Zt h.1 c).1
 rw [hc] at this
 simpa only [RA,RP] using this
theorem ZjF {n:Nat} (h:WI G n st a w) {q:Nat} (hq:q < Qb):WI G n (ZyJ st q) a w:=by
 obtain ⟨σ,lim,h,h2,h3⟩:=h
 unfold ZyJ
 split
 ·rename_i t xss hT
  obtain ⟨lim',h4⟩:=RelW.melt h.1 h.2 hq hT
  exact ⟨σ,lim',h4,h2,h3⟩
 ·exact ⟨σ,lim,h,h2,h3⟩
theorem Zsl {n:Nat} (h:WI G n st a w) (id:Nat):WI G n (ZfX C id st) a w:=by
 have hL:Low G st:=by obtain ⟨_,_,⟨_,hL⟩,_,_⟩:=h; exact hL
 unfold ZfX
 split
 ·split
  ·rename_i s _ _ q hs
   exact ZjF h (hL.env s q (by rw [hs]; simp [Zd]))
  ·exact h
 ·split
  ·rename_i s k _ _ r hs
   unfold ZIH
   split
   ·rename_i cs hr
    split
    ·rename_i q hq
     exact ZjF h (hL.box r cs hr q (YO (List.mem_of_getElem? hq) (by simp [Zd])))
    ·exact h
   ·exact h
  ·exact h
 ·exact h
theorem Wo (hC:∀ f cal,C.Φ f = some cal → Ctr C.P C.k f cal) (hm:C.P.follows .mixedOrders = true) {A:Nat → Ann} {kp:List Nat} (hk:∀ p ∈ G.pins,p.1 ∈ kp) {n:Nat} {R:Type} {r:R} :
  (c:Code) → {st:St} → {K:Ex → St → Option R} → Xf C A kp c st K = some r → XL C.P n c = true → {a:Act} → {w:World} → WI G n st a w → {Q:Exit → Act → World → Prop} →
  (∀ e st' a' w',K e st' = some r → WI G n st' a' w' → Q e.out a' w') → c.wp C.P Q a w
 | .skip,st,K,h,hf,a,w,hs,Q,hQ => wp_skip (hQ .normal st a w h hs)
 | .label _,st,K,h,hf,a,w,hs,Q,hQ => wp_label (hQ .normal st a w h hs)
 | .ret,st,K,h,hf,a,w,hs,Q,hQ => wp_ret (hQ .ret st a w h hs)
 | .exit i,st,K,h,hf,a,w,hs,Q,hQ => wp_exit (hQ (.exit i) st a w h hs)
 | .region id ops d,st,K,h,hf,a,w,hs,Q,hQ => by
  simp only [Xf] at h
  simp only [XL] at hf
  obtain ⟨σ,lim,hR,hn,hd⟩:=Zsl (C:=C) hs id
  have hb:∃ stf lgs,Zja C id ops.toList ops.toList 0 (ZfX C id st) = some (stf,lgs) ∧ (d = true → Kk ops.toList (Yu ops.toList []) lgs = true) ∧ K .normal stf = some r:=by
   cases d with
   | false =>
    simp only [cond_false,Zsq] at h
    cases ho:Zja C id ops.toList ops.toList 0 (ZfX C id st) with
    | none => rw [ho] at h; simp at h
    | some x => rw [ho] at h; exact ⟨x.1,x.2,rfl,by simp,h⟩
   | true =>
    simp only [cond_true,Zil,List.nil_append] at h
    cases ho:Zja C id ops.toList ops.toList 0 (ZfX C id st) with
    | none => rw [ho] at h; simp at h
    | some x =>
     rw [ho] at h
     simp only [Option.bind_some] at h
     cases hi:Kk ops.toList (Yu ops.toList []) x.2 with
     | false => rw [hi] at h; simp at h
     | true => rw [hi] at h; exact ⟨x.1,x.2,rfl,fun _ => hi,h⟩
  obtain ⟨stf,lgs,h1,h2,h3⟩:=hb
  exact Zsv hC hm hf hR hn hd h1 h2 fun a' w' σ' lim' hR' hn' hd' => hQ .normal stf a' w' h3 ⟨σ',lim',hR',hn',hd'⟩
 | .seq x y,st,K,h,hf,a,w,hs,Q,hQ => by
  simp only [Xf] at h
  simp only [XL,Bool.and_eq_true] at hf
  refine wp_seq (Wo hC hm hk x h hf.1 hs fun e st' a' w' hK hs' => ?_)
  cases e with
  | normal => exact Wo hC hm hk y hK hf.2 hs' hQ
  | exit i => exact hQ (.exit i) st' a' w' hK hs'
  | ret => exact hQ .ret st' a' w' hK hs'
 | .cond c x y,st,K,h,hf,a,w,hs,Q,hQ => by
  simp only [Xf] at h
  simp only [XL,Bool.and_eq_true] at hf
  split at h
  ·rename_i t hc
   have e1:=ZFl hs hc
   cases t with
   | true =>
    refine wp_cond_true e1 (Wo hC hm (A:=A) hk x (K:=K) ?_ hf.1 hs hQ)
    cases c with
    | tmp d => simp only [Zad] at hc; simpa only [cond_true,Zjl hc] using h
    | _ => exact h
   | false =>
    refine wp_cond_false e1 (Wo hC hm (A:=A) hk y (K:=K) ?_ hf.2 hs hQ)
    cases c with
    | tmp d => simp only [Zad] at hc; simpa only [cond_false,Zjl hc] using h
    | _ => exact h
  ·simp at h
 | .block id c,st,K,h,hf,a,w,hs,Q,hQ => by
  simp only [Xf] at h
  simp only [XL] at hf
  refine wp_block (Wo hC hm hk c h hf hs fun e st' a' w' hK hs' => ?_)
  cases e with
  | normal => exact hQ .normal st' a' w' hK hs'
  | ret => exact hQ .ret st' a' w' hK hs'
  | exit i =>
   simp only [Zqq] at hK
   simp only [Ex.out,Exit.inBlock]
   cases hb:Nat.beq i id with
   | true => rw [hb] at hK; rw [if_pos (Z0 hb)]; exact hQ .normal st' a' w' hK hs'
   | false =>
    rw [hb] at hK
    rw [if_neg (by rintro rfl; rw [WW] at hb; cases hb)]
    exact hQ (.exit i) st' a' w' hK hs'
 | .loop c,st,K,h,hf,a,w,hs,Q,hQ => by
  simp only [Xf] at h
  simp only [XL] at hf
  have key:∀ (m:Nat) (st:St) (a:Act) (w:World),Zfh (Xf C A kp c) (Zog kp (A (Qy c))) m st K = some r → WI G n st a w → Code.rounds C.P c Q m a w:=by
   intro m
   induction m with
   | zero => intro st a w h; simp [Zfh] at h
   | succ m ih =>
    intro st a w h hs
    rw [rounds_succ]
    simp only [Zfh] at h
    refine Wo hC hm hk c h hf hs fun e st' a' w' hK hs' => ?_
    cases e with
    | ret => exact hQ .ret st' a' w' hK hs'
    | exit i => exact hQ (.exit i) st' a' w' hK hs'
    | normal =>
     cases hn:Zog kp (A (Qy c)) st' with
     | none => rw [hn] at hK; simp at hK
     | some s =>
      rw [hn] at hK
      obtain ⟨σ,lim,hR,q1,q2⟩:=hs'
      obtain ⟨σ2,lim2,hR2⟩:=Znm hR hk hn
      exact ih s a' w' hK ⟨σ2,lim2,hR2,q1,q2⟩
  cases hn:Zog kp (A (Qy c)) st with
  | none => rw [hn] at h; simp at h
  | some s =>
   rw [hn] at h
   obtain ⟨σ,lim,hR,q1,q2⟩:=hs
   obtain ⟨σ2,lim2,hR2⟩:=Znm hR hk hn
   exact wp_loop_rounds C.k (key C.k s a w h ⟨σ2,lim2,hR2,q1,q2⟩)
 | .scope c,st,K,h,hf,a,w,hs,Q,hQ => by
  simp only [Xf] at h
  simp only [XL] at hf
  refine wp_scope_straight (Wo hC hm hk c h hf hs fun e st' a' w' hK hs' => ?_)
  cases e <;> exact hQ _ st' a' w' hK hs'
 | .rangeFunc _ _ _ _,st,K,h,hf,a,w,hs,Q,hQ => by simp [Xf] at h
 | .goto _,st,K,h,hf,a,w,hs,Q,hQ => by simp [Xf] at h
end Go.Sh
namespace Go.Sh
open Go
variable [Gl]
variable {C:Ctx} {G:Glob} {σ:W0} {w:World} {lim:Nat → Nat} {st:St} {tmps:Array Value}
theorem Zw9 {P:Program} {T:TypeId} {v x:Value} (h:(Instr.loadAt T v).run P w = .ok x w):(asAddr v >>= fun p => loadVar T p:Sem Value).run P w = .ok x w:=by
 unfold Instr.loadAt at h
 unfold Instr.sureAddr at h
 split at h
 ·simpa [asAddr] using h
 ·simp [stuck,Sem.run_bind] at h
def ZnI (tmps:Array Value):ResultVar → Sem Value
 | .tmp t => pure (tmps.getD t undef)
 | .cell a t => do loadVar t (← asAddr (tmps.getD a undef))
theorem ZnH (h:RelW G σ lim st tmps w) {r:ResultVar} {l l':List Nat} {x:AV} (hm:(ZbO C st r).run st.tbl l = some (x,l')) :
  ∃ v,(ZnI tmps r).run C.P w = .ok v w ∧ RA σ w lim x v ∧ Zo st.tbl (Zd x):=by
 cases r with
 | tmp t =>
  obtain ⟨rfl,_⟩:=M.run_ret hm
  exact ⟨_,rfl,h.env t,h.known t⟩
 | cell a T =>
  simp only [ZbO] at hm
  obtain ⟨e,l1,h1,h2⟩:=M.run_bind_some hm
  obtain ⟨rfl,_⟩:=M.run_ret h2
  obtain ⟨v,e1,e2,e3,e4⟩:=Znc h1 (h.env a) h.res
  exact ⟨v,Zw9 e1,e2,e3⟩
theorem Zcz (h:RelW G σ lim st tmps w):(rs:List ResultVar) → {l l':List Nat} → {xs:List AV} → (Yi C st rs).run st.tbl l = some (xs,l') →
  ∃ vs,(rs.mapM (ZnI tmps)).run C.P w = .ok vs w ∧ Qa σ w lim xs vs ∧ Zo st.tbl (Zm xs)
 | [],l,l',xs,hm => by
  obtain ⟨rfl,_⟩:=M.run_ret hm
  exact ⟨[],rfl,by simp [Qa],by simp [Zm,Zo]⟩
 | r :: rs,l,l',xs,hm => by
  simp only [Yi] at hm
  obtain ⟨x,l1,h1,h2⟩:=M.run_bind_some hm
  obtain ⟨ys,l2,h3,h4⟩:=M.run_bind_some h2
  obtain ⟨rfl,_⟩:=M.run_ret h4
  obtain ⟨v,e1,e2,e3⟩:=ZnH h h1
  obtain ⟨vs,f1,f2,f3⟩:=Zcz h rs h3
  refine ⟨v :: vs,?_,by simp only [Qa]; exact ⟨e2,f2⟩,?_⟩
  ·simp [List.mapM_cons,Sem.run_bind,e1,f1]
  ·intro i hi; simp only [Zm,List.mem_append] at hi; rcases hi with hi | hi; exact e3 i hi; exact f3 i hi
theorem Zfo {st st2:St} (he:st2.env = st.env):∀ (rs:List ResultVar),Yi C st rs = Yi C st2 rs
 | [] => rfl
 | r :: rs => by
  have h1:ZbO C st r = ZbO C st2 r:=by cases r <;> simp only [ZbO,he]
  simp only [Yi,h1,Zfo he rs]
theorem Zoj (h:RelW G σ lim st tmps w) {fn:Func} {l l':List Nat} {xs:List AV} (hm:(Yi C st fn.results.toList).run st.tbl l = some (xs,l')) :
  ∃ v,(results fn tmps).run C.P w = .ok v w ∧ RA σ w lim (match (generalizing:=false) xs with | [a] => a | as => .tup as) v:=by
 obtain ⟨vs,e1,e2,e3⟩:=Zcz h _ hm
 have e0:results fn tmps = (do let vs ← fn.results.mapM (ZnI tmps); pure (if h:vs.size = 1 then vs[0] else .tuple vs)):=by
  unfold results
  congr 1
 rw [e0,Array.mapM_eq_mapM_toList]
 match xs,vs,e2 with
 | [x],[v],e2 =>
  refine ⟨v,?_,by simpa [Qa] using e2⟩
  simp [Sem.run_bind,Sem.run_map,e1]
 | [],[],e2 =>
  refine ⟨.tuple #[],?_,by simp only [RA]; exact ⟨[],rfl,by simp [Qa]⟩⟩
  simp [Sem.run_bind,Sem.run_map,e1]
 | x :: y :: xs,v :: u :: vs,e2 =>
  refine ⟨.tuple (v :: u :: vs).toArray,?_,by simp only [RA]; exact ⟨_,rfl,e2⟩⟩
  simp [Sem.run_bind,Sem.run_map,e1]
 | [],_ :: _,e2 => simp [Qa] at e2
 | _ :: _,[],e2 => simp [Qa] at e2
 | [_],_ :: _ :: _,e2 => simp [Qa] at e2
 | _ :: _ :: _,[_],e2 => simp [Qa] at e2
def XO:List Kd → List Value → List Value
 | .box _ :: l,a :: as => a :: XO l as
 | .bld _ :: l,a :: as => a :: XO l as
 | _ :: l,_ :: as => XO l as
 | _,_ => []
def YT:List AV → List Value → List (Nat × Value)
 | .bx r _ :: l,v :: vs => (r,v) :: YT l vs
 | _ :: l,_ :: vs => YT l vs
 | _,_ => []
theorem ZhP:(as:List AV) → (vs:List Value) → ∀ p ∈ YT as vs,p.1 ∈ Wf as
 | [],vs,p,hp => by cases vs <;> simp [YT] at hp
 | x :: as,[],p,hp => by cases x <;> simp [YT] at hp
 | x :: as,v :: vs,p,hp => by
  cases x with
  | bx r k =>
   simp only [YT,List.mem_cons] at hp
   simp only [Wf,List.mem_cons]
   rcases hp with rfl | hp
   ·exact .inl rfl
   ·exact .inr (ZhP as vs p hp)
  | _ => simp only [YT] at hp; simp only [Wf]; exact ZhP as vs p hp
theorem ZyH:(pk:List Kd) → {as:List AV} → {vs:List Value} → Qa σ w lim as vs → Qa σ w lim (QC pk as) (XO pk vs)
 | [],as,vs,h => by cases as <;> cases vs <;> simp [QC,XO,Qa]
 | k :: pk,as,vs,h => by
  match as,vs,h with
  | [],[],h => cases k <;> simp [QC,XO,Qa]
  | x :: as,v :: vs,h =>
   simp only [Qa] at h
   have ih:=ZyH pk h.2
   cases k <;> simp only [QC,XO,Qa] <;> first | exact ih | exact ⟨h.1,ih⟩
  | [],_ :: _,h => simp [Qa] at h
  | _ :: _,[],h => simp [Qa] at h
def Yl (as:List AV):Bool:=as.all fun | .bx _ 0 => true | _ => false
theorem ZLc {as:List AV} {vs:List Value} (hb:Yl as = true) (h:Qa σ w lim as vs):∀ p ∈ YT as vs,σ p.1 = p.2:=by
 induction as generalizing vs with
 | nil => intro p hp; cases vs <;> simp [YT] at hp
 | cons x as ih =>
  cases vs with
  | nil => simp [Qa] at h
  | cons v vs =>
   simp only [Qa] at h
   simp only [Yl,List.all_cons,Bool.and_eq_true] at hb
   intro p hp
   obtain ⟨hb1,hb2⟩:=hb
   split at hb1
   ·rename_i r
    simp only [YT,List.mem_cons] at hp
    rcases hp with rfl | hp
    ·have:=h.1
     simp only [RA] at this
     obtain ⟨b,e1,e2⟩:=this
     rw [e1,e2]
    ·exact ih hb2 h.2 p hp
   ·cases hb1
theorem Zxk {σ':W0} {w':World} {lim':Nat → Nat} {as:List AV} {vs:List Value} (hb:Yl as = true) (h:Qa σ w lim as vs) (hp:∀ p ∈ YT as vs,σ' p.1 = p.2):Qa σ' w' lim' as vs:=by
 induction as generalizing vs with
 | nil => cases vs <;> simp [Qa] at h ⊢
 | cons x as ih =>
  cases vs with
  | nil => simp [Qa] at h
  | cons v vs =>
   simp only [Qa] at h ⊢
   simp only [Yl,List.all_cons,Bool.and_eq_true] at hb
   obtain ⟨hb1,hb2⟩:=hb
   split at hb1
   ·rename_i r
    simp only [YT,List.mem_cons] at hp
    refine ⟨?_,ih hb2 h.2 fun p hm => hp p (.inr hm)⟩
    have h1:=h.1
    simp only [RA] at h1 ⊢
    obtain ⟨b,e1,e2⟩:=h1
    exact ⟨b,by rw [hp (r,v) (.inl rfl)]; exact e2,e2⟩
   ·cases hb1
theorem Zy0:(pk:List Kd) → {vs:List Value} → {rs:List RV} → {bs:List Nat} → vs.length = pk.length → TTs w lim rs (XO pk vs) bs → TL w lim pk vs rs bs
 | [],[],rs,bs,_,h => by
  simp only [XO] at h
  cases rs with
  | nil => simpa [TL,TTs] using h
  | cons _ _ => simp [TTs] at h
 | k :: pk,v :: vs,rs,bs,hl,h => by
  have hl':vs.length = pk.length:=by simpa using hl
  cases k with
  | box l =>
   simp only [XO] at h
   cases rs with
   | nil => simp [TTs] at h
   | cons x rs =>
    simp only [TTs] at h
    simp only [TL]
    obtain ⟨b1,b2,e,h1,h2⟩:=h
    exact ⟨b1,b2,e,h1,Zy0 pk hl' h2⟩
  | bld T =>
   simp only [XO] at h
   cases rs with
   | nil => simp [TTs] at h
   | cons x rs =>
    simp only [TTs] at h
    simp only [TL]
    obtain ⟨b1,b2,e,h1,h2⟩:=h
    exact ⟨b1,b2,e,h1,Zy0 pk hl' h2⟩
  | _ => simp only [XO] at h; simp only [TL]; exact Zy0 pk hl' h
 | [],_ :: _,rs,bs,hl,_ => by simp at hl
 | _ :: _,[],rs,bs,hl,_ => by simp at hl
theorem ZbV:∀ (u:Q4),ZD u = Qh.put (fun _ => .fresh) u
 | [] => rfl
 | (a,x) :: u => by
  funext r
  simp only [ZD,Qh.put,ZA,ZbV u]
  rw [show Nat.beq a r = Nat.beq r a from by
   cases h:Nat.beq r a with
   | true => rw [Z0 h]; exact WW _
   | false => exact Zb3 fun e => by rw [e,WW] at h; cases h]
  cases Nat.beq r a <;> rfl
theorem Zaq:∀ (as:List AV) (i s:Nat),ZE (index i as) s = .dead ∨ ∃ j,s = i + j ∧ as[j]? = some (ZE (index i as) s)
 | [],i,s => .inl rfl
 | x :: as,i,s => by
  simp only [index,ZE]
  cases h:Nat.beq s i with
  | true => exact .inr ⟨0,by simpa using Z0 h,rfl⟩
  | false =>
   simp only [cond_false]
   rcases Zaq as (i + 1) s with h | ⟨j,h1,h2⟩
   ·exact .inl h
   ·exact .inr ⟨j + 1,by omega,by simpa using h2⟩
theorem ZpE {as:List AV} {j:Nat} {x:AV} (h:as[j]? = some x):∀ r ∈ Zd x,r ∈ Zm as:=by
 induction as generalizing j with
 | nil => simp at h
 | cons y as ih =>
  intro r hr
  simp only [Zm,List.mem_append]
  cases j with
  | zero => simp at h; subst h; exact .inl hr
  | succ j => exact .inr (ih (by simpa using h) r hr)
theorem Zft {as:List AV} {vs:List Value} (h:Qa σ w lim as vs):as.length = vs.length:=by
 induction as generalizing vs with
 | nil => cases vs <;> simp [Qa] at h ⊢
 | cons x as ih =>
  cases vs with
  | nil => simp [Qa] at h
  | cons v vs => simp only [Qa] at h; simp [ih h.2]
theorem ZdL:(xs:List RV) → (n:Nat) → (ZK n xs).1.length = xs.length
 | [],n => rfl
 | x :: xs,n => by simp only [ZK,List.length_cons,ZdL xs]
theorem X3:(pk:List Kd) → (as:List AV) → ∀ r ∈ Wf (QC pk as),r ∈ Zm as
 | [],as,r,hr => by cases as <;> simp [QC,Wf] at hr
 | k :: pk,[],r,hr => by cases k <;> simp [QC,Wf] at hr
 | k :: pk,x :: as,r,hr => by
  simp only [Zm,List.mem_append]
  cases k with
  | box l =>
   simp only [QC] at hr
   cases x with
   | bx b j =>
    simp only [Wf,List.mem_cons] at hr
    rcases hr with rfl | hr
    ·exact .inl (by simp [Zd])
    ·exact .inr (X3 pk as r hr)
   | _ => simp only [Wf] at hr; exact .inr (X3 pk as r hr)
  | bld T =>
   simp only [QC] at hr
   cases x with
   | bx b j =>
    simp only [Wf,List.mem_cons] at hr
    rcases hr with rfl | hr
    ·exact .inl (by simp [Zd])
    ·exact .inr (X3 pk as r hr)
   | _ => simp only [Wf] at hr; exact .inr (X3 pk as r hr)
  | _ => simp only [QC] at hr; exact .inr (X3 pk as r hr)
mutual
theorem ZHP:(x:RV) → (n:Nat) → (∀ r ∈ Zd (put n x).1,r < (put n x).2.2) ∧ ∀ p ∈ (put n x).2.1,p.1 < (put n x).2.2 ∧ Zab p.2 = true ∧ ∀ cs,p.2 = .live (.box cs) → ∀ q ∈ Zm cs,q < (put n x).2.2
 | .view t x,n => by simp only [put]; rw [Zlf]; simp
 | .own t sh xs,n => by simp [put,Zd,Zab]
 | .box cs,n => by
  obtain ⟨h1,h2⟩:=ZbL cs (n + 1)
  have hle:=W5 cs (n + 1)
  simp only [put]
  refine ⟨by intro r hr; simp [Zd] at hr; omega,fun p hp => ?_⟩
  cases hp with
  | head => exact ⟨by simp only; omega,rfl,fun ds hd => by simp only [RS.live.injEq,Res.box.injEq] at hd; subst hd; exact h1⟩
  | tail _ hp => exact h2 p hp
 | .agg cs,n => by
  obtain ⟨h1,h2⟩:=ZbL cs n
  simp only [put]
  exact ⟨by simpa [Zd] using h1,h2⟩
 | .tup cs,n => by
  obtain ⟨h1,h2⟩:=ZbL cs n
  simp only [put]
  exact ⟨by simpa [Zd] using h1,h2⟩
 | .fn f,n => by simp [put,Zd]
 | .ns t xs,n => by simp [put,Zd]
 | .clo f cs,n => by
  obtain ⟨h1,h2⟩:=ZbL cs n
  simp only [put]
  exact ⟨by simpa [Zd] using h1,h2⟩
 | .bld T xs,n => by
  simp only [put]
  refine ⟨by intro r hr; simp [Zd] at hr; omega,fun p hp => ?_⟩
  simp only [List.mem_cons,List.not_mem_nil,or_false] at hp
  rcases hp with rfl | rfl
  ·refine ⟨by simp only; omega,rfl,fun cs hc q hq => ?_⟩
   simp only [RS.live.injEq,Res.box.injEq] at hc
   subst hc
   simp [Zm,Zd] at hq
   omega
  ·exact ⟨by simp only; omega,rfl,fun cs hc => by cases hc⟩
theorem ZbL:(xs:List RV) → (n:Nat) → (∀ r ∈ Zm (ZK n xs).1,r < (ZK n xs).2.2) ∧ ∀ p ∈ (ZK n xs).2.1,p.1 < (ZK n xs).2.2 ∧ Zab p.2 = true ∧ ∀ cs,p.2 = .live (.box cs) → ∀ q ∈ Zm cs,q < (ZK n xs).2.2
 | [],n => by simp [ZK,Zm]
 | x :: xs,n => by
  obtain ⟨h1,h2⟩:=ZHP x n
  obtain ⟨h3,h4⟩:=ZbL xs (put n x).2.2
  have hle:=W5 xs (put n x).2.2
  simp only [ZK]
  refine ⟨fun r hr => ?_,fun p hp => ?_⟩
  ·simp only [Zm,List.mem_append] at hr
   rcases hr with hr | hr
   ·have:=h1 r hr; omega
   ·exact h3 r hr
  ·rcases List.mem_append.1 hp with hp | hp
   ·exact h4 p hp
   ·obtain ⟨a,b,c⟩:=h2 p hp
    exact ⟨by omega,b,fun cs hc q hq => by have:=c cs hc q hq; omega⟩
end
theorem Zzj:Xr (fun _ => .fresh) = fun _ => .fresh:=by
 funext n
 simp only [Xr,Ze6,ite_self]
theorem ZIP {avs:List AV} {u:Q4} (h:RelW G σ lim (enter avs u) tmps w) (hu:∀ p ∈ u,p.1 < Qb ∧ Zab p.2 = true ∧ ∀ cs,p.2 = .live (.box cs) → ∀ q ∈ Zm cs,q < Qb)
  (hids:∀ r ∈ Zm avs,r < Qb) (hp:∀ p ∈ G.pins,p.1 < Qb):Wn G σ lim (enter avs u) tmps w:=by
 have e:ZD u = Qh.put (fun _ => .fresh) u:=ZbV u
 unfold enter at h ⊢
 rw [e] at h ⊢
 refine Wn.of_put (T:=fun _ => .fresh) (by rw [Zzj]; exact h) (fun p hp => ⟨(hu p hp).1,(hu p hp).2.1⟩) ⟨fun s r hr => ?_,fun r cs hr => ?_,hp⟩
 ·simp only at hr
  rcases Zaq avs 0 s with h | ⟨j,h1,h2⟩
  ·rw [h] at hr; simp [Zd] at hr
  ·exact hids r (ZpE h2 r hr)
 ·simp only [Qh.put] at hr
  cases hl:ZA u r with
  | none => rw [hl] at hr; cases hr
  | some z => rw [hl] at hr; simp only at hr; exact (hu _ (Wg hl)).2.2 cs hr
theorem ZmZ:(ks:List Kd) → (as:List AV) → Xd ks as = true → (Ql ks as).length = (ZQ ks).length
 | [],[],_ => rfl
 | [],_ :: _,h => by simp [Xd] at h
 | k :: ks,[],h => by cases k <;> simp [Xd] at h
 | k :: ks,a :: as,h => by
  cases k with
  | clo f l =>
   cases a with
   | clo g cs =>
    simp only [Xd,Bool.and_eq_true] at h
    have:=Z0 h.1
    simp only [Ql,ZQ,List.length_append,ZmZ ks as h.2,this]
   | _ => simp [Xd] at h
  | _ => simp only [Xd] at h; simp only [Ql,ZQ,List.length_cons,ZmZ ks as h]
def ZhK:List Kd → Nat
 | [] => 0
 | .ref _ :: l => ZhK l + 1
 | _ :: l => ZhK l
theorem ZjD:(ks:List Kd) → Kx ks = false → ZhK ks = 0
 | [],_ => rfl
 | k :: ks,h => by
  cases k with
  | ref l => simp [Kx] at h
  | _ => simp only [Kx] at h; simp only [ZhK]; exact ZjD ks h
theorem Zcj:(ks:List Kd) → (cs:List AV) → {q:List Nat} → Zz ks cs = some q → q.length = ZhK ks
 | [],[],q,h => by simp [Zz] at h; subst h; rfl
 | k :: ks,a :: as,q,h => by
  have other:(∀ l,k ≠ .ref l) → q.length = ZhK (k :: ks):=by
   intro hk
   have e:Zz (k :: ks) (a :: as) = Zz ks as:=by cases k <;> first | rfl | exact absurd rfl (hk _)
   have e2:ZhK (k :: ks) = ZhK ks:=by cases k <;> first | rfl | exact absurd rfl (hk _)
   rw [e] at h
   rw [e2]; exact Zcj ks as h
  cases k with
  | ref l =>
   cases a with
   | bx s kk =>
    cases kk with
    | succ kk => simp [Zz] at h
    | zero =>
     simp only [Zz] at h
     cases hq2:Zz ks as with
     | none => rw [hq2] at h; simp at h
     | some q2 =>
      rw [hq2] at h
      simp only [Option.some.injEq] at h
      subst h
      simp only [List.length_cons,ZhK,Zcj ks as hq2]
   | _ => simp [Zz] at h
  | _ => exact other (by intro l; simp)
 | [],_ :: _,q,h => by simp [Zz] at h
 | k :: _,[],q,h => by cases k <;> simp [Zz] at h
theorem ZhZ {σ:W0}:(ks:List Kd) → (q:List Nat) → (vs vs':List Value) → q.length = ZhK ks → Qk σ q ks vs → Qk σ q ks vs' → YA ks vs vs'
 | [],q,vs,vs',_,_,_ => by simp [YA]
 | k :: ks,q,[],vs',_,_,_ => by cases k <;> simp [YA]
 | k :: ks,q,v :: vs,[],_,_,_ => by cases k <;> simp [YA]
 | k :: ks,q,v :: vs,v' :: vs',hl,h,h' => by
  have other:(∀ l,k ≠ .ref l) → YA (k :: ks) (v :: vs) (v' :: vs'):=by
   intro hk
   have e2:ZhK (k :: ks) = ZhK ks:=by cases k <;> first | rfl | exact absurd rfl (hk _)
   have e3:YA (k :: ks) (v :: vs) (v' :: vs') = YA ks vs vs':=by cases k <;> first | rfl | exact absurd rfl (hk _)
   rw [e3]
   rw [e2] at hl
   cases q with
   | nil => exact ZhZ (σ:=σ) ks [] vs vs' hl Q1 Q1
   | cons q0 q =>
    have e4:∀ (u:Value) (us:List Value),Qk σ (q0 :: q) (k :: ks) (u :: us) = Qk σ (q0 :: q) ks us:=by intro u us; cases k <;> first | rfl | exact absurd rfl (hk _)
    rw [e4] at h h'
    exact ZhZ ks (q0 :: q) vs vs' hl h h'
  cases k with
  | ref l =>
   cases q with
   | nil => simp [ZhK] at hl
   | cons q0 q =>
    simp only [Qk] at h h'
    simp only [YA]
    exact ⟨h'.1.trans h.1.symm,ZhZ ks q vs vs' (by simpa [ZhK] using hl) h.2 h'.2⟩
  | _ => exact other (by intro l; simp)
theorem Zjg {σ1:W0} {w0:World} (h:RelW G σ lim st tmps w):(ks:List Kd) → {as:List AV} → {vs:List Value} → {l l':List Nat} → {nm:List (List Nat)} → (KE ks as).run st.tbl l = some (nm,l') → Qa σ w lim as vs → WV σ1 w0 nm ks vs → (∀ q ∈ nm.flatten,σ q = σ1 q) → YD w0 w ks vs
 | [],as,vs,l,l',nm,hm,hv,hr,hq => by cases vs <;> simp [YD]
 | k :: ks,[],vs,l,l',nm,hm,hv,hr,hq => by
  match vs,hv with
  | [],_ => cases k <;> simp [YD]
 | k :: ks,a :: as,vs,l,l',nm,hm,hv,hr,hq => by
  match vs,hv with
  | v :: vs,hv =>
   simp only [Qa] at hv
   have other:(∀ l,k ≠ .box l) → YD w0 w (k :: ks) (v :: vs):=fun hk => by
    rw [Zaf hk] at hm
    have e:YD w0 w (k :: ks) (v :: vs) = YD w0 w ks vs:=by cases k <;> first | rfl | exact absurd rfl (hk _)
    have e2:WV σ1 w0 nm (k :: ks) (v :: vs) = WV σ1 w0 nm ks vs:=by cases k <;> first | (cases nm <;> rfl) | exact absurd rfl (hk _)
    rw [e]
    rw [e2] at hr
    exact Zjg h ks hm hv.2 hr hq
   cases k with
   | box l0 =>
    cases a with
    | bx r kk =>
     cases kk with
     | succ kk => exact (M.run_fail hm).elim
     | zero =>
      simp only [KE] at hm
      obtain ⟨q0,l5,h5,h6⟩:=M.run_bind_some hm
      obtain ⟨qs,l6,h7,h8⟩:=M.run_bind_some h6
      obtain ⟨h9,_⟩:=M.run_ret h8
      subst h9
      simp only [WV] at hr
      simp only [YD]
      refine ⟨fun b cs T fz cs' T' fz' e1 e2 e3 => ?_,Zjg h ks h7 hv.2 hr.2 (fun q' hq' => hq q' (by rw [List.flatten_cons]; exact List.mem_append_right _ hq'))⟩
      have hold:=hr.1 b cs T fz e1 e2
      cases hh:Kx l0 with
      | false =>
       have hz:=ZjD l0 hh
       exact ZhZ (σ:=σ) l0 [] _ _ (by simp [hz]) Q1 Q1
      | true =>
       unfold Zb4 at h5
       rw [hh] at h5
       simp only [cond_true,M.run] at h5
       cases hrr:st.tbl r with
       | fresh => simp [hrr,M.run] at h5
       | gone => simp [hrr,M.run] at h5
       | live y =>
        cases y with
        | arr => simp [hrr,M.run] at h5
        | nest => simp [hrr,M.run] at h5
        | box as0 =>
         simp only [hrr] at h5
         have hn:=M.run_ofOpt h5
         obtain ⟨hR,_⟩:=h.res r _ hrr
         obtain ⟨b0,ws,U,f1,f2,f3,f4,_⟩:=Yb hv.1 hR
         rw [e1] at f2
         obtain rfl:b = b0:=by simpa using f2
         rw [e3] at f3
         obtain ⟨rfl,_⟩:cs' = ws ∧ _:=by simpa using f3
         have hnew:=Yx l0 as0 hn f4 (Zgc l0 cs'.toList)
         exact ZhZ (σ:=σ1) l0 q0 _ _ (Zcj l0 as0 hn) hold (XA _ _ _ (fun q' hq' => (hq q' (by rw [List.flatten_cons]; exact List.mem_append_left _ hq')).symm) hnew)
    | _ => exact (M.run_fail hm).elim
   | _ => exact other (by intro l; simp)
  | [],hv => simp [Qa] at hv
theorem ZpU (h : RelW G σ lim st tmps w) : (ks : List Kd) → {as : List AV} → {vs : List Value} → Yl as = true → Qa σ w lim as vs → WV σ w (KD st.tbl ks as) ks vs
  | [], as, vs, hb, hv => by
    have : KD st.tbl [] as = [] := by cases as <;> rfl
    rw [this]; cases vs <;> simp [WV]
  | k :: ks, [], vs, hb, hv => by
    match vs, hv with
    | [], _ => cases k <;> simp [KD, WV]
  | k :: ks, a :: as, vs, hb, hv => by
    match vs, hv with
    | v :: vs, hv =>
      simp only [Qa] at hv
      simp only [Yl, List.all_cons, Bool.and_eq_true] at hb
      have ih := ZpU h ks hb.2 hv.2
      have other : (∀ l, k ≠ .box l) → WV σ w (KD st.tbl (k :: ks) (a :: as)) (k :: ks) (v :: vs) := fun hk => by
        have e : KD st.tbl (k :: ks) (a :: as) = KD st.tbl ks as := by cases k <;> first | rfl | exact absurd rfl (hk _)
        rw [e]
        have e2 : ∀ nm, WV σ w nm (k :: ks) (v :: vs) = WV σ w nm ks vs := by intro nm; cases k <;> first | (cases nm <;> rfl) | exact absurd rfl (hk _)
        rw [e2]; exact ih
      cases k with
      | box l0 =>
        cases a with
        | bx r kk =>
         cases kk with
         | succ kk => simp at hb
         | zero =>
          simp only [KD, WV]
          refine ⟨fun b cs T fz e1 e2 => ?_, ih⟩
          cases hh : Kx l0 with
          | false => exact Q1
          | true =>
            simp only [cond_true]
            cases hr : st.tbl r with
            | fresh => exact Q1
            | gone => exact Q1
            | live y =>
              cases y with
              | arr => exact Q1
              | nest => exact Q1
              | box as0 =>
                simp only
                cases hn : Zz l0 as0 with
                | none => exact Q1
                | some q =>
                  obtain ⟨hR, _⟩ := h.res r _ hr
                  obtain ⟨b0, ws, U, f1, f2, f3, f4, _⟩ := Yb hv.1 hR
                  rw [e1] at f2
                  obtain rfl : b = b0 := by simpa using f2
                  rw [e2] at f3
                  obtain ⟨rfl, _⟩ : cs = ws ∧ _ := by simpa using f3
                  exact Yx l0 as0 hn f4 (Zgc l0 cs.toList)
        | _ => simp at hb
      | _ => exact other (by intro l; simp)
    | [], hv => simp [Qa] at hv
theorem ZaM {tbl:Qh} {lim:Nat → Nat} (hres:∀ r x,tbl r = .live x → RR σ w lim r x ∧ Zo tbl (Qm r x)):(ks:List Kd) → (as:List AV) → ∀ q ∈ (KD tbl ks as).flatten,∃ r cs,tbl r = .live (.box cs) ∧ q ∈ Zm cs
 | [],as,q,hq => by
  have:KD tbl [] as = []:=by cases as <;> rfl
  rw [this] at hq; simp at hq
 | k :: ks,[],q,hq => by
  have:KD tbl (k :: ks) [] = []:=by cases k <;> rfl
  rw [this] at hq; simp at hq
 | k :: ks,a :: as,q,hq => by
  have other:KD tbl (k :: ks) (a :: as) = KD tbl ks as → ∃ r cs,tbl r = .live (.box cs) ∧ q ∈ Zm cs:=fun e => by
   rw [e] at hq
   exact ZaM hres ks as q hq
  cases k with
  | box l0 =>
   cases a with
   | bx r kk =>
    cases kk with
    | succ kk => exact other rfl
    | zero =>
     simp only [KD,List.flatten_cons,List.mem_append] at hq
     rcases hq with hq | hq
     ·cases hh:Kx l0 with
      | false => rw [hh] at hq; simp at hq
      | true =>
       rw [hh] at hq
       simp only [cond_true] at hq
       cases hr:tbl r with
       | fresh => rw [hr] at hq; simp at hq
       | gone => rw [hr] at hq; simp at hq
       | live y =>
        rw [hr] at hq
        cases y with
        | arr => simp at hq
        | nest => simp at hq
        | box as0 =>
         simp only at hq
         cases hn:Zz l0 as0 with
         | none => rw [hn] at hq; simp at hq
         | some q' => rw [hn] at hq; exact ⟨r,as0,hr,KL l0 as0 hn q hq⟩
     ·exact ZaM hres ks as q hq
   | _ => exact other rfl
  | _ => exact other rfl
theorem ZED : {a b:List Nat} → nEq a b = true → a = b
 | [],[],_ => rfl
 | x :: a,y :: b,h => by
  simp only [nEq,Bool.and_eq_true] at h
  rw [Z0 h.1,ZED h.2]
 | [],_ :: _,h => by simp [nEq] at h
 | _ :: _,[],h => by simp [nEq] at h
theorem ZyL : {a b:List (List Nat)} → ZAZ a b = true → a = b
 | [],[],_ => rfl
 | x :: a,y :: b,h => by
  simp only [ZAZ,Bool.and_eq_true] at h
  rw [ZED h.1,ZyL h.2]
 | [],_ :: _,h => by simp [ZAZ] at h
 | _ :: _,[],h => by simp [ZAZ] at h
theorem Ze4 {w0:World}:(ks:List Kd) → (vs:List Value) → YD w0 w (XN ks) (XO ks vs) → YD w0 w ks vs
 | [],vs,_ => by cases vs <;> simp [YD]
 | k :: ks,[],_ => by cases k <;> simp [YD]
 | k :: ks,v :: vs,h => by
  cases k with
  | box l =>
   simp only [XN,XO,YD] at h ⊢
   exact ⟨h.1,Ze4 ks vs h.2⟩
  | bld T =>
   simp only [XN,XO,YD] at h ⊢
   exact Ze4 ks vs h
  | _ => simp only [XN,XO] at h; simp only [YD]; exact Ze4 ks vs h
theorem Zqz {rvs:List RV} {vs:List Value} {bs:List Nat} {pk:List Kd} {n:Nat} (hlz:∀ b,w.heap.size ≤ b → lim b = 0) (hgl:Zqe w lim) (hT:TTs w lim rvs vs bs) (hnd:bs.Nodup) (hbs:∀ b ∈ bs,b < w.heap.size)
    (hn:rvs.length ≤ n) (hin:(ZK 0 rvs).2.2 ≤ Qb) (hco:Xd pk (ZK 0 rvs).1 = true) (hb:Yl (QC (ZQ pk) (Ql pk (ZK 0 rvs).1)) = true) :
    ∃ σ,WI ⟨w,lim,bs,YT (QC (ZQ pk) (Ql pk (ZK 0 rvs).1)) (XO (ZQ pk) (W4 pk vs)) ++ (Za2 pk rvs).flatten.map (fun q => (q,σ q))⟩ n (enter (ZK 0 rvs).1 (ZK 0 rvs).2.1) { tmps:=vs.toArray ++ Array.replicate (n - vs.toArray.size) undef,defers:=[] } w ∧
      Qa σ w lim (QC (ZQ pk) (Ql pk (ZK 0 rvs).1)) (XO (ZQ pk) (W4 pk vs)) ∧ vs.length = rvs.length ∧ (W4 pk vs).length = (ZQ pk).length ∧ WV σ w (Za2 pk rvs) (XN (ZQ pk)) (XO (ZQ pk) (W4 pk vs)):=by
  have h0:RelW ⟨w,lim,bs,[]⟩ (fun _ => undef) lim ⟨fun _ => .dead,fun _ => .fresh⟩ (vs.toArray ++ Array.replicate (n - vs.toArray.size) undef) w :=
    { env:=by intro s; simp [RA]
      known:=by intro s; simp [Zd,Zo]
      res:=by intro r x h; simp at h
      inj:=by intro r r' b h; simp [ZU] at h
      own:=by intro r b h; simp [ZU] at h
      ext:=Ext.refl _ _
      keep:=fun _ _ _ => rfl
      same:=⟨rfl,rfl,rfl⟩
      lz:=hlz
      limk:=fun _ _ _ => rfl
      glob:=hgl
      pin:=by intro p hp; simp at hp }
  obtain ⟨σ,hP,hA,hK⟩:=Xm rvs 0 h0 hT (fun _ _ _ => rfl) ⟨hnd,fun b hb => ⟨.inr hb,by intro r h; simp [ZU] at h⟩⟩
  have hlen:vs.length = rvs.length:=by rw [← ZdL rvs 0]; exact (Zft hA).symm
  have hfA:=Zk1 pk hco hA
  have hL:=ZyH (ZQ pk) hfA
  have hfl:(W4 pk vs).length = (ZQ pk).length:=by rw [← Zft hfA]; exact ZmZ pk _ hco
  have hrv:WV σ w (Za2 pk rvs) (XN (ZQ pk)) (XO (ZQ pk) (W4 pk vs)):=by
    have:=ZpU hP.rel (XN (ZQ pk)) hb hL
    simp only at this
    rw [← ZbV] at this
    exact this
  refine ⟨σ,⟨σ,lim,?_,by simp; omega,rfl⟩,hL,hlen,hfl,hrv⟩
  have hR:=hP.rel
  simp only at hR hK
  rw [← ZbV] at hR hK
  have hpin:=ZLc hb hL
  obtain ⟨lw1,lw2⟩:=ZbL rvs 0
  refine ZIP ?_ (fun p hp => ⟨Nat.lt_of_lt_of_le (lw2 p hp).1 hin,(lw2 p hp).2.1,fun cs hc q hq => Nat.lt_of_lt_of_le ((lw2 p hp).2.2 cs hc q hq) hin⟩) (fun r hr => Nat.lt_of_lt_of_le (lw1 r hr) hin)
    (fun p hp => by
      rcases List.mem_append.1 hp with hp | hp
      · exact Nat.lt_of_lt_of_le (lw1 p.1 (Zdx pk _ _ (X3 (ZQ pk) _ _ (ZhP _ _ p hp)))) hin
      · obtain ⟨q,hq,rfl⟩:=List.mem_map.1 hp
        obtain ⟨r,cs,hr,hqc⟩:=ZaM hR.res (XN (ZQ pk)) (QC (ZQ pk) (Ql pk (ZK 0 rvs).1)) q hq
        simp only [ZbV,Qh.put] at hr
        cases hl:ZA (ZK 0 rvs).2.1 r with
        | none => rw [hl] at hr; cases hr
        | some z => rw [hl] at hr; simp only at hr; exact Nat.lt_of_lt_of_le ((lw2 _ (Wg hl)).2.2 cs hr q hqc) hin)
  exact
    { env:=by
        intro s
        rcases Zaq (ZK 0 rvs).1 0 s with h | ⟨j,h1,h2⟩
        · simp only [enter,h,RA]
        · have hs:s = j:=by omega
          subst hs
          have hjl:s < vs.length:=by
            rw [← Zft hA]
            rcases Nat.lt_or_ge s (ZK 0 rvs).1.length with h | h
            · exact h
            · rw [List.getElem?_eq_none h] at h2; cases h2
          have hv:vs[s]? = some vs[s]:=by simp [hjl]
          have:=ZvK hA h2 hv
          simp only [enter]
          rw [Array.getD_eq_getD_getElem?,Array.getElem?_append_left (by simpa using hjl)]
          simpa [hv] using this
      known:=by
        intro s
        rcases Zaq (ZK 0 rvs).1 0 s with h | ⟨j,h1,h2⟩
        · simp [enter,h,Zd,Zo]
        · intro r hr
          exact hK r (ZpE h2 r hr)
      res:=hR.res,inj:=hR.inj,own:=hR.own,ext:=hR.ext,keep:=hR.keep,same:=hR.same,lz:=hR.lz,limk:=hR.limk,glob:=hR.glob
      pin:=by
        intro p hp
        rcases List.mem_append.1 hp with hp | hp
        · refine ⟨hpin p hp,?_⟩
          exact hK p.1 (Zdx pk _ _ (X3 (ZQ pk) _ _ (ZhP _ _ p hp)))
        · obtain ⟨q,hq,rfl⟩:=List.mem_map.1 hp
          obtain ⟨r,cs,hr,hqc⟩:=ZaM hR.res (XN (ZQ pk)) (QC (ZQ pk) (Ql pk (ZK 0 rvs).1)) q hq
          exact ⟨rfl,(hR.res r _ hr).2 q hqc⟩ }
def Zy3 (w:World) (lim:Nat → Nat) (vs:List Value) (bs:List Nat) (pk:List Kd) (r:RV × List RV):Ending → World → Prop:=fun e w' => ∃ v lim' b1 b2,e = .returned v ∧ Ext w lim w' lim' ∧ (∀ b,w'.heap.size ≤ b → lim' b = 0) ∧
   (w'.os = w.os ∧ w'.tape = w.tape ∧ w'.output = w.output) ∧ (∀ b,b < w.heap.size → b ∉ bs → w'.heap[b]? = w.heap[b]? ∧ lim' b = lim b) ∧
   TT w' lim' r.1 v b1 ∧ TL w' lim' (ZQ pk) (W4 pk vs) r.2 b2 ∧ YD w w' (ZQ pk) (W4 pk vs) ∧ (b1 ++ b2).Nodup ∧ ∀ b ∈ b1 ++ b2,b ∈ bs ∨ w.heap.size ≤ b
theorem Zpz {f:Nat} {fn:Func} {code:Code} {pk:List Kd} {rk:Kd} {rvs:List RV} {r:RV × List RV} {vs:List Value} {bs:List Nat} (hf:C.P.funcs[f]? = some fn) (hb:fn.body = some code)
  (hlz:∀ b,w.heap.size ≤ b → lim b = 0) (hgl:Zqe w lim) (hT:TTs w lim rvs vs bs) (hnd:bs.Nodup) (hbs:∀ b ∈ bs,b < w.heap.size) (hbx:Yl (QC (ZQ pk) (Ql pk (ZK 0 rvs).1)) = true) (hn:rvs.length ≤ fn.ntmps) (hin:(ZK 0 rvs).2.2 ≤ Qb) (hco:Xd pk (ZK 0 rvs).1 = true)
  (hwp:∀ (G:Glob),(∀ p ∈ G.pins,p.1 ∈ Wf (QC (ZQ pk) (Ql pk (ZK 0 rvs).1)) ++ (Za2 pk rvs).flatten) → WI G fn.ntmps (enter (ZK 0 rvs).1 (ZK 0 rvs).2.1) { tmps:=vs.toArray ++ Array.replicate (fn.ntmps - vs.toArray.size) undef,defers:=[] } w →
   code.wp C.P (fun e a w => ∃ e' st',e = Ex.out e' ∧ YP C fn.results.toList pk (QC (ZQ pk) (Ql pk (ZK 0 rvs).1)) (Za2 pk rvs) rk some e' st' = some r ∧ WI G fn.ntmps st' a w) { tmps:=vs.toArray ++ Array.replicate (fn.ntmps - vs.toArray.size) undef,defers:=[] } w) :
  Calls C.P f vs.toArray w (Zy3 w lim vs bs pk r):=by
 obtain ⟨σ0,hS,hL,hlen,hfl,hRV⟩:=Zqz (pk:=pk) hlz hgl hT hnd hbs hn hin hco hbx
 refine calls_of_wp hf hb (wp_mono (hwp _ (fun p hp => by
  rcases List.mem_append.1 hp with hp | hp
  ·exact List.mem_append_left _ (ZhP _ _ p hp)
  ·obtain ⟨q,hq,rfl⟩:=List.mem_map.1 hp
   exact List.mem_append_right _ hq) hS) ?_)
 rintro e a' w' ⟨e',st',rfl,hK,hs⟩
 obtain ⟨σ,lim',⟨hR,_⟩,_,hd⟩:=hs
 have leave:(Znb C fn.results.toList pk (QC (ZQ pk) (Ql pk (ZK 0 rvs).1)) (Za2 pk rvs) rk st').runK st'.tbl [] (fun x l => bif ZcE l then some x else none) = some r →
   a'.defers = [] ∧ ∃ v,(results fn a'.tmps).run C.P w' = .ok v w' ∧ Zy3 w lim vs bs pk r (.returned v) w':=by
  intro hl
  rw [M.runK_eq] at hl
  cases hr:(Znb C fn.results.toList pk (QC (ZQ pk) (Ql pk (ZK 0 rvs).1)) (Za2 pk rvs) rk st').run st'.tbl [] with
  | none => rw [hr] at hl; simp at hl
  | some p =>
   obtain ⟨q,lg⟩:=p
   rw [hr] at hl
   simp only [Option.bind_some] at hl
   have hlow:ZcE lg = true:=by
    cases hlg:ZcE lg with
    | true => rfl
    | false => rw [hlg] at hl; cases hl
   rw [hlow] at hl
   simp only [cond_true,Option.some.injEq] at hl
   subst hl
   have hr:=ZsC hr hlow
   unfold Znb at hr
   rw [Zfo (st:=st') (st2:=⟨st'.env,Xr st'.tbl⟩) rfl] at hr
   obtain ⟨as,l1,h1,hr⟩:=M.run_bind_some hr
   obtain ⟨⟨y,u⟩,l2,h2,hr⟩:=M.run_bind_some hr
   obtain ⟨⟨ys,v⟩,l3,h3,hr⟩:=M.run_bind_some hr
   obtain ⟨nm',l4,h4,hr⟩:=M.run_bind_some hr
   obtain ⟨hok,hr2⟩:=M.run_guard hr
   simp only [Bool.and_eq_true] at hok
   obtain ⟨hok,hnm⟩:=hok
   have hnm:=ZyL hnm
   obtain ⟨hq,_⟩:=M.run_ret hr2
   subst hnm
   obtain ⟨rv,r1,r2⟩:=Zoj hR h1
   obtain ⟨g1,k1⟩:=Zp5 (st:=⟨st'.env,Xr st'.tbl⟩) (σ:=σ) (w:=w') (lim:=lim') rk _ h2
   obtain ⟨g2,k2⟩:=WT (st:=⟨st'.env,Xr st'.tbl⟩) (σ:=σ) (w:=w') (lim:=lim') (XN (ZQ pk)) _ h3
   obtain ⟨lim2,hR2,hE,hSh,hN,hB⟩:=hR.takes (g1.append g2) hok
   have hLf:Qa σ w' lim' (QC (ZQ pk) (Ql pk (ZK 0 rvs).1)) (XO (ZQ pk) (W4 pk vs)):=Zxk hbx hL fun p hp => (hR.pin p (List.mem_append_left _ hp)).1
   have hStay:YD w w' (ZQ pk) (W4 pk vs):=Ze4 _ _ (Zjg hR (XN (ZQ pk)) h4 hLf hRV fun q hq => (hR.pin (q,σ0 q) (List.mem_append_right _ (List.mem_map.2 ⟨q,hq,rfl⟩))).1)
   refine ⟨hd,rv,r1,rv,lim2,QM σ (Z6 u),QM σ (Z6 v),rfl,hR2.ext,hR2.lz,hR2.same,fun b hb1 hb2 => ⟨hR2.keep b hb1 hb2,hR2.limk b hb1 hb2⟩,?_,?_,hStay,?_,?_⟩
   ·rw [hq]; exact k1 rv r2 (fun r y hy => (hR.res r y hy).1) lim2 hE hSh.left
   ·rw [hq]; exact Zy0 (ZQ pk) hfl (k2 _ hLf (fun r y hy => (hR.res r y hy).1) lim2 hE hSh.right)
   ·rw [← ZaU,← Yq]; exact hN
   ·intro b hb; rw [← ZaU,← Yq] at hb; exact (hB b hb).1.symm
 cases e' with
 | normal => exact leave hK
 | ret => exact leave hK
 | exit i => simp [YP] at hK
theorem ZAK (hC:∀ f cal,C.Φ f = some cal → Ctr C.P C.k f cal) (hm:C.P.follows .mixedOrders = true) {A:Nat → Ann} {f k:Nat} {fn:Func} {code:Code} {cal:Callee} {rk:Kd}
  (hf:C.P.funcs[f]? = some fn) (hb:fn.body = some code) (hname:(fn.name == "runtime.NumGoroutine") = false) (hfit:XL C.P fn.ntmps code = true)
  (hlent:∀ rvs x,cal.run k rvs = some x → Yl (QC (ZQ cal.pk) (Ql cal.pk (ZK 0 rvs).1)) = true)
  (hrun:∀ rvs x,cal.run k rvs = some x → Zxn C A fn.ntmps code fn.results.toList cal.pk rk rvs some = some (cal.enc x)):Ctr C.P k f cal where
 enters:=⟨fn,hf,hname,by rw [hb]; rfl⟩
 calls:=by
  intro rvs x hx w lim vs bs hlz hgl hT hnd hbs
  have h:=hrun rvs x hx
  have hbx:=hlent rvs x hx
  unfold Zxn at h
  cases hg:ZHH cal.pk rvs fn.ntmps with
  | false => rw [hg] at h; simp at h
  | true =>
   rw [hg] at h
   simp only [cond_true] at h
   simp only [ZHH,Bool.and_eq_true] at hg
   exact Zpz (rk:=rk) hf hb hlz hgl hT hnd hbs hbx (Nat.le_of_ble_eq_true hg.1.1) (Nat.le_of_ble_eq_true hg.1.2) hg.2 fun G hp hS => Wo hC hm hp code h hfit hS fun e st' a' w' hK hs => ⟨e,st',rfl,hK,hs⟩
end Go.Sh
namespace Go.Sh
open Go
variable [Gl]
def ZyO:Ex → St → Option (Ex × St):=fun e s => some (e,s)
def Zf0 {R:Type} (K:Ex → St → Option R):Ex × St → Option R:=fun x => K x.1 x.2
theorem Zne {R:Type} {nm:St → Option St} {b1:St → (Ex → St → Option (Ex × St)) → Option (Ex × St)} {bR:St → (Ex → St → Option R) → Option R}
  (h1:∀ st K,b1 st K = (b1 st ZyO).bind (Zf0 K)) (hb:∀ st K,bR st K = (b1 st ZyO).bind (Zf0 K)):∀ (n:Nat) (st:St) (K:Ex → St → Option R),
  Zfh bR nm n st K = (Zfh b1 nm n st ZyO).bind (Zf0 K)
 | 0,st,K => rfl
 | n + 1,st,K => by
  simp only [Zfh]
  rw [hb]
  conv => rhs; rw [h1]
  rw [Option.bind_assoc]
  congr 1
  funext x
  obtain ⟨e,s⟩:=x
  cases e with
  | exit i => rfl
  | ret => rfl
  | normal =>
   simp only [Zf0]
   cases nm s with
   | none => rfl
   | some s' => exact Zne h1 hb n s' K
theorem Q9 {C:Ctx} {A:Nat → Ann} {kp:List Nat}:(c:Code) → {R:Type} → (st:St) → (K:Ex → St → Option R) → Xf C A kp c st K = (Xf C A kp c st ZyO).bind (Zf0 K)
 | .skip,R,st,K => rfl
 | .label _,R,st,K => rfl
 | .ret,R,st,K => rfl
 | .exit _,R,st,K => rfl
 | .goto _,R,st,K => rfl
 | .refuse _,R,st,K => rfl
 | .rangeFunc _ _ _ _,R,st,K => rfl
 | .region id ops d,R,st,K => by
  simp only [Xf]
  cases d with
  | false => simp only [cond_false,Zsq,Option.bind_assoc]; rfl
  | true =>
   simp only [cond_true,Zil,Option.bind_assoc]
   congr 1
   funext x
   cases Kk ops.toList (Yu ops.toList []) ([] ++ x.2) <;> rfl
 | .seq a b,R,st,K => by
  simp only [Xf]
  rw [Q9 a]
  conv => rhs; rw [Q9 a]
  rw [Option.bind_assoc]
  congr 1
  funext x
  obtain ⟨e,s⟩:=x
  cases e with
  | normal => exact Q9 b s K
  | exit i => rfl
  | ret => rfl
 | .cond c a b,R,st,K => by
  simp only [Xf]
  split
  ·rename_i t _
   cases t with
   | true => simp only [cond_true]; exact Q9 a _ K
   | false => simp only [cond_false]; exact Q9 b _ K
  ·rfl
 | .block id c,R,st,K => by
  simp only [Xf]
  rw [Q9 c]
  conv => rhs; rw [Q9 c]
  rw [Option.bind_assoc]
  congr 1
  funext x
  obtain ⟨e,s⟩:=x
  cases e with
  | normal => rfl
  | ret => rfl
  | exit i => simp only [Zf0,Zqq]; cases Nat.beq i id <;> rfl
 | .loop c,R,st,K => by
  simp only [Xf,Option.bind_assoc]
  congr 1
  funext s
  exact Zne (fun st K => Q9 c st K) (fun st K => Q9 c st K) C.k s K
 | .scope c,R,st,K => by simp only [Xf]; exact Q9 c st K
theorem ZA9 {C:Ctx} {A:Nat → Ann} {n:Nat} {body:Code} {rs:List ResultVar} {pk:List Kd} {rk:Kd} {rvs:List RV} {R:Type} (K:RV × List RV → Option R) :
  Zxn C A n body rs pk rk rvs K = (Zxn C A n body rs pk rk rvs some).bind K:=by
 unfold Zxn
 cases ZHH pk rvs n with
 | false => rfl
 | true =>
  simp only [cond_true]
  rw [Q9]
  conv => rhs; rw [Q9]
  rw [Option.bind_assoc]
  congr 1
  funext x
  obtain ⟨e,s⟩:=x
  simp only [Zf0]
  cases e <;> simp only [YP,M.runK_eq,Option.bind_assoc,Option.bind_some,Option.bind_none]
  all_goals (congr 1; funext x; cases ZcE x.2 <;> rfl)
mutual
def Kd.den:Kd → Type
 | .view t => t.den
 | .own t _ => List t.den
 | .box ks => Kd.dens ks
 | .agg ks => Kd.dens ks
 | .tup ks => Kd.dens ks
 | .fn _ => Unit
 | .bld _ => List Int
 | .use _ => List Int
 | .clo _ ks => Kd.dens ks
 | .ref ks => Kd.dens ks
 | .ns t => List t.den
def Kd.dens:List Kd → Type
 | [] => Unit
 | k :: ks => k.den × Kd.dens ks
end
mutual
def enc:(k:Kd) → k.den → RV
 | .view t,x => .view t x
 | .own t sh,xs => .own t sh xs
 | .box ks,x => .box (Xe ks x)
 | .agg ks,x => .agg (Xe ks x)
 | .tup ks,x => .tup (Xe ks x)
 | .fn f,_ => .fn f
 | .bld T,xs => .bld T xs
 | .use T,xs => .bld T xs
 | .clo f ks,x => .clo f (Xe ks x)
 | .ref ks,x => .box (Xe ks x)
 | .ns t,xs => .ns t xs
def Xe:(ks:List Kd) → Kd.dens ks → List RV
 | [],_ => []
 | k :: ks,x => enc k x.1 :: Xe ks x.2
end
def Zle (t:Ty):RV → Option t.den
 | .view t' x => if h:t' = t then some (h ▸ x:t.den) else none
 | _ => none
def ZBv (t:Ty) (sh:Bool):RV → Option (List t.den)
 | .own t' sh' xs => if h:t' = t then (bif sh == sh' then some (h ▸ xs:List t.den) else none) else none
 | _ => none
def ZxG:RV → Option (List RV)
 | .box cs => some cs
 | _ => none
def asAgg:RV → Option (List RV)
 | .agg cs => some cs
 | _ => none
def ZBx:RV → Option (List RV)
 | .tup cs => some cs
 | _ => none
def ZIK (f:Nat):RV → Option Unit
 | .fn g => bif Nat.beq f g then some () else none
 | _ => none
def ZBt (f:Nat):RV → Option (List RV)
 | .clo g cs => bif Nat.beq f g then some cs else none
 | _ => none
def ZIL (t:Ty):RV → Option (List t.den)
 | .ns t' xs => if h:t' = t then some (h ▸ xs:List t.den) else none
 | _ => none
def ZxF (T:TypeId):RV → Option (List Int)
 | .bld U xs => bif Nat.beq T U then some xs else none
 | _ => none
mutual
def dec:(k:Kd) → RV → Option k.den
 | .view t,r => Zle t r
 | .own t sh,r => ZBv t sh r
 | .box ks,r => (ZxG r).bind (Ze5 ks)
 | .agg ks,r => (asAgg r).bind (Ze5 ks)
 | .tup ks,r => (ZBx r).bind (Ze5 ks)
 | .fn f,r => ZIK f r
 | .bld T,r => ZxF T r
 | .use T,r => ZxF T r
 | .clo f ks,r => (ZBt f r).bind (Ze5 ks)
 | .ref ks,r => (ZxG r).bind (Ze5 ks)
 | .ns t,r => ZIL t r
def Ze5:(ks:List Kd) → List RV → Option (Kd.dens ks)
 | [],[] => some ()
 | [],_ :: _ => none
 | _ :: _,[] => none
 | k :: ks,x :: xs => (dec k x).bind fun y => (Ze5 ks xs).bind fun ys => some (y,ys)
end
theorem Zy6 {t:Ty} {r:RV} {x:t.den} (h:Zle t r = some x):r = .view t x:=by
 unfold Zle at h
 split at h
 ·split at h
  ·rename_i e; subst e; simp at h; rw [h]
  ·cases h
 ·cases h
theorem ZBw {t:Ty} {sh:Bool} {r:RV} {x:List t.den} (h:ZBv t sh r = some x):r = .own t sh x:=by
 unfold ZBv at h
 split at h
 ·split at h
  ·rename_i sh' _ e
   subst e
   cases hs:(sh == sh') with
   | false => rw [hs] at h; simp at h
   | true => rw [hs] at h; simp at h hs; rw [h,hs]
  ·cases h
 ·cases h
theorem Zs0 {r:RV} {cs:List RV} (h:ZxG r = some cs):r = .box cs:=by unfold ZxG at h; split at h <;> simp at h; rw [h]
theorem ZBs {r:RV} {cs:List RV} (h:asAgg r = some cs):r = .agg cs:=by unfold asAgg at h; split at h <;> simp at h; rw [h]
theorem ZBy {r:RV} {cs:List RV} (h:ZBx r = some cs):r = .tup cs:=by unfold ZBx at h; split at h <;> simp at h; rw [h]
theorem ZFi {f:Nat} {r:RV} {x:Unit} (h:ZIK f r = some x):r = .fn f:=by
 unfold ZIK at h
 split at h
 ·rename_i g
  cases hb:Nat.beq f g with
  | false => rw [hb] at h; simp at h
  | true => rw [Z0 hb]
 ·cases h
theorem ZBu {f:Nat} {r:RV} {cs:List RV} (h:ZBt f r = some cs):r = .clo f cs:=by
 unfold ZBt at h
 split at h
 ·rename_i g l
  cases hb:Nat.beq f g with
  | false => rw [hb] at h; simp at h
  | true => rw [hb] at h; simp at h; rw [Z0 hb,h]
 ·cases h
theorem ZFj {t:Ty} {r:RV} {x:List t.den} (h:ZIL t r = some x):r = .ns t x:=by
 unfold ZIL at h
 split at h
 ·split at h
  ·rename_i e; subst e; simp at h; rw [h]
  ·cases h
 ·cases h
theorem ZsZ {T:TypeId} {r:RV} {x:List Int} (h:ZxF T r = some x):r = .bld T x:=by
 unfold ZxF at h
 split at h
 ·rename_i U xs
  cases hb:Nat.beq T U with
  | false => rw [hb] at h; simp at h
  | true => rw [hb] at h; simp at h; rw [Z0 hb,h]
 ·cases h
mutual
theorem ZxM:(k:Kd) → (r:RV) → (x:k.den) → dec k r = some x → r = enc k x
 | .view t,r,x,h => by simp only [dec] at h; simp only [enc]; exact Zy6 h
 | .own t sh,r,x,h => by simp only [dec] at h; simp only [enc]; exact ZBw h
 | .box ks,r,x,h => by
  simp only [dec] at h
  obtain ⟨cs,h1,h2⟩:=Option.bind_eq_some_iff.1 h
  simp only [enc,Zs0 h1,Q8 ks cs x h2]
 | .agg ks,r,x,h => by
  simp only [dec] at h
  obtain ⟨cs,h1,h2⟩:=Option.bind_eq_some_iff.1 h
  simp only [enc,ZBs h1,Q8 ks cs x h2]
 | .tup ks,r,x,h => by
  simp only [dec] at h
  obtain ⟨cs,h1,h2⟩:=Option.bind_eq_some_iff.1 h
  simp only [enc,ZBy h1,Q8 ks cs x h2]
 | .fn f,r,x,h => by simp only [dec] at h; simp only [enc]; exact ZFi h
 | .bld T,r,x,h => by simp only [dec] at h; simp only [enc]; exact ZsZ h
 | .use T,r,x,h => by simp only [dec] at h; simp only [enc]; exact ZsZ h
 | .clo f ks,r,x,h => by
  simp only [dec] at h
  obtain ⟨cs,h1,h2⟩:=Option.bind_eq_some_iff.1 h
  simp only [enc,ZBu h1,Q8 ks cs x h2]
 | .ns t,r,x,h => by simp only [dec] at h; simp only [enc]; exact ZFj h
 | .ref ks,r,x,h => by
  simp only [dec] at h
  obtain ⟨cs,h1,h2⟩:=Option.bind_eq_some_iff.1 h
  simp only [enc,Zs0 h1,Q8 ks cs x h2]
theorem Q8:(ks:List Kd) → (rs:List RV) → (x:Kd.dens ks) → Ze5 ks rs = some x → rs = Xe ks x
 | [],[],x,h => rfl
 | k :: ks,r :: rs,x,h => by
  simp only [Ze5] at h
  obtain ⟨y,h1,h⟩:=Option.bind_eq_some_iff.1 h
  obtain ⟨ys,h2,h⟩:=Option.bind_eq_some_iff.1 h
  cases h
  simp only [Xe,← ZxM k r y h1,← Q8 ks rs ys h2]
 | [],_ :: _,x,h => by simp [Ze5] at h
 | _ :: _,[],x,h => by simp [Ze5] at h
end
theorem Zju:(ks:List Kd) → (x:Kd.dens ks) → (Xe ks x).length = ks.length
 | [],_ => rfl
 | k :: ks,x => by simp only [Xe,List.length_cons,Zju ks]
theorem Zsi {ks ls:List Kd} {as bs:List AV} (h:ks.length = as.length):QC (ks ++ ls) (as ++ bs) = QC ks as ++ QC ls bs:=by
 induction ks generalizing as with
 | nil =>
  cases as with
  | nil => simp [QC]
  | cons _ _ => simp at h
 | cons k ks ih =>
  cases as with
  | nil => simp at h
  | cons a as =>
   have ih:=ih (as:=as) (by simpa using h)
   cases k <;> simp [QC,ih]
theorem Zqt (a b:List AV):Yl (a ++ b) = (Yl a && Yl b):=by simp [Yl]
theorem Zjq:(ks:List Kd) → (x:Kd.dens ks) → (n:Nat) → Yl (QC ks (ZK n (Xe ks x)).1) = true
 | [],_,n => rfl
 | k :: ks,x,n => by
  have ih:=Zjq ks x.2
  cases k with
  | box l =>
   simp only [Xe,enc,ZK,put,QC,Yl,List.all_cons,Bool.true_and] at ih ⊢
   exact ih _
  | bld T =>
   simp only [Xe,enc,ZK,put,QC,Yl,List.all_cons,Bool.true_and] at ih ⊢
   exact ih _
  | _ => simp only [Xe,enc,ZK,QC]; exact ih _
theorem Zlp:(ks:List Kd) → (x:Kd.dens ks) → (n:Nat) → Yl (QC (ZQ ks) (Ql ks (ZK n (Xe ks x)).1)) = true
 | [],_,n => rfl
 | k :: ks,x,n => by
  have ih:=Zlp ks x.2
  cases k with
  | box l =>
   simp only [Xe,enc,ZK,put,ZQ,Ql,QC,Yl,List.all_cons,Bool.true_and] at ih ⊢
   exact ih _
  | bld T =>
   simp only [Xe,enc,ZK,put,ZQ,Ql,QC,Yl,List.all_cons,Bool.true_and] at ih ⊢
   exact ih _
  | clo f l =>
   simp only [Xe,enc,ZK,put,ZQ,Ql]
   rw [Zsi (by rw [ZdL]; exact (Zju l x.1).symm),Zqt,Bool.and_eq_true]
   exact ⟨Zjq l x.1 n,ih _⟩
  | _ => simp only [Xe,enc,ZK,ZQ,Ql,QC]; exact ih _
abbrev Ans (pk:List Kd) (rk:Kd):Type:=rk.den × Kd.dens (XN (ZQ pk))
def ZBI (pk:List Kd) (rk:Kd) (r:RV × List RV):Option (Ans pk rk):=(dec rk r.1).bind fun x => (Ze5 (XN (ZQ pk)) r.2).bind fun l => some (x,l)
def ZIO (pk:List Kd) (rk:Kd) (x:Ans pk rk):RV × List RV:=(enc rk x.1,Xe (XN (ZQ pk)) x.2)
theorem Zzi {pk:List Kd} {rk:Kd} {r:RV × List RV} {x:Ans pk rk} (h:ZBI pk rk r = some x):r = ZIO pk rk x:=by
 unfold ZBI at h
 obtain ⟨y,h1,h⟩:=Option.bind_eq_some_iff.1 h
 obtain ⟨ys,h2,h⟩:=Option.bind_eq_some_iff.1 h
 cases h
 obtain ⟨a,b⟩:=r
 simp only [ZIO,← ZxM rk a y h1,← Q8 (XN (ZQ pk)) b ys h2]
def mk (pk:List Kd) (rk:Kd) (F:Nat → Kd.dens pk → Option (Ans pk rk)):Callee :=
 { ρ:=Ans pk rk,pk:=pk,run:=fun k rvs => (Ze5 pk rvs).bind (F k),enc:=ZIO pk rk }
theorem ZHx {C:Ctx} (hC:∀ f cal,C.Φ f = some cal → Ctr C.P C.k f cal) (hm:C.P.follows .mixedOrders = true) {A:Nat → Ann} {f k:Nat} {fn:Func} {code:Code} {pk:List Kd} {rk:Kd} {F:Nat → Kd.dens pk → Option (Ans pk rk)}
  (hf:C.P.funcs[f]? = some fn) (hb:fn.body = some code) (hname:(fn.name == "runtime.NumGoroutine") = false) (hfit:XL C.P fn.ntmps code = true)
  (h:∀ x y,F k x = some y → Zxn C A fn.ntmps code fn.results.toList pk rk (Xe pk x) (ZBI pk rk) = some y):Ctr C.P k f (mk pk rk F):=by
 refine ZAK (A:=A) (rk:=rk) hC hm hf hb hname hfit (fun rvs x hx => ?_) (fun rvs x hx => ?_)
 ·simp only [mk] at hx ⊢
  obtain ⟨y,h1,h2⟩:=Option.bind_eq_some_iff.1 hx
  rw [Q8 pk rvs y h1]
  exact Zlp pk y 0
 ·simp only [mk] at hx ⊢
  obtain ⟨y,h1,h2⟩:=Option.bind_eq_some_iff.1 hx
  have h3:=h y x h2
  rw [← Q8 pk rvs y h1,ZA9] at h3
  obtain ⟨r,h4,h5⟩:=Option.bind_eq_some_iff.1 h3
  rw [h4,Zzi h5]
def phi:List (Nat × Callee) → Nat → Option Callee
 | [],_ => none
 | (f,c) :: l,g => bif Nat.beq g f then some c else phi l g
theorem Zi {P:Program} {k:Nat}:∀ {l:List (Nat × Callee)},(∀ p ∈ l,Ctr P k p.1 p.2) → ∀ f cal,phi l f = some cal → Ctr P k f cal
 | [],_,f,cal,h => by simp [phi] at h
 | (g,c) :: l,hl,f,cal,h => by
  simp only [phi] at h
  cases hb:Nat.beq f g with
  | true => rw [hb] at h; simp at h; rw [Z0 hb,← h]; exact hl (g,c) (by simp)
  | false => rw [hb] at h; exact Zi (fun p hp => hl p (by simp [hp])) f cal h
theorem Ze {P:Program} {k:Nat}:∀ p ∈ ([]:List (Nat × Callee)),Ctr P k p.1 p.2:=by intro p hp; simp at hp
theorem Za {P:Program} {k f:Nat} {c:Callee} {l:List (Nat × Callee)} (h:Ctr P k f c) (hl:∀ p ∈ l,Ctr P k p.1 p.2):∀ p ∈ (f,c) :: l,Ctr P k p.1 p.2:=by
 intro p hp
 rcases List.mem_cons.1 hp with rfl | hp
 ·exact h
 ·exact hl p hp
def Zs {V R:Type} (step:(V → Option R) → V → Option R):Nat → V → Option R
 | 0,_ => none
 | n + 1,v => step (Zs step n) v
theorem Zn {V R:Type} {L:Nat → V → Option R} {step:(V → Option R) → V → Option R} (h0:∀ v,L 0 v = none) (h:∀ n v,L (n + 1) v = step (L n) v):∀ n,L n = Zs step n
 | 0 => funext h0
 | n + 1 => funext fun v => by rw [h,Zn h0 h n]; rfl
section
variable {R:Type}
def place (C:Ctx) (A:Nat → Ann) (kp:List Nat):List Nat → List Nat → Code → (Ex → St → Option R) → Code × (Ex → St → Option R)
 | 0 :: p,ns,.seq a b,K => place C A kp p ns a (ZEZ (fun s => Xf C A kp b s K) K)
 | _ :: p,ns,.seq _ b,K => place C A kp p ns b K
 | 0 :: p,ns,.cond _ a _,K => place C A kp p ns a K
 | _ :: p,ns,.cond _ _ b,K => place C A kp p ns b K
 | _ :: p,ns,.block id c,K => place C A kp p ns c (Zqq id K)
 | _ :: p,ns,.scope c,K => place C A kp p ns c K
 | _ :: p,n :: ns,.loop c,K => place C A kp p ns c fun e s => match e with
  | .normal => (Zog kp (A (Qy c)) s).bind fun s => Zfh (Xf C A kp c) (Zog kp (A (Qy c))) n s K
  | .exit i => K (.exit i) s
  | .ret => K .ret s
 | _,_,c,K => (c,K)
def ZC (C:Ctx) (A:Nat → Ann) (kp:List Nat) (p ns:List Nat) (code:Code) (K:Ex → St → Option R) (n:Nat) (st:St):Option R :=
 match place C A kp p ns code K with
 | (.loop c,K) => Zfh (Xf C A kp c) (Zog kp (A (Qy c))) n st K
 | _ => none
end
end Go.Sh
