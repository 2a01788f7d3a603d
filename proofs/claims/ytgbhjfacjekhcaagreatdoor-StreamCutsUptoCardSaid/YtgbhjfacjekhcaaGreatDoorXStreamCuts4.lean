/-
  What the row needs, part 4.
-/
import Derived.Test.YtgbhjfacjekhcaaGreatDoorXStreamCuts3
import Derived.Scope
import Derived.LoopN
set_option linter.unusedSimpArgs false
set_option linter.unusedVariables false
set_option linter.unusedSectionVars false
namespace Go.Sh
open Go
variable [Gl]
variable {C:Ctx} {G:Glob} {σ:Xg} {w:World} {lim:Nat → Nat} {st:St} {a:Act}
def Ex.out:Ex → Exit
 | .normal => .normal
 | .exit i => .exit i
 | .ret => .ret
def X6 (P:Program) (n:Nat):Code → Bool
 | .region _ ops _ => Zvm P n ops.toList
 | .seq a b => X6 P n a && X6 P n b
 | .cond _ a b => X6 P n a && X6 P n b
 | .block _ c => X6 P n c
 | .loop c => X6 P n c
 | .scope c => X6 P n c
 | _ => true
def W1 (G:Glob) (n:Nat) (st:St) (a:Act) (w:World):Prop := ∃ σ lim,WH G σ lim st a.tmps w ∧ a.tmps.size = n ∧ a.defers = []
theorem ZPt {n:Nat} (h:W1 G n st a w) {c:Operand} {t:Bool} (hc:Zay st.env c = .val (.v (.bool t))):a.eval c = .bool t:=by
 obtain ⟨σ,lim,h,_,_⟩:=h
 have:=(Zx h.1 c).1
 grind [RA,RP]
theorem ZnS {n:Nat} (h:W1 G n st a w) {q:Nat} (hq:q < Qd):W1 G n (ZGp st q) a w:=by
 obtain ⟨σ,lim,h,h2,h3⟩:=h
 unfold ZGp
 split
 ·rename_i t xss hT
  obtain ⟨lim',h4⟩:=RelW.melt h.1 h.2 hq hT
  exact ⟨σ,lim',h4,h2,h3⟩
 ·exact ⟨σ,lim,h,h2,h3⟩
theorem Zys {n:Nat} (h:W1 G n st a w) (id:Nat):W1 G n (ZiN C id st) a w:=by
 have hL:Low G st:=by obtain ⟨_,_,⟨_,hL⟩,_,_⟩:=h; exact hL
 unfold ZiN
 split
 ·split
  ·rename_i s _ _ q hs
   exact ZnS h (hL.env s q (by rw [hs]; simp [Ze]))
  ·exact h
 ·split
  ·rename_i s k _ _ r hs
   unfold ZTw
   split
   ·rename_i cs hr
    split
    ·rename_i q hq
     exact ZnS h (hL.box r cs hr q (Kq (List.mem_of_getElem? hq) (by simp [Ze])))
    ·exact h
   ·exact h
  ·exact h
 ·exact h
theorem WI (hC:∀ f cal,C.Φ f = some cal → Ctr C.P C.k f cal) (hm:C.P.follows .mixedOrders = true) {A:Nat → Ann} {kp:List Nat} (hk:∀ p ∈ G.pins,p.1 ∈ kp) {n:Nat} {R:Type} {r:R} :
  (c:Code) → {st:St} → {K:Ex → St → Option R} → Xx C A kp c st K = some r → X6 C.P n c = true → {a:Act} → {w:World} → W1 G n st a w → {Q:Exit → Act → World → Prop} →
  (∀ e st' a' w',K e st' = some r → W1 G n st' a' w' → Q e.out a' w') → c.wp C.P Q a w
 | .skip,st,K,h,hf,a,w,hs,Q,hQ => wp_skip (hQ .normal st a w h hs)
 | .label _,st,K,h,hf,a,w,hs,Q,hQ => wp_label (hQ .normal st a w h hs)
 | .ret,st,K,h,hf,a,w,hs,Q,hQ => wp_ret (hQ .ret st a w h hs)
 | .exit i,st,K,h,hf,a,w,hs,Q,hQ => wp_exit (hQ (.exit i) st a w h hs)
 | .region id ops d,st,K,h,hf,a,w,hs,Q,hQ => by
  simp only [Xx] at h
  simp only [X6] at hf
  obtain ⟨σ,lim,hR,hn,hd⟩:=Zys (C:=C) hs id
  have hb:∃ stf lgs,Zna C id ops.toList ops.toList 0 (ZiN C id st) = some (stf,lgs) ∧ (d = true → Zbh ops.toList (Kb ops.toList []) lgs = true) ∧ K .normal stf = some r:=by
   cases d with
   | false =>
    simp only [cond_false,Zyx] at h
    cases ho:Zna C id ops.toList ops.toList 0 (ZiN C id st) with
    | none => rw [ho] at h; simp at h
    | some x => grind
   | true =>
    simp only [cond_true,Zmh,List.nil_append] at h
    cases ho:Zna C id ops.toList ops.toList 0 (ZiN C id st) with
    | none => rw [ho] at h; simp at h
    | some x =>
     grind
  obtain ⟨stf,lgs,h1,h2,h3⟩:=hb
  exact ZyD hC hm hf hR hn hd h1 h2 fun a' w' σ' lim' hR' hn' hd' => hQ .normal stf a' w' h3 ⟨σ',lim',hR',hn',hd'⟩
 | .seq x y,st,K,h,hf,a,w,hs,Q,hQ => by
  simp only [Xx] at h
  simp only [X6,Bool.and_eq_true] at hf
  refine wp_seq (WI hC hm hk x h hf.1 hs fun e st' a' w' hK hs' => ?_)
  cases e with
  | normal => exact WI hC hm hk y hK hf.2 hs' hQ
  | exit i => exact hQ (.exit i) st' a' w' hK hs'
  | ret => exact hQ .ret st' a' w' hK hs'
 | .cond c x y,st,K,h,hf,a,w,hs,Q,hQ => by
  simp only [Xx] at h
  simp only [X6,Bool.and_eq_true] at hf
  split at h
  ·rename_i t hc
   have e1:=ZPt hs hc
   cases t with
   | true =>
    refine wp_cond_true e1 (WI hC hm (A:=A) hk x (K:=K) ?_ hf.1 hs hQ)
    cases c with
    | tmp d => simp_all [Zay,cond_true,Zno hc]
    | _ => exact h
   | false =>
    refine wp_cond_false e1 (WI hC hm (A:=A) hk y (K:=K) ?_ hf.2 hs hQ)
    cases c with
    | tmp d => simp_all [Zay,cond_false,Zno hc]
    | _ => exact h
  ·simp at h
 | .block id c,st,K,h,hf,a,w,hs,Q,hQ => by
  simp only [Xx] at h
  simp only [X6] at hf
  refine wp_block (WI hC hm hk c h hf hs fun e st' a' w' hK hs' => ?_)
  cases e with
  | normal => exact hQ .normal st' a' w' hK hs'
  | ret => exact hQ .ret st' a' w' hK hs'
  | exit i =>
   simp only [Zwh] at hK
   simp only [Ex.out,Exit.inBlock]
   cases hb:Nat.beq i id with
   | true => rw [hb] at hK; rw [if_pos (Z7 hb)]; exact hQ .normal st' a' w' hK hs'
   | false =>
    rw [hb] at hK
    rw [if_neg (by rintro rfl; rw [YL] at hb; cases hb)]
    exact hQ (.exit i) st' a' w' hK hs'
 | .loop c,st,K,h,hf,a,w,hs,Q,hQ => by
  simp only [Xx] at h
  simp only [X6] at hf
  have key:∀ (m:Nat) (st:St) (a:Act) (w:World),Zh4 (Xx C A kp c) (ZtH kp (A (QD c))) m st K = some r → W1 G n st a w → Code.rounds C.P c Q m a w:=by
   intro m
   induction m with
   | zero => intro st a w h; simp [Zh4] at h
   | succ m ih =>
    intro st a w h hs
    rw [rounds_succ]
    simp only [Zh4] at h
    refine WI hC hm hk c h hf hs fun e st' a' w' hK hs' => ?_
    cases e with
    | ret => exact hQ .ret st' a' w' hK hs'
    | exit i => exact hQ (.exit i) st' a' w' hK hs'
    | normal =>
     cases hn:ZtH kp (A (QD c)) st' with
     | none => rw [hn] at hK; simp at hK
     | some s =>
      rw [hn] at hK
      obtain ⟨σ,lim,hR,q1,q2⟩:=hs'
      obtain ⟨σ2,lim2,hR2⟩:=ZsM hR hk hn
      exact ih s a' w' hK ⟨σ2,lim2,hR2,q1,q2⟩
  cases hn:ZtH kp (A (QD c)) st with
  | none => rw [hn] at h; simp at h
  | some s =>
   rw [hn] at h
   obtain ⟨σ,lim,hR,q1,q2⟩:=hs
   obtain ⟨σ2,lim2,hR2⟩:=ZsM hR hk hn
   exact wp_loop_rounds C.k (key C.k s a w h ⟨σ2,lim2,hR2,q1,q2⟩)
 | .scope c,st,K,h,hf,a,w,hs,Q,hQ => by
  simp only [Xx] at h
  simp only [X6] at hf
  refine wp_scope_straight (WI hC hm hk c h hf hs fun e st' a' w' hK hs' => ?_)
  cases e <;> exact hQ _ st' a' w' hK hs'
 | .rangeFunc _ _ _ _,st,K,h,hf,a,w,hs,Q,hQ => by simp [Xx] at h
 | .goto _,st,K,h,hf,a,w,hs,Q,hQ => by simp [Xx] at h
end Go.Sh
namespace Go.Sh
open Go
variable [Gl]
variable {C:Ctx} {G:Glob} {σ:Xg} {w:World} {lim:Nat → Nat} {st:St} {tmps:Array Value}
theorem ZEo {P:Program} {T:TypeId} {v x:Value} (h:(Instr.loadAt T v).run P w = .ok x w):(asAddr v >>= fun p => loadVar T p:Sem Value).run P w = .ok x w:=by
 unfold Instr.loadAt at h
 unfold Instr.sureAddr at h
 split at h
 ·simpa [asAddr] using h
 ·simp [stuck,Sem.run_bind] at h
def Zs6 (tmps:Array Value):ResultVar → Sem Value
 | .tmp t => pure (tmps.getD t undef)
 | .cell a t => do loadVar t (← asAddr (tmps.getD a undef))
theorem Zs5 (h:RelW G σ lim st tmps w) {r:ResultVar} {l l':List Nat} {x:AV} (hm:(Zdd C st r).run st.tbl l = some (x,l')) :
  ∃ v,(Zs6 tmps r).run C.P w = .ok v w ∧ RA σ w lim x v ∧ Zr st.tbl (Ze x):=by
 cases r with
 | tmp t =>
  obtain ⟨rfl,_⟩:=M.run_ret hm
  exact ⟨_,rfl,h.env t,h.known t⟩
 | cell a T =>
  simp only [Zdd] at hm
  obtain ⟨e,l1,h1,h2⟩:=M.run_bind_some hm
  obtain ⟨rfl,_⟩:=M.run_ret h2
  obtain ⟨v,e1,e2,e3,e4⟩:=ZsB h1 (h.env a) h.res
  exact ⟨v,ZEo e1,e2,e3⟩
theorem Zex (h:RelW G σ lim st tmps w):(rs:List ResultVar) → {l l':List Nat} → {xs:List AV} → (YJ C st rs).run st.tbl l = some (xs,l') →
  ∃ vs,(rs.mapM (Zs6 tmps)).run C.P w = .ok vs w ∧ Z9 σ w lim xs vs ∧ Zr st.tbl (Zq xs)
 | [],l,l',xs,hm => by
  obtain ⟨rfl,_⟩:=M.run_ret hm
  simp_all [Z9,Zq,Zr]
 | r :: rs,l,l',xs,hm => by
  simp only [YJ] at hm
  obtain ⟨x,l1,h1,h2⟩:=M.run_bind_some hm
  obtain ⟨ys,l2,h3,h4⟩:=M.run_bind_some h2
  obtain ⟨rfl,_⟩:=M.run_ret h4
  obtain ⟨v,e1,e2,e3⟩:=Zs5 h h1
  obtain ⟨vs,f1,f2,f3⟩:=Zex h rs h3
  refine ⟨v :: vs,?_,by simp only [Z9]; exact ⟨e2,f2⟩,?_⟩
  ·simp_all
  ·intro i hi; simp only [Zq,List.mem_append] at hi; rcases hi with hi | hi; exact e3 i hi; exact f3 i hi
theorem Zia {st st2:St} (he:st2.env = st.env):∀ (rs:List ResultVar),YJ C st rs = YJ C st2 rs
 | [] => rfl
 | r :: rs => by
  have h1:Zdd C st r = Zdd C st2 r:=by cases r <;> simp only [Zdd,he]
  simp only [YJ,h1,Zia he rs]
theorem ZtK (h:RelW G σ lim st tmps w) {fn:Func} {l l':List Nat} {xs:List AV} (hm:(YJ C st fn.results.toList).run st.tbl l = some (xs,l')) :
  ∃ v,(results fn tmps).run C.P w = .ok v w ∧ RA σ w lim (match (generalizing:=false) xs with | [a] => a | as => .tup as) v:=by
 obtain ⟨vs,e1,e2,e3⟩:=Zex h _ hm
 have e0:results fn tmps = (do let vs ← fn.results.mapM (Zs6 tmps); pure (if h:vs.size = 1 then vs[0] else .tuple vs)):=by
  unfold results
  congr 1
 rw [e0,Array.mapM_eq_mapM_toList]
 match xs,vs,e2 with
 | [x],[v],e2 =>
  simp_all [Z9,Sem.run_bind,Sem.run_map,e1]
 | [],[],e2 =>
  simp_all [RA,Z9,Sem.run_bind,Sem.run_map,e1]
 | x :: y :: xs,v :: u :: vs,e2 =>
  simp_all [RA,Sem.run_bind,Sem.run_map,e1]
 | [],_ :: _,e2 => simp [Z9] at e2
 | _ :: _,[],e2 => simp [Z9] at e2
 | [_],_ :: _ :: _,e2 => simp [Z9] at e2
 | _ :: _ :: _,[_],e2 => simp [Z9] at e2
def X9:List Kd → List Value → List Value
 | .box _ :: l,a :: as => a :: X9 l as
 | .bld _ :: l,a :: as => a :: X9 l as
 | _ :: l,_ :: as => X9 l as
 | _,_ => []
def Kw:List AV → List Value → List (Nat × Value)
 | .bx r _ :: l,v :: vs => (r,v) :: Kw l vs
 | _ :: l,_ :: vs => Kw l vs
 | _,_ => []
theorem ZlI:(as:List AV) → (vs:List Value) → ∀ p ∈ Kw as vs,p.1 ∈ WY as
 | [],vs,p,hp => by cases vs <;> simp [Kw] at hp
 | x :: as,[],p,hp => by cases x <;> simp [Kw] at hp
 | x :: as,v :: vs,p,hp => by
  cases x with
  | bx r k =>
   simp only [Kw,List.mem_cons] at hp
   simp only [WY,List.mem_cons]
   rcases hp with rfl | hp
   ·exact .inl rfl
   ·exact .inr (ZlI as vs p hp)
  | _ => simp only [Kw] at hp; simp only [WY]; exact ZlI as vs p hp
theorem ZGn:(pk:List Kd) → {as:List AV} → {vs:List Value} → Z9 σ w lim as vs → Z9 σ w lim (QN pk as) (X9 pk vs)
 | [],as,vs,h => by grind [QN,X9,Z9]
 | k :: pk,as,vs,h => by
  match as,vs,h with
  | [],[],h => cases k <;> simp [QN,X9,Z9]
  | x :: as,v :: vs,h =>
   simp only [Z9] at h
   have ih:=ZGn pk h.2
   cases k <;> simp only [QN,X9,Z9] <;> first | exact ih | exact ⟨h.1,ih⟩
  | [],_ :: _,h => simp [Z9] at h
  | _ :: _,[],h => simp [Z9] at h
def YM (as:List AV):Bool:=as.all fun | .bx _ 0 => true | _ => false
theorem ZV6 {as:List AV} {vs:List Value} (hb:YM as = true) (h:Z9 σ w lim as vs):∀ p ∈ Kw as vs,σ p.1 = p.2:=by
 induction as generalizing vs with
 | nil => grind [Kw]
 | cons x as ih =>
  cases vs with
  | nil => simp [Z9] at h
  | cons v vs =>
   simp only [Z9] at h
   simp only [YM,List.all_cons,Bool.and_eq_true] at hb
   intro p hp
   obtain ⟨hb1,hb2⟩:=hb
   split at hb1
   ·rename_i r
    simp only [Kw,List.mem_cons] at hp
    rcases hp with rfl | hp
    ·grind [RA]
    ·exact ih hb2 h.2 p hp
   ·cases hb1
theorem ZED {σ':Xg} {w':World} {lim':Nat → Nat} {as:List AV} {vs:List Value} (hb:YM as = true) (h:Z9 σ w lim as vs) (hp:∀ p ∈ Kw as vs,σ' p.1 = p.2):Z9 σ' w' lim' as vs:=by
 induction as generalizing vs with
 | nil => cases vs <;> simp [Z9] at h ⊢
 | cons x as ih =>
  cases vs with
  | nil => simp [Z9] at h
  | cons v vs =>
   simp only [Z9] at h ⊢
   simp only [YM,List.all_cons,Bool.and_eq_true] at hb
   obtain ⟨hb1,hb2⟩:=hb
   split at hb1
   ·rename_i r
    simp only [Kw,List.mem_cons] at hp
    refine ⟨?_,ih hb2 h.2 fun p hm => hp p (.inr hm)⟩
    have h1:=h.1
    simp only [RA] at h1 ⊢
    obtain ⟨b,e1,e2⟩:=h1
    simp_all
   ·cases hb1
theorem ZGI:(pk:List Kd) → {vs:List Value} → {rs:List RV} → {bs:List Nat} → vs.length = pk.length → TTs w lim rs (X9 pk vs) bs → TL w lim pk vs rs bs
 | [],[],rs,bs,_,h => by
  grind [X9,TL,TTs]
 | k :: pk,v :: vs,rs,bs,hl,h => by
  have hl':vs.length = pk.length:=by simpa using hl
  cases k with
  | box l =>
   simp only [X9] at h
   cases rs with
   | nil => simp [TTs] at h
   | cons x rs =>
    simp only [TTs] at h
    simp only [TL]
    obtain ⟨b1,b2,e,h1,h2⟩:=h
    exact ⟨b1,b2,e,h1,ZGI pk hl' h2⟩
  | bld T =>
   simp only [X9] at h
   cases rs with
   | nil => simp [TTs] at h
   | cons x rs =>
    simp only [TTs] at h
    simp only [TL]
    obtain ⟨b1,b2,e,h1,h2⟩:=h
    exact ⟨b1,b2,e,h1,ZGI pk hl' h2⟩
  | _ => simp only [X9] at h; simp only [TL]; exact ZGI pk hl' h
 | [],_ :: _,rs,bs,hl,_ => by simp at hl
 | _ :: _,[],rs,bs,hl,_ => by simp at hl
theorem Zdk:∀ (u:Wk),Zu u = Qj.put (fun _ => .fresh) u
 | [] => rfl
 | (a,x) :: u => by
  funext r
  simp only [Zu,Qj.put,ZH,Zdk u]
  grind
theorem Zby:∀ (as:List AV) (i s:Nat),Zv (index i as) s = .dead ∨ ∃ j,s = i + j ∧ as[j]? = some (Zv (index i as) s)
 | [],i,s => .inl rfl
 | x :: as,i,s => by
  simp only [index,Zv]
  cases h:Nat.beq s i with
  | true => simp_all
  | false =>
   simp only [cond_false]
   rcases Zby as (i + 1) s with h | ⟨j,h1,h2⟩
   ·exact .inl h
   ·exact .inr ⟨j + 1,by omega,by simpa using h2⟩
theorem Zvt {as:List AV} {j:Nat} {x:AV} (h:as[j]? = some x):∀ r ∈ Ze x,r ∈ Zq as:=by
 induction as generalizing j with
 | nil => simp at h
 | cons y as ih =>
  grind [Zq]
theorem Zig {as:List AV} {vs:List Value} (h:Z9 σ w lim as vs):as.length = vs.length:=by
 induction as generalizing vs with
 | nil => cases vs <;> simp [Z9] at h ⊢
 | cons x as ih =>
  cases vs with
  | nil => simp [Z9] at h
  | cons v vs => simp only [Z9] at h; simp [ih h.2]
theorem Zf4:(xs:List RV) → (n:Nat) → (ZS n xs).1.length = xs.length
 | [],n => rfl
 | x :: xs,n => by simp only [ZS,List.length_cons,Zf4 xs]
theorem Yr:(pk:List Kd) → (as:List AV) → ∀ r ∈ WY (QN pk as),r ∈ Zq as
 | [],as,r,hr => by contradiction
 | k :: pk,[],r,hr => by grind [QN,WY]
 | k :: pk,x :: as,r,hr => by
  simp only [Zq,List.mem_append]
  cases k with
  | box l =>
   simp only [QN] at hr
   cases x with
   | bx b j =>
    simp only [WY,List.mem_cons] at hr
    rcases hr with rfl | hr
    ·exact .inl (by simp [Ze])
    ·exact .inr (Yr pk as r hr)
   | _ => simp only [WY] at hr; exact .inr (Yr pk as r hr)
  | bld T =>
   simp only [QN] at hr
   cases x with
   | bx b j =>
    simp only [WY,List.mem_cons] at hr
    rcases hr with rfl | hr
    ·exact .inl (by simp [Ze])
    ·exact .inr (Yr pk as r hr)
   | _ => simp only [WY] at hr; exact .inr (Yr pk as r hr)
  | _ => simp only [QN] at hr; exact .inr (Yr pk as r hr)
mutual
theorem ZSE:(x:RV) → (n:Nat) → (∀ r ∈ Ze (put n x).1,r < (put n x).2.2) ∧ ∀ p ∈ (put n x).2.1,p.1 < (put n x).2.2 ∧ Zbk p.2 = true ∧ ∀ cs,p.2 = .live (.box cs) → ∀ q ∈ Zq cs,q < (put n x).2.2
 | .view t x,n => by simp only [put]; rw [ZpF]; simp
 | .own t sh xs,n => by simp [put,Ze,Zbk]
 | .box cs,n => by
  obtain ⟨h1,h2⟩:=Zdb cs (n + 1)
  have hle:=Xp cs (n + 1)
  simp only [put]
  refine ⟨by intro r hr; simp [Ze] at hr; omega,fun p hp => ?_⟩
  cases hp with
  | head => exact ⟨by simp only; omega,rfl,fun ds hd => by simp only [RS.live.injEq,Res.box.injEq] at hd; subst hd; exact h1⟩
  | tail _ hp => exact h2 p hp
 | .agg cs,n => by
  obtain ⟨h1,h2⟩:=Zdb cs n
  simp only [put]
  exact ⟨by simpa [Ze] using h1,h2⟩
 | .tup cs,n => by
  obtain ⟨h1,h2⟩:=Zdb cs n
  simp only [put]
  exact ⟨by simpa [Ze] using h1,h2⟩
 | .fn f,n => by simp [put,Ze]
 | .ns t xs,n => by simp [put,Ze]
 | .vp t xs,n => by simp [put,Ze]
 | .clo f cs,n => by
  obtain ⟨h1,h2⟩:=Zdb cs n
  simp only [put]
  exact ⟨by simpa [Ze] using h1,h2⟩
 | .bld T xs,n => by
  simp only [put]
  refine ⟨by intro r hr; simp [Ze] at hr; omega,fun p hp => ?_⟩
  simp only [List.mem_cons,List.not_mem_nil,or_false] at hp
  rcases hp with rfl | rfl
  ·refine ⟨by simp only; omega,rfl,fun cs hc q hq => ?_⟩
   simp only [RS.live.injEq,Res.box.injEq] at hc
   subst hc
   simp [Zq,Ze] at hq
   omega
  ·exact ⟨by simp only; omega,rfl,fun cs hc => by cases hc⟩
theorem Zdb:(xs:List RV) → (n:Nat) → (∀ r ∈ Zq (ZS n xs).1,r < (ZS n xs).2.2) ∧ ∀ p ∈ (ZS n xs).2.1,p.1 < (ZS n xs).2.2 ∧ Zbk p.2 = true ∧ ∀ cs,p.2 = .live (.box cs) → ∀ q ∈ Zq cs,q < (ZS n xs).2.2
 | [],n => by simp [ZS,Zq]
 | x :: xs,n => by
  obtain ⟨h1,h2⟩:=ZSE x n
  obtain ⟨h3,h4⟩:=Zdb xs (put n x).2.2
  have hle:=Xp xs (put n x).2.2
  simp only [ZS]
  refine ⟨fun r hr => ?_,fun p hp => ?_⟩
  ·simp only [Zq,List.mem_append] at hr
   rcases hr with hr | hr
   ·have:=h1 r hr; omega
   ·exact h3 r hr
  ·rcases List.mem_append.1 hp with hp | hp
   ·exact h4 p hp
   ·obtain ⟨a,b,c⟩:=h2 p hp
    exact ⟨by omega,b,fun cs hc q hq => by have:=c cs hc q hq; omega⟩
end
theorem ZG6:XG (fun _ => .fresh) = fun _ => .fresh:=by
 funext n
 simp only [XG,ZhP,ite_self]
theorem ZTJ {avs:List AV} {u:Wk} (h:RelW G σ lim (enter avs u) tmps w) (hu:∀ p ∈ u,p.1 < Qd ∧ Zbk p.2 = true ∧ ∀ cs,p.2 = .live (.box cs) → ∀ q ∈ Zq cs,q < Qd)
  (hids:∀ r ∈ Zq avs,r < Qd) (hp:∀ p ∈ G.pins,p.1 < Qd):WH G σ lim (enter avs u) tmps w:=by
 have e:Zu u = Qj.put (fun _ => .fresh) u:=Zdk u
 unfold enter at h ⊢
 rw [e] at h ⊢
 refine WH.of_put (T:=fun _ => .fresh) (by rw [ZG6]; exact h) (fun p hp => ⟨(hu p hp).1,(hu p hp).2.1⟩) ⟨fun s r hr => ?_,fun r cs hr => ?_,hp⟩
 ·simp only at hr
  rcases Zby avs 0 s with h | ⟨j,h1,h2⟩
  ·rw [h] at hr; simp [Ze] at hr
  ·exact hids r (Zvt h2 r hr)
 ·simp only [Qj.put] at hr
  cases hl:ZH u r with
  | none => rw [hl] at hr; cases hr
  | some z => rw [hl] at hr; simp only at hr; exact (hu _ (WA hl)).2.2 cs hr
theorem Zsp:(ks:List Kd) → (as:List AV) → Xw ks as = true → (Qp ks as).length = (ZQ ks).length
 | [],[],_ => rfl
 | [],_ :: _,h => by simp [Xw] at h
 | k :: ks,[],h => by cases k <;> simp [Xw] at h
 | k :: ks,a :: as,h => by
  cases k with
  | clo f l =>
   cases a with
   | clo g cs =>
    simp only [Xw,Bool.and_eq_true] at h
    have:=Z7 h.1
    simp only [Qp,ZQ,List.length_append,Zsp ks as h.2,this]
   | _ => simp [Xw] at h
  | _ => grind [Xw,Qp,ZQ,List.length_cons,Zsp ks as h]
def ZlC:List Kd → Nat
 | [] => 0
 | .ref _ :: l => ZlC l + 1
 | _ :: l => ZlC l
theorem ZnO:(ks:List Kd) → Zah ks = false → ZlC ks = 0
 | [],_ => rfl
 | k :: ks,h => by
  cases k with
  | ref l => simp [Zah] at h
  | _ => simp only [Zah] at h; simp only [ZlC]; exact ZnO ks h
theorem Zee:(ks:List Kd) → (cs:List AV) → {q:List Nat} → ZG ks cs = some q → q.length = ZlC ks
 | [],[],q,h => by simp [ZG] at h; subst h; rfl
 | k :: ks,a :: as,q,h => by
  have other:(∀ l,k ≠ .ref l) → q.length = ZlC (k :: ks):=by
   intro hk
   have e:ZG (k :: ks) (a :: as) = ZG ks as:=by cases k <;> first | rfl | exact absurd rfl (hk _)
   have e2:ZlC (k :: ks) = ZlC ks:=by cases k <;> first | rfl | exact absurd rfl (hk _)
   rw [e] at h
   rw [e2]; exact Zee ks as h
  cases k with
  | ref l =>
   cases a with
   | bx s kk =>
    cases kk with
    | succ kk => simp [ZG] at h
    | zero =>
     simp only [ZG] at h
     cases hq2:ZG ks as with
     | none => rw [hq2] at h; simp at h
     | some q2 =>
      grind [Option.some.injEq,List.length_cons,ZlC,Zee ks as hq2]
   | _ => simp [ZG] at h
  | _ => exact other (by intro l; simp)
 | [],_ :: _,q,h => by simp [ZG] at h
 | k :: _,[],q,h => by cases k <;> simp [ZG] at h
theorem ZlT {σ:Xg}:(ks:List Kd) → (q:List Nat) → (vs vs':List Value) → q.length = ZlC ks → Qn σ q ks vs → Qn σ q ks vs' → Y6 ks vs vs'
 | [],q,vs,vs',_,_,_ => by simp [Y6]
 | k :: ks,q,[],vs',_,_,_ => by cases k <;> simp [Y6]
 | k :: ks,q,v :: vs,[],_,_,_ => by cases k <;> simp [Y6]
 | k :: ks,q,v :: vs,v' :: vs',hl,h,h' => by
  have other:(∀ l,k ≠ .ref l) → Y6 (k :: ks) (v :: vs) (v' :: vs'):=by
   intro hk
   have e2:ZlC (k :: ks) = ZlC ks:=by cases k <;> first | rfl | exact absurd rfl (hk _)
   have e3:Y6 (k :: ks) (v :: vs) (v' :: vs') = Y6 ks vs vs':=by cases k <;> first | rfl | exact absurd rfl (hk _)
   rw [e3]
   rw [e2] at hl
   cases q with
   | nil => exact ZlT (σ:=σ) ks [] vs vs' hl Wi Wi
   | cons q0 q =>
    have e4:∀ (u:Value) (us:List Value),Qn σ (q0 :: q) (k :: ks) (u :: us) = Qn σ (q0 :: q) ks us:=by intro u us; cases k <;> first | rfl | exact absurd rfl (hk _)
    rw [e4] at h h'
    exact ZlT ks (q0 :: q) vs vs' hl h h'
  cases k with
  | ref l =>
   cases q with
   | nil => simp [ZlC] at hl
   | cons q0 q =>
    simp only [Qn] at h h'
    simp only [Y6]
    exact ⟨h'.1.trans h.1.symm,ZlT ks q vs vs' (by simpa [ZlC] using hl) h.2 h'.2⟩
  | _ => exact other (by intro l; simp)
theorem Znh {σ1:Xg} {w0:World} (h:RelW G σ lim st tmps w):(ks:List Kd) → {as:List AV} → {vs:List Value} → {l l':List Nat} → {nm:List (List Nat)} → (Zan ks as).run st.tbl l = some (nm,l') → Z9 σ w lim as vs → Xf σ1 w0 nm ks vs → (∀ q ∈ nm.flatten,σ q = σ1 q) → Kc w0 w ks vs
 | [],as,vs,l,l',nm,hm,hv,hr,hq => by cases vs <;> simp [Kc]
 | k :: ks,[],vs,l,l',nm,hm,hv,hr,hq => by
  match vs,hv with
  | [],_ => cases k <;> simp [Kc]
 | k :: ks,a :: as,vs,l,l',nm,hm,hv,hr,hq => by
  match vs,hv with
  | v :: vs,hv =>
   simp only [Z9] at hv
   have other:(∀ l,k ≠ .box l) → Kc w0 w (k :: ks) (v :: vs):=fun hk => by
    rw [Zbn hk] at hm
    have e:Kc w0 w (k :: ks) (v :: vs) = Kc w0 w ks vs:=by cases k <;> first | rfl | exact absurd rfl (hk _)
    have e2:Xf σ1 w0 nm (k :: ks) (v :: vs) = Xf σ1 w0 nm ks vs:=by cases k <;> first | (cases nm <;> rfl) | exact absurd rfl (hk _)
    rw [e]
    rw [e2] at hr
    exact Znh h ks hm hv.2 hr hq
   cases k with
   | box l0 =>
    cases a with
    | bx r kk =>
     cases kk with
     | succ kk => exact (M.run_fail hm).elim
     | zero =>
      simp only [Zan] at hm
      obtain ⟨q0,l5,h5,h6⟩:=M.run_bind_some hm
      obtain ⟨qs,l6,h7,h8⟩:=M.run_bind_some h6
      obtain ⟨h9,_⟩:=M.run_ret h8
      subst h9
      simp only [Xf] at hr
      simp only [Kc]
      refine ⟨fun b cs T fz cs' T' fz' e1 e2 e3 => ?_,Znh h ks h7 hv.2 hr.2 (fun q' hq' => hq q' (by simp_all))⟩
      have hold:=hr.1 b cs T fz e1 e2
      cases hh:Zah l0 with
      | false =>
       have hz:=ZnO l0 hh
       exact ZlT (σ:=σ) l0 [] _ _ (by simp [hz]) Wi Wi
      | true =>
       unfold Zdq at h5
       rw [hh] at h5
       simp only [cond_true,M.run] at h5
       cases hrr:st.tbl r with
       | fresh => simp [hrr,M.run] at h5
       | gone => simp [hrr,M.run] at h5
       | live y =>
        cases y with
        | arr => simp [hrr,M.run] at h5
        | nest => simp [hrr,M.run] at h5
        | box as0 =>
         simp only [hrr] at h5
         have hn:=M.run_ofOpt h5
         obtain ⟨hR,_⟩:=h.res r _ hrr
         obtain ⟨b0,ws,U,f1,f2,f3,f4,_⟩:=YB hv.1 hR
         rw [e1] at f2
         obtain rfl:b = b0:=by simpa using f2
         rw [e3] at f3
         obtain ⟨rfl,_⟩:cs' = ws ∧ _:=by simpa using f3
         have hnew:=Y3 l0 as0 hn f4 (Zi3 l0 cs'.toList)
         exact ZlT (σ:=σ1) l0 q0 _ _ (Zee l0 as0 hn) hold (XQ _ _ _ (fun q' hq' => (hq q' (by simp_all)).symm) hnew)
    | _ => exact (M.run_fail hm).elim
   | _ => exact other (by intro l; simp)
  | [],hv => simp [Z9] at hv
theorem ZvL (h : RelW G σ lim st tmps w) : (ks : List Kd) → {as : List AV} → {vs : List Value} → YM as = true → Z9 σ w lim as vs → Xf σ w (ZbX st.tbl ks as) ks vs
  | [], as, vs, hb, hv => by
    grind [Xf]
  | k :: ks, [], vs, hb, hv => by
    match vs, hv with
    | [], _ => cases k <;> simp [ZbX, Xf]
  | k :: ks, a :: as, vs, hb, hv => by
    match vs, hv with
    | v :: vs, hv =>
      simp only [Z9] at hv
      simp only [YM, List.all_cons, Bool.and_eq_true] at hb
      have ih := ZvL h ks hb.2 hv.2
      have other : (∀ l, k ≠ .box l) → Xf σ w (ZbX st.tbl (k :: ks) (a :: as)) (k :: ks) (v :: vs) := fun hk => by
        have e : ZbX st.tbl (k :: ks) (a :: as) = ZbX st.tbl ks as := by cases k <;> first | rfl | exact absurd rfl (hk _)
        rw [e]
        have e2 : ∀ nm, Xf σ w nm (k :: ks) (v :: vs) = Xf σ w nm ks vs := by intro nm; cases k <;> first | (cases nm <;> rfl) | exact absurd rfl (hk _)
        rw [e2]; exact ih
      cases k with
      | box l0 =>
        cases a with
        | bx r kk =>
         cases kk with
         | succ kk => simp at hb
         | zero =>
          simp only [ZbX, Xf]
          refine ⟨fun b cs T fz e1 e2 => ?_, ih⟩
          cases hh : Zah l0 with
          | false => exact Wi
          | true =>
            simp only [cond_true]
            cases hr : st.tbl r with
            | fresh => exact Wi
            | gone => exact Wi
            | live y =>
              cases y with
              | arr => exact Wi
              | nest => exact Wi
              | box as0 =>
                simp only
                cases hn : ZG l0 as0 with
                | none => exact Wi
                | some q =>
                  obtain ⟨hR, _⟩ := h.res r _ hr
                  obtain ⟨b0, ws, U, f1, f2, f3, f4, _⟩ := YB hv.1 hR
                  rw [e1] at f2
                  obtain rfl : b = b0 := by simpa using f2
                  rw [e2] at f3
                  obtain ⟨rfl, _⟩ : cs = ws ∧ _ := by simpa using f3
                  exact Y3 l0 as0 hn f4 (Zi3 l0 cs.toList)
        | _ => simp at hb
      | _ => exact other (by intro l; simp)
    | [], hv => simp [Z9] at hv
theorem ZbY {tbl:Qj} {lim:Nat → Nat} (hres:∀ r x,tbl r = .live x → RR σ w lim r x ∧ Zr tbl (Qt r x)):(ks:List Kd) → (as:List AV) → ∀ q ∈ (ZbX tbl ks as).flatten,∃ r cs,tbl r = .live (.box cs) ∧ q ∈ Zq cs
 | [],as,q,hq => by
  contradiction
 | k :: ks,[],q,hq => by
  have:ZbX tbl (k :: ks) [] = []:=by cases k <;> rfl
  rw [this] at hq; simp at hq
 | k :: ks,a :: as,q,hq => by
  have other:ZbX tbl (k :: ks) (a :: as) = ZbX tbl ks as → ∃ r cs,tbl r = .live (.box cs) ∧ q ∈ Zq cs:=fun e => by
   rw [e] at hq
   exact ZbY hres ks as q hq
  cases k with
  | box l0 =>
   cases a with
   | bx r kk =>
    cases kk with
    | succ kk => exact other rfl
    | zero =>
     simp only [ZbX,List.flatten_cons,List.mem_append] at hq
     rcases hq with hq | hq
     ·cases hh:Zah l0 with
      | false => rw [hh] at hq; simp at hq
      | true =>
       rw [hh] at hq
       simp only [cond_true] at hq
       cases hr:tbl r with
       | fresh => rw [hr] at hq; simp at hq
       | gone => rw [hr] at hq; simp at hq
       | live y =>
        rw [hr] at hq
        cases y with
        | arr => simp at hq
        | nest => simp at hq
        | box as0 =>
         simp only at hq
         cases hn:ZG l0 as0 with
         | none => rw [hn] at hq; simp at hq
         | some q' => rw [hn] at hq; exact ⟨r,as0,hr,Zaz l0 as0 hn q hq⟩
     ·exact ZbY hres ks as q hq
   | _ => exact other rfl
  | _ => exact other rfl
theorem ZOv : {a b:List Nat} → nEq a b = true → a = b
 | [],[],_ => rfl
 | x :: a,y :: b,h => by
  simp only [nEq,Bool.and_eq_true] at h
  rw [Z7 h.1,ZOv h.2]
 | [],_ :: _,h => by simp [nEq] at h
 | _ :: _,[],h => by simp [nEq] at h
theorem ZGr : {a b:List (List Nat)} → ZJn a b = true → a = b
 | [],[],_ => rfl
 | x :: a,y :: b,h => by
  simp only [ZJn,Bool.and_eq_true] at h
  rw [ZOv h.1,ZGr h.2]
 | [],_ :: _,h => by simp [ZJn] at h
 | _ :: _,[],h => by simp [ZJn] at h
theorem ZhN {w0:World}:(ks:List Kd) → (vs:List Value) → Kc w0 w (X8 ks) (X9 ks vs) → Kc w0 w ks vs
 | [],vs,_ => by cases vs <;> simp [Kc]
 | k :: ks,[],_ => by cases k <;> simp [Kc]
 | k :: ks,v :: vs,h => by
  cases k with
  | box l =>
   simp only [X8,X9,Kc] at h ⊢
   exact ⟨h.1,ZhN ks vs h.2⟩
  | bld T =>
   simp only [X8,X9,Kc] at h ⊢
   exact ZhN ks vs h
  | _ => simp only [X8,X9] at h; simp only [Kc]; exact ZhN ks vs h
theorem Zwo {rvs:List RV} {vs:List Value} {bs:List Nat} {pk:List Kd} {n:Nat} (hlz:∀ b,w.heap.size ≤ b → lim b = 0) (hgl:Zv3 w lim) (hT:TTs w lim rvs vs bs) (hnd:bs.Nodup) (hbs:∀ b ∈ bs,b < w.heap.size)
    (hn:rvs.length ≤ n) (hin:(ZS 0 rvs).2.2 ≤ Qd) (hco:Xw pk (ZS 0 rvs).1 = true) (hb:YM (QN (ZQ pk) (Qp pk (ZS 0 rvs).1)) = true) :
    ∃ σ,W1 ⟨w,lim,bs,Kw (QN (ZQ pk) (Qp pk (ZS 0 rvs).1)) (X9 (ZQ pk) (Wz pk vs)) ++ (Zce pk rvs).flatten.map (fun q => (q,σ q))⟩ n (enter (ZS 0 rvs).1 (ZS 0 rvs).2.1) { tmps:=vs.toArray ++ Array.replicate (n - vs.toArray.size) undef,defers:=[] } w ∧
      Z9 σ w lim (QN (ZQ pk) (Qp pk (ZS 0 rvs).1)) (X9 (ZQ pk) (Wz pk vs)) ∧ vs.length = rvs.length ∧ (Wz pk vs).length = (ZQ pk).length ∧ Xf σ w (Zce pk rvs) (X8 (ZQ pk)) (X9 (ZQ pk) (Wz pk vs)):=by
  have h0:RelW ⟨w,lim,bs,[]⟩ (fun _ => undef) lim ⟨fun _ => .dead,fun _ => .fresh⟩ (vs.toArray ++ Array.replicate (n - vs.toArray.size) undef) w :=
    { env:=by intro s; simp [RA]
      known:=by intro s; simp [Ze,Zr]
      res:=by intro r x h; simp at h
      inj:=by intro r r' b h; simp [Z0] at h
      own:=by intro r b h; simp [Z0] at h
      ext:=Ext.refl _ _
      keep:=fun _ _ _ => rfl
      same:=⟨rfl,rfl,rfl⟩
      lz:=hlz
      limk:=fun _ _ _ => rfl
      glob:=hgl
      pin:=by intro p hp; simp at hp }
  obtain ⟨σ,hP,hA,hK⟩:=XC rvs 0 h0 hT (fun _ _ _ => rfl) ⟨hnd,fun b hb => ⟨.inr hb,by intro r h; simp [Z0] at h⟩⟩
  have hlen:vs.length = rvs.length:=by rw [← Zf4 rvs 0]; exact (Zig hA).symm
  have hfA:=Zpn pk hco hA
  have hL:=ZGn (ZQ pk) hfA
  have hfl:(Wz pk vs).length = (ZQ pk).length:=by rw [← Zig hfA]; exact Zsp pk _ hco
  have hrv:Xf σ w (Zce pk rvs) (X8 (ZQ pk)) (X9 (ZQ pk) (Wz pk vs)):=by
    have:=ZvL hP.rel (X8 (ZQ pk)) hb hL
    simp only at this
    rw [← Zdk] at this
    exact this
  refine ⟨σ,⟨σ,lim,?_,by simp; omega,rfl⟩,hL,hlen,hfl,hrv⟩
  have hR:=hP.rel
  simp only at hR hK
  rw [← Zdk] at hR hK
  have hpin:=ZV6 hb hL
  obtain ⟨lw1,lw2⟩:=Zdb rvs 0
  refine ZTJ ?_ (fun p hp => ⟨Nat.lt_of_lt_of_le (lw2 p hp).1 hin,(lw2 p hp).2.1,fun cs hc q hq => Nat.lt_of_lt_of_le ((lw2 p hp).2.2 cs hc q hq) hin⟩) (fun r hr => Nat.lt_of_lt_of_le (lw1 r hr) hin)
    (fun p hp => by
      rcases List.mem_append.1 hp with hp | hp
      · exact Nat.lt_of_lt_of_le (lw1 p.1 (ZfM pk _ _ (Yr (ZQ pk) _ _ (ZlI _ _ p hp)))) hin
      · obtain ⟨q,hq,rfl⟩:=List.mem_map.1 hp
        obtain ⟨r,cs,hr,hqc⟩:=ZbY hR.res (X8 (ZQ pk)) (QN (ZQ pk) (Qp pk (ZS 0 rvs).1)) q hq
        simp only [Zdk,Qj.put] at hr
        cases hl:ZH (ZS 0 rvs).2.1 r with
        | none => rw [hl] at hr; cases hr
        | some z => rw [hl] at hr; simp only at hr; exact Nat.lt_of_lt_of_le ((lw2 _ (WA hl)).2.2 cs hr q hqc) hin)
  exact
    { env:=by
        intro s
        rcases Zby (ZS 0 rvs).1 0 s with h | ⟨j,h1,h2⟩
        · simp only [enter,h,RA]
        · have hs:s = j:=by omega
          subst hs
          have hjl:s < vs.length:=by
            rw [← Zig hA]
            grind
          have hv:vs[s]? = some vs[s]:=by simp [hjl]
          have:=ZB7 hA h2 hv
          simp only [enter]
          rw [Array.getD_eq_getD_getElem?,Array.getElem?_append_left (by simpa using hjl)]
          simpa [hv] using this
      known:=by
        intro s
        rcases Zby (ZS 0 rvs).1 0 s with h | ⟨j,h1,h2⟩
        · simp [enter,h,Ze,Zr]
        · intro r hr
          exact hK r (Zvt h2 r hr)
      res:=hR.res,inj:=hR.inj,own:=hR.own,ext:=hR.ext,keep:=hR.keep,same:=hR.same,lz:=hR.lz,limk:=hR.limk,glob:=hR.glob
      pin:=by
        intro p hp
        rcases List.mem_append.1 hp with hp | hp
        · refine ⟨hpin p hp,?_⟩
          exact hK p.1 (ZfM pk _ _ (Yr (ZQ pk) _ _ (ZlI _ _ p hp)))
        · obtain ⟨q,hq,rfl⟩:=List.mem_map.1 hp
          obtain ⟨r,cs,hr,hqc⟩:=ZbY hR.res (X8 (ZQ pk)) (QN (ZQ pk) (Qp pk (ZS 0 rvs).1)) q hq
          exact ⟨rfl,(hR.res r _ hr).2 q hqc⟩ }
def Ztr (w:World) (lim:Nat → Nat) (vs:List Value) (bs:List Nat) (pk:List Kd) (r:RV × List RV):Ending → World → Prop:=fun e w' => ∃ v lim' b1 b2,e = .returned v ∧ Ext w lim w' lim' ∧ (∀ b,w'.heap.size ≤ b → lim' b = 0) ∧
   (w'.os = w.os ∧ w'.tape = w.tape ∧ w'.output = w.output) ∧ (∀ b,b < w.heap.size → b ∉ bs → w'.heap[b]? = w.heap[b]? ∧ lim' b = lim b) ∧
   TT w' lim' r.1 v b1 ∧ TL w' lim' (ZQ pk) (Wz pk vs) r.2 b2 ∧ Kc w w' (ZQ pk) (Wz pk vs) ∧ (b1 ++ b2).Nodup ∧ ∀ b ∈ b1 ++ b2,b ∈ bs ∨ w.heap.size ≤ b
theorem Zvr {f:Nat} {fn:Func} {code:Code} {pk:List Kd} {rk:Kd} {rvs:List RV} {r:RV × List RV} {vs:List Value} {bs:List Nat} (hf:C.P.funcs[f]? = some fn) (hb:fn.body = some code)
  (hlz:∀ b,w.heap.size ≤ b → lim b = 0) (hgl:Zv3 w lim) (hT:TTs w lim rvs vs bs) (hnd:bs.Nodup) (hbs:∀ b ∈ bs,b < w.heap.size) (hbx:YM (QN (ZQ pk) (Qp pk (ZS 0 rvs).1)) = true) (hn:rvs.length ≤ fn.ntmps) (hin:(ZS 0 rvs).2.2 ≤ Qd) (hco:Xw pk (ZS 0 rvs).1 = true)
  (hwp:∀ (G:Glob),(∀ p ∈ G.pins,p.1 ∈ WY (QN (ZQ pk) (Qp pk (ZS 0 rvs).1)) ++ (Zce pk rvs).flatten) → W1 G fn.ntmps (enter (ZS 0 rvs).1 (ZS 0 rvs).2.1) { tmps:=vs.toArray ++ Array.replicate (fn.ntmps - vs.toArray.size) undef,defers:=[] } w →
   code.wp C.P (fun e a w => ∃ e' st',e = Ex.out e' ∧ Kr C fn.results.toList pk (QN (ZQ pk) (Qp pk (ZS 0 rvs).1)) (Zce pk rvs) rk some e' st' = some r ∧ W1 G fn.ntmps st' a w) { tmps:=vs.toArray ++ Array.replicate (fn.ntmps - vs.toArray.size) undef,defers:=[] } w) :
  Calls C.P f vs.toArray w (Ztr w lim vs bs pk r):=by
 obtain ⟨σ0,hS,hL,hlen,hfl,hRV⟩:=Zwo (pk:=pk) hlz hgl hT hnd hbs hn hin hco hbx
 refine calls_of_wp hf hb (wp_mono (hwp _ (fun p hp => by
  rcases List.mem_append.1 hp with hp | hp
  ·exact List.mem_append_left _ (ZlI _ _ p hp)
  grind) hS) ?_)
 rintro e a' w' ⟨e',st',rfl,hK,hs⟩
 obtain ⟨σ,lim',⟨hR,_⟩,_,hd⟩:=hs
 have leave:(Zsy C fn.results.toList pk (QN (ZQ pk) (Qp pk (ZS 0 rvs).1)) (Zce pk rvs) rk st').runK st'.tbl [] (fun x l => bif ZhQ l then some x else none) = some r →
   a'.defers = [] ∧ ∃ v,(results fn a'.tmps).run C.P w' = .ok v w' ∧ Ztr w lim vs bs pk r (.returned v) w':=by
  intro hl
  rw [M.runK_eq] at hl
  cases hr:(Zsy C fn.results.toList pk (QN (ZQ pk) (Qp pk (ZS 0 rvs).1)) (Zce pk rvs) rk st').run st'.tbl [] with
  | none => rw [hr] at hl; simp at hl
  | some p =>
   obtain ⟨q,lg⟩:=p
   rw [hr] at hl
   simp only [Option.bind_some] at hl
   have hlow:ZhQ lg = true:=by
    grind
   rw [hlow] at hl
   simp only [cond_true,Option.some.injEq] at hl
   subst hl
   have hr:=ZyK hr hlow
   unfold Zsy at hr
   rw [Zia (st:=st') (st2:=⟨st'.env,XG st'.tbl⟩) rfl] at hr
   obtain ⟨as,l1,h1,hr⟩:=M.run_bind_some hr
   obtain ⟨⟨y,u⟩,l2,h2,hr⟩:=M.run_bind_some hr
   obtain ⟨⟨ys,v⟩,l3,h3,hr⟩:=M.run_bind_some hr
   obtain ⟨nm',l4,h4,hr⟩:=M.run_bind_some hr
   obtain ⟨hok,hr2⟩:=M.run_guard hr
   simp only [Bool.and_eq_true] at hok
   obtain ⟨hok,hnm⟩:=hok
   have hnm:=ZGr hnm
   obtain ⟨hq,_⟩:=M.run_ret hr2
   subst hnm
   obtain ⟨rv,r1,r2⟩:=ZtK hR h1
   obtain ⟨g1,k1⟩:=ZvW (st:=⟨st'.env,XG st'.tbl⟩) (σ:=σ) (w:=w') (lim:=lim') rk _ h2
   obtain ⟨g2,k2⟩:=Xc (st:=⟨st'.env,XG st'.tbl⟩) (σ:=σ) (w:=w') (lim:=lim') (X8 (ZQ pk)) _ h3
   obtain ⟨lim2,hR2,hE,hSh,hN,hB⟩:=hR.takes (g1.append g2) hok
   have hLf:Z9 σ w' lim' (QN (ZQ pk) (Qp pk (ZS 0 rvs).1)) (X9 (ZQ pk) (Wz pk vs)):=ZED hbx hL fun p hp => (hR.pin p (List.mem_append_left _ hp)).1
   have hStay:Kc w w' (ZQ pk) (Wz pk vs):=ZhN _ _ (Znh hR (X8 (ZQ pk)) h4 hLf hRV fun q hq => (hR.pin (q,σ0 q) (List.mem_append_right _ (List.mem_map.2 ⟨q,hq,rfl⟩))).1)
   refine ⟨hd,rv,r1,rv,lim2,QR σ (Z6 u),QR σ (Z6 v),rfl,hR2.ext,hR2.lz,hR2.same,fun b hb1 hb2 => ⟨hR2.keep b hb1 hb2,hR2.limk b hb1 hb2⟩,?_,?_,hStay,?_,?_⟩
   ·rw [hq]; exact k1 rv r2 (fun r y hy => (hR.res r y hy).1) lim2 hE hSh.left
   ·rw [hq]; exact ZGI (ZQ pk) hfl (k2 _ hLf (fun r y hy => (hR.res r y hy).1) lim2 hE hSh.right)
   ·rw [← Zb6,← YV]; exact hN
   ·intro b hb; rw [← Zb6,← YV] at hb; exact (hB b hb).1.symm
 cases e' with
 | normal => exact leave hK
 | ret => exact leave hK
 | exit i => simp [Kr] at hK
theorem ZI8 (hC:∀ f cal,C.Φ f = some cal → Ctr C.P C.k f cal) (hm:C.P.follows .mixedOrders = true) {A:Nat → Ann} {f k:Nat} {fn:Func} {code:Code} {cal:Callee} {rk:Kd}
  (hf:C.P.funcs[f]? = some fn) (hb:fn.body = some code) (hname:(fn.name == "runtime.NumGoroutine") = false) (hfit:X6 C.P fn.ntmps code = true)
  (hlent:∀ rvs x,cal.run k rvs = some x → YM (QN (ZQ cal.pk) (Qp cal.pk (ZS 0 rvs).1)) = true)
  (hrun:∀ rvs x,cal.run k rvs = some x → ZEG C A fn.ntmps code fn.results.toList cal.pk rk rvs some = some (cal.enc x)):Ctr C.P k f cal where
 enters:=⟨fn,hf,hname,by rw [hb]; rfl⟩
 calls:=by
  intro rvs x hx w lim vs bs hlz hgl hT hnd hbs
  have h:=hrun rvs x hx
  have hbx:=hlent rvs x hx
  unfold ZEG at h
  cases hg:ZSw cal.pk rvs fn.ntmps with
  | false => rw [hg] at h; simp at h
  | true =>
   rw [hg] at h
   simp only [cond_true] at h
   simp only [ZSw,Bool.and_eq_true] at hg
   exact Zvr (rk:=rk) hf hb hlz hgl hT hnd hbs hbx (Nat.le_of_ble_eq_true hg.1.1) (Nat.le_of_ble_eq_true hg.1.2) hg.2 fun G hp hS => WI hC hm hp code h hfit hS fun e st' a' w' hK hs => ⟨e,st',rfl,hK,hs⟩
end Go.Sh
namespace Go.Sh
open Go
variable [Gl]
def ZGu:Ex → St → Option (Ex × St):=fun e s => some (e,s)
def ZiQ {R:Type} (K:Ex → St → Option R):Ex × St → Option R:=fun x => K x.1 x.2
theorem ZsD {R:Type} {nm:St → Option St} {b1:St → (Ex → St → Option (Ex × St)) → Option (Ex × St)} {bR:St → (Ex → St → Option R) → Option R}
  (h1:∀ st K,b1 st K = (b1 st ZGu).bind (ZiQ K)) (hb:∀ st K,bR st K = (b1 st ZGu).bind (ZiQ K)):∀ (n:Nat) (st:St) (K:Ex → St → Option R),
  Zh4 bR nm n st K = (Zh4 b1 nm n st ZGu).bind (ZiQ K)
 | 0,st,K => rfl
 | n + 1,st,K => by
  simp only [Zh4]
  rw [hb]
  conv => rhs; rw [h1]
  rw [Option.bind_assoc]
  congr 1
  funext x
  obtain ⟨e,s⟩:=x
  cases e with
  | exit i => rfl
  | ret => rfl
  | normal =>
   simp only [ZiQ]
   cases nm s with
   | none => rfl
   | some s' => exact ZsD h1 hb n s' K
theorem Wq {C:Ctx} {A:Nat → Ann} {kp:List Nat}:(c:Code) → {R:Type} → (st:St) → (K:Ex → St → Option R) → Xx C A kp c st K = (Xx C A kp c st ZGu).bind (ZiQ K)
 | .skip,R,st,K => rfl
 | .label _,R,st,K => rfl
 | .ret,R,st,K => rfl
 | .exit _,R,st,K => rfl
 | .goto _,R,st,K => rfl
 | .refuse _,R,st,K => rfl
 | .rangeFunc _ _ _ _,R,st,K => rfl
 | .region id ops d,R,st,K => by
  simp only [Xx]
  cases d with
  | false => simp only [cond_false,Zyx,Option.bind_assoc]; rfl
  | true =>
   simp only [cond_true,Zmh,Option.bind_assoc]
   congr 1
   funext x
   cases Zbh ops.toList (Kb ops.toList []) ([] ++ x.2) <;> rfl
 | .seq a b,R,st,K => by
  simp only [Xx]
  rw [Wq a]
  conv => rhs; rw [Wq a]
  rw [Option.bind_assoc]
  congr 1
  funext x
  obtain ⟨e,s⟩:=x
  cases e with
  | normal => exact Wq b s K
  | exit i => rfl
  | ret => rfl
 | .cond c a b,R,st,K => by
  simp only [Xx]
  split
  ·rename_i t _
   cases t with
   | true => simp only [cond_true]; exact Wq a _ K
   | false => simp only [cond_false]; exact Wq b _ K
  ·rfl
 | .block id c,R,st,K => by
  simp only [Xx]
  rw [Wq c]
  conv => rhs; rw [Wq c]
  rw [Option.bind_assoc]
  congr 1
  funext x
  obtain ⟨e,s⟩:=x
  cases e with
  | normal => rfl
  | ret => rfl
  | exit i => simp only [ZiQ,Zwh]; cases Nat.beq i id <;> rfl
 | .loop c,R,st,K => by
  simp only [Xx,Option.bind_assoc]
  congr 1
  funext s
  exact ZsD (fun st K => Wq c st K) (fun st K => Wq c st K) C.k s K
 | .scope c,R,st,K => by simp only [Xx]; exact Wq c st K
theorem ZJA {C:Ctx} {A:Nat → Ann} {n:Nat} {body:Code} {rs:List ResultVar} {pk:List Kd} {rk:Kd} {rvs:List RV} {R:Type} (K:RV × List RV → Option R) :
  ZEG C A n body rs pk rk rvs K = (ZEG C A n body rs pk rk rvs some).bind K:=by
 unfold ZEG
 cases ZSw pk rvs n with
 | false => rfl
 | true =>
  simp only [cond_true]
  rw [Wq]
  conv => rhs; rw [Wq]
  rw [Option.bind_assoc]
  congr 1
  funext x
  obtain ⟨e,s⟩:=x
  simp only [ZiQ]
  cases e <;> simp only [Kr,M.runK_eq,Option.bind_assoc,Option.bind_some,Option.bind_none]
  all_goals grind
mutual
def Kd.den:Kd → Type
 | .view t => t.den
 | .own t _ => List t.den
 | .box ks => Kd.dens ks
 | .agg ks => Kd.dens ks
 | .tup ks => Kd.dens ks
 | .fn _ => Unit
 | .bld _ => List Int
 | .use _ => List Int
 | .clo _ ks => Kd.dens ks
 | .ref ks => Kd.dens ks
 | .ns t => List t.den
 | .vp t => List t.den
def Kd.dens:List Kd → Type
 | [] => Unit
 | k :: ks => k.den × Kd.dens ks
end
mutual
def enc:(k:Kd) → k.den → RV
 | .view t,x => .view t x
 | .own t sh,xs => .own t sh xs
 | .box ks,x => .box (Wu ks x)
 | .agg ks,x => .agg (Wu ks x)
 | .tup ks,x => .tup (Wu ks x)
 | .fn f,_ => .fn f
 | .bld T,xs => .bld T xs
 | .use T,xs => .bld T xs
 | .clo f ks,x => .clo f (Wu ks x)
 | .ref ks,x => .box (Wu ks x)
 | .ns t,xs => .ns t xs
 | .vp t,xs => .vp t xs
def Wu:(ks:List Kd) → Kd.dens ks → List RV
 | [],_ => []
 | k :: ks,x => enc k x.1 :: Wu ks x.2
end
def Zl6 (t:Ty):RV → Option t.den
 | .view t' x => if h:t' = t then some (h ▸ x:t.den) else none
 | _ => none
def ZJ5 (t:Ty) (sh:Bool):RV → Option (List t.den)
 | .own t' sh' xs => if h:t' = t then (bif sh == sh' then some (h ▸ xs:List t.den) else none) else none
 | _ => none
def ZE2:RV → Option (List RV)
 | .box cs => some cs
 | _ => none
def asAgg:RV → Option (List RV)
 | .agg cs => some cs
 | _ => none
def ZJ7:RV → Option (List RV)
 | .tup cs => some cs
 | _ => none
def ZTE (f:Nat):RV → Option Unit
 | .fn g => bif Nat.beq f g then some () else none
 | _ => none
def ZJ3 (f:Nat):RV → Option (List RV)
 | .clo g cs => bif Nat.beq f g then some cs else none
 | _ => none
def ZTF (t:Ty):RV → Option (List t.den)
 | .ns t' xs => if h:t' = t then some (h ▸ xs:List t.den) else none
 | _ => none
def ZTG (t:Ty):RV → Option (List t.den)
 | .vp t' xs => if h:t' = t then some (h ▸ xs:List t.den) else none
 | _ => none
def ZE1 (T:TypeId):RV → Option (List Int)
 | .bld U xs => bif Nat.beq T U then some xs else none
 | _ => none
mutual
def dec:(k:Kd) → RV → Option k.den
 | .view t,r => Zl6 t r
 | .own t sh,r => ZJ5 t sh r
 | .box ks,r => (ZE2 r).bind (Zds ks)
 | .agg ks,r => (asAgg r).bind (Zds ks)
 | .tup ks,r => (ZJ7 r).bind (Zds ks)
 | .fn f,r => ZTE f r
 | .bld T,r => ZE1 T r
 | .use T,r => ZE1 T r
 | .clo f ks,r => (ZJ3 f r).bind (Zds ks)
 | .ref ks,r => (ZE2 r).bind (Zds ks)
 | .ns t,r => ZTF t r
 | .vp t,r => ZTG t r
def Zds:(ks:List Kd) → List RV → Option (Kd.dens ks)
 | [],[] => some ()
 | [],_ :: _ => none
 | _ :: _,[] => none
 | k :: ks,x :: xs => (dec k x).bind fun y => (Zds ks xs).bind fun ys => some (y,ys)
end
theorem ZGP {t:Ty} {r:RV} {x:t.den} (h:Zl6 t r = some x):r = .view t x:=by
 unfold Zl6 at h
 grind
theorem ZJ6 {t:Ty} {sh:Bool} {r:RV} {x:List t.den} (h:ZJ5 t sh r = some x):r = .own t sh x:=by
 unfold ZJ5 at h
 grind
theorem Zza {r:RV} {cs:List RV} (h:ZE2 r = some cs):r = .box cs:=by unfold ZE2 at h; split at h <;> simp at h; rw [h]
theorem ZJ2 {r:RV} {cs:List RV} (h:asAgg r = some cs):r = .agg cs:=by unfold asAgg at h; split at h <;> simp at h; rw [h]
theorem ZJ8 {r:RV} {cs:List RV} (h:ZJ7 r = some cs):r = .tup cs:=by unfold ZJ7 at h; split at h <;> simp at h; rw [h]
theorem ZPp {f:Nat} {r:RV} {x:Unit} (h:ZTE f r = some x):r = .fn f:=by
 unfold ZTE at h
 split at h
 ·rename_i g
  cases hb:Nat.beq f g with
  | false => rw [hb] at h; simp at h
  | true => rw [Z7 hb]
 ·cases h
theorem ZJ4 {f:Nat} {r:RV} {cs:List RV} (h:ZJ3 f r = some cs):r = .clo f cs:=by
 unfold ZJ3 at h
 split at h
 ·rename_i g l
  cases hb:Nat.beq f g with
  | false => rw [hb] at h; simp at h
  | true => simp_all
 ·cases h
theorem ZPq {t:Ty} {r:RV} {x:List t.den} (h:ZTF t r = some x):r = .ns t x:=by
 unfold ZTF at h
 grind
theorem ZPr {t:Ty} {r:RV} {x:List t.den} (h:ZTG t r = some x):r = .vp t x:=by
 unfold ZTG at h
 split at h
 ·split at h
  ·rename_i e; subst e; simp at h; rw [h]
  ·cases h
 ·cases h
theorem Zy9 {T:TypeId} {r:RV} {x:List Int} (h:ZE1 T r = some x):r = .bld T x:=by
 unfold ZE1 at h
 split at h
 ·rename_i U xs
  cases hb:Nat.beq T U with
  | false => rw [hb] at h; simp at h
  | true => simp_all
 ·cases h
mutual
theorem ZE8:(k:Kd) → (r:RV) → (x:k.den) → dec k r = some x → r = enc k x
 | .view t,r,x,h => by simp only [dec] at h; simp only [enc]; exact ZGP h
 | .own t sh,r,x,h => by simp only [dec] at h; simp only [enc]; exact ZJ6 h
 | .box ks,r,x,h => by
  simp only [dec] at h
  obtain ⟨cs,h1,h2⟩:=Option.bind_eq_some_iff.1 h
  simp only [enc,Zza h1,QU ks cs x h2]
 | .agg ks,r,x,h => by
  simp only [dec] at h
  obtain ⟨cs,h1,h2⟩:=Option.bind_eq_some_iff.1 h
  simp only [enc,ZJ2 h1,QU ks cs x h2]
 | .tup ks,r,x,h => by
  simp only [dec] at h
  obtain ⟨cs,h1,h2⟩:=Option.bind_eq_some_iff.1 h
  simp only [enc,ZJ8 h1,QU ks cs x h2]
 | .fn f,r,x,h => by simp only [dec] at h; simp only [enc]; exact ZPp h
 | .bld T,r,x,h => by simp only [dec] at h; simp only [enc]; exact Zy9 h
 | .use T,r,x,h => by simp only [dec] at h; simp only [enc]; exact Zy9 h
 | .clo f ks,r,x,h => by
  simp only [dec] at h
  obtain ⟨cs,h1,h2⟩:=Option.bind_eq_some_iff.1 h
  simp only [enc,ZJ4 h1,QU ks cs x h2]
 | .ns t,r,x,h => by simp only [dec] at h; simp only [enc]; exact ZPq h
 | .vp t,r,x,h => by simp only [dec] at h; simp only [enc]; exact ZPr h
 | .ref ks,r,x,h => by
  simp only [dec] at h
  obtain ⟨cs,h1,h2⟩:=Option.bind_eq_some_iff.1 h
  simp only [enc,Zza h1,QU ks cs x h2]
theorem QU:(ks:List Kd) → (rs:List RV) → (x:Kd.dens ks) → Zds ks rs = some x → rs = Wu ks x
 | [],[],x,h => rfl
 | k :: ks,r :: rs,x,h => by
  simp only [Zds] at h
  obtain ⟨y,h1,h⟩:=Option.bind_eq_some_iff.1 h
  obtain ⟨ys,h2,h⟩:=Option.bind_eq_some_iff.1 h
  cases h
  simp only [Wu,← ZE8 k r y h1,← QU ks rs ys h2]
 | [],_ :: _,x,h => by simp [Zds] at h
 | _ :: _,[],x,h => by simp [Zds] at h
end
theorem ZnE:(ks:List Kd) → (x:Kd.dens ks) → (Wu ks x).length = ks.length
 | [],_ => rfl
 | k :: ks,x => by simp only [Wu,List.length_cons,ZnE ks]
theorem Zyp {ks ls:List Kd} {as bs:List AV} (h:ks.length = as.length):QN (ks ++ ls) (as ++ bs) = QN ks as ++ QN ls bs:=by
 induction ks generalizing as with
 | nil =>
  grind [QN]
 | cons k ks ih =>
  cases as with
  | nil => simp at h
  | cons a as =>
   have ih:=ih (as:=as) (by simpa using h)
   cases k <;> simp [QN,ih]
theorem Zwk (a b:List AV):YM (a ++ b) = (YM a && YM b):=by simp [YM]
theorem Znx:(ks:List Kd) → (x:Kd.dens ks) → (n:Nat) → YM (QN ks (ZS n (Wu ks x)).1) = true
 | [],_,n => rfl
 | k :: ks,x,n => by
  have ih:=Znx ks x.2
  cases k with
  | box l =>
   simp only [Wu,enc,ZS,put,QN,YM,List.all_cons,Bool.true_and] at ih ⊢
   exact ih _
  | bld T =>
   simp only [Wu,enc,ZS,put,QN,YM,List.all_cons,Bool.true_and] at ih ⊢
   exact ih _
  | _ => grind [Wu,enc,ZS,QN]
theorem ZpO:(ks:List Kd) → (x:Kd.dens ks) → (n:Nat) → YM (QN (ZQ ks) (Qp ks (ZS n (Wu ks x)).1)) = true
 | [],_,n => rfl
 | k :: ks,x,n => by
  have ih:=ZpO ks x.2
  cases k with
  | box l =>
   simp only [Wu,enc,ZS,put,ZQ,Qp,QN,YM,List.all_cons,Bool.true_and] at ih ⊢
   exact ih _
  | bld T =>
   simp only [Wu,enc,ZS,put,ZQ,Qp,QN,YM,List.all_cons,Bool.true_and] at ih ⊢
   exact ih _
  | clo f l =>
   simp only [Wu,enc,ZS,put,ZQ,Qp]
   rw [Zyp (by rw [Zf4]; exact (ZnE l x.1).symm),Zwk,Bool.and_eq_true]
   exact ⟨Znx l x.1 n,ih _⟩
  | _ => grind [Wu,enc,ZS,ZQ,Qp,QN]
abbrev Ans (pk:List Kd) (rk:Kd):Type:=rk.den × Kd.dens (X8 (ZQ pk))
def ZKi (pk:List Kd) (rk:Kd) (r:RV × List RV):Option (Ans pk rk):=(dec rk r.1).bind fun x => (Zds (X8 (ZQ pk)) r.2).bind fun l => some (x,l)
def ZTI (pk:List Kd) (rk:Kd) (x:Ans pk rk):RV × List RV:=(enc rk x.1,Wu (X8 (ZQ pk)) x.2)
theorem ZG5 {pk:List Kd} {rk:Kd} {r:RV × List RV} {x:Ans pk rk} (h:ZKi pk rk r = some x):r = ZTI pk rk x:=by
 unfold ZKi at h
 obtain ⟨y,h1,h⟩:=Option.bind_eq_some_iff.1 h
 obtain ⟨ys,h2,h⟩:=Option.bind_eq_some_iff.1 h
 cases h
 obtain ⟨a,b⟩:=r
 simp only [ZTI,← ZE8 rk a y h1,← QU (X8 (ZQ pk)) b ys h2]
def mk (pk:List Kd) (rk:Kd) (F:Nat → Kd.dens pk → Option (Ans pk rk)):Callee :=
 { ρ:=Ans pk rk,pk:=pk,run:=fun k rvs => (Zds pk rvs).bind (F k),enc:=ZTI pk rk }
theorem ZSh {C:Ctx} (hC:∀ f cal,C.Φ f = some cal → Ctr C.P C.k f cal) (hm:C.P.follows .mixedOrders = true) {A:Nat → Ann} {f k:Nat} {fn:Func} {code:Code} {pk:List Kd} {rk:Kd} {F:Nat → Kd.dens pk → Option (Ans pk rk)}
  (hf:C.P.funcs[f]? = some fn) (hb:fn.body = some code) (hname:(fn.name == "runtime.NumGoroutine") = false) (hfit:X6 C.P fn.ntmps code = true)
  (h:∀ x y,F k x = some y → ZEG C A fn.ntmps code fn.results.toList pk rk (Wu pk x) (ZKi pk rk) = some y):Ctr C.P k f (mk pk rk F):=by
 refine ZI8 (A:=A) (rk:=rk) hC hm hf hb hname hfit (fun rvs x hx => ?_) (fun rvs x hx => ?_)
 ·simp only [mk] at hx ⊢
  obtain ⟨y,h1,h2⟩:=Option.bind_eq_some_iff.1 hx
  rw [QU pk rvs y h1]
  exact ZpO pk y 0
 ·simp only [mk] at hx ⊢
  obtain ⟨y,h1,h2⟩:=Option.bind_eq_some_iff.1 hx
  have h3:=h y x h2
  rw [← QU pk rvs y h1,ZJA] at h3
  obtain ⟨r,h4,h5⟩:=Option.bind_eq_some_iff.1 h3
  rw [h4,ZG5 h5]
def phi:List (Nat × Callee) → Nat → Option Callee
 | [],_ => none
 | (f,c) :: l,g => bif Nat.beq g f then some c else phi l g
theorem Zf {P:Program} {k:Nat}:∀ {l:List (Nat × Callee)},(∀ p ∈ l,Ctr P k p.1 p.2) → ∀ f cal,phi l f = some cal → Ctr P k f cal
 | [],_,f,cal,h => by simp [phi] at h
 | (g,c) :: l,hl,f,cal,h => by
  simp only [phi] at h
  cases hb:Nat.beq f g with
  | true => simp_all
  | false => rw [hb] at h; exact Zf (fun p hp => hl p (by simp [hp])) f cal h
theorem Zd {P:Program} {k:Nat}:∀ p ∈ ([]:List (Nat × Callee)),Ctr P k p.1 p.2:=by intro p hp; simp at hp
theorem Za {P:Program} {k f:Nat} {c:Callee} {l:List (Nat × Callee)} (h:Ctr P k f c) (hl:∀ p ∈ l,Ctr P k p.1 p.2):∀ p ∈ (f,c) :: l,Ctr P k p.1 p.2:=by
 simp_all
def Zn {V R:Type} (step:(V → Option R) → V → Option R):Nat → V → Option R
 | 0,_ => none
 | n + 1,v => step (Zn step n) v
theorem Zh {V R:Type} {L:Nat → V → Option R} {step:(V → Option R) → V → Option R} (h0:∀ v,L 0 v = none) (h:∀ n v,L (n + 1) v = step (L n) v):∀ n,L n = Zn step n
 | 0 => funext h0
 | n + 1 => funext fun v => by rw [h,Zh h0 h n]; rfl
section
variable {R:Type}
def place (C:Ctx) (A:Nat → Ann) (kp:List Nat):List Nat → List Nat → Code → (Ex → St → Option R) → Code × (Ex → St → Option R)
 | 0 :: p,ns,.seq a b,K => place C A kp p ns a (ZOT (fun s => Xx C A kp b s K) K)
 | _ :: p,ns,.seq _ b,K => place C A kp p ns b K
 | 0 :: p,ns,.cond _ a _,K => place C A kp p ns a K
 | _ :: p,ns,.cond _ _ b,K => place C A kp p ns b K
 | _ :: p,ns,.block id c,K => place C A kp p ns c (Zwh id K)
 | _ :: p,ns,.scope c,K => place C A kp p ns c K
 | _ :: p,n :: ns,.loop c,K => place C A kp p ns c fun e s => match e with
  | .normal => (ZtH kp (A (QD c)) s).bind fun s => Zh4 (Xx C A kp c) (ZtH kp (A (QD c))) n s K
  | .exit i => K (.exit i) s
  | .ret => K .ret s
 | _,_,c,K => (c,K)
def Zs (C:Ctx) (A:Nat → Ann) (kp:List Nat) (p ns:List Nat) (code:Code) (K:Ex → St → Option R) (n:Nat) (st:St):Option R :=
 match place C A kp p ns code K with
 | (.loop c,K) => Zh4 (Xx C A kp c) (ZtH kp (A (QD c))) n st K
 | _ => none
end
end Go.Sh
