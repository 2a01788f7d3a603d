/-
  What the row needs, part 4.
-/
import Derived.Test.YtgbhjfacjekhcaaGreatDoorXStreamTable3
import Derived.Scope
import Derived.LoopN
set_option linter.unusedSimpArgs false
set_option linter.unusedVariables false
set_option linter.unusedSectionVars false
namespace Go.Sh
open Go
variable [Gl]
variable {C:Ctx} {G:Glob} {σ:Xi} {w:World} {lim:Nat → Nat} {st:St} {a:Act}
def Ex.out:Ex → Exit
 | .normal => .normal
 | .exit i => .exit i
 | .ret => .ret
def Yb (P:Program) (n:Nat):Code → Bool
 | .region _ ops _ => ZvB P n ops.toList
 | .seq a b => Yb P n a && Yb P n b
 | .cond _ a b => Yb P n a && Yb P n b
 | .block _ c => Yb P n c
 | .loop c => Yb P n c
 | .scope c => Yb P n c
 | _ => true
def W4 (G:Glob) (n:Nat) (st:St) (a:Act) (w:World):Prop := ∃ σ lim,WK G σ lim st a.tmps w ∧ a.tmps.size = n ∧ a.defers = []
theorem ZPK {n:Nat} (h:W4 G n st a w) {c:Operand} {t:Bool} (hc:ZaI st.env c = .val (.v (.bool t))):a.eval c = .bool t:=by
 obtain ⟨σ,lim,h,_,_⟩:=h
 have:=(Zx h.1 c).1
 grind [RA,RP]
theorem ZnZ {n:Nat} (h:W4 G n st a w) {q:Nat} (hq:q < Qe):W4 G n (ZGI st q) a w:=by
 obtain ⟨σ,lim,h,h2,h3⟩:=h
 unfold ZGI
 split
 ·rename_i t xss hT
  obtain ⟨lim',h4⟩:=RelW.melt h.1 h.2 hq hT
  exact ⟨σ,lim',h4,h2,h3⟩
 ·exact ⟨σ,lim,h,h2,h3⟩
theorem ZyF {n:Nat} (h:W4 G n st a w) (id:Nat):W4 G n (ZiY C id st) a w:=by
 have hL:Low G st:=by obtain ⟨_,_,⟨_,hL⟩,_,_⟩:=h; exact hL
 unfold ZiY
 split
 ·split
  ·rename_i s _ _ q hs
   exact ZnZ h (hL.env s q (by rw [hs]; simp [Zf]))
  ·exact h
 ·split
  ·rename_i s k _ _ r hs
   unfold ZTP
   split
   ·rename_i cs hr
    split
    ·rename_i q hq
     exact ZnZ h (hL.box r cs hr q (Kv (List.mem_of_getElem? hq) (by simp [Zf])))
    ·exact h
   ·exact h
  ·exact h
 ·exact h
theorem WL (hC:∀ f cal,C.Φ f = some cal → Ctr C.P C.k f cal) (hm:C.P.follows .mixedOrders = true) {A:Nat → Ann} {kp:List Nat} (hk:∀ p ∈ G.pins,p.1 ∈ kp) {n:Nat} {R:Type} {r:R} :
  (c:Code) → {st:St} → {K:Ex → St → Option R} → XB C A kp c st K = some r → Yb C.P n c = true → {a:Act} → {w:World} → W4 G n st a w → {Q:Exit → Act → World → Prop} →
  (∀ e st' a' w',K e st' = some r → W4 G n st' a' w' → Q e.out a' w') → c.wp C.P Q a w
 | .skip,st,K,h,hf,a,w,hs,Q,hQ => wp_skip (hQ .normal st a w h hs)
 | .label _,st,K,h,hf,a,w,hs,Q,hQ => wp_label (hQ .normal st a w h hs)
 | .ret,st,K,h,hf,a,w,hs,Q,hQ => wp_ret (hQ .ret st a w h hs)
 | .exit i,st,K,h,hf,a,w,hs,Q,hQ => wp_exit (hQ (.exit i) st a w h hs)
 | .region id ops d,st,K,h,hf,a,w,hs,Q,hQ => by
  simp only [XB] at h
  simp only [Yb] at hf
  obtain ⟨σ,lim,hR,hn,hd⟩:=ZyF (C:=C) hs id
  have hb:∃ stf lgs,Zng C id ops.toList ops.toList 0 (ZiY C id st) = some (stf,lgs) ∧ (d = true → Zbq ops.toList (Ki ops.toList []) lgs = true) ∧ K .normal stf = some r:=by
   cases d with
   | false =>
    simp only [cond_false,ZyK] at h
    cases ho:Zng C id ops.toList ops.toList 0 (ZiY C id st) with
    | none => rw [ho] at h; simp at h
    | some x => grind
   | true =>
    simp only [cond_true,Zmo,List.nil_append] at h
    cases ho:Zng C id ops.toList ops.toList 0 (ZiY C id st) with
    | none => rw [ho] at h; simp at h
    | some x =>
     grind
  obtain ⟨stf,lgs,h1,h2,h3⟩:=hb
  exact ZyQ hC hm hf hR hn hd h1 h2 fun a' w' σ' lim' hR' hn' hd' => hQ .normal stf a' w' h3 ⟨σ',lim',hR',hn',hd'⟩
 | .seq x y,st,K,h,hf,a,w,hs,Q,hQ => by
  simp only [XB] at h
  simp only [Yb,Bool.and_eq_true] at hf
  refine wp_seq (WL hC hm hk x h hf.1 hs fun e st' a' w' hK hs' => ?_)
  cases e with
  | normal => exact WL hC hm hk y hK hf.2 hs' hQ
  | exit i => exact hQ (.exit i) st' a' w' hK hs'
  | ret => exact hQ .ret st' a' w' hK hs'
 | .cond c x y,st,K,h,hf,a,w,hs,Q,hQ => by
  simp only [XB] at h
  simp only [Yb,Bool.and_eq_true] at hf
  split at h
  ·rename_i t hc
   have e1:=ZPK hs hc
   cases t with
   | true =>
    refine wp_cond_true e1 (WL hC hm (A:=A) hk x (K:=K) ?_ hf.1 hs hQ)
    cases c with
    | tmp d => simp_all [ZaI,cond_true,Znt hc]
    | _ => exact h
   | false =>
    refine wp_cond_false e1 (WL hC hm (A:=A) hk y (K:=K) ?_ hf.2 hs hQ)
    cases c with
    | tmp d => simp_all [ZaI,cond_false,Znt hc]
    | _ => exact h
  ·simp at h
 | .block id c,st,K,h,hf,a,w,hs,Q,hQ => by
  simp only [XB] at h
  simp only [Yb] at hf
  refine wp_block (WL hC hm hk c h hf hs fun e st' a' w' hK hs' => ?_)
  cases e with
  | normal => exact hQ .normal st' a' w' hK hs'
  | ret => exact hQ .ret st' a' w' hK hs'
  | exit i =>
   simp only [Zwx] at hK
   simp only [Ex.out,Exit.inBlock]
   cases hb:Nat.beq i id with
   | true => rw [hb] at hK; rw [if_pos (Z7 hb)]; exact hQ .normal st' a' w' hK hs'
   | false =>
    rw [hb] at hK
    rw [if_neg (by rintro rfl; rw [YR] at hb; cases hb)]
    exact hQ (.exit i) st' a' w' hK hs'
 | .loop c,st,K,h,hf,a,w,hs,Q,hQ => by
  simp only [XB] at h
  simp only [Yb] at hf
  have key:∀ (m:Nat) (st:St) (a:Act) (w:World),Zif (XB C A kp c) (ZtV kp (A (QE c))) m st K = some r → W4 G n st a w → Code.rounds C.P c Q m a w:=by
   intro m
   induction m with
   | zero => intro st a w h; simp [Zif] at h
   | succ m ih =>
    intro st a w h hs
    rw [rounds_succ]
    simp only [Zif] at h
    refine WL hC hm hk c h hf hs fun e st' a' w' hK hs' => ?_
    cases e with
    | ret => exact hQ .ret st' a' w' hK hs'
    | exit i => exact hQ (.exit i) st' a' w' hK hs'
    | normal =>
     cases hn:ZtV kp (A (QE c)) st' with
     | none => rw [hn] at hK; simp at hK
     | some s =>
      rw [hn] at hK
      obtain ⟨σ,lim,hR,q1,q2⟩:=hs'
      obtain ⟨σ2,lim2,hR2⟩:=ZsZ hR hk hn
      exact ih s a' w' hK ⟨σ2,lim2,hR2,q1,q2⟩
  cases hn:ZtV kp (A (QE c)) st with
  | none => rw [hn] at h; simp at h
  | some s =>
   rw [hn] at h
   obtain ⟨σ,lim,hR,q1,q2⟩:=hs
   obtain ⟨σ2,lim2,hR2⟩:=ZsZ hR hk hn
   exact wp_loop_rounds C.k (key C.k s a w h ⟨σ2,lim2,hR2,q1,q2⟩)
 | .scope c,st,K,h,hf,a,w,hs,Q,hQ => by
  simp only [XB] at h
  simp only [Yb] at hf
  refine wp_scope_straight (WL hC hm hk c h hf hs fun e st' a' w' hK hs' => ?_)
  cases e <;> exact hQ _ st' a' w' hK hs'
 | .rangeFunc _ _ _ _,st,K,h,hf,a,w,hs,Q,hQ => by simp [XB] at h
 | .goto _,st,K,h,hf,a,w,hs,Q,hQ => by simp [XB] at h
end Go.Sh
namespace Go.Sh
open Go
variable [Gl]
variable {C:Ctx} {G:Glob} {σ:Xi} {w:World} {lim:Nat → Nat} {st:St} {tmps:Array Value}
theorem ZEF {P:Program} {T:TypeId} {v x:Value} (h:(Instr.loadAt T v).run P w = .ok x w):(asAddr v >>= fun p => loadVar T p:Sem Value).run P w = .ok x w:=by
 unfold Instr.loadAt at h
 unfold Instr.sureAddr at h
 split at h
 ·simpa [asAddr] using h
 ·simp [stuck,Sem.run_bind] at h
def Ztj (tmps:Array Value):ResultVar → Sem Value
 | .tmp t => pure (tmps.getD t undef)
 | .cell a t => do loadVar t (← asAddr (tmps.getD a undef))
theorem Zti (h:RelW G σ lim st tmps w) {r:ResultVar} {l l':List Nat} {x:AV} (hm:(Zdm C st r).run st.tbl l = some (x,l')) :
  ∃ v,(Ztj tmps r).run C.P w = .ok v w ∧ RA σ w lim x v ∧ Zs st.tbl (Zf x):=by
 cases r with
 | tmp t =>
  obtain ⟨rfl,_⟩:=M.run_ret hm
  exact ⟨_,rfl,h.env t,h.known t⟩
 | cell a T =>
  simp only [Zdm] at hm
  obtain ⟨e,l1,h1,h2⟩:=M.run_bind_some hm
  obtain ⟨rfl,_⟩:=M.run_ret h2
  obtain ⟨v,e1,e2,e3,e4⟩:=ZsN h1 (h.env a) h.res
  exact ⟨v,ZEF e1,e2,e3⟩
theorem ZeI (h:RelW G σ lim st tmps w):(rs:List ResultVar) → {l l':List Nat} → {xs:List AV} → (YO C st rs).run st.tbl l = some (xs,l') →
  ∃ vs,(rs.mapM (Ztj tmps)).run C.P w = .ok vs w ∧ Qb σ w lim xs vs ∧ Zs st.tbl (Zq xs)
 | [],l,l',xs,hm => by
  obtain ⟨rfl,_⟩:=M.run_ret hm
  simp_all [Qb,Zq,Zs]
 | r :: rs,l,l',xs,hm => by
  simp only [YO] at hm
  obtain ⟨x,l1,h1,h2⟩:=M.run_bind_some hm
  obtain ⟨ys,l2,h3,h4⟩:=M.run_bind_some h2
  obtain ⟨rfl,_⟩:=M.run_ret h4
  obtain ⟨v,e1,e2,e3⟩:=Zti h h1
  obtain ⟨vs,f1,f2,f3⟩:=ZeI h rs h3
  refine ⟨v :: vs,?_,by simp only [Qb]; exact ⟨e2,f2⟩,?_⟩
  ·simp_all
  ·intro i hi; simp only [Zq,List.mem_append] at hi; rcases hi with hi | hi; exact e3 i hi; exact f3 i hi
theorem Zil {st st2:St} (he:st2.env = st.env):∀ (rs:List ResultVar),YO C st rs = YO C st2 rs
 | [] => rfl
 | r :: rs => by
  have h1:Zdm C st r = Zdm C st2 r:=by cases r <;> simp only [Zdm,he]
  simp only [YO,h1,Zil he rs]
theorem ZtY (h:RelW G σ lim st tmps w) {fn:Func} {l l':List Nat} {xs:List AV} (hm:(YO C st fn.results.toList).run st.tbl l = some (xs,l')) :
  ∃ v,(results fn tmps).run C.P w = .ok v w ∧ RA σ w lim (match (generalizing:=false) xs with | [a] => a | as => .tup as) v:=by
 obtain ⟨vs,e1,e2,e3⟩:=ZeI h _ hm
 have e0:results fn tmps = (do let vs ← fn.results.mapM (Ztj tmps); pure (if h:vs.size = 1 then vs[0] else .tuple vs)):=by
  unfold results
  congr 1
 rw [e0,Array.mapM_eq_mapM_toList]
 match xs,vs,e2 with
 | [x],[v],e2 =>
  simp_all [Qb,Sem.run_bind,Sem.run_map,e1]
 | [],[],e2 =>
  simp_all [RA,Qb,Sem.run_bind,Sem.run_map,e1]
 | x :: y :: xs,v :: u :: vs,e2 =>
  simp_all [RA,Sem.run_bind,Sem.run_map,e1]
 | [],_ :: _,e2 => simp [Qb] at e2
 | _ :: _,[],e2 => simp [Qb] at e2
 | [_],_ :: _ :: _,e2 => simp [Qb] at e2
 | _ :: _ :: _,[_],e2 => simp [Qb] at e2
def Ye:List Kd → List Value → List Value
 | .box _ :: l,a :: as => a :: Ye l as
 | .bld _ :: l,a :: as => a :: Ye l as
 | _ :: l,_ :: as => Ye l as
 | _,_ => []
def KB:List AV → List Value → List (Nat × Value)
 | .bx r _ :: l,v :: vs => (r,v) :: KB l vs
 | _ :: l,_ :: vs => KB l vs
 | _,_ => []
theorem ZlP:(as:List AV) → (vs:List Value) → ∀ p ∈ KB as vs,p.1 ∈ W1 as
 | [],vs,p,hp => by cases vs <;> simp [KB] at hp
 | x :: as,[],p,hp => by cases x <;> simp [KB] at hp
 | x :: as,v :: vs,p,hp => by
  cases x with
  | bx r k =>
   simp only [KB,List.mem_cons] at hp
   simp only [W1,List.mem_cons]
   rcases hp with rfl | hp
   ·exact .inl rfl
   ·exact .inr (ZlP as vs p hp)
  | _ => simp only [KB] at hp; simp only [W1]; exact ZlP as vs p hp
theorem ZGG:(pk:List Kd) → {as:List AV} → {vs:List Value} → Qb σ w lim as vs → Qb σ w lim (QO pk as) (Ye pk vs)
 | [],as,vs,h => by grind [QO,Ye,Qb]
 | k :: pk,as,vs,h => by
  match as,vs,h with
  | [],[],h => cases k <;> simp [QO,Ye,Qb]
  | x :: as,v :: vs,h =>
   simp only [Qb] at h
   have ih:=ZGG pk h.2
   cases k <;> simp only [QO,Ye,Qb] <;> first | exact ih | exact ⟨h.1,ih⟩
  | [],_ :: _,h => simp [Qb] at h
  | _ :: _,[],h => simp [Qb] at h
def YS (as:List AV):Bool:=as.all fun | .bx _ 0 => true | _ => false
theorem ZWr {as:List AV} {vs:List Value} (hb:YS as = true) (h:Qb σ w lim as vs):∀ p ∈ KB as vs,σ p.1 = p.2:=by
 induction as generalizing vs with
 | nil => grind [KB]
 | cons x as ih =>
  cases vs with
  | nil => simp [Qb] at h
  | cons v vs =>
   simp only [Qb] at h
   simp only [YS,List.all_cons,Bool.and_eq_true] at hb
   intro p hp
   obtain ⟨hb1,hb2⟩:=hb
   split at hb1
   ·rename_i r
    simp only [KB,List.mem_cons] at hp
    rcases hp with rfl | hp
    ·grind [RA]
    ·exact ih hb2 h.2 p hp
   ·cases hb1
theorem ZEU {σ':Xi} {w':World} {lim':Nat → Nat} {as:List AV} {vs:List Value} (hb:YS as = true) (h:Qb σ w lim as vs) (hp:∀ p ∈ KB as vs,σ' p.1 = p.2):Qb σ' w' lim' as vs:=by
 induction as generalizing vs with
 | nil => cases vs <;> simp [Qb] at h ⊢
 | cons x as ih =>
  cases vs with
  | nil => simp [Qb] at h
  | cons v vs =>
   simp only [Qb] at h ⊢
   simp only [YS,List.all_cons,Bool.and_eq_true] at hb
   obtain ⟨hb1,hb2⟩:=hb
   split at hb1
   ·rename_i r
    simp only [KB,List.mem_cons] at hp
    refine ⟨?_,ih hb2 h.2 fun p hm => hp p (.inr hm)⟩
    have h1:=h.1
    simp only [RA] at h1 ⊢
    obtain ⟨b,e1,e2⟩:=h1
    simp_all
   ·cases hb1
theorem ZG2:(pk:List Kd) → {vs:List Value} → {rs:List RV} → {bs:List Nat} → vs.length = pk.length → TTs w lim rs (Ye pk vs) bs → TL w lim pk vs rs bs
 | [],[],rs,bs,_,h => by
  grind [Ye,TL,TTs]
 | k :: pk,v :: vs,rs,bs,hl,h => by
  have hl':vs.length = pk.length:=by simpa using hl
  cases k with
  | box l =>
   simp only [Ye] at h
   cases rs with
   | nil => simp [TTs] at h
   | cons x rs =>
    simp only [TTs] at h
    simp only [TL]
    obtain ⟨b1,b2,e,h1,h2⟩:=h
    exact ⟨b1,b2,e,h1,ZG2 pk hl' h2⟩
  | bld T =>
   simp only [Ye] at h
   cases rs with
   | nil => simp [TTs] at h
   | cons x rs =>
    simp only [TTs] at h
    simp only [TL]
    obtain ⟨b1,b2,e,h1,h2⟩:=h
    exact ⟨b1,b2,e,h1,ZG2 pk hl' h2⟩
  | _ => simp only [Ye] at h; simp only [TL]; exact ZG2 pk hl' h
 | [],_ :: _,rs,bs,hl,_ => by simp at hl
 | _ :: _,[],rs,bs,hl,_ => by simp at hl
theorem Zdu:∀ (u:Wm),Zv u = Qj.put (fun _ => .fresh) u
 | [] => rfl
 | (a,x) :: u => by
  funext r
  simp only [Zv,Qj.put,ZH,Zdu u]
  grind
theorem ZbG:∀ (as:List AV) (i s:Nat),Zw (index i as) s = .dead ∨ ∃ j,s = i + j ∧ as[j]? = some (Zw (index i as) s)
 | [],i,s => .inl rfl
 | x :: as,i,s => by
  simp only [index,Zw]
  cases h:Nat.beq s i with
  | true => simp_all
  | false =>
   simp only [cond_false]
   rcases ZbG as (i + 1) s with h | ⟨j,h1,h2⟩
   ·exact .inl h
   ·exact .inr ⟨j + 1,by omega,by simpa using h2⟩
theorem ZvJ {as:List AV} {j:Nat} {x:AV} (h:as[j]? = some x):∀ r ∈ Zf x,r ∈ Zq as:=by
 induction as generalizing j with
 | nil => simp at h
 | cons y as ih =>
  grind [Zq]
theorem Zir {as:List AV} {vs:List Value} (h:Qb σ w lim as vs):as.length = vs.length:=by
 induction as generalizing vs with
 | nil => cases vs <;> simp [Qb] at h ⊢
 | cons x as ih =>
  cases vs with
  | nil => simp [Qb] at h
  | cons v vs => simp only [Qb] at h; simp [ih h.2]
theorem Zgf:(xs:List RV) → (n:Nat) → (ZU n xs).1.length = xs.length
 | [],n => rfl
 | x :: xs,n => by simp only [ZU,List.length_cons,Zgf xs]
theorem Yw:(pk:List Kd) → (as:List AV) → ∀ r ∈ W1 (QO pk as),r ∈ Zq as
 | [],as,r,hr => by contradiction
 | k :: pk,[],r,hr => by grind [QO,W1]
 | k :: pk,x :: as,r,hr => by
  simp only [Zq,List.mem_append]
  cases k with
  | box l =>
   simp only [QO] at hr
   cases x with
   | bx b j =>
    simp only [W1,List.mem_cons] at hr
    rcases hr with rfl | hr
    ·exact .inl (by simp [Zf])
    ·exact .inr (Yw pk as r hr)
   | _ => simp only [W1] at hr; exact .inr (Yw pk as r hr)
  | bld T =>
   simp only [QO] at hr
   cases x with
   | bx b j =>
    simp only [W1,List.mem_cons] at hr
    rcases hr with rfl | hr
    ·exact .inl (by simp [Zf])
    ·exact .inr (Yw pk as r hr)
   | _ => simp only [W1] at hr; exact .inr (Yw pk as r hr)
  | _ => simp only [QO] at hr; exact .inr (Yw pk as r hr)
mutual
theorem ZSX:(x:RV) → (n:Nat) → (∀ r ∈ Zf (put n x).1,r < (put n x).2.2) ∧ ∀ p ∈ (put n x).2.1,p.1 < (put n x).2.2 ∧ Zbt p.2 = true ∧ ∀ cs,p.2 = .live (.box cs) → ∀ q ∈ Zq cs,q < (put n x).2.2
 | .view t x,n => by simp only [put]; rw [ZpN]; simp
 | .own t sh xs,n => by simp [put,Zf,Zbt]
 | .box cs,n => by
  obtain ⟨h1,h2⟩:=Zdk cs (n + 1)
  have hle:=Xs cs (n + 1)
  simp only [put]
  refine ⟨by intro r hr; simp [Zf] at hr; omega,fun p hp => ?_⟩
  cases hp with
  | head => exact ⟨by simp only; omega,rfl,fun ds hd => by simp only [RS.live.injEq,Res.box.injEq] at hd; subst hd; exact h1⟩
  | tail _ hp => exact h2 p hp
 | .agg cs,n => by
  obtain ⟨h1,h2⟩:=Zdk cs n
  simp only [put]
  exact ⟨by simpa [Zf] using h1,h2⟩
 | .tup cs,n => by
  obtain ⟨h1,h2⟩:=Zdk cs n
  simp only [put]
  exact ⟨by simpa [Zf] using h1,h2⟩
 | .fn f,n => by simp [put,Zf]
 | .ns t xs,n => by simp [put,Zf]
 | .vp t xs,n => by simp [put,Zf]
 | .clo f cs,n => by
  obtain ⟨h1,h2⟩:=Zdk cs n
  simp only [put]
  exact ⟨by simpa [Zf] using h1,h2⟩
 | .bld T xs,n => by
  simp only [put]
  refine ⟨by intro r hr; simp [Zf] at hr; omega,fun p hp => ?_⟩
  simp only [List.mem_cons,List.not_mem_nil,or_false] at hp
  rcases hp with rfl | rfl
  ·refine ⟨by simp only; omega,rfl,fun cs hc q hq => ?_⟩
   simp only [RS.live.injEq,Res.box.injEq] at hc
   subst hc
   simp [Zq,Zf] at hq
   omega
  ·exact ⟨by simp only; omega,rfl,fun cs hc => by cases hc⟩
theorem Zdk:(xs:List RV) → (n:Nat) → (∀ r ∈ Zq (ZU n xs).1,r < (ZU n xs).2.2) ∧ ∀ p ∈ (ZU n xs).2.1,p.1 < (ZU n xs).2.2 ∧ Zbt p.2 = true ∧ ∀ cs,p.2 = .live (.box cs) → ∀ q ∈ Zq cs,q < (ZU n xs).2.2
 | [],n => by simp [ZU,Zq]
 | x :: xs,n => by
  obtain ⟨h1,h2⟩:=ZSX x n
  obtain ⟨h3,h4⟩:=Zdk xs (put n x).2.2
  have hle:=Xs xs (put n x).2.2
  simp only [ZU]
  refine ⟨fun r hr => ?_,fun p hp => ?_⟩
  ·simp only [Zq,List.mem_append] at hr
   rcases hr with hr | hr
   ·have:=h1 r hr; omega
   ·exact h3 r hr
  ·rcases List.mem_append.1 hp with hp | hp
   ·exact h4 p hp
   ·obtain ⟨a,b,c⟩:=h2 p hp
    exact ⟨by omega,b,fun cs hc q hq => by have:=c cs hc q hq; omega⟩
end
theorem ZHq:XJ (fun _ => .fresh) = fun _ => .fresh:=by
 funext n
 simp only [XJ,Zh0,ite_self]
theorem ZT4 {avs:List AV} {u:Wm} (h:RelW G σ lim (enter avs u) tmps w) (hu:∀ p ∈ u,p.1 < Qe ∧ Zbt p.2 = true ∧ ∀ cs,p.2 = .live (.box cs) → ∀ q ∈ Zq cs,q < Qe)
  (hids:∀ r ∈ Zq avs,r < Qe) (hp:∀ p ∈ G.pins,p.1 < Qe):WK G σ lim (enter avs u) tmps w:=by
 have e:Zv u = Qj.put (fun _ => .fresh) u:=Zdu u
 unfold enter at h ⊢
 rw [e] at h ⊢
 refine WK.of_put (T:=fun _ => .fresh) (by rw [ZHq]; exact h) (fun p hp => ⟨(hu p hp).1,(hu p hp).2.1⟩) ⟨fun s r hr => ?_,fun r cs hr => ?_,hp⟩
 ·simp only at hr
  rcases ZbG avs 0 s with h | ⟨j,h1,h2⟩
  ·rw [h] at hr; simp [Zf] at hr
  ·exact hids r (ZvJ h2 r hr)
 ·simp only [Qj.put] at hr
  cases hl:ZH u r with
  | none => rw [hl] at hr; cases hr
  | some z => rw [hl] at hr; simp only at hr; exact (hu _ (WD hl)).2.2 cs hr
theorem ZsB:(ks:List Kd) → (as:List AV) → XA ks as = true → (Qo ks as).length = (ZR ks).length
 | [],[],_ => rfl
 | [],_ :: _,h => by simp [XA] at h
 | k :: ks,[],h => by cases k <;> simp [XA] at h
 | k :: ks,a :: as,h => by
  cases k with
  | clo f l =>
   cases a with
   | clo g cs =>
    simp only [XA,Bool.and_eq_true] at h
    have:=Z7 h.1
    simp only [Qo,ZR,List.length_append,ZsB ks as h.2,this]
   | _ => simp [XA] at h
  | _ => grind [XA,Qo,ZR,List.length_cons,ZsB ks as h]
def ZlJ:List Kd → Nat
 | [] => 0
 | .ref _ :: l => ZlJ l + 1
 | _ :: l => ZlJ l
theorem ZnV:(ks:List Kd) → Zao ks = false → ZlJ ks = 0
 | [],_ => rfl
 | k :: ks,h => by
  cases k with
  | ref l => simp [Zao] at h
  | _ => simp only [Zao] at h; simp only [ZlJ]; exact ZnV ks h
theorem Zeo:(ks:List Kd) → (cs:List AV) → {q:List Nat} → ZG ks cs = some q → q.length = ZlJ ks
 | [],[],q,h => by simp [ZG] at h; subst h; rfl
 | k :: ks,a :: as,q,h => by
  have other:(∀ l,k ≠ .ref l) → q.length = ZlJ (k :: ks):=by
   intro hk
   have e:ZG (k :: ks) (a :: as) = ZG ks as:=by cases k <;> first | rfl | exact absurd rfl (hk _)
   have e2:ZlJ (k :: ks) = ZlJ ks:=by cases k <;> first | rfl | exact absurd rfl (hk _)
   rw [e] at h
   rw [e2]; exact Zeo ks as h
  cases k with
  | ref l =>
   cases a with
   | bx s kk =>
    cases kk with
    | succ kk => simp [ZG] at h
    | zero =>
     simp only [ZG] at h
     cases hq2:ZG ks as with
     | none => rw [hq2] at h; simp at h
     | some q2 =>
      grind [Option.some.injEq,List.length_cons,ZlJ,Zeo ks as hq2]
   | _ => simp [ZG] at h
  | _ => exact other (by intro l; simp)
 | [],_ :: _,q,h => by simp [ZG] at h
 | k :: _,[],q,h => by cases k <;> simp [ZG] at h
theorem Zl0 {σ:Xi}:(ks:List Kd) → (q:List Nat) → (vs vs':List Value) → q.length = ZlJ ks → Qn σ q ks vs → Qn σ q ks vs' → Kc ks vs vs'
 | [],q,vs,vs',_,_,_ => by simp [Kc]
 | k :: ks,q,[],vs',_,_,_ => by cases k <;> simp [Kc]
 | k :: ks,q,v :: vs,[],_,_,_ => by cases k <;> simp [Kc]
 | k :: ks,q,v :: vs,v' :: vs',hl,h,h' => by
  have other:(∀ l,k ≠ .ref l) → Kc (k :: ks) (v :: vs) (v' :: vs'):=by
   intro hk
   have e2:ZlJ (k :: ks) = ZlJ ks:=by cases k <;> first | rfl | exact absurd rfl (hk _)
   have e3:Kc (k :: ks) (v :: vs) (v' :: vs') = Kc ks vs vs':=by cases k <;> first | rfl | exact absurd rfl (hk _)
   rw [e3]
   rw [e2] at hl
   cases q with
   | nil => exact Zl0 (σ:=σ) ks [] vs vs' hl Wk Wk
   | cons q0 q =>
    have e4:∀ (u:Value) (us:List Value),Qn σ (q0 :: q) (k :: ks) (u :: us) = Qn σ (q0 :: q) ks us:=by intro u us; cases k <;> first | rfl | exact absurd rfl (hk _)
    rw [e4] at h h'
    exact Zl0 ks (q0 :: q) vs vs' hl h h'
  cases k with
  | ref l =>
   cases q with
   | nil => simp [ZlJ] at hl
   | cons q0 q =>
    simp only [Qn] at h h'
    simp only [Kc]
    exact ⟨h'.1.trans h.1.symm,Zl0 ks q vs vs' (by simpa [ZlJ] using hl) h.2 h'.2⟩
  | _ => exact other (by intro l; simp)
theorem Znm {σ1:Xi} {w0:World} (h:RelW G σ lim st tmps w):(ks:List Kd) → {as:List AV} → {vs:List Value} → {l l':List Nat} → {nm:List (List Nat)} → (Zaw ks as).run st.tbl l = some (nm,l') → Qb σ w lim as vs → Xh σ1 w0 nm ks vs → (∀ q ∈ nm.flatten,σ q = σ1 q) → Kj w0 w ks vs
 | [],as,vs,l,l',nm,hm,hv,hr,hq => by cases vs <;> simp [Kj]
 | k :: ks,[],vs,l,l',nm,hm,hv,hr,hq => by
  match vs,hv with
  | [],_ => cases k <;> simp [Kj]
 | k :: ks,a :: as,vs,l,l',nm,hm,hv,hr,hq => by
  match vs,hv with
  | v :: vs,hv =>
   simp only [Qb] at hv
   have other:(∀ l,k ≠ .box l) → Kj w0 w (k :: ks) (v :: vs):=fun hk => by
    rw [Zbw hk] at hm
    have e:Kj w0 w (k :: ks) (v :: vs) = Kj w0 w ks vs:=by cases k <;> first | rfl | exact absurd rfl (hk _)
    have e2:Xh σ1 w0 nm (k :: ks) (v :: vs) = Xh σ1 w0 nm ks vs:=by cases k <;> first | (cases nm <;> rfl) | exact absurd rfl (hk _)
    rw [e]
    rw [e2] at hr
    exact Znm h ks hm hv.2 hr hq
   cases k with
   | box l0 =>
    cases a with
    | bx r kk =>
     cases kk with
     | succ kk => exact (M.run_fail hm).elim
     | zero =>
      simp only [Zaw] at hm
      obtain ⟨q0,l5,h5,h6⟩:=M.run_bind_some hm
      obtain ⟨qs,l6,h7,h8⟩:=M.run_bind_some h6
      obtain ⟨h9,_⟩:=M.run_ret h8
      subst h9
      simp only [Xh] at hr
      simp only [Kj]
      refine ⟨fun b cs T fz cs' T' fz' e1 e2 e3 => ?_,Znm h ks h7 hv.2 hr.2 (fun q' hq' => hq q' (by simp_all))⟩
      have hold:=hr.1 b cs T fz e1 e2
      cases hh:Zao l0 with
      | false =>
       have hz:=ZnV l0 hh
       exact Zl0 (σ:=σ) l0 [] _ _ (by simp [hz]) Wk Wk
      | true =>
       unfold ZdA at h5
       rw [hh] at h5
       simp only [cond_true,M.run] at h5
       cases hrr:st.tbl r with
       | fresh => simp [hrr,M.run] at h5
       | gone => simp [hrr,M.run] at h5
       | live y =>
        cases y with
        | arr => simp [hrr,M.run] at h5
        | nest => simp [hrr,M.run] at h5
        | box as0 =>
         simp only [hrr] at h5
         have hn:=M.run_ofOpt h5
         obtain ⟨hR,_⟩:=h.res r _ hrr
         obtain ⟨b0,ws,U,f1,f2,f3,f4,_⟩:=YG hv.1 hR
         rw [e1] at f2
         obtain rfl:b = b0:=by simpa using f2
         rw [e3] at f3
         obtain ⟨rfl,_⟩:cs' = ws ∧ _:=by simpa using f3
         have hnew:=Y9 l0 as0 hn f4 (Zjd l0 cs'.toList)
         exact Zl0 (σ:=σ1) l0 q0 _ _ (Zeo l0 as0 hn) hold (XV _ _ _ (fun q' hq' => (hq q' (by simp_all)).symm) hnew)
    | _ => exact (M.run_fail hm).elim
   | _ => exact other (by intro l; simp)
  | [],hv => simp [Qb] at hv
theorem Zv1 (h : RelW G σ lim st tmps w) : (ks : List Kd) → {as : List AV} → {vs : List Value} → YS as = true → Qb σ w lim as vs → Xh σ w (Zb4 st.tbl ks as) ks vs
  | [], as, vs, hb, hv => by
    grind [Xh]
  | k :: ks, [], vs, hb, hv => by
    match vs, hv with
    | [], _ => cases k <;> simp [Zb4, Xh]
  | k :: ks, a :: as, vs, hb, hv => by
    match vs, hv with
    | v :: vs, hv =>
      simp only [Qb] at hv
      simp only [YS, List.all_cons, Bool.and_eq_true] at hb
      have ih := Zv1 h ks hb.2 hv.2
      have other : (∀ l, k ≠ .box l) → Xh σ w (Zb4 st.tbl (k :: ks) (a :: as)) (k :: ks) (v :: vs) := fun hk => by
        have e : Zb4 st.tbl (k :: ks) (a :: as) = Zb4 st.tbl ks as := by cases k <;> first | rfl | exact absurd rfl (hk _)
        rw [e]
        have e2 : ∀ nm, Xh σ w nm (k :: ks) (v :: vs) = Xh σ w nm ks vs := by intro nm; cases k <;> first | (cases nm <;> rfl) | exact absurd rfl (hk _)
        rw [e2]; exact ih
      cases k with
      | box l0 =>
        cases a with
        | bx r kk =>
         cases kk with
         | succ kk => simp at hb
         | zero =>
          simp only [Zb4, Xh]
          refine ⟨fun b cs T fz e1 e2 => ?_, ih⟩
          cases hh : Zao l0 with
          | false => exact Wk
          | true =>
            simp only [cond_true]
            cases hr : st.tbl r with
            | fresh => exact Wk
            | gone => exact Wk
            | live y =>
              cases y with
              | arr => exact Wk
              | nest => exact Wk
              | box as0 =>
                simp only
                cases hn : ZG l0 as0 with
                | none => exact Wk
                | some q =>
                  obtain ⟨hR, _⟩ := h.res r _ hr
                  obtain ⟨b0, ws, U, f1, f2, f3, f4, _⟩ := YG hv.1 hR
                  rw [e1] at f2
                  obtain rfl : b = b0 := by simpa using f2
                  rw [e2] at f3
                  obtain ⟨rfl, _⟩ : cs = ws ∧ _ := by simpa using f3
                  exact Y9 l0 as0 hn f4 (Zjd l0 cs.toList)
        | _ => simp at hb
      | _ => exact other (by intro l; simp)
    | [], hv => simp [Qb] at hv
theorem Zb5 {tbl:Qj} {lim:Nat → Nat} (hres:∀ r x,tbl r = .live x → RR σ w lim r x ∧ Zs tbl (Qt r x)):(ks:List Kd) → (as:List AV) → ∀ q ∈ (Zb4 tbl ks as).flatten,∃ r cs,tbl r = .live (.box cs) ∧ q ∈ Zq cs
 | [],as,q,hq => by
  contradiction
 | k :: ks,[],q,hq => by
  have:Zb4 tbl (k :: ks) [] = []:=by cases k <;> rfl
  rw [this] at hq; simp at hq
 | k :: ks,a :: as,q,hq => by
  have other:Zb4 tbl (k :: ks) (a :: as) = Zb4 tbl ks as → ∃ r cs,tbl r = .live (.box cs) ∧ q ∈ Zq cs:=fun e => by
   rw [e] at hq
   exact Zb5 hres ks as q hq
  cases k with
  | box l0 =>
   cases a with
   | bx r kk =>
    cases kk with
    | succ kk => exact other rfl
    | zero =>
     simp only [Zb4,List.flatten_cons,List.mem_append] at hq
     rcases hq with hq | hq
     ·cases hh:Zao l0 with
      | false => rw [hh] at hq; simp at hq
      | true =>
       rw [hh] at hq
       simp only [cond_true] at hq
       cases hr:tbl r with
       | fresh => rw [hr] at hq; simp at hq
       | gone => rw [hr] at hq; simp at hq
       | live y =>
        rw [hr] at hq
        cases y with
        | arr => simp at hq
        | nest => simp at hq
        | box as0 =>
         simp only at hq
         cases hn:ZG l0 as0 with
         | none => rw [hn] at hq; simp at hq
         | some q' => rw [hn] at hq; exact ⟨r,as0,hr,ZaJ l0 as0 hn q hq⟩
     ·exact Zb5 hres ks as q hq
   | _ => exact other rfl
  | _ => exact other rfl
theorem ZOL : {a b:List Nat} → nEq a b = true → a = b
 | [],[],_ => rfl
 | x :: a,y :: b,h => by
  simp only [nEq,Bool.and_eq_true] at h
  rw [Z7 h.1,ZOL h.2]
 | [],_ :: _,h => by simp [nEq] at h
 | _ :: _,[],h => by simp [nEq] at h
theorem ZGK : {a b:List (List Nat)} → ZJH a b = true → a = b
 | [],[],_ => rfl
 | x :: a,y :: b,h => by
  simp only [ZJH,Bool.and_eq_true] at h
  rw [ZOL h.1,ZGK h.2]
 | [],_ :: _,h => by simp [ZJH] at h
 | _ :: _,[],h => by simp [ZJH] at h
theorem ZhY {w0:World}:(ks:List Kd) → (vs:List Value) → Kj w0 w (Yd ks) (Ye ks vs) → Kj w0 w ks vs
 | [],vs,_ => by cases vs <;> simp [Kj]
 | k :: ks,[],_ => by cases k <;> simp [Kj]
 | k :: ks,v :: vs,h => by
  cases k with
  | box l =>
   simp only [Yd,Ye,Kj] at h ⊢
   exact ⟨h.1,ZhY ks vs h.2⟩
  | bld T =>
   simp only [Yd,Ye,Kj] at h ⊢
   exact ZhY ks vs h
  | _ => simp only [Yd,Ye] at h; simp only [Kj]; exact ZhY ks vs h
theorem ZwE {rvs:List RV} {vs:List Value} {bs:List Nat} {pk:List Kd} {n:Nat} (hlz:∀ b,w.heap.size ≤ b → lim b = 0) (hgl:Zwj w lim) (hT:TTs w lim rvs vs bs) (hnd:bs.Nodup) (hbs:∀ b ∈ bs,b < w.heap.size)
    (hn:rvs.length ≤ n) (hin:(ZU 0 rvs).2.2 ≤ Qe) (hco:XA pk (ZU 0 rvs).1 = true) (hb:YS (QO (ZR pk) (Qo pk (ZU 0 rvs).1)) = true) :
    ∃ σ,W4 ⟨w,lim,bs,KB (QO (ZR pk) (Qo pk (ZU 0 rvs).1)) (Ye (ZR pk) (WC pk vs)) ++ (Zcl pk rvs).flatten.map (fun q => (q,σ q))⟩ n (enter (ZU 0 rvs).1 (ZU 0 rvs).2.1) { tmps:=vs.toArray ++ Array.replicate (n - vs.toArray.size) undef,defers:=[] } w ∧
      Qb σ w lim (QO (ZR pk) (Qo pk (ZU 0 rvs).1)) (Ye (ZR pk) (WC pk vs)) ∧ vs.length = rvs.length ∧ (WC pk vs).length = (ZR pk).length ∧ Xh σ w (Zcl pk rvs) (Yd (ZR pk)) (Ye (ZR pk) (WC pk vs)):=by
  have h0:RelW ⟨w,lim,bs,[]⟩ (fun _ => undef) lim ⟨fun _ => .dead,fun _ => .fresh⟩ (vs.toArray ++ Array.replicate (n - vs.toArray.size) undef) w :=
    { env:=by intro s; simp [RA]
      known:=by intro s; simp [Zf,Zs]
      res:=by intro r x h; simp at h
      inj:=by intro r r' b h; simp [Z0] at h
      own:=by intro r b h; simp [Z0] at h
      ext:=Ext.refl _ _
      keep:=fun _ _ _ => rfl
      same:=⟨rfl,rfl,rfl⟩
      lz:=hlz
      limk:=fun _ _ _ => rfl
      glob:=hgl
      pin:=by intro p hp; simp at hp }
  obtain ⟨σ,hP,hA,hK⟩:=XG rvs 0 h0 hT (fun _ _ _ => rfl) ⟨hnd,fun b hb => ⟨.inr hb,by intro r h; simp [Z0] at h⟩⟩
  have hlen:vs.length = rvs.length:=by rw [← Zgf rvs 0]; exact (Zir hA).symm
  have hfA:=Zpv pk hco hA
  have hL:=ZGG (ZR pk) hfA
  have hfl:(WC pk vs).length = (ZR pk).length:=by rw [← Zir hfA]; exact ZsB pk _ hco
  have hrv:Xh σ w (Zcl pk rvs) (Yd (ZR pk)) (Ye (ZR pk) (WC pk vs)):=by
    have:=Zv1 hP.rel (Yd (ZR pk)) hb hL
    simp only at this
    rw [← Zdu] at this
    exact this
  refine ⟨σ,⟨σ,lim,?_,by simp; omega,rfl⟩,hL,hlen,hfl,hrv⟩
  have hR:=hP.rel
  simp only at hR hK
  rw [← Zdu] at hR hK
  have hpin:=ZWr hb hL
  obtain ⟨lw1,lw2⟩:=Zdk rvs 0
  refine ZT4 ?_ (fun p hp => ⟨Nat.lt_of_lt_of_le (lw2 p hp).1 hin,(lw2 p hp).2.1,fun cs hc q hq => Nat.lt_of_lt_of_le ((lw2 p hp).2.2 cs hc q hq) hin⟩) (fun r hr => Nat.lt_of_lt_of_le (lw1 r hr) hin)
    (fun p hp => by
      rcases List.mem_append.1 hp with hp | hp
      · exact Nat.lt_of_lt_of_le (lw1 p.1 (ZfV pk _ _ (Yw (ZR pk) _ _ (ZlP _ _ p hp)))) hin
      · obtain ⟨q,hq,rfl⟩:=List.mem_map.1 hp
        obtain ⟨r,cs,hr,hqc⟩:=Zb5 hR.res (Yd (ZR pk)) (QO (ZR pk) (Qo pk (ZU 0 rvs).1)) q hq
        simp only [Zdu,Qj.put] at hr
        cases hl:ZH (ZU 0 rvs).2.1 r with
        | none => rw [hl] at hr; cases hr
        | some z => rw [hl] at hr; simp only at hr; exact Nat.lt_of_lt_of_le ((lw2 _ (WD hl)).2.2 cs hr q hqc) hin)
  exact
    { env:=by
        intro s
        rcases ZbG (ZU 0 rvs).1 0 s with h | ⟨j,h1,h2⟩
        · simp only [enter,h,RA]
        · have hs:s = j:=by omega
          subst hs
          have hjl:s < vs.length:=by
            rw [← Zir hA]
            grind
          have hv:vs[s]? = some vs[s]:=by simp [hjl]
          have:=ZCn hA h2 hv
          simp only [enter]
          rw [Array.getD_eq_getD_getElem?,Array.getElem?_append_left (by simpa using hjl)]
          simpa [hv] using this
      known:=by
        intro s
        rcases ZbG (ZU 0 rvs).1 0 s with h | ⟨j,h1,h2⟩
        · simp [enter,h,Zf,Zs]
        · intro r hr
          exact hK r (ZvJ h2 r hr)
      res:=hR.res,inj:=hR.inj,own:=hR.own,ext:=hR.ext,keep:=hR.keep,same:=hR.same,lz:=hR.lz,limk:=hR.limk,glob:=hR.glob
      pin:=by
        intro p hp
        rcases List.mem_append.1 hp with hp | hp
        · refine ⟨hpin p hp,?_⟩
          exact hK p.1 (ZfV pk _ _ (Yw (ZR pk) _ _ (ZlP _ _ p hp)))
        · obtain ⟨q,hq,rfl⟩:=List.mem_map.1 hp
          obtain ⟨r,cs,hr,hqc⟩:=Zb5 hR.res (Yd (ZR pk)) (QO (ZR pk) (Qo pk (ZU 0 rvs).1)) q hq
          exact ⟨rfl,(hR.res r _ hr).2 q hqc⟩ }
def ZtF (w:World) (lim:Nat → Nat) (vs:List Value) (bs:List Nat) (pk:List Kd) (r:RV × List RV):Ending → World → Prop:=fun e w' => ∃ v lim' b1 b2,e = .returned v ∧ Ext w lim w' lim' ∧ (∀ b,w'.heap.size ≤ b → lim' b = 0) ∧
   (w'.os = w.os ∧ w'.tape = w.tape ∧ w'.output = w.output) ∧ (∀ b,b < w.heap.size → b ∉ bs → w'.heap[b]? = w.heap[b]? ∧ lim' b = lim b) ∧
   TT w' lim' r.1 v b1 ∧ TL w' lim' (ZR pk) (WC pk vs) r.2 b2 ∧ Kj w w' (ZR pk) (WC pk vs) ∧ (b1 ++ b2).Nodup ∧ ∀ b ∈ b1 ++ b2,b ∈ bs ∨ w.heap.size ≤ b
theorem ZvH {f:Nat} {fn:Func} {code:Code} {pk:List Kd} {rk:Kd} {rvs:List RV} {r:RV × List RV} {vs:List Value} {bs:List Nat} (hf:C.P.funcs[f]? = some fn) (hb:fn.body = some code)
  (hlz:∀ b,w.heap.size ≤ b → lim b = 0) (hgl:Zwj w lim) (hT:TTs w lim rvs vs bs) (hnd:bs.Nodup) (hbs:∀ b ∈ bs,b < w.heap.size) (hbx:YS (QO (ZR pk) (Qo pk (ZU 0 rvs).1)) = true) (hn:rvs.length ≤ fn.ntmps) (hin:(ZU 0 rvs).2.2 ≤ Qe) (hco:XA pk (ZU 0 rvs).1 = true)
  (hwp:∀ (G:Glob),(∀ p ∈ G.pins,p.1 ∈ W1 (QO (ZR pk) (Qo pk (ZU 0 rvs).1)) ++ (Zcl pk rvs).flatten) → W4 G fn.ntmps (enter (ZU 0 rvs).1 (ZU 0 rvs).2.1) { tmps:=vs.toArray ++ Array.replicate (fn.ntmps - vs.toArray.size) undef,defers:=[] } w →
   code.wp C.P (fun e a w => ∃ e' st',e = Ex.out e' ∧ Kw C fn.results.toList pk (QO (ZR pk) (Qo pk (ZU 0 rvs).1)) (Zcl pk rvs) rk some e' st' = some r ∧ W4 G fn.ntmps st' a w) { tmps:=vs.toArray ++ Array.replicate (fn.ntmps - vs.toArray.size) undef,defers:=[] } w) :
  Calls C.P f vs.toArray w (ZtF w lim vs bs pk r):=by
 obtain ⟨σ0,hS,hL,hlen,hfl,hRV⟩:=ZwE (pk:=pk) hlz hgl hT hnd hbs hn hin hco hbx
 refine calls_of_wp hf hb (wp_mono (hwp _ (fun p hp => by
  rcases List.mem_append.1 hp with hp | hp
  ·exact List.mem_append_left _ (ZlP _ _ p hp)
  grind) hS) ?_)
 rintro e a' w' ⟨e',st',rfl,hK,hs⟩
 obtain ⟨σ,lim',⟨hR,_⟩,_,hd⟩:=hs
 have leave:(ZsK C fn.results.toList pk (QO (ZR pk) (Qo pk (ZU 0 rvs).1)) (Zcl pk rvs) rk st').runK st'.tbl [] (fun x l => bif Zh1 l then some x else none) = some r →
   a'.defers = [] ∧ ∃ v,(results fn a'.tmps).run C.P w' = .ok v w' ∧ ZtF w lim vs bs pk r (.returned v) w':=by
  intro hl
  rw [M.runK_eq] at hl
  cases hr:(ZsK C fn.results.toList pk (QO (ZR pk) (Qo pk (ZU 0 rvs).1)) (Zcl pk rvs) rk st').run st'.tbl [] with
  | none => rw [hr] at hl; simp at hl
  | some p =>
   obtain ⟨q,lg⟩:=p
   rw [hr] at hl
   simp only [Option.bind_some] at hl
   have hlow:Zh1 lg = true:=by
    grind
   rw [hlow] at hl
   simp only [cond_true,Option.some.injEq] at hl
   subst hl
   have hr:=ZyX hr hlow
   unfold ZsK at hr
   rw [Zil (st:=st') (st2:=⟨st'.env,XJ st'.tbl⟩) rfl] at hr
   obtain ⟨as,l1,h1,hr⟩:=M.run_bind_some hr
   obtain ⟨⟨y,u⟩,l2,h2,hr⟩:=M.run_bind_some hr
   obtain ⟨⟨ys,v⟩,l3,h3,hr⟩:=M.run_bind_some hr
   obtain ⟨nm',l4,h4,hr⟩:=M.run_bind_some hr
   obtain ⟨hok,hr2⟩:=M.run_guard hr
   simp only [Bool.and_eq_true] at hok
   obtain ⟨hok,hnm⟩:=hok
   have hnm:=ZGK hnm
   obtain ⟨hq,_⟩:=M.run_ret hr2
   subst hnm
   obtain ⟨rv,r1,r2⟩:=ZtY hR h1
   obtain ⟨g1,k1⟩:=Zwc (st:=⟨st'.env,XJ st'.tbl⟩) (σ:=σ) (w:=w') (lim:=lim') rk _ h2
   obtain ⟨g2,k2⟩:=Xf (st:=⟨st'.env,XJ st'.tbl⟩) (σ:=σ) (w:=w') (lim:=lim') (Yd (ZR pk)) _ h3
   obtain ⟨lim2,hR2,hE,hSh,hN,hB⟩:=hR.takes (g1.append g2) hok
   have hLf:Qb σ w' lim' (QO (ZR pk) (Qo pk (ZU 0 rvs).1)) (Ye (ZR pk) (WC pk vs)):=ZEU hbx hL fun p hp => (hR.pin p (List.mem_append_left _ hp)).1
   have hStay:Kj w w' (ZR pk) (WC pk vs):=ZhY _ _ (Znm hR (Yd (ZR pk)) h4 hLf hRV fun q hq => (hR.pin (q,σ0 q) (List.mem_append_right _ (List.mem_map.2 ⟨q,hq,rfl⟩))).1)
   refine ⟨hd,rv,r1,rv,lim2,QR σ (Z6 u),QR σ (Z6 v),rfl,hR2.ext,hR2.lz,hR2.same,fun b hb1 hb2 => ⟨hR2.keep b hb1 hb2,hR2.limk b hb1 hb2⟩,?_,?_,hStay,?_,?_⟩
   ·rw [hq]; exact k1 rv r2 (fun r y hy => (hR.res r y hy).1) lim2 hE hSh.left
   ·rw [hq]; exact ZG2 (ZR pk) hfl (k2 _ hLf (fun r y hy => (hR.res r y hy).1) lim2 hE hSh.right)
   ·rw [← Zcd,← Y1]; exact hN
   ·intro b hb; rw [← Zcd,← Y1] at hb; exact (hB b hb).1.symm
 cases e' with
 | normal => exact leave hK
 | ret => exact leave hK
 | exit i => simp [Kw] at hK
theorem ZJt (hC:∀ f cal,C.Φ f = some cal → Ctr C.P C.k f cal) (hm:C.P.follows .mixedOrders = true) {A:Nat → Ann} {f k:Nat} {fn:Func} {code:Code} {cal:Callee} {rk:Kd}
  (hf:C.P.funcs[f]? = some fn) (hb:fn.body = some code) (hname:(fn.name == "runtime.NumGoroutine") = false) (hfit:Yb C.P fn.ntmps code = true)
  (hlent:∀ rvs x,cal.run k rvs = some x → YS (QO (ZR cal.pk) (Qo cal.pk (ZU 0 rvs).1)) = true)
  (hrun:∀ rvs x,cal.run k rvs = some x → ZEX C A fn.ntmps code fn.results.toList cal.pk rk rvs some = some (cal.enc x)):Ctr C.P k f cal where
 enters:=⟨fn,hf,hname,by rw [hb]; rfl⟩
 calls:=by
  intro rvs x hx w lim vs bs hlz hgl hT hnd hbs
  have h:=hrun rvs x hx
  have hbx:=hlent rvs x hx
  unfold ZEX at h
  cases hg:ZSP cal.pk rvs fn.ntmps with
  | false => rw [hg] at h; simp at h
  | true =>
   rw [hg] at h
   simp only [cond_true] at h
   simp only [ZSP,Bool.and_eq_true] at hg
   exact ZvH (rk:=rk) hf hb hlz hgl hT hnd hbs hbx (Nat.le_of_ble_eq_true hg.1.1) (Nat.le_of_ble_eq_true hg.1.2) hg.2 fun G hp hS => WL hC hm hp code h hfit hS fun e st' a' w' hK hs => ⟨e,st',rfl,hK,hs⟩
end Go.Sh
namespace Go.Sh
open Go
variable [Gl]
def ZGN:Ex → St → Option (Ex × St):=fun e s => some (e,s)
def Zi1 {R:Type} (K:Ex → St → Option R):Ex × St → Option R:=fun x => K x.1 x.2
theorem ZsP {R:Type} {nm:St → Option St} {b1:St → (Ex → St → Option (Ex × St)) → Option (Ex × St)} {bR:St → (Ex → St → Option R) → Option R}
  (h1:∀ st K,b1 st K = (b1 st ZGN).bind (Zi1 K)) (hb:∀ st K,bR st K = (b1 st ZGN).bind (Zi1 K)):∀ (n:Nat) (st:St) (K:Ex → St → Option R),
  Zif bR nm n st K = (Zif b1 nm n st ZGN).bind (Zi1 K)
 | 0,st,K => rfl
 | n + 1,st,K => by
  simp only [Zif]
  rw [hb]
  conv => rhs; rw [h1]
  rw [Option.bind_assoc]
  congr 1
  funext x
  obtain ⟨e,s⟩:=x
  cases e with
  | exit i => rfl
  | ret => rfl
  | normal =>
   simp only [Zi1]
   cases nm s with
   | none => rfl
   | some s' => exact ZsP h1 hb n s' K
theorem Ws {C:Ctx} {A:Nat → Ann} {kp:List Nat}:(c:Code) → {R:Type} → (st:St) → (K:Ex → St → Option R) → XB C A kp c st K = (XB C A kp c st ZGN).bind (Zi1 K)
 | .skip,R,st,K => rfl
 | .label _,R,st,K => rfl
 | .ret,R,st,K => rfl
 | .exit _,R,st,K => rfl
 | .goto _,R,st,K => rfl
 | .refuse _,R,st,K => rfl
 | .rangeFunc _ _ _ _,R,st,K => rfl
 | .region id ops d,R,st,K => by
  simp only [XB]
  cases d with
  | false => simp only [cond_false,ZyK,Option.bind_assoc]; rfl
  | true =>
   simp only [cond_true,Zmo,Option.bind_assoc]
   congr 1
   funext x
   cases Zbq ops.toList (Ki ops.toList []) ([] ++ x.2) <;> rfl
 | .seq a b,R,st,K => by
  simp only [XB]
  rw [Ws a]
  conv => rhs; rw [Ws a]
  rw [Option.bind_assoc]
  congr 1
  funext x
  obtain ⟨e,s⟩:=x
  cases e with
  | normal => exact Ws b s K
  | exit i => rfl
  | ret => rfl
 | .cond c a b,R,st,K => by
  simp only [XB]
  split
  ·rename_i t _
   cases t with
   | true => simp only [cond_true]; exact Ws a _ K
   | false => simp only [cond_false]; exact Ws b _ K
  ·rfl
 | .block id c,R,st,K => by
  simp only [XB]
  rw [Ws c]
  conv => rhs; rw [Ws c]
  rw [Option.bind_assoc]
  congr 1
  funext x
  obtain ⟨e,s⟩:=x
  cases e with
  | normal => rfl
  | ret => rfl
  | exit i => simp only [Zi1,Zwx]; cases Nat.beq i id <;> rfl
 | .loop c,R,st,K => by
  simp only [XB,Option.bind_assoc]
  congr 1
  funext s
  exact ZsP (fun st K => Ws c st K) (fun st K => Ws c st K) C.k s K
 | .scope c,R,st,K => by simp only [XB]; exact Ws c st K
theorem ZJV {C:Ctx} {A:Nat → Ann} {n:Nat} {body:Code} {rs:List ResultVar} {pk:List Kd} {rk:Kd} {rvs:List RV} {R:Type} (K:RV × List RV → Option R) :
  ZEX C A n body rs pk rk rvs K = (ZEX C A n body rs pk rk rvs some).bind K:=by
 unfold ZEX
 cases ZSP pk rvs n with
 | false => rfl
 | true =>
  simp only [cond_true]
  rw [Ws]
  conv => rhs; rw [Ws]
  rw [Option.bind_assoc]
  congr 1
  funext x
  obtain ⟨e,s⟩:=x
  simp only [Zi1]
  cases e <;> simp only [Kw,M.runK_eq,Option.bind_assoc,Option.bind_some,Option.bind_none]
  all_goals grind
mutual
def Kd.den:Kd → Type
 | .view t => t.den
 | .own t _ => List t.den
 | .box ks => Kd.dens ks
 | .agg ks => Kd.dens ks
 | .tup ks => Kd.dens ks
 | .fn _ => Unit
 | .bld _ => List Int
 | .use _ => List Int
 | .clo _ ks => Kd.dens ks
 | .ref ks => Kd.dens ks
 | .ns t => List t.den
 | .vp t => List t.den
def Kd.dens:List Kd → Type
 | [] => Unit
 | k :: ks => k.den × Kd.dens ks
end
mutual
def enc:(k:Kd) → k.den → RV
 | .view t,x => .view t x
 | .own t sh,xs => .own t sh xs
 | .box ks,x => .box (Wx ks x)
 | .agg ks,x => .agg (Wx ks x)
 | .tup ks,x => .tup (Wx ks x)
 | .fn f,_ => .fn f
 | .bld T,xs => .bld T xs
 | .use T,xs => .bld T xs
 | .clo f ks,x => .clo f (Wx ks x)
 | .ref ks,x => .box (Wx ks x)
 | .ns t,xs => .ns t xs
 | .vp t,xs => .vp t xs
def Wx:(ks:List Kd) → Kd.dens ks → List RV
 | [],_ => []
 | k :: ks,x => enc k x.1 :: Wx ks x.2
end
def Zmd (t:Ty):RV → Option t.den
 | .view t' x => if h:t' = t then some (h ▸ x:t.den) else none
 | _ => none
def ZKn (t:Ty) (sh:Bool):RV → Option (List t.den)
 | .own t' sh' xs => if h:t' = t then (bif sh == sh' then some (h ▸ xs:List t.den) else none) else none
 | _ => none
def ZFj:RV → Option (List RV)
 | .box cs => some cs
 | _ => none
def asAgg:RV → Option (List RV)
 | .agg cs => some cs
 | _ => none
def ZKp:RV → Option (List RV)
 | .tup cs => some cs
 | _ => none
def ZTX (f:Nat):RV → Option Unit
 | .fn g => bif Nat.beq f g then some () else none
 | _ => none
def ZKl (f:Nat):RV → Option (List RV)
 | .clo g cs => bif Nat.beq f g then some cs else none
 | _ => none
def ZTY (t:Ty):RV → Option (List t.den)
 | .ns t' xs => if h:t' = t then some (h ▸ xs:List t.den) else none
 | _ => none
def ZTZ (t:Ty):RV → Option (List t.den)
 | .vp t' xs => if h:t' = t then some (h ▸ xs:List t.den) else none
 | _ => none
def ZFi (T:TypeId):RV → Option (List Int)
 | .bld U xs => bif Nat.beq T U then some xs else none
 | _ => none
mutual
def dec:(k:Kd) → RV → Option k.den
 | .view t,r => Zmd t r
 | .own t sh,r => ZKn t sh r
 | .box ks,r => (ZFj r).bind (ZdC ks)
 | .agg ks,r => (asAgg r).bind (ZdC ks)
 | .tup ks,r => (ZKp r).bind (ZdC ks)
 | .fn f,r => ZTX f r
 | .bld T,r => ZFi T r
 | .use T,r => ZFi T r
 | .clo f ks,r => (ZKl f r).bind (ZdC ks)
 | .ref ks,r => (ZFj r).bind (ZdC ks)
 | .ns t,r => ZTY t r
 | .vp t,r => ZTZ t r
def ZdC:(ks:List Kd) → List RV → Option (Kd.dens ks)
 | [],[] => some ()
 | [],_ :: _ => none
 | _ :: _,[] => none
 | k :: ks,x :: xs => (dec k x).bind fun y => (ZdC ks xs).bind fun ys => some (y,ys)
end
theorem ZG9 {t:Ty} {r:RV} {x:t.den} (h:Zmd t r = some x):r = .view t x:=by
 unfold Zmd at h
 grind
theorem ZKo {t:Ty} {sh:Bool} {r:RV} {x:List t.den} (h:ZKn t sh r = some x):r = .own t sh x:=by
 unfold ZKn at h
 grind
theorem Zzm {r:RV} {cs:List RV} (h:ZFj r = some cs):r = .box cs:=by unfold ZFj at h; split at h <;> simp at h; rw [h]
theorem ZKk {r:RV} {cs:List RV} (h:asAgg r = some cs):r = .agg cs:=by unfold asAgg at h; split at h <;> simp at h; rw [h]
theorem ZKq {r:RV} {cs:List RV} (h:ZKp r = some cs):r = .tup cs:=by unfold ZKp at h; split at h <;> simp at h; rw [h]
theorem ZPF {f:Nat} {r:RV} {x:Unit} (h:ZTX f r = some x):r = .fn f:=by
 unfold ZTX at h
 split at h
 ·rename_i g
  cases hb:Nat.beq f g with
  | false => rw [hb] at h; simp at h
  | true => rw [Z7 hb]
 ·cases h
theorem ZKm {f:Nat} {r:RV} {cs:List RV} (h:ZKl f r = some cs):r = .clo f cs:=by
 unfold ZKl at h
 split at h
 ·rename_i g l
  cases hb:Nat.beq f g with
  | false => rw [hb] at h; simp at h
  | true => simp_all
 ·cases h
theorem ZPG {t:Ty} {r:RV} {x:List t.den} (h:ZTY t r = some x):r = .ns t x:=by
 unfold ZTY at h
 grind
theorem ZPH {t:Ty} {r:RV} {x:List t.den} (h:ZTZ t r = some x):r = .vp t x:=by
 unfold ZTZ at h
 split at h
 ·split at h
  ·rename_i e; subst e; simp at h; rw [h]
  ·cases h
 ·cases h
theorem Zzl {T:TypeId} {r:RV} {x:List Int} (h:ZFi T r = some x):r = .bld T x:=by
 unfold ZFi at h
 split at h
 ·rename_i U xs
  cases hb:Nat.beq T U with
  | false => rw [hb] at h; simp at h
  | true => simp_all
 ·cases h
mutual
theorem ZFt:(k:Kd) → (r:RV) → (x:k.den) → dec k r = some x → r = enc k x
 | .view t,r,x,h => by simp only [dec] at h; simp only [enc]; exact ZG9 h
 | .own t sh,r,x,h => by simp only [dec] at h; simp only [enc]; exact ZKo h
 | .box ks,r,x,h => by
  simp only [dec] at h
  obtain ⟨cs,h1,h2⟩:=Option.bind_eq_some_iff.1 h
  simp only [enc,Zzm h1,QU ks cs x h2]
 | .agg ks,r,x,h => by
  simp only [dec] at h
  obtain ⟨cs,h1,h2⟩:=Option.bind_eq_some_iff.1 h
  simp only [enc,ZKk h1,QU ks cs x h2]
 | .tup ks,r,x,h => by
  simp only [dec] at h
  obtain ⟨cs,h1,h2⟩:=Option.bind_eq_some_iff.1 h
  simp only [enc,ZKq h1,QU ks cs x h2]
 | .fn f,r,x,h => by simp only [dec] at h; simp only [enc]; exact ZPF h
 | .bld T,r,x,h => by simp only [dec] at h; simp only [enc]; exact Zzl h
 | .use T,r,x,h => by simp only [dec] at h; simp only [enc]; exact Zzl h
 | .clo f ks,r,x,h => by
  simp only [dec] at h
  obtain ⟨cs,h1,h2⟩:=Option.bind_eq_some_iff.1 h
  simp only [enc,ZKm h1,QU ks cs x h2]
 | .ns t,r,x,h => by simp only [dec] at h; simp only [enc]; exact ZPG h
 | .vp t,r,x,h => by simp only [dec] at h; simp only [enc]; exact ZPH h
 | .ref ks,r,x,h => by
  simp only [dec] at h
  obtain ⟨cs,h1,h2⟩:=Option.bind_eq_some_iff.1 h
  simp only [enc,Zzm h1,QU ks cs x h2]
theorem QU:(ks:List Kd) → (rs:List RV) → (x:Kd.dens ks) → ZdC ks rs = some x → rs = Wx ks x
 | [],[],x,h => rfl
 | k :: ks,r :: rs,x,h => by
  simp only [ZdC] at h
  obtain ⟨y,h1,h⟩:=Option.bind_eq_some_iff.1 h
  obtain ⟨ys,h2,h⟩:=Option.bind_eq_some_iff.1 h
  cases h
  simp only [Wx,← ZFt k r y h1,← QU ks rs ys h2]
 | [],_ :: _,x,h => by simp [ZdC] at h
 | _ :: _,[],x,h => by simp [ZdC] at h
end
theorem ZnL:(ks:List Kd) → (x:Kd.dens ks) → (Wx ks x).length = ks.length
 | [],_ => rfl
 | k :: ks,x => by simp only [Wx,List.length_cons,ZnL ks]
theorem ZyC {ks ls:List Kd} {as bs:List AV} (h:ks.length = as.length):QO (ks ++ ls) (as ++ bs) = QO ks as ++ QO ls bs:=by
 induction ks generalizing as with
 | nil =>
  grind [QO]
 | cons k ks ih =>
  cases as with
  | nil => simp at h
  | cons a as =>
   have ih:=ih (as:=as) (by simpa using h)
   cases k <;> simp [QO,ih]
theorem ZwA (a b:List AV):YS (a ++ b) = (YS a && YS b):=by simp [YS]
theorem ZnD:(ks:List Kd) → (x:Kd.dens ks) → (n:Nat) → YS (QO ks (ZU n (Wx ks x)).1) = true
 | [],_,n => rfl
 | k :: ks,x,n => by
  have ih:=ZnD ks x.2
  cases k with
  | box l =>
   simp only [Wx,enc,ZU,put,QO,YS,List.all_cons,Bool.true_and] at ih ⊢
   exact ih _
  | bld T =>
   simp only [Wx,enc,ZU,put,QO,YS,List.all_cons,Bool.true_and] at ih ⊢
   exact ih _
  | _ => grind [Wx,enc,ZU,QO]
theorem ZpV:(ks:List Kd) → (x:Kd.dens ks) → (n:Nat) → YS (QO (ZR ks) (Qo ks (ZU n (Wx ks x)).1)) = true
 | [],_,n => rfl
 | k :: ks,x,n => by
  have ih:=ZpV ks x.2
  cases k with
  | box l =>
   simp only [Wx,enc,ZU,put,ZR,Qo,QO,YS,List.all_cons,Bool.true_and] at ih ⊢
   exact ih _
  | bld T =>
   simp only [Wx,enc,ZU,put,ZR,Qo,QO,YS,List.all_cons,Bool.true_and] at ih ⊢
   exact ih _
  | clo f l =>
   simp only [Wx,enc,ZU,put,ZR,Qo]
   rw [ZyC (by rw [Zgf]; exact (ZnL l x.1).symm),ZwA,Bool.and_eq_true]
   exact ⟨ZnD l x.1 n,ih _⟩
  | _ => grind [Wx,enc,ZU,ZR,Qo,QO]
abbrev Ans (pk:List Kd) (rk:Kd):Type:=rk.den × Kd.dens (Yd (ZR pk))
def ZKz (pk:List Kd) (rk:Kd) (r:RV × List RV):Option (Ans pk rk):=(dec rk r.1).bind fun x => (ZdC (Yd (ZR pk)) r.2).bind fun l => some (x,l)
def ZT3 (pk:List Kd) (rk:Kd) (x:Ans pk rk):RV × List RV:=(enc rk x.1,Wx (Yd (ZR pk)) x.2)
theorem ZHp {pk:List Kd} {rk:Kd} {r:RV × List RV} {x:Ans pk rk} (h:ZKz pk rk r = some x):r = ZT3 pk rk x:=by
 unfold ZKz at h
 obtain ⟨y,h1,h⟩:=Option.bind_eq_some_iff.1 h
 obtain ⟨ys,h2,h⟩:=Option.bind_eq_some_iff.1 h
 cases h
 obtain ⟨a,b⟩:=r
 simp only [ZT3,← ZFt rk a y h1,← QU (Yd (ZR pk)) b ys h2]
def mk (pk:List Kd) (rk:Kd) (F:Nat → Kd.dens pk → Option (Ans pk rk)):Callee :=
 { ρ:=Ans pk rk,pk:=pk,run:=fun k rvs => (ZdC pk rvs).bind (F k),enc:=ZT3 pk rk }
theorem ZSA {C:Ctx} (hC:∀ f cal,C.Φ f = some cal → Ctr C.P C.k f cal) (hm:C.P.follows .mixedOrders = true) {A:Nat → Ann} {f k:Nat} {fn:Func} {code:Code} {pk:List Kd} {rk:Kd} {F:Nat → Kd.dens pk → Option (Ans pk rk)}
  (hf:C.P.funcs[f]? = some fn) (hb:fn.body = some code) (hname:(fn.name == "runtime.NumGoroutine") = false) (hfit:Yb C.P fn.ntmps code = true)
  (h:∀ x y,F k x = some y → ZEX C A fn.ntmps code fn.results.toList pk rk (Wx pk x) (ZKz pk rk) = some y):Ctr C.P k f (mk pk rk F):=by
 refine ZJt (A:=A) (rk:=rk) hC hm hf hb hname hfit (fun rvs x hx => ?_) (fun rvs x hx => ?_)
 ·simp only [mk] at hx ⊢
  obtain ⟨y,h1,h2⟩:=Option.bind_eq_some_iff.1 hx
  rw [QU pk rvs y h1]
  exact ZpV pk y 0
 ·simp only [mk] at hx ⊢
  obtain ⟨y,h1,h2⟩:=Option.bind_eq_some_iff.1 hx
  have h3:=h y x h2
  rw [← QU pk rvs y h1,ZJV] at h3
  obtain ⟨r,h4,h5⟩:=Option.bind_eq_some_iff.1 h3
  rw [h4,ZHp h5]
def phi:List (Nat × Callee) → Nat → Option Callee
 | [],_ => none
 | (f,c) :: l,g => bif Nat.beq g f then some c else phi l g
theorem Zg {P:Program} {k:Nat}:∀ {l:List (Nat × Callee)},(∀ p ∈ l,Ctr P k p.1 p.2) → ∀ f cal,phi l f = some cal → Ctr P k f cal
 | [],_,f,cal,h => by simp [phi] at h
 | (g,c) :: l,hl,f,cal,h => by
  simp only [phi] at h
  cases hb:Nat.beq f g with
  | true => simp_all
  | false => rw [hb] at h; exact Zg (fun p hp => hl p (by simp [hp])) f cal h
theorem Zd {P:Program} {k:Nat}:∀ p ∈ ([]:List (Nat × Callee)),Ctr P k p.1 p.2:=by intro p hp; simp at hp
theorem Za {P:Program} {k f:Nat} {c:Callee} {l:List (Nat × Callee)} (h:Ctr P k f c) (hl:∀ p ∈ l,Ctr P k p.1 p.2):∀ p ∈ (f,c) :: l,Ctr P k p.1 p.2:=by
 simp_all
def Zm {V R:Type} (step:(V → Option R) → V → Option R):Nat → V → Option R
 | 0,_ => none
 | n + 1,v => step (Zm step n) v
theorem Zh {V R:Type} {L:Nat → V → Option R} {step:(V → Option R) → V → Option R} (h0:∀ v,L 0 v = none) (h:∀ n v,L (n + 1) v = step (L n) v):∀ n,L n = Zm step n
 | 0 => funext h0
 | n + 1 => funext fun v => by rw [h,Zh h0 h n]; rfl
section
variable {R:Type}
def place (C:Ctx) (A:Nat → Ann) (kp:List Nat):List Nat → List Nat → Code → (Ex → St → Option R) → Code × (Ex → St → Option R)
 | 0 :: p,ns,.seq a b,K => place C A kp p ns a (ZO9 (fun s => XB C A kp b s K) K)
 | _ :: p,ns,.seq _ b,K => place C A kp p ns b K
 | 0 :: p,ns,.cond _ a _,K => place C A kp p ns a K
 | _ :: p,ns,.cond _ _ b,K => place C A kp p ns b K
 | _ :: p,ns,.block id c,K => place C A kp p ns c (Zwx id K)
 | _ :: p,ns,.scope c,K => place C A kp p ns c K
 | _ :: p,n :: ns,.loop c,K => place C A kp p ns c fun e s => match e with
  | .normal => (ZtV kp (A (QE c)) s).bind fun s => Zif (XB C A kp c) (ZtV kp (A (QE c))) n s K
  | .exit i => K (.exit i) s
  | .ret => K .ret s
 | _,_,c,K => (c,K)
def Zr (C:Ctx) (A:Nat → Ann) (kp:List Nat) (p ns:List Nat) (code:Code) (K:Ex → St → Option R) (n:Nat) (st:St):Option R :=
 match place C A kp p ns code K with
 | (.loop c,K) => Zif (XB C A kp c) (ZtV kp (A (QE c))) n st K
 | _ => none
end
end Go.Sh
