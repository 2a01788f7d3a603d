/-
  What the row needs, part 4.
-/
import Derived.Test.YtgbhjfacjekhcaaGreatDoorXStreamImports3
import Derived.Scope
import Derived.LoopN
set_option linter.unusedSimpArgs false
set_option linter.unusedVariables false
set_option linter.unusedSectionVars false
open Array renaming replicate→UB
open Bool renaming and_eq_true→Jh,true_and→UC
open Go.Instr renaming loadAt→JY
open List renaming mem_append→Js,all_cons→UA,mem_cons→VL,length_cons→JF,mem_map→VF,mem_append_left→JG
open Nat renaming beq→Ja,lt_of_lt_of_le→VZ,le_of_ble_eq_true→Jt
open Option renaming bind_eq_some_iff→Uy,bind_assoc→Uz,bind_some→VJ,some→VE
namespace Go.Sh
open Go
variable [Gl]
variable {C:Ctx} {G:Glob} {σ:W6} {w:World} {lim:Nat → Nat} {st:St} {a:Act}
def Ex.out:Ex → Exit
 | .normal => .normal
 | .exit i => .exit i
 | .ret => .ret
def XQ (P:Program) (n:Nat):Code → Bool
 | .region _ ops _ => Ztu P n ops.toList
 | .seq a b => XQ P n a && XQ P n b
 | .cond _ a b => XQ P n a && XQ P n b
 | .block _ c => XQ P n c
 | .loop c => XQ P n c
 | .scope c => XQ P n c
 | _ => true
def WT (G:Glob) (n:Nat) (st:St) (a:Act) (w:World):Prop := ∃ σ lim,WA G σ lim st a.tmps w ∧ a.tmps.size = n ∧ a.defers = []
theorem ZQH {n:Nat} (h:WT G n st a w) {c:Operand} {t:Bool} (hc:K6 st.env c = .val (.v (.bool t))):a.eval c = .bool t:=by
 obtain ⟨σ,lim,h,_,_⟩:=h
 have:=(Zx h.1 c).1
 grind [RA,RP]
theorem Zmz {n:Nat} (h:WT G n st a w) {q:Nat} (hq:q < Z6):WT G n (ZF4 st q) a w:=by
 obtain ⟨σ,lim,h,h2,h3⟩:=h
 unfold ZF4
 split
 ·rename_i t xss hT
  obtain ⟨lim',h4⟩:=RelW.melt h.1 h.2 hq hT
  exact ⟨σ,lim',h4,h2,h3⟩
 ·exact ⟨σ,lim,h,h2,h3⟩
theorem ZwP {n:Nat} (h:WT G n st a w) (id:Nat):WT G n (ZhK C id st) a w:=by
 have hL:Low G st:=by obtain ⟨_,_,⟨_,hL⟩,_,_⟩:=h; exact hL
 unfold ZhK
 split
 ·split
  ·rename_i s _ _ q hs
   exact Zmz h (hL.env s q (by rw [hs]; simp [Ze]))
  ·exact h
 ·split
  ·rename_i s k _ _ r hs
   unfold ZUu
   split
   ·rename_i cs hr
    split
    ·rename_i q hq
     exact Zmz h (hL.box r cs hr q (Y2 (List.mem_of_getElem? hq) (by simp [Ze])))
    ·exact h
   ·exact h
  ·exact h
 ·exact h
theorem WB (hC:∀ f cal,C.Φ f = some cal → Ctr C.P C.k f cal) (hm:C.P.follows .mixedOrders = true) {A:Nat → Ann} {kp:List Nat} (hk:∀ p ∈ G.pins,p.1 ∈ kp) {n:Nat} {R:Type} {r:R} :
  (c:Code) → {st:St} → {K:Ex → St → Option R} → Xp C A kp c st K = some r → XQ C.P n c = true → {a:Act} → {w:World} → WT G n st a w → {Q:Exit → Act → World → Prop} →
  (∀ e st' a' w',K e st' = some r → WT G n st' a' w' → Q e.out a' w') → c.wp C.P Q a w
 | .skip,st,K,h,hf,a,w,hs,Q,hQ => wp_skip (hQ .normal st a w h hs)
 | .label _,st,K,h,hf,a,w,hs,Q,hQ => wp_label (hQ .normal st a w h hs)
 | .ret,st,K,h,hf,a,w,hs,Q,hQ => wp_ret (hQ .ret st a w h hs)
 | .exit i,st,K,h,hf,a,w,hs,Q,hQ => wp_exit (hQ (.exit i) st a w h hs)
 | .region id ops d,st,K,h,hf,a,w,hs,Q,hQ => by
  simp only [Xp] at h
  simp only [XQ] at hf
  obtain ⟨σ,lim,hR,hn,hd⟩:=ZwP (C:=C) hs id
  have hb:∃ stf lgs,ZlN C id ops.toList ops.toList 0 (ZhK C id st) = some (stf,lgs) ∧ (d = true → ZaV ops.toList (YG ops.toList []) lgs = true) ∧ K .normal stf = some r:=by
   cases d with
   | false =>
    simp only [cond_false,ZwV] at h
    cases ho:ZlN C id ops.toList ops.toList 0 (ZhK C id st) with
    | none => rw [ho] at h; simp at h
    | some x => grind
   | true =>
    simp only [cond_true,ZkJ,List.nil_append] at h
    cases ho:ZlN C id ops.toList ops.toList 0 (ZhK C id st) with
    | none => rw [ho] at h; simp at h
    | some x =>
     grind
  obtain ⟨stf,lgs,h1,h2,h3⟩:=hb
  exact Zw0 hC hm hf hR hn hd h1 h2 fun a' w' σ' lim' hR' hn' hd' => hQ .normal stf a' w' h3 ⟨σ',lim',hR',hn',hd'⟩
 | .seq x y,st,K,h,hf,a,w,hs,Q,hQ => by
  simp only [Xp] at h
  simp only [XQ,Jh] at hf
  refine wp_seq (WB hC hm hk x h hf.1 hs fun e st' a' w' hK hs' => ?_)
  cases e with
  | normal => exact WB hC hm hk y hK hf.2 hs' hQ
  | exit i => exact hQ (.exit i) st' a' w' hK hs'
  | ret => exact hQ .ret st' a' w' hK hs'
 | .cond c x y,st,K,h,hf,a,w,hs,Q,hQ => by
  simp only [Xp] at h
  simp only [XQ,Jh] at hf
  split at h
  ·rename_i t hc
   have e1:=ZQH hs hc
   cases t with
   | true =>
    refine wp_cond_true e1 (WB hC hm (A:=A) hk x (K:=K) ?_ hf.1 hs hQ)
    cases c with
    | tmp d => simp_all [K6,cond_true,Zl0 hc]
    | _ => exact h
   | false =>
    refine wp_cond_false e1 (WB hC hm (A:=A) hk y (K:=K) ?_ hf.2 hs hQ)
    cases c with
    | tmp d => simp_all [K6,cond_false,Zl0 hc]
    | _ => exact h
  ·simp at h
 | .block id c,st,K,h,hf,a,w,hs,Q,hQ => by
  simp only [Xp] at h
  simp only [XQ] at hf
  refine wp_block (WB hC hm hk c h hf hs fun e st' a' w' hK hs' => ?_)
  cases e with
  | normal => exact hQ .normal st' a' w' hK hs'
  | ret => exact hQ .ret st' a' w' hK hs'
  | exit i =>
   simp only [Zul] at hK
   simp only [Ex.out,Exit.inBlock]
   cases hb:Ja i id with
   | true => rw [hb] at hK; rw [if_pos (beq_eq hb)]; exact hQ .normal st' a' w' hK hs'
   | false =>
    rw [hb] at hK
    rw [if_neg (by rintro rfl; rw [Yh] at hb; cases hb)]
    exact hQ (.exit i) st' a' w' hK hs'
 | .loop c,st,K,h,hf,a,w,hs,Q,hQ => by
  simp only [Xp] at h
  simp only [XQ] at hf
  have key:∀ (m:Nat) (st:St) (a:Act) (w:World),ZgY (Xp C A kp c) (Zr6 kp (A (Qo c))) m st K = some r → WT G n st a w → Code.rounds C.P c Q m a w:=by
   intro m
   induction m with
   | zero => intro st a w h; simp [ZgY] at h
   | succ m ih =>
    intro st a w h hs
    rw [rounds_succ]
    simp only [ZgY] at h
    refine WB hC hm hk c h hf hs fun e st' a' w' hK hs' => ?_
    cases e with
    | ret => exact hQ .ret st' a' w' hK hs'
    | exit i => exact hQ (.exit i) st' a' w' hK hs'
    | normal =>
     cases hn:Zr6 kp (A (Qo c)) st' with
     | none => rw [hn] at hK; simp at hK
     | some s =>
      rw [hn] at hK
      obtain ⟨σ,lim,hR,q1,q2⟩:=hs'
      obtain ⟨σ2,lim2,hR2⟩:=ZqY hR hk hn
      exact ih s a' w' hK ⟨σ2,lim2,hR2,q1,q2⟩
  cases hn:Zr6 kp (A (Qo c)) st with
  | none => rw [hn] at h; simp at h
  | some s =>
   rw [hn] at h
   obtain ⟨σ,lim,hR,q1,q2⟩:=hs
   obtain ⟨σ2,lim2,hR2⟩:=ZqY hR hk hn
   exact wp_loop_rounds C.k (key C.k s a w h ⟨σ2,lim2,hR2,q1,q2⟩)
 | .scope c,st,K,h,hf,a,w,hs,Q,hQ => by
  simp only [Xp] at h
  simp only [XQ] at hf
  refine wp_scope_straight (WB hC hm hk c h hf hs fun e st' a' w' hK hs' => ?_)
  cases e <;> exact hQ _ st' a' w' hK hs'
 | .rangeFunc _ _ _ _,st,K,h,hf,a,w,hs,Q,hQ => by simp [Xp] at h
 | .goto _,st,K,h,hf,a,w,hs,Q,hQ => by simp [Xp] at h
end Go.Sh
namespace Go.Sh
open Go
variable [Gl]
variable {C:Ctx} {G:Glob} {σ:W6} {w:World} {lim:Nat → Nat} {st:St} {tmps:Array Value}
theorem ZDh {P:Program} {T:TypeId} {v x:Value} (h:(JY T v).run P w = .ok x w):(asAddr v >>= fun p => loadVar T p:Sem Value).run P w = .ok x w:=by
 unfold JY at h
 unfold Instr.sureAddr at h
 split at h
 ·simpa [asAddr] using h
 ·simp [stuck,Sem.run_bind] at h
def Zrj (tmps:Array Value):ResultVar → Sem Value
 | .tmp t => pure (tmps.getD t undef)
 | .cell a t => do loadVar t (← asAddr (tmps.getD a undef))
theorem Zri (h:RelW G σ lim st tmps w) {r:ResultVar} {l l':List Nat} {x:AV} (hm:(ZcK C st r).run st.tbl l = some (x,l')) :
  ∃ v,(Zrj tmps r).run C.P w = .ok v w ∧ RA σ w lim x v ∧ Zt st.tbl (Ze x):=by
 cases r with
 | tmp t =>
  obtain ⟨rfl,_⟩:=M.run_ret hm
  exact ⟨_,rfl,h.env t,h.known t⟩
 | cell a T =>
  simp only [ZcK] at hm
  obtain ⟨e,l1,h1,h2⟩:=M.run_bind_some hm
  obtain ⟨rfl,_⟩:=M.run_ret h2
  obtain ⟨v,e1,e2,e3,e4⟩:=ZqP h1 (h.env a) h.res
  exact ⟨v,ZDh e1,e2,e3⟩
theorem Zd7 (h:RelW G σ lim st tmps w):(rs:List ResultVar) → {l l':List Nat} → {xs:List AV} → (Ye C st rs).run st.tbl l = some (xs,l') →
  ∃ vs,(rs.mapM (Zrj tmps)).run C.P w = .ok vs w ∧ Z4 σ w lim xs vs ∧ Zt st.tbl (Zs xs)
 | [],l,l',xs,hm => by
  obtain ⟨rfl,_⟩:=M.run_ret hm
  simp_all [Z4,Zs,Zt]
 | r :: rs,l,l',xs,hm => by
  simp only [Ye] at hm
  obtain ⟨x,l1,h1,h2⟩:=M.run_bind_some hm
  obtain ⟨ys,l2,h3,h4⟩:=M.run_bind_some h2
  obtain ⟨rfl,_⟩:=M.run_ret h4
  obtain ⟨v,e1,e2,e3⟩:=Zri h h1
  obtain ⟨vs,f1,f2,f3⟩:=Zd7 h rs h3
  refine ⟨v :: vs,?_,by simp only [Z4]; exact ⟨e2,f2⟩,?_⟩
  ·simp_all
  ·intro i hi; simp only [Zs,Js] at hi; rcases hi with hi | hi; exact e3 i hi; exact f3 i hi
theorem Zg4 {st st2:St} (he:st2.env = st.env):∀ (rs:List ResultVar),Ye C st rs = Ye C st2 rs
 | [] => rfl
 | r :: rs => by
  have h1:ZcK C st r = ZcK C st2 r:=by cases r <;> simp only [ZcK,he]
  simp only [Ye,h1,Zg4 he rs]
theorem Zsb (h:RelW G σ lim st tmps w) {fn:Func} {l l':List Nat} {xs:List AV} (hm:(Ye C st fn.results.toList).run st.tbl l = some (xs,l')) :
  ∃ v,(results fn tmps).run C.P w = .ok v w ∧ RA σ w lim (match (generalizing:=false) xs with | [a] => a | as => .tup as) v:=by
 obtain ⟨vs,e1,e2,e3⟩:=Zd7 h _ hm
 have e0:results fn tmps = (do let vs ← fn.results.mapM (Zrj tmps); pure (if h:vs.size = 1 then vs[0] else .tuple vs)):=by
  unfold results
  congr 1
 rw [e0,Array.mapM_eq_mapM_toList]
 match xs,vs,e2 with
 | [x],[v],e2 =>
  simp_all [Z4,Sem.run_bind,Sem.run_map,e1]
 | [],[],e2 =>
  simp_all [RA,Z4,Sem.run_bind,Sem.run_map,e1]
 | x :: y :: xs,v :: u :: vs,e2 =>
  simp_all [RA,Sem.run_bind,Sem.run_map,e1]
 | [],_ :: _,e2 => simp [Z4] at e2
 | _ :: _,[],e2 => simp [Z4] at e2
 | [_],_ :: _ :: _,e2 => simp [Z4] at e2
 | _ :: _ :: _,[_],e2 => simp [Z4] at e2
def XS:List Kd → List Value → List Value
 | .box _ :: l,a :: as => a :: XS l as
 | .bld _ :: l,a :: as => a :: XS l as
 | _ :: l,_ :: as => XS l as
 | _,_ => []
def Y5:List AV → List Value → List (Nat × Value)
 | .bx r _ :: l,v :: vs => (r,v) :: Y5 l vs
 | _ :: l,_ :: vs => Y5 l vs
 | _,_ => []
theorem Zj5:(as:List AV) → (vs:List Value) → ∀ p ∈ Y5 as vs,p.1 ∈ WO as
 | [],vs,p,hp => by cases vs <;> simp [Y5] at hp
 | x :: as,[],p,hp => by cases x <;> simp [Y5] at hp
 | x :: as,v :: vs,p,hp => by
  cases x with
  | bx r k =>
   simp only [Y5,VL] at hp
   simp only [WO,VL]
   rcases hp with rfl | hp
   ·exact .inl rfl
   ·exact .inr (Zj5 as vs p hp)
  | _ => simp only [Y5] at hp; simp only [WO]; exact Zj5 as vs p hp
theorem ZF2:(pk:List Kd) → {as:List AV} → {vs:List Value} → Z4 σ w lim as vs → Z4 σ w lim (Qx pk as) (XS pk vs)
 | [],as,vs,h => by grind [Qx,XS,Z4]
 | k :: pk,as,vs,h => by
  match as,vs,h with
  | [],[],h => cases k <;> simp [Qx,XS,Z4]
  | x :: as,v :: vs,h =>
   simp only [Z4] at h
   have ih:=ZF2 pk h.2
   cases k <;> simp only [Qx,XS,Z4] <;> first | exact ih | exact ⟨h.1,ih⟩
  | [],_ :: _,h => simp [Z4] at h
  | _ :: _,[],h => simp [Z4] at h
def Yi (as:List AV):Bool:=as.all fun | .bx _ 0 => true | _ => false
theorem ZWX {as:List AV} {vs:List Value} (hb:Yi as = true) (h:Z4 σ w lim as vs):∀ p ∈ Y5 as vs,σ p.1 = p.2:=by
 induction as generalizing vs with
 | nil => grind [Y5]
 | cons x as ih =>
  cases vs with
  | nil => simp [Z4] at h
  | cons v vs =>
   simp only [Z4] at h
   simp only [Yi,UA,Jh] at hb
   intro p hp
   obtain ⟨hb1,hb2⟩:=hb
   split at hb1
   ·rename_i r
    simp only [Y5,VL] at hp
    rcases hp with rfl | hp
    ·grind [RA]
    ·exact ih hb2 h.2 p hp
   ·cases hb1
theorem ZDx {σ':W6} {w':World} {lim':Nat → Nat} {as:List AV} {vs:List Value} (hb:Yi as = true) (h:Z4 σ w lim as vs) (hp:∀ p ∈ Y5 as vs,σ' p.1 = p.2):Z4 σ' w' lim' as vs:=by
 induction as generalizing vs with
 | nil => cases vs <;> simp [Z4] at h ⊢
 | cons x as ih =>
  cases vs with
  | nil => simp [Z4] at h
  | cons v vs =>
   simp only [Z4] at h ⊢
   simp only [Yi,UA,Jh] at hb
   obtain ⟨hb1,hb2⟩:=hb
   split at hb1
   ·rename_i r
    simp only [Y5,VL] at hp
    refine ⟨?_,ih hb2 h.2 fun p hm => hp p (.inr hm)⟩
    have h1:=h.1
    simp only [RA] at h1 ⊢
    obtain ⟨b,e1,e2⟩:=h1
    simp_all
   ·cases hb1
theorem ZGs:(pk:List Kd) → {vs:List Value} → {rs:List RV} → {bs:List Nat} → vs.length = pk.length → TTs w lim rs (XS pk vs) bs → TL w lim pk vs rs bs
 | [],[],rs,bs,_,h => by
  grind [XS,TL,TTs]
 | k :: pk,v :: vs,rs,bs,hl,h => by
  have hl':vs.length = pk.length:=by simpa using hl
  cases k with
  | box l =>
   simp only [XS] at h
   cases rs with
   | nil => simp [TTs] at h
   | cons x rs =>
    simp only [TTs] at h
    simp only [TL]
    obtain ⟨b1,b2,e,h1,h2⟩:=h
    exact ⟨b1,b2,e,h1,ZGs pk hl' h2⟩
  | bld T =>
   simp only [XS] at h
   cases rs with
   | nil => simp [TTs] at h
   | cons x rs =>
    simp only [TTs] at h
    simp only [TL]
    obtain ⟨b1,b2,e,h1,h2⟩:=h
    exact ⟨b1,b2,e,h1,ZGs pk hl' h2⟩
  | _ => simp only [XS] at h; simp only [TL]; exact ZGs pk hl' h
 | [],_ :: _,rs,bs,hl,_ => by simp at hl
 | _ :: _,[],rs,bs,hl,_ => by simp at hl
theorem ZcQ:∀ (u:Wj),Zp u = Z9.put (fun _ => .fresh) u
 | [] => rfl
 | (a,x) :: u => by
  funext r
  simp only [Zp,Z9.put,ZJ,ZcQ u]
  grind
theorem Zbk:∀ (as:List AV) (i s:Nat),Zq (index i as) s = .dead ∨ ∃ j,s = i + j ∧ as[j]? = some (Zq (index i as) s)
 | [],i,s => .inl rfl
 | x :: as,i,s => by
  simp only [index,Zq]
  cases h:Ja s i with
  | true => simp_all
  | false =>
   simp only [cond_false]
   rcases Zbk as (i + 1) s with h | ⟨j,h1,h2⟩
   ·exact .inl h
   ·exact .inr ⟨j + 1,by omega,by simpa using h2⟩
theorem ZtD {as:List AV} {j:Nat} {x:AV} (h:as[j]? = some x):∀ r ∈ Ze x,r ∈ Zs as:=by
 induction as generalizing j with
 | nil => simp at h
 | cons y as ih =>
  grind [Zs]
theorem Zhc {as:List AV} {vs:List Value} (h:Z4 σ w lim as vs):as.length = vs.length:=by
 induction as generalizing vs with
 | nil => cases vs <;> simp [Z4] at h ⊢
 | cons x as ih =>
  cases vs with
  | nil => simp [Z4] at h
  | cons v vs => simp only [Z4] at h; simp [ih h.2]
theorem ZfO:(xs:List RV) → (n:Nat) → (ZS n xs).1.length = xs.length
 | [],n => rfl
 | x :: xs,n => by simp only [ZS,JF,ZfO xs]
theorem X0:(pk:List Kd) → (as:List AV) → ∀ r ∈ WO (Qx pk as),r ∈ Zs as
 | [],as,r,hr => by contradiction
 | k :: pk,[],r,hr => by grind [Qx,WO]
 | k :: pk,x :: as,r,hr => by
  simp only [Zs,Js]
  cases k with
  | box l =>
   simp only [Qx] at hr
   cases x with
   | bx b j =>
    simp only [WO,VL] at hr
    rcases hr with rfl | hr
    ·exact .inl (by simp [Ze])
    ·exact .inr (X0 pk as r hr)
   | _ => simp only [WO] at hr; exact .inr (X0 pk as r hr)
  | bld T =>
   simp only [Qx] at hr
   cases x with
   | bx b j =>
    simp only [WO,VL] at hr
    rcases hr with rfl | hr
    ·exact .inl (by simp [Ze])
    ·exact .inr (X0 pk as r hr)
   | _ => simp only [WO] at hr; exact .inr (X0 pk as r hr)
  | _ => simp only [Qx] at hr; exact .inr (X0 pk as r hr)
mutual
theorem ZTa:(x:RV) → (n:Nat) → (∀ r ∈ Ze (put n x).1,r < (put n x).2.2) ∧ ∀ p ∈ (put n x).2.1,p.1 < (put n x).2.2 ∧ Za0 p.2 = true ∧ ∀ cs,p.2 = .live (.box cs) → ∀ q ∈ Zs cs,q < (put n x).2.2
 | .view t x,n => by simp only [put]; rw [Zov]; simp
 | .own t sh xs,n => by simp [put,Ze,Za0]
 | .box cs,n => by
  obtain ⟨h1,h2⟩:=ZcI cs (n + 1)
  have hle:=Xg cs (n + 1)
  simp only [put]
  refine ⟨by intro r hr; simp [Ze] at hr; omega,fun p hp => ?_⟩
  cases hp with
  | head => exact ⟨by simp only; omega,rfl,fun ds hd => by simp only [RS.live.injEq,Res.box.injEq] at hd; subst hd; exact h1⟩
  | tail _ hp => exact h2 p hp
 | .agg cs,n => by
  obtain ⟨h1,h2⟩:=ZcI cs n
  simp only [put]
  exact ⟨by simpa [Ze] using h1,h2⟩
 | .tup cs,n => by
  obtain ⟨h1,h2⟩:=ZcI cs n
  simp only [put]
  exact ⟨by simpa [Ze] using h1,h2⟩
 | .fn f,n => by simp [put,Ze]
 | .ns t xs,n => by simp [put,Ze]
 | .vp t xs,n => by simp [put,Ze]
 | .clo f cs,n => by
  obtain ⟨h1,h2⟩:=ZcI cs n
  simp only [put]
  exact ⟨by simpa [Ze] using h1,h2⟩
 | .bld T xs,n => by
  simp only [put]
  refine ⟨by intro r hr; simp [Ze] at hr; omega,fun p hp => ?_⟩
  simp only [VL,List.not_mem_nil,or_false] at hp
  rcases hp with rfl | rfl
  ·refine ⟨by simp only; omega,rfl,fun cs hc q hq => ?_⟩
   simp only [RS.live.injEq,Res.box.injEq] at hc
   subst hc
   simp [Zs,Ze] at hq
   omega
  ·exact ⟨by simp only; omega,rfl,fun cs hc => by cases hc⟩
theorem ZcI:(xs:List RV) → (n:Nat) → (∀ r ∈ Zs (ZS n xs).1,r < (ZS n xs).2.2) ∧ ∀ p ∈ (ZS n xs).2.1,p.1 < (ZS n xs).2.2 ∧ Za0 p.2 = true ∧ ∀ cs,p.2 = .live (.box cs) → ∀ q ∈ Zs cs,q < (ZS n xs).2.2
 | [],n => by simp [ZS,Zs]
 | x :: xs,n => by
  obtain ⟨h1,h2⟩:=ZTa x n
  obtain ⟨h3,h4⟩:=ZcI xs (put n x).2.2
  have hle:=Xg xs (put n x).2.2
  simp only [ZS]
  refine ⟨fun r hr => ?_,fun p hp => ?_⟩
  ·simp only [Zs,Js] at hr
   rcases hr with hr | hr
   ·have:=h1 r hr; omega
   ·exact h3 r hr
  ·rcases Js.1 hp with hp | hp
   ·exact h4 p hp
   ·obtain ⟨a,b,c⟩:=h2 p hp
    exact ⟨by omega,b,fun cs hc q hq => by have:=c cs hc q hq; omega⟩
end
theorem ZGS:XD (fun _ => .fresh) = fun _ => .fresh:=by
 funext n
 simp only [XD,ZgP,ite_self]
theorem ZUP {avs:List AV} {u:Wj} (h:RelW G σ lim (enter avs u) tmps w) (hu:∀ p ∈ u,p.1 < Z6 ∧ Za0 p.2 = true ∧ ∀ cs,p.2 = .live (.box cs) → ∀ q ∈ Zs cs,q < Z6)
  (hids:∀ r ∈ Zs avs,r < Z6) (hp:∀ p ∈ G.pins,p.1 < Z6):WA G σ lim (enter avs u) tmps w:=by
 have e:Zp u = Z9.put (fun _ => .fresh) u:=ZcQ u
 unfold enter at h ⊢
 rw [e] at h ⊢
 refine WA.of_put (T:=fun _ => .fresh) (by rw [ZGS]; exact h) (fun p hp => ⟨(hu p hp).1,(hu p hp).2.1⟩) ⟨fun s r hr => ?_,fun r cs hr => ?_,hp⟩
 ·simp only at hr
  rcases Zbk avs 0 s with h | ⟨j,h1,h2⟩
  ·rw [h] at hr; simp [Ze] at hr
  ·exact hids r (ZtD h2 r hr)
 ·simp only [Z9.put] at hr
  cases hl:ZJ u r with
  | none => rw [hl] at hr; cases hr
  | some z => rw [hl] at hr; simp only at hr; exact (hu _ (Wu hl)).2.2 cs hr
theorem Zqu:(ks:List Kd) → (as:List AV) → Xo ks as = true → (Qg ks as).length = (ZQ ks).length
 | [],[],_ => rfl
 | [],_ :: _,h => by simp [Xo] at h
 | k :: ks,[],h => by cases k <;> simp [Xo] at h
 | k :: ks,a :: as,h => by
  cases k with
  | clo f l =>
   cases a with
   | clo g cs =>
    simp only [Xo,Jh] at h
    have:=beq_eq h.1
    simp only [Qg,ZQ,List.length_append,Zqu ks as h.2,this]
   | _ => simp [Xo] at h
  | _ => grind [Xo,Qg,ZQ,JF,Zqu ks as h]
def Zj1:List Kd → Nat
 | [] => 0
 | .ref _ :: l => Zj1 l + 1
 | _ :: l => Zj1 l
theorem Zmv:(ks:List Kd) → KM ks = false → Zj1 ks = 0
 | [],_ => rfl
 | k :: ks,h => by
  cases k with
  | ref l => simp [KM] at h
  | _ => simp only [KM] at h; simp only [Zj1]; exact Zmv ks h
theorem ZdP:(ks:List Kd) → (cs:List AV) → {q:List Nat} → ZI ks cs = some q → q.length = Zj1 ks
 | [],[],q,h => by simp [ZI] at h; subst h; rfl
 | k :: ks,a :: as,q,h => by
  have other:(∀ l,k ≠ .ref l) → q.length = Zj1 (k :: ks):=by
   intro hk
   have e:ZI (k :: ks) (a :: as) = ZI ks as:=by cases k <;> first | rfl | exact absurd rfl (hk _)
   have e2:Zj1 (k :: ks) = Zj1 ks:=by cases k <;> first | rfl | exact absurd rfl (hk _)
   rw [e] at h
   rw [e2]; exact ZdP ks as h
  cases k with
  | ref l =>
   cases a with
   | bx s kk =>
    cases kk with
    | succ kk => simp [ZI] at h
    | zero =>
     simp only [ZI] at h
     cases hq2:ZI ks as with
     | none => rw [hq2] at h; simp at h
     | some q2 =>
      grind [VE.injEq,JF,Zj1,ZdP ks as hq2]
   | _ => simp [ZI] at h
  | _ => exact other (by intro l; simp)
 | [],_ :: _,q,h => by simp [ZI] at h
 | k :: _,[],q,h => by cases k <;> simp [ZI] at h
theorem Zkf {σ:W6}:(ks:List Kd) → (q:List Nat) → (vs vs':List Value) → q.length = Zj1 ks → Qe σ q ks vs → Qe σ q ks vs' → YA ks vs vs'
 | [],q,vs,vs',_,_,_ => by simp [YA]
 | k :: ks,q,[],vs',_,_,_ => by cases k <;> simp [YA]
 | k :: ks,q,v :: vs,[],_,_,_ => by cases k <;> simp [YA]
 | k :: ks,q,v :: vs,v' :: vs',hl,h,h' => by
  have other:(∀ l,k ≠ .ref l) → YA (k :: ks) (v :: vs) (v' :: vs'):=by
   intro hk
   have e2:Zj1 (k :: ks) = Zj1 ks:=by cases k <;> first | rfl | exact absurd rfl (hk _)
   have e3:YA (k :: ks) (v :: vs) (v' :: vs') = YA ks vs vs':=by cases k <;> first | rfl | exact absurd rfl (hk _)
   rw [e3]
   rw [e2] at hl
   cases q with
   | nil => exact Zkf (σ:=σ) ks [] vs vs' hl Wg Wg
   | cons q0 q =>
    have e4:∀ (u:Value) (us:List Value),Qe σ (q0 :: q) (k :: ks) (u :: us) = Qe σ (q0 :: q) ks us:=by intro u us; cases k <;> first | rfl | exact absurd rfl (hk _)
    rw [e4] at h h'
    exact Zkf ks (q0 :: q) vs vs' hl h h'
  cases k with
  | ref l =>
   cases q with
   | nil => simp [Zj1] at hl
   | cons q0 q =>
    simp only [Qe] at h h'
    simp only [YA]
    exact ⟨h'.1.trans h.1.symm,Zkf ks q vs vs' (by simpa [Zj1] using hl) h.2 h'.2⟩
  | _ => exact other (by intro l; simp)
theorem ZlS {σ1:W6} {w0:World} (h:RelW G σ lim st tmps w):(ks:List Kd) → {as:List AV} → {vs:List Value} → {l l':List Nat} → {nm:List (List Nat)} → (KV ks as).run st.tbl l = some (nm,l') → Z4 σ w lim as vs → W5 σ1 w0 nm ks vs → (∀ q ∈ nm.flatten,σ q = σ1 q) → YJ w0 w ks vs
 | [],as,vs,l,l',nm,hm,hv,hr,hq => by cases vs <;> simp [YJ]
 | k :: ks,[],vs,l,l',nm,hm,hv,hr,hq => by
  match vs,hv with
  | [],_ => cases k <;> simp [YJ]
 | k :: ks,a :: as,vs,l,l',nm,hm,hv,hr,hq => by
  match vs,hv with
  | v :: vs,hv =>
   simp only [Z4] at hv
   have other:(∀ l,k ≠ .box l) → YJ w0 w (k :: ks) (v :: vs):=fun hk => by
    rw [Za4 hk] at hm
    have e:YJ w0 w (k :: ks) (v :: vs) = YJ w0 w ks vs:=by cases k <;> first | rfl | exact absurd rfl (hk _)
    have e2:W5 σ1 w0 nm (k :: ks) (v :: vs) = W5 σ1 w0 nm ks vs:=by cases k <;> first | (cases nm <;> rfl) | exact absurd rfl (hk _)
    rw [e]
    rw [e2] at hr
    exact ZlS h ks hm hv.2 hr hq
   cases k with
   | box l0 =>
    cases a with
    | bx r kk =>
     cases kk with
     | succ kk => exact (M.run_fail hm).elim
     | zero =>
      simp only [KV] at hm
      obtain ⟨q0,l5,h5,h6⟩:=M.run_bind_some hm
      obtain ⟨qs,l6,h7,h8⟩:=M.run_bind_some h6
      obtain ⟨h9,_⟩:=M.run_ret h8
      subst h9
      simp only [W5] at hr
      simp only [YJ]
      refine ⟨fun b cs T fz cs' T' fz' e1 e2 e3 => ?_,ZlS h ks h7 hv.2 hr.2 (fun q' hq' => hq q' (by simp_all))⟩
      have hold:=hr.1 b cs T fz e1 e2
      cases hh:KM l0 with
      | false =>
       have hz:=Zmv l0 hh
       exact Zkf (σ:=σ) l0 [] _ _ (by simp [hz]) Wg Wg
      | true =>
       unfold ZcY at h5
       rw [hh] at h5
       simp only [cond_true,M.run] at h5
       cases hrr:st.tbl r with
       | fresh => simp [hrr,M.run] at h5
       | gone => simp [hrr,M.run] at h5
       | live y =>
        cases y with
        | arr => simp [hrr,M.run] at h5
        | nest => simp [hrr,M.run] at h5
        | box as0 =>
         simp only [hrr] at h5
         have hn:=M.run_ofOpt h5
         obtain ⟨hR,_⟩:=h.res r _ hrr
         obtain ⟨b0,ws,U,f1,f2,f3,f4,_⟩:=Ya hv.1 hR
         rw [e1] at f2
         obtain rfl:b = b0:=by simpa using f2
         rw [e3] at f3
         obtain ⟨rfl,_⟩:cs' = ws ∧ _:=by simpa using f3
         have hnew:=Yx l0 as0 hn f4 (ZhZ l0 cs'.toList)
         exact Zkf (σ:=σ1) l0 q0 _ _ (ZdP l0 as0 hn) hold (XI _ _ _ (fun q' hq' => (hq q' (by simp_all)).symm) hnew)
    | _ => exact (M.run_fail hm).elim
   | _ => exact other (by intro l; simp)
  | [],hv => simp [Z4] at hv
theorem ZtS (h : RelW G σ lim st tmps w) : (ks : List Kd) → {as : List AV} → {vs : List Value} → Yi as = true → Z4 σ w lim as vs → W5 σ w (ZbC st.tbl ks as) ks vs
  | [], as, vs, hb, hv => by
    grind [W5]
  | k :: ks, [], vs, hb, hv => by
    match vs, hv with
    | [], _ => cases k <;> simp [ZbC, W5]
  | k :: ks, a :: as, vs, hb, hv => by
    match vs, hv with
    | v :: vs, hv =>
      simp only [Z4] at hv
      simp only [Yi, UA, Jh] at hb
      have ih := ZtS h ks hb.2 hv.2
      have other : (∀ l, k ≠ .box l) → W5 σ w (ZbC st.tbl (k :: ks) (a :: as)) (k :: ks) (v :: vs) := fun hk => by
        have e : ZbC st.tbl (k :: ks) (a :: as) = ZbC st.tbl ks as := by cases k <;> first | rfl | exact absurd rfl (hk _)
        rw [e]
        have e2 : ∀ nm, W5 σ w nm (k :: ks) (v :: vs) = W5 σ w nm ks vs := by intro nm; cases k <;> first | (cases nm <;> rfl) | exact absurd rfl (hk _)
        rw [e2]; exact ih
      cases k with
      | box l0 =>
        cases a with
        | bx r kk =>
         cases kk with
         | succ kk => simp at hb
         | zero =>
          simp only [ZbC, W5]
          refine ⟨fun b cs T fz e1 e2 => ?_, ih⟩
          cases hh : KM l0 with
          | false => exact Wg
          | true =>
            simp only [cond_true]
            cases hr : st.tbl r with
            | fresh => exact Wg
            | gone => exact Wg
            | live y =>
              cases y with
              | arr => exact Wg
              | nest => exact Wg
              | box as0 =>
                simp only
                cases hn : ZI l0 as0 with
                | none => exact Wg
                | some q =>
                  obtain ⟨hR, _⟩ := h.res r _ hr
                  obtain ⟨b0, ws, U, f1, f2, f3, f4, _⟩ := Ya hv.1 hR
                  rw [e1] at f2
                  obtain rfl : b = b0 := by simpa using f2
                  rw [e2] at f3
                  obtain ⟨rfl, _⟩ : cs = ws ∧ _ := by simpa using f3
                  exact Yx l0 as0 hn f4 (ZhZ l0 cs.toList)
        | _ => simp at hb
      | _ => exact other (by intro l; simp)
    | [], hv => simp [Z4] at hv
theorem ZbD {tbl:Z9} {lim:Nat → Nat} (hres:∀ r x,tbl r = .live x → RR σ w lim r x ∧ Zt tbl (Qi r x)):(ks:List Kd) → (as:List AV) → ∀ q ∈ (ZbC tbl ks as).flatten,∃ r cs,tbl r = .live (.box cs) ∧ q ∈ Zs cs
 | [],as,q,hq => by
  contradiction
 | k :: ks,[],q,hq => by
  have:ZbC tbl (k :: ks) [] = []:=by cases k <;> rfl
  rw [this] at hq; simp at hq
 | k :: ks,a :: as,q,hq => by
  have other:ZbC tbl (k :: ks) (a :: as) = ZbC tbl ks as → ∃ r cs,tbl r = .live (.box cs) ∧ q ∈ Zs cs:=fun e => by
   rw [e] at hq
   exact ZbD hres ks as q hq
  cases k with
  | box l0 =>
   cases a with
   | bx r kk =>
    cases kk with
    | succ kk => exact other rfl
    | zero =>
     simp only [ZbC,List.flatten_cons,Js] at hq
     rcases hq with hq | hq
     ·cases hh:KM l0 with
      | false => rw [hh] at hq; simp at hq
      | true =>
       rw [hh] at hq
       simp only [cond_true] at hq
       cases hr:tbl r with
       | fresh => rw [hr] at hq; simp at hq
       | gone => rw [hr] at hq; simp at hq
       | live y =>
        rw [hr] at hq
        cases y with
        | arr => simp at hq
        | nest => simp at hq
        | box as0 =>
         simp only at hq
         cases hn:ZI l0 as0 with
         | none => rw [hn] at hq; simp at hq
         | some q' => rw [hn] at hq; exact ⟨r,as0,hr,K7 l0 as0 hn q hq⟩
     ·exact ZbD hres ks as q hq
   | _ => exact other rfl
  | _ => exact other rfl
theorem ZPy : {a b:List Nat} → nEq a b = true → a = b
 | [],[],_ => rfl
 | x :: a,y :: b,h => by
  simp only [nEq,Jh] at h
  rw [beq_eq h.1,ZPy h.2]
 | [],_ :: _,h => by simp [nEq] at h
 | _ :: _,[],h => by simp [nEq] at h
theorem ZF7 : {a b:List (List Nat)} → ZI0 a b = true → a = b
 | [],[],_ => rfl
 | x :: a,y :: b,h => by
  simp only [ZI0,Jh] at h
  rw [ZPy h.1,ZF7 h.2]
 | [],_ :: _,h => by simp [ZI0] at h
 | _ :: _,[],h => by simp [ZI0] at h
theorem ZgN {w0:World}:(ks:List Kd) → (vs:List Value) → YJ w0 w (XR ks) (XS ks vs) → YJ w0 w ks vs
 | [],vs,_ => by cases vs <;> simp [YJ]
 | k :: ks,[],_ => by cases k <;> simp [YJ]
 | k :: ks,v :: vs,h => by
  cases k with
  | box l =>
   simp only [XR,XS,YJ] at h ⊢
   exact ⟨h.1,ZgN ks vs h.2⟩
  | bld T =>
   simp only [XR,XS,YJ] at h ⊢
   exact ZgN ks vs h
  | _ => simp only [XR,XS] at h; simp only [YJ]; exact ZgN ks vs h
theorem Zuu {rvs:List RV} {vs:List Value} {bs:List Nat} {pk:List Kd} {n:Nat} (hlz:∀ b,w.heap.size ≤ b → lim b = 0) (hgl:Zt9 w lim) (hT:TTs w lim rvs vs bs) (hnd:bs.Nodup) (hbs:∀ b ∈ bs,b < w.heap.size)
    (hn:rvs.length ≤ n) (hin:(ZS 0 rvs).2.2 ≤ Z6) (hco:Xo pk (ZS 0 rvs).1 = true) (hb:Yi (Qx (ZQ pk) (Qg pk (ZS 0 rvs).1)) = true) :
    ∃ σ,WT ⟨w,lim,bs,Y5 (Qx (ZQ pk) (Qg pk (ZS 0 rvs).1)) (XS (ZQ pk) (Wt pk vs)) ++ (ZbP pk rvs).flatten.map (fun q => (q,σ q))⟩ n (enter (ZS 0 rvs).1 (ZS 0 rvs).2.1) { tmps:=vs.toArray ++ UB (n - vs.toArray.size) undef,defers:=[] } w ∧
      Z4 σ w lim (Qx (ZQ pk) (Qg pk (ZS 0 rvs).1)) (XS (ZQ pk) (Wt pk vs)) ∧ vs.length = rvs.length ∧ (Wt pk vs).length = (ZQ pk).length ∧ W5 σ w (ZbP pk rvs) (XR (ZQ pk)) (XS (ZQ pk) (Wt pk vs)):=by
  have h0:RelW ⟨w,lim,bs,[]⟩ (fun _ => undef) lim ⟨fun _ => .dead,fun _ => .fresh⟩ (vs.toArray ++ UB (n - vs.toArray.size) undef) w :=
    { env:=by intro s; simp [RA]
      known:=by intro s; simp [Ze,Zt]
      res:=by intro r x h; simp at h
      inj:=by intro r r' b h; simp [ZV] at h
      own:=by intro r b h; simp [ZV] at h
      ext:=Ext.refl _ _
      keep:=fun _ _ _ => rfl
      same:=⟨rfl,rfl,rfl⟩
      lz:=hlz
      limk:=fun _ _ _ => rfl
      glob:=hgl
      pin:=by intro p hp; simp at hp }
  obtain ⟨σ,hP,hA,hK⟩:=Xy rvs 0 h0 hT (fun _ _ _ => rfl) ⟨hnd,fun b hb => ⟨.inr hb,by intro r h; simp [ZV] at h⟩⟩
  have hlen:vs.length = rvs.length:=by rw [← ZfO rvs 0]; exact (Zhc hA).symm
  have hfA:=Zn7 pk hco hA
  have hL:=ZF2 (ZQ pk) hfA
  have hfl:(Wt pk vs).length = (ZQ pk).length:=by rw [← Zhc hfA]; exact Zqu pk _ hco
  have hrv:W5 σ w (ZbP pk rvs) (XR (ZQ pk)) (XS (ZQ pk) (Wt pk vs)):=by
    have:=ZtS hP.rel (XR (ZQ pk)) hb hL
    simp only at this
    rw [← ZcQ] at this
    exact this
  refine ⟨σ,⟨σ,lim,?_,by simp; omega,rfl⟩,hL,hlen,hfl,hrv⟩
  have hR:=hP.rel
  simp only at hR hK
  rw [← ZcQ] at hR hK
  have hpin:=ZWX hb hL
  obtain ⟨lw1,lw2⟩:=ZcI rvs 0
  refine ZUP ?_ (fun p hp => ⟨VZ (lw2 p hp).1 hin,(lw2 p hp).2.1,fun cs hc q hq => VZ ((lw2 p hp).2.2 cs hc q hq) hin⟩) (fun r hr => VZ (lw1 r hr) hin)
    (fun p hp => by
      rcases Js.1 hp with hp | hp
      · exact VZ (lw1 p.1 (Zfu pk _ _ (X0 (ZQ pk) _ _ (Zj5 _ _ p hp)))) hin
      · obtain ⟨q,hq,rfl⟩:=VF.1 hp
        obtain ⟨r,cs,hr,hqc⟩:=ZbD hR.res (XR (ZQ pk)) (Qx (ZQ pk) (Qg pk (ZS 0 rvs).1)) q hq
        simp only [ZcQ,Z9.put] at hr
        cases hl:ZJ (ZS 0 rvs).2.1 r with
        | none => rw [hl] at hr; cases hr
        | some z => rw [hl] at hr; simp only at hr; exact VZ ((lw2 _ (Wu hl)).2.2 cs hr q hqc) hin)
  exact
    { env:=by
        intro s
        rcases Zbk (ZS 0 rvs).1 0 s with h | ⟨j,h1,h2⟩
        · simp only [enter,h,RA]
        · have hs:s = j:=by omega
          subst hs
          have hjl:s < vs.length:=by
            rw [← Zhc hA]
            grind
          have hv:vs[s]? = some vs[s]:=by simp [hjl]
          have:=ZAD hA h2 hv
          simp only [enter]
          rw [Array.getD_eq_getD_getElem?,Array.getElem?_append_left (by simpa using hjl)]
          simpa [hv] using this
      known:=by
        intro s
        rcases Zbk (ZS 0 rvs).1 0 s with h | ⟨j,h1,h2⟩
        · simp [enter,h,Ze,Zt]
        · intro r hr
          exact hK r (ZtD h2 r hr)
      res:=hR.res,inj:=hR.inj,own:=hR.own,ext:=hR.ext,keep:=hR.keep,same:=hR.same,lz:=hR.lz,limk:=hR.limk,glob:=hR.glob
      pin:=by
        intro p hp
        rcases Js.1 hp with hp | hp
        · refine ⟨hpin p hp,?_⟩
          exact hK p.1 (Zfu pk _ _ (X0 (ZQ pk) _ _ (Zj5 _ _ p hp)))
        · obtain ⟨q,hq,rfl⟩:=VF.1 hp
          obtain ⟨r,cs,hr,hqc⟩:=ZbD hR.res (XR (ZQ pk)) (Qx (ZQ pk) (Qg pk (ZS 0 rvs).1)) q hq
          exact ⟨rfl,(hR.res r _ hr).2 q hqc⟩ }
def ZrM (w:World) (lim:Nat → Nat) (vs:List Value) (bs:List Nat) (pk:List Kd) (r:RV × List RV):Ending → World → Prop:=fun e w' => ∃ v lim' b1 b2,e = .returned v ∧ Ext w lim w' lim' ∧ (∀ b,w'.heap.size ≤ b → lim' b = 0) ∧
   (w'.os = w.os ∧ w'.tape = w.tape ∧ w'.output = w.output) ∧ (∀ b,b < w.heap.size → b ∉ bs → w'.heap[b]? = w.heap[b]? ∧ lim' b = lim b) ∧
   TT w' lim' r.1 v b1 ∧ TL w' lim' (ZQ pk) (Wt pk vs) r.2 b2 ∧ YJ w w' (ZQ pk) (Wt pk vs) ∧ (b1 ++ b2).Nodup ∧ ∀ b ∈ b1 ++ b2,b ∈ bs ∨ w.heap.size ≤ b
theorem ZtA {f:Nat} {fn:Func} {code:Code} {pk:List Kd} {rk:Kd} {rvs:List RV} {r:RV × List RV} {vs:List Value} {bs:List Nat} (hf:C.P.funcs[f]? = some fn) (hb:fn.body = some code)
  (hlz:∀ b,w.heap.size ≤ b → lim b = 0) (hgl:Zt9 w lim) (hT:TTs w lim rvs vs bs) (hnd:bs.Nodup) (hbs:∀ b ∈ bs,b < w.heap.size) (hbx:Yi (Qx (ZQ pk) (Qg pk (ZS 0 rvs).1)) = true) (hn:rvs.length ≤ fn.ntmps) (hin:(ZS 0 rvs).2.2 ≤ Z6) (hco:Xo pk (ZS 0 rvs).1 = true)
  (hwp:∀ (G:Glob),(∀ p ∈ G.pins,p.1 ∈ WO (Qx (ZQ pk) (Qg pk (ZS 0 rvs).1)) ++ (ZbP pk rvs).flatten) → WT G fn.ntmps (enter (ZS 0 rvs).1 (ZS 0 rvs).2.1) { tmps:=vs.toArray ++ UB (fn.ntmps - vs.toArray.size) undef,defers:=[] } w →
   code.wp C.P (fun e a w => ∃ e' st',e = Ex.out e' ∧ Y3 C fn.results.toList pk (Qx (ZQ pk) (Qg pk (ZS 0 rvs).1)) (ZbP pk rvs) rk some e' st' = some r ∧ WT G fn.ntmps st' a w) { tmps:=vs.toArray ++ UB (fn.ntmps - vs.toArray.size) undef,defers:=[] } w) :
  Calls C.P f vs.toArray w (ZrM w lim vs bs pk r):=by
 obtain ⟨σ0,hS,hL,hlen,hfl,hRV⟩:=Zuu (pk:=pk) hlz hgl hT hnd hbs hn hin hco hbx
 refine calls_of_wp hf hb (wp_mono (hwp _ (fun p hp => by
  rcases Js.1 hp with hp | hp
  ·exact JG _ (Zj5 _ _ p hp)
  grind) hS) ?_)
 rintro e a' w' ⟨e',st',rfl,hK,hs⟩
 obtain ⟨σ,lim',⟨hR,_⟩,_,hd⟩:=hs
 have leave:(ZqN C fn.results.toList pk (Qx (ZQ pk) (Qg pk (ZS 0 rvs).1)) (ZbP pk rvs) rk st').runK st'.tbl [] (fun x l => bif ZgQ l then some x else none) = some r →
   a'.defers = [] ∧ ∃ v,(results fn a'.tmps).run C.P w' = .ok v w' ∧ ZrM w lim vs bs pk r (.returned v) w':=by
  intro hl
  rw [M.runK_eq] at hl
  cases hr:(ZqN C fn.results.toList pk (Qx (ZQ pk) (Qg pk (ZS 0 rvs).1)) (ZbP pk rvs) rk st').run st'.tbl [] with
  | none => rw [hr] at hl; simp at hl
  | some p =>
   obtain ⟨q,lg⟩:=p
   rw [hr] at hl
   simp only [VJ] at hl
   have hlow:ZgQ lg = true:=by
    grind
   rw [hlow] at hl
   simp only [cond_true,VE.injEq] at hl
   subst hl
   have hr:=Zw7 hr hlow
   unfold ZqN at hr
   rw [Zg4 (st:=st') (st2:=⟨st'.env,XD st'.tbl⟩) rfl] at hr
   obtain ⟨as,l1,h1,hr⟩:=M.run_bind_some hr
   obtain ⟨⟨y,u⟩,l2,h2,hr⟩:=M.run_bind_some hr
   obtain ⟨⟨ys,v⟩,l3,h3,hr⟩:=M.run_bind_some hr
   obtain ⟨nm',l4,h4,hr⟩:=M.run_bind_some hr
   obtain ⟨hok,hr2⟩:=M.run_guard hr
   simp only [Jh] at hok
   obtain ⟨hok,hnm⟩:=hok
   have hnm:=ZF7 hnm
   obtain ⟨hq,_⟩:=M.run_ret hr2
   subst hnm
   obtain ⟨rv,r1,r2⟩:=Zsb hR h1
   obtain ⟨g1,k1⟩:=Zt6 (st:=⟨st'.env,XD st'.tbl⟩) (σ:=σ) (w:=w') (lim:=lim') rk _ h2
   obtain ⟨g2,k2⟩:=W3 (st:=⟨st'.env,XD st'.tbl⟩) (σ:=σ) (w:=w') (lim:=lim') (XR (ZQ pk)) _ h3
   obtain ⟨lim2,hR2,hE,hSh,hN,hB⟩:=hR.takes (g1.append g2) hok
   have hLf:Z4 σ w' lim' (Qx (ZQ pk) (Qg pk (ZS 0 rvs).1)) (XS (ZQ pk) (Wt pk vs)):=ZDx hbx hL fun p hp => (hR.pin p (JG _ hp)).1
   have hStay:YJ w w' (ZQ pk) (Wt pk vs):=ZgN _ _ (ZlS hR (XR (ZQ pk)) h4 hLf hRV fun q hq => (hR.pin (q,σ0 q) (List.mem_append_right _ (VF.2 ⟨q,hq,rfl⟩))).1)
   refine ⟨hd,rv,r1,rv,lim2,QC σ (Z0 u),QC σ (Z0 v),rfl,hR2.ext,hR2.lz,hR2.same,fun b hb1 hb2 => ⟨hR2.keep b hb1 hb2,hR2.limk b hb1 hb2⟩,?_,?_,hStay,?_,?_⟩
   ·rw [hq]; exact k1 rv r2 (fun r y hy => (hR.res r y hy).1) lim2 hE hSh.left
   ·rw [hq]; exact ZGs (ZQ pk) hfl (k2 _ hLf (fun r y hy => (hR.res r y hy).1) lim2 hE hSh.right)
   ·rw [← ZbJ,← Yq]; exact hN
   ·intro b hb; rw [← ZbJ,← Yq] at hb; exact (hB b hb).1.symm
 cases e' with
 | normal => exact leave hK
 | ret => exact leave hK
 | exit i => simp [Y3] at hK
theorem ZIJ (hC:∀ f cal,C.Φ f = some cal → Ctr C.P C.k f cal) (hm:C.P.follows .mixedOrders = true) {A:Nat → Ann} {f k:Nat} {fn:Func} {code:Code} {cal:Callee} {rk:Kd}
  (hf:C.P.funcs[f]? = some fn) (hb:fn.body = some code) (hname:(fn.name == "runtime.NumGoroutine") = false) (hfit:XQ C.P fn.ntmps code = true)
  (hlent:∀ rvs x,cal.run k rvs = some x → Yi (Qx (ZQ cal.pk) (Qg cal.pk (ZS 0 rvs).1)) = true)
  (hrun:∀ rvs x,cal.run k rvs = some x → ZDA C A fn.ntmps code fn.results.toList cal.pk rk rvs some = some (cal.enc x)):Ctr C.P k f cal where
 enters:=⟨fn,hf,hname,by rw [hb]; rfl⟩
 calls:=by
  intro rvs x hx w lim vs bs hlz hgl hT hnd hbs
  have h:=hrun rvs x hx
  have hbx:=hlent rvs x hx
  unfold ZDA at h
  cases hg:ZS2 cal.pk rvs fn.ntmps with
  | false => rw [hg] at h; simp at h
  | true =>
   rw [hg] at h
   simp only [cond_true] at h
   simp only [ZS2,Jh] at hg
   exact ZtA (rk:=rk) hf hb hlz hgl hT hnd hbs hbx (Jt hg.1.1) (Jt hg.1.2) hg.2 fun G hp hS => WB hC hm hp code h hfit hS fun e st' a' w' hK hs => ⟨e,st',rfl,hK,hs⟩
end Go.Sh
namespace Go.Sh
open Go
variable [Gl]
def ZGb:Ex → St → Option (Ex × St):=fun e s => some (e,s)
def ZhP {R:Type} (K:Ex → St → Option R):Ex × St → Option R:=fun x => K x.1 x.2
theorem ZqR {R:Type} {nm:St → Option St} {b1:St → (Ex → St → Option (Ex × St)) → Option (Ex × St)} {bR:St → (Ex → St → Option R) → Option R}
  (h1:∀ st K,b1 st K = (b1 st ZGb).bind (ZhP K)) (hb:∀ st K,bR st K = (b1 st ZGb).bind (ZhP K)):∀ (n:Nat) (st:St) (K:Ex → St → Option R),
  ZgY bR nm n st K = (ZgY b1 nm n st ZGb).bind (ZhP K)
 | 0,st,K => rfl
 | n + 1,st,K => by
  simp only [ZgY]
  rw [hb]
  conv => rhs; rw [h1]
  rw [Uz]
  congr 1
  funext x
  obtain ⟨e,s⟩:=x
  cases e with
  | exit i => rfl
  | ret => rfl
  | normal =>
   simp only [ZhP]
   cases nm s with
   | none => rfl
   | some s' => exact ZqR h1 hb n s' K
theorem Wl {C:Ctx} {A:Nat → Ann} {kp:List Nat}:(c:Code) → {R:Type} → (st:St) → (K:Ex → St → Option R) → Xp C A kp c st K = (Xp C A kp c st ZGb).bind (ZhP K)
 | .skip,R,st,K => rfl
 | .label _,R,st,K => rfl
 | .ret,R,st,K => rfl
 | .exit _,R,st,K => rfl
 | .goto _,R,st,K => rfl
 | .refuse _,R,st,K => rfl
 | .rangeFunc _ _ _ _,R,st,K => rfl
 | .region id ops d,R,st,K => by
  simp only [Xp]
  cases d with
  | false => simp only [cond_false,ZwV,Uz]; rfl
  | true =>
   simp only [cond_true,ZkJ,Uz]
   congr 1
   funext x
   cases ZaV ops.toList (YG ops.toList []) ([] ++ x.2) <;> rfl
 | .seq a b,R,st,K => by
  simp only [Xp]
  rw [Wl a]
  conv => rhs; rw [Wl a]
  rw [Uz]
  congr 1
  funext x
  obtain ⟨e,s⟩:=x
  cases e with
  | normal => exact Wl b s K
  | exit i => rfl
  | ret => rfl
 | .cond c a b,R,st,K => by
  simp only [Xp]
  split
  ·rename_i t _
   cases t with
   | true => simp only [cond_true]; exact Wl a _ K
   | false => simp only [cond_false]; exact Wl b _ K
  ·rfl
 | .block id c,R,st,K => by
  simp only [Xp]
  rw [Wl c]
  conv => rhs; rw [Wl c]
  rw [Uz]
  congr 1
  funext x
  obtain ⟨e,s⟩:=x
  cases e with
  | normal => rfl
  | ret => rfl
  | exit i => simp only [ZhP,Zul]; cases Ja i id <;> rfl
 | .loop c,R,st,K => by
  simp only [Xp,Uz]
  congr 1
  funext s
  exact ZqR (fun st K => Wl c st K) (fun st K => Wl c st K) C.k s K
 | .scope c,R,st,K => by simp only [Xp]; exact Wl c st K
theorem ZJb {C:Ctx} {A:Nat → Ann} {n:Nat} {body:Code} {rs:List ResultVar} {pk:List Kd} {rk:Kd} {rvs:List RV} {R:Type} (K:RV × List RV → Option R) :
  ZDA C A n body rs pk rk rvs K = (ZDA C A n body rs pk rk rvs some).bind K:=by
 unfold ZDA
 cases ZS2 pk rvs n with
 | false => rfl
 | true =>
  simp only [cond_true]
  rw [Wl]
  conv => rhs; rw [Wl]
  rw [Uz]
  congr 1
  funext x
  obtain ⟨e,s⟩:=x
  simp only [ZhP]
  cases e <;> simp only [Y3,M.runK_eq,Uz,VJ,Option.bind_none]
  all_goals grind
mutual
def Kd.den:Kd → Type
 | .view t => t.den
 | .own t _ => List t.den
 | .box ks => Kd.dens ks
 | .agg ks => Kd.dens ks
 | .tup ks => Kd.dens ks
 | .fn _ => Unit
 | .bld _ => List Int
 | .use _ => List Int
 | .clo _ ks => Kd.dens ks
 | .ref ks => Kd.dens ks
 | .ns t => List t.den
 | .vp t => List t.den
def Kd.dens:List Kd → Type
 | [] => Unit
 | k :: ks => k.den × Kd.dens ks
end
mutual
def enc:(k:Kd) → k.den → RV
 | .view t,x => .view t x
 | .own t sh,xs => .own t sh xs
 | .box ks,x => .box (Wp ks x)
 | .agg ks,x => .agg (Wp ks x)
 | .tup ks,x => .tup (Wp ks x)
 | .fn f,_ => .fn f
 | .bld T,xs => .bld T xs
 | .use T,xs => .bld T xs
 | .clo f ks,x => .clo f (Wp ks x)
 | .ref ks,x => .box (Wp ks x)
 | .ns t,xs => .ns t xs
 | .vp t,xs => .vp t xs
def Wp:(ks:List Kd) → Kd.dens ks → List RV
 | [],_ => []
 | k :: ks,x => enc k x.1 :: Wp ks x.2
end
def Zku (t:Ty):RV → Option t.den
 | .view t' x => if h:t' = t then some (h ▸ x:t.den) else none
 | _ => none
def ZJI (t:Ty) (sh:Bool):RV → Option (List t.den)
 | .own t' sh' xs => if h:t' = t then (bif sh == sh' then some (h ▸ xs:List t.den) else none) else none
 | _ => none
def ZDX:RV → Option (List RV)
 | .box cs => some cs
 | _ => none
def asAgg:RV → Option (List RV)
 | .agg cs => some cs
 | _ => none
def ZJK:RV → Option (List RV)
 | .tup cs => some cs
 | _ => none
def ZUF (f:Nat):RV → Option Unit
 | .fn g => bif Ja f g then some () else none
 | _ => none
def ZJG (f:Nat):RV → Option (List RV)
 | .clo g cs => bif Ja f g then some cs else none
 | _ => none
def ZUG (t:Ty):RV → Option (List t.den)
 | .ns t' xs => if h:t' = t then some (h ▸ xs:List t.den) else none
 | _ => none
def ZUH (t:Ty):RV → Option (List t.den)
 | .vp t' xs => if h:t' = t then some (h ▸ xs:List t.den) else none
 | _ => none
def ZDW (T:TypeId):RV → Option (List Int)
 | .bld U xs => bif Ja T U then some xs else none
 | _ => none
mutual
def dec:(k:Kd) → RV → Option k.den
 | .view t,r => Zku t r
 | .own t sh,r => ZJI t sh r
 | .box ks,r => (ZDX r).bind (Zc1 ks)
 | .agg ks,r => (asAgg r).bind (Zc1 ks)
 | .tup ks,r => (ZJK r).bind (Zc1 ks)
 | .fn f,r => ZUF f r
 | .bld T,r => ZDW T r
 | .use T,r => ZDW T r
 | .clo f ks,r => (ZJG f r).bind (Zc1 ks)
 | .ref ks,r => (ZDX r).bind (Zc1 ks)
 | .ns t,r => ZUG t r
 | .vp t,r => ZUH t r
def Zc1:(ks:List Kd) → List RV → Option (Kd.dens ks)
 | [],[] => some ()
 | [],_ :: _ => none
 | _ :: _,[] => none
 | k :: ks,x :: xs => (dec k x).bind fun y => (Zc1 ks xs).bind fun ys => some (y,ys)
end
theorem ZGC {t:Ty} {r:RV} {x:t.den} (h:Zku t r = some x):r = .view t x:=by
 unfold Zku at h
 grind
theorem ZJJ {t:Ty} {sh:Bool} {r:RV} {x:List t.den} (h:ZJI t sh r = some x):r = .own t sh x:=by
 unfold ZJI at h
 grind
theorem Zxs {r:RV} {cs:List RV} (h:ZDX r = some cs):r = .box cs:=by unfold ZDX at h; split at h <;> simp at h; rw [h]
theorem ZJF {r:RV} {cs:List RV} (h:asAgg r = some cs):r = .agg cs:=by unfold asAgg at h; split at h <;> simp at h; rw [h]
theorem ZJL {r:RV} {cs:List RV} (h:ZJK r = some cs):r = .tup cs:=by unfold ZJK at h; split at h <;> simp at h; rw [h]
theorem ZQz {f:Nat} {r:RV} {x:Unit} (h:ZUF f r = some x):r = .fn f:=by
 unfold ZUF at h
 split at h
 ·rename_i g
  cases hb:Ja f g with
  | false => rw [hb] at h; simp at h
  | true => rw [beq_eq hb]
 ·cases h
theorem ZJH {f:Nat} {r:RV} {cs:List RV} (h:ZJG f r = some cs):r = .clo f cs:=by
 unfold ZJG at h
 split at h
 ·rename_i g l
  cases hb:Ja f g with
  | false => rw [hb] at h; simp at h
  | true => simp_all
 ·cases h
theorem ZQA {t:Ty} {r:RV} {x:List t.den} (h:ZUG t r = some x):r = .ns t x:=by
 unfold ZUG at h
 grind
theorem ZQB {t:Ty} {r:RV} {x:List t.den} (h:ZUH t r = some x):r = .vp t x:=by
 unfold ZUH at h
 split at h
 ·split at h
  ·rename_i e; subst e; simp at h; rw [h]
  ·cases h
 ·cases h
theorem Zxr {T:TypeId} {r:RV} {x:List Int} (h:ZDW T r = some x):r = .bld T x:=by
 unfold ZDW at h
 split at h
 ·rename_i U xs
  cases hb:Ja T U with
  | false => rw [hb] at h; simp at h
  | true => simp_all
 ·cases h
mutual
theorem ZD3:(k:Kd) → (r:RV) → (x:k.den) → dec k r = some x → r = enc k x
 | .view t,r,x,h => by simp only [dec] at h; simp only [enc]; exact ZGC h
 | .own t sh,r,x,h => by simp only [dec] at h; simp only [enc]; exact ZJJ h
 | .box ks,r,x,h => by
  simp only [dec] at h
  obtain ⟨cs,h1,h2⟩:=Uy.1 h
  simp only [enc,Zxs h1,QH ks cs x h2]
 | .agg ks,r,x,h => by
  simp only [dec] at h
  obtain ⟨cs,h1,h2⟩:=Uy.1 h
  simp only [enc,ZJF h1,QH ks cs x h2]
 | .tup ks,r,x,h => by
  simp only [dec] at h
  obtain ⟨cs,h1,h2⟩:=Uy.1 h
  simp only [enc,ZJL h1,QH ks cs x h2]
 | .fn f,r,x,h => by simp only [dec] at h; simp only [enc]; exact ZQz h
 | .bld T,r,x,h => by simp only [dec] at h; simp only [enc]; exact Zxr h
 | .use T,r,x,h => by simp only [dec] at h; simp only [enc]; exact Zxr h
 | .clo f ks,r,x,h => by
  simp only [dec] at h
  obtain ⟨cs,h1,h2⟩:=Uy.1 h
  simp only [enc,ZJH h1,QH ks cs x h2]
 | .ns t,r,x,h => by simp only [dec] at h; simp only [enc]; exact ZQA h
 | .vp t,r,x,h => by simp only [dec] at h; simp only [enc]; exact ZQB h
 | .ref ks,r,x,h => by
  simp only [dec] at h
  obtain ⟨cs,h1,h2⟩:=Uy.1 h
  simp only [enc,Zxs h1,QH ks cs x h2]
theorem QH:(ks:List Kd) → (rs:List RV) → (x:Kd.dens ks) → Zc1 ks rs = some x → rs = Wp ks x
 | [],[],x,h => rfl
 | k :: ks,r :: rs,x,h => by
  simp only [Zc1] at h
  obtain ⟨y,h1,h⟩:=Uy.1 h
  obtain ⟨ys,h2,h⟩:=Uy.1 h
  cases h
  simp only [Wp,← ZD3 k r y h1,← QH ks rs ys h2]
 | [],_ :: _,x,h => by simp [Zc1] at h
 | _ :: _,[],x,h => by simp [Zc1] at h
end
theorem Zmk:(ks:List Kd) → (x:Kd.dens ks) → (Wp ks x).length = ks.length
 | [],_ => rfl
 | k :: ks,x => by simp only [Wp,JF,Zmk ks]
theorem ZwO {ks ls:List Kd} {as bs:List AV} (h:ks.length = as.length):Qx (ks ++ ls) (as ++ bs) = Qx ks as ++ Qx ls bs:=by
 induction ks generalizing as with
 | nil =>
  grind [Qx]
 | cons k ks ih =>
  cases as with
  | nil => simp at h
  | cons a as =>
   have ih:=ih (as:=as) (by simpa using h)
   cases k <;> simp [Qx,ih]
theorem Zun (a b:List AV):Yi (a ++ b) = (Yi a && Yi b):=by simp [Yi]
theorem Zmc:(ks:List Kd) → (x:Kd.dens ks) → (n:Nat) → Yi (Qx ks (ZS n (Wp ks x)).1) = true
 | [],_,n => rfl
 | k :: ks,x,n => by
  have ih:=Zmc ks x.2
  cases k with
  | box l =>
   simp only [Wp,enc,ZS,put,Qx,Yi,UA,UC] at ih ⊢
   exact ih _
  | bld T =>
   simp only [Wp,enc,ZS,put,Qx,Yi,UA,UC] at ih ⊢
   exact ih _
  | _ => grind [Wp,enc,ZS,Qx]
theorem ZoC:(ks:List Kd) → (x:Kd.dens ks) → (n:Nat) → Yi (Qx (ZQ ks) (Qg ks (ZS n (Wp ks x)).1)) = true
 | [],_,n => rfl
 | k :: ks,x,n => by
  have ih:=ZoC ks x.2
  cases k with
  | box l =>
   simp only [Wp,enc,ZS,put,ZQ,Qg,Qx,Yi,UA,UC] at ih ⊢
   exact ih _
  | bld T =>
   simp only [Wp,enc,ZS,put,ZQ,Qg,Qx,Yi,UA,UC] at ih ⊢
   exact ih _
  | clo f l =>
   simp only [Wp,enc,ZS,put,ZQ,Qg]
   rw [ZwO (by rw [ZfO]; exact (Zmk l x.1).symm),Zun,Jh]
   exact ⟨Zmc l x.1 n,ih _⟩
  | _ => grind [Wp,enc,ZS,ZQ,Qg,Qx]
abbrev Ans (pk:List Kd) (rk:Kd):Type:=rk.den × Kd.dens (XR (ZQ pk))
def ZJ1 (pk:List Kd) (rk:Kd) (r:RV × List RV):Option (Ans pk rk):=(dec rk r.1).bind fun x => (Zc1 (XR (ZQ pk)) r.2).bind fun l => some (x,l)
def ZUO (pk:List Kd) (rk:Kd) (x:Ans pk rk):RV × List RV:=(enc rk x.1,Wp (XR (ZQ pk)) x.2)
theorem ZGQ {pk:List Kd} {rk:Kd} {r:RV × List RV} {x:Ans pk rk} (h:ZJ1 pk rk r = some x):r = ZUO pk rk x:=by
 unfold ZJ1 at h
 obtain ⟨y,h1,h⟩:=Uy.1 h
 obtain ⟨ys,h2,h⟩:=Uy.1 h
 cases h
 obtain ⟨a,b⟩:=r
 simp only [ZUO,← ZD3 rk a y h1,← QH (XR (ZQ pk)) b ys h2]
def mk (pk:List Kd) (rk:Kd) (F:Nat → Kd.dens pk → Option (Ans pk rk)):Callee :=
 { ρ:=Ans pk rk,pk:=pk,run:=fun k rvs => (Zc1 pk rvs).bind (F k),enc:=ZUO pk rk }
theorem ZSL {C:Ctx} (hC:∀ f cal,C.Φ f = some cal → Ctr C.P C.k f cal) (hm:C.P.follows .mixedOrders = true) {A:Nat → Ann} {f k:Nat} {fn:Func} {code:Code} {pk:List Kd} {rk:Kd} {F:Nat → Kd.dens pk → Option (Ans pk rk)}
  (hf:C.P.funcs[f]? = some fn) (hb:fn.body = some code) (hname:(fn.name == "runtime.NumGoroutine") = false) (hfit:XQ C.P fn.ntmps code = true)
  (h:∀ x y,F k x = some y → ZDA C A fn.ntmps code fn.results.toList pk rk (Wp pk x) (ZJ1 pk rk) = some y):Ctr C.P k f (mk pk rk F):=by
 refine ZIJ (A:=A) (rk:=rk) hC hm hf hb hname hfit (fun rvs x hx => ?_) (fun rvs x hx => ?_)
 ·simp only [mk] at hx ⊢
  obtain ⟨y,h1,h2⟩:=Uy.1 hx
  rw [QH pk rvs y h1]
  exact ZoC pk y 0
 ·simp only [mk] at hx ⊢
  obtain ⟨y,h1,h2⟩:=Uy.1 hx
  have h3:=h y x h2
  rw [← QH pk rvs y h1,ZJb] at h3
  obtain ⟨r,h4,h5⟩:=Uy.1 h3
  rw [h4,ZGQ h5]
def phi:List (Nat × Callee) → Nat → Option Callee
 | [],_ => none
 | (f,c) :: l,g => bif Ja g f then some c else phi l g
theorem ZwX {P:Program} {k:Nat}:∀ {l:List (Nat × Callee)},(∀ p ∈ l,Ctr P k p.1 p.2) → ∀ f cal,phi l f = some cal → Ctr P k f cal
 | [],_,f,cal,h => by simp [phi] at h
 | (g,c) :: l,hl,f,cal,h => by
  simp only [phi] at h
  cases hb:Ja f g with
  | true => simp_all
  | false => rw [hb] at h; exact ZwX (fun p hp => hl p (by simp [hp])) f cal h
theorem ZDZ {P:Program} {k:Nat}:∀ p ∈ ([]:List (Nat × Callee)),Ctr P k p.1 p.2:=by intro p hp; simp at hp
theorem ZXt {P:Program} {k f:Nat} {c:Callee} {l:List (Nat × Callee)} (h:Ctr P k f c) (hl:∀ p ∈ l,Ctr P k p.1 p.2):∀ p ∈ (f,c) :: l,Ctr P k p.1 p.2:=by
 simp_all
def Zg {V R:Type} (step:(V → Option R) → V → Option R):Nat → V → Option R
 | 0,_ => none
 | n + 1,v => step (Zg step n) v
theorem ZzV {V R:Type} {L:Nat → V → Option R} {step:(V → Option R) → V → Option R} (h0:∀ v,L 0 v = none) (h:∀ n v,L (n + 1) v = step (L n) v):∀ n,L n = Zg step n
 | 0 => funext h0
 | n + 1 => funext fun v => by rw [h,ZzV h0 h n]; rfl
section
variable {R:Type}
def place (C:Ctx) (A:Nat → Ann) (kp:List Nat):List Nat → List Nat → Code → (Ex → St → Option R) → Code × (Ex → St → Option R)
 | 0 :: p,ns,.seq a b,K => place C A kp p ns a (ZPW (fun s => Xp C A kp b s K) K)
 | _ :: p,ns,.seq _ b,K => place C A kp p ns b K
 | 0 :: p,ns,.cond _ a _,K => place C A kp p ns a K
 | _ :: p,ns,.cond _ _ b,K => place C A kp p ns b K
 | _ :: p,ns,.block id c,K => place C A kp p ns c (Zul id K)
 | _ :: p,ns,.scope c,K => place C A kp p ns c K
 | _ :: p,n :: ns,.loop c,K => place C A kp p ns c fun e s => match e with
  | .normal => (Zr6 kp (A (Qo c)) s).bind fun s => ZgY (Xp C A kp c) (Zr6 kp (A (Qo c))) n s K
  | .exit i => K (.exit i) s
  | .ret => K .ret s
 | _,_,c,K => (c,K)
def ZWO (C:Ctx) (A:Nat → Ann) (kp:List Nat) (p ns:List Nat) (code:Code) (K:Ex → St → Option R) (n:Nat) (st:St):Option R :=
 match place C A kp p ns code K with
 | (.loop c,K) => ZgY (Xp C A kp c) (Zr6 kp (A (Qo c))) n st K
 | _ => none
end
end Go.Sh
