/-
  What the row needs, part 4.
-/
import Derived.Test.YtfljgkbgnfbhlaaXLeafKeeps3
import Derived.Scope
import Derived.LoopN
set_option linter.unusedSimpArgs false
set_option linter.unusedVariables false
set_option linter.unusedSectionVars false
open Array renaming replicate→UB
open Bool renaming and_eq_true→Jh,true_and→UC
open Go.Instr renaming loadAt→JZ
open List renaming mem_append→Js,all_cons→UA,mem_cons→VM,length_cons→JF,mem_map→VG,mem_append_left→JG
open Nat renaming beq→Ja,lt_of_lt_of_le→V0,le_of_ble_eq_true→Jt
open Option renaming bind_eq_some_iff→Uy,bind_assoc→Uz,bind_some→VK,some→VF
namespace Go.Sh
open Go
variable [Gl]
variable {C:Ctx} {G:Glob} {σ:Qt} {w:World} {lim:Nat → Nat} {st:St} {a:Act}
def Ex.out:Ex → Exit
 | .normal => .normal
 | .exit i => .exit i
 | .ret => .ret
def QU (P:Program) (n:Nat):Code → Bool
 | .region _ ops _ => ZcG P n ops.toList
 | .seq a b => QU P n a && QU P n b
 | .cond _ a b => QU P n a && QU P n b
 | .block _ c => QU P n c
 | .loop c => QU P n c
 | .scope c => QU P n c
 | _ => true
def Qn (G:Glob) (n:Nat) (st:St) (a:Act) (w:World):Prop := ∃ σ lim,Qd G σ lim st a.tmps w ∧ a.tmps.size = n ∧ a.defers = []
theorem ZiM {n:Nat} (h:Qn G n st a w) {c:Operand} {t:Bool} (hc:WW st.env c = .val (.v (.bool t))):a.eval c = .bool t:=by
 obtain ⟨σ,lim,h,_,_⟩:=h
 have:=(Zg h.1 c).1
 grind [RA,RP]
theorem ZaJ {n:Nat} (h:Qn G n st a w) {q:Nat} (hq:q < Zy):Qn G n (Zga st q) a w:=by
 obtain ⟨σ,lim,h,h2,h3⟩:=h
 unfold Zga
 split
 ·rename_i t xss hT
  obtain ⟨lim',h4⟩:=RelW.melt h.1 h.2 hq hT
  exact ⟨σ,lim',h4,h2,h3⟩
 ·exact ⟨σ,lim,h,h2,h3⟩
theorem Zdz {n:Nat} (h:Qn G n st a w) (id:Nat):Qn G n (Ks C id st) a w:=by
 have hL:Low G st:=by obtain ⟨_,_,⟨_,hL⟩,_,_⟩:=h; exact hL
 unfold Ks
 split
 ·split
  ·rename_i s _ _ q hs
   exact ZaJ h (hL.env s q (by rw [hs]; simp [Za]))
  ·exact h
 ·split
  ·rename_i s k _ _ r hs
   unfold ZjJ
   split
   ·rename_i cs hr
    split
    ·rename_i q hq
     exact ZaJ h (hL.box r cs hr q (Wt (List.mem_of_getElem? hq) (by simp [Za])))
    ·exact h
   ·exact h
  ·exact h
 ·exact h
theorem Qe (hC:∀ f cal,C.Φ f = some cal → Ctr C.P C.k f cal) (hm:C.P.follows .mixedOrders = true) {A:Nat → Ann} {kp:List Nat} (hk:∀ p ∈ G.pins,p.1 ∈ kp) {n:Nat} {R:Type} {r:R} :
  (c:Code) → {st:St} → {K:Ex → St → Option R} → QH C A kp c st K = some r → QU C.P n c = true → {a:Act} → {w:World} → Qn G n st a w → {Q:Exit → Act → World → Prop} →
  (∀ e st' a' w',K e st' = some r → Qn G n st' a' w' → Q e.out a' w') → c.wp C.P Q a w
 | .skip,st,K,h,hf,a,w,hs,Q,hQ => wp_skip (hQ .normal st a w h hs)
 | .label _,st,K,h,hf,a,w,hs,Q,hQ => wp_label (hQ .normal st a w h hs)
 | .ret,st,K,h,hf,a,w,hs,Q,hQ => wp_ret (hQ .ret st a w h hs)
 | .exit i,st,K,h,hf,a,w,hs,Q,hQ => wp_exit (hQ (.exit i) st a w h hs)
 | .region id ops d,st,K,h,hf,a,w,hs,Q,hQ => by
  simp only [QH] at h
  simp only [QU] at hf
  obtain ⟨σ,lim,hR,hn,hd⟩:=Zdz (C:=C) hs id
  have hb:∃ stf lgs,Zal C id ops.toList ops.toList 0 (Ks C id st) = some (stf,lgs) ∧ (d = true → Xa ops.toList (Wn ops.toList []) lgs = true) ∧ K .normal stf = some r:=by
   cases d with
   | false =>
    simp only [cond_false,ZdE] at h
    cases ho:Zal C id ops.toList ops.toList 0 (Ks C id st) with
    | none => rw [ho] at h; simp at h
    | some x => grind
   | true =>
    simp only [cond_true,Zaa,List.nil_append] at h
    cases ho:Zal C id ops.toList ops.toList 0 (Ks C id st) with
    | none => rw [ho] at h; simp at h
    | some x =>
     grind
  obtain ⟨stf,lgs,h1,h2,h3⟩:=hb
  exact ZdJ hC hm hf hR hn hd h1 h2 fun a' w' σ' lim' hR' hn' hd' => hQ .normal stf a' w' h3 ⟨σ',lim',hR',hn',hd'⟩
 | .seq x y,st,K,h,hf,a,w,hs,Q,hQ => by
  simp only [QH] at h
  simp only [QU,Jh] at hf
  refine wp_seq (Qe hC hm hk x h hf.1 hs fun e st' a' w' hK hs' => ?_)
  cases e with
  | normal => exact Qe hC hm hk y hK hf.2 hs' hQ
  | exit i => exact hQ (.exit i) st' a' w' hK hs'
  | ret => exact hQ .ret st' a' w' hK hs'
 | .cond c x y,st,K,h,hf,a,w,hs,Q,hQ => by
  simp only [QH] at h
  simp only [QU,Jh] at hf
  split at h
  ·rename_i t hc
   have e1:=ZiM hs hc
   cases t with
   | true =>
    refine wp_cond_true e1 (Qe hC hm (A:=A) hk x (K:=K) ?_ hf.1 hs hQ)
    cases c with
    | tmp d => simp_all [WW,cond_true,Zau hc]
    | _ => exact h
   | false =>
    refine wp_cond_false e1 (Qe hC hm (A:=A) hk y (K:=K) ?_ hf.2 hs hQ)
    cases c with
    | tmp d => simp_all [WW,cond_false,Zau hc]
    | _ => exact h
  ·simp at h
 | .block id c,st,K,h,hf,a,w,hs,Q,hQ => by
  simp only [QH] at h
  simp only [QU] at hf
  refine wp_block (Qe hC hm hk c h hf hs fun e st' a' w' hK hs' => ?_)
  cases e with
  | normal => exact hQ .normal st' a' w' hK hs'
  | ret => exact hQ .ret st' a' w' hK hs'
  | exit i =>
   simp only [Zc7] at hK
   simp only [Ex.out,Exit.inBlock]
   cases hb:Ja i id with
   | true => rw [hb] at hK; rw [if_pos (Zu hb)]; exact hQ .normal st' a' w' hK hs'
   | false =>
    rw [hb] at hK
    rw [if_neg (by rintro rfl; rw [Wd] at hb; cases hb)]
    exact hQ (.exit i) st' a' w' hK hs'
 | .loop c,st,K,h,hf,a,w,hs,Q,hQ => by
  simp only [QH] at h
  simp only [QU] at hf
  have key:∀ (m:Nat) (st:St) (a:Act) (w:World),Y9 (QH C A kp c) (Zcp kp (A (ZI c))) m st K = some r → Qn G n st a w → Code.rounds C.P c Q m a w:=by
   intro m
   induction m with
   | zero => intro st a w h; simp [Y9] at h
   | succ m ih =>
    intro st a w h hs
    rw [rounds_succ]
    simp only [Y9] at h
    refine Qe hC hm hk c h hf hs fun e st' a' w' hK hs' => ?_
    cases e with
    | ret => exact hQ .ret st' a' w' hK hs'
    | exit i => exact hQ (.exit i) st' a' w' hK hs'
    | normal =>
     cases hn:Zcp kp (A (ZI c)) st' with
     | none => rw [hn] at hK; simp at hK
     | some s =>
      rw [hn] at hK
      obtain ⟨σ,lim,hR,q1,q2⟩:=hs'
      obtain ⟨σ2,lim2,hR2⟩:=ZbP hR hk hn
      exact ih s a' w' hK ⟨σ2,lim2,hR2,q1,q2⟩
  cases hn:Zcp kp (A (ZI c)) st with
  | none => rw [hn] at h; simp at h
  | some s =>
   rw [hn] at h
   obtain ⟨σ,lim,hR,q1,q2⟩:=hs
   obtain ⟨σ2,lim2,hR2⟩:=ZbP hR hk hn
   exact wp_loop_rounds C.k (key C.k s a w h ⟨σ2,lim2,hR2,q1,q2⟩)
 | .scope c,st,K,h,hf,a,w,hs,Q,hQ => by
  simp only [QH] at h
  simp only [QU] at hf
  refine wp_scope_straight (Qe hC hm hk c h hf hs fun e st' a' w' hK hs' => ?_)
  cases e <;> exact hQ _ st' a' w' hK hs'
 | .rangeFunc _ _ _ _,st,K,h,hf,a,w,hs,Q,hQ => by simp [QH] at h
 | .goto _,st,K,h,hf,a,w,hs,Q,hQ => by simp [QH] at h
end Go.Sh
namespace Go.Sh
open Go
variable [Gl]
variable {C:Ctx} {G:Glob} {σ:Qt} {w:World} {lim:Nat → Nat} {st:St} {tmps:Array Value}
theorem Zfj {P:Program} {T:TypeId} {v x:Value} (h:(JZ T v).run P w = .ok x w):(asAddr v >>= fun p => loadVar T p:Sem Value).run P w = .ok x w:=by
 unfold JZ at h
 unfold Instr.sureAddr at h
 split at h
 ·simpa [asAddr] using h
 ·simp [stuck,Sem.run_bind] at h
def Zb2 (tmps:Array Value):ResultVar → Sem Value
 | .tmp t => pure (tmps.getD t undef)
 | .cell a t => do loadVar t (← asAddr (tmps.getD a undef))
theorem Zb1 (h:RelW G σ lim st tmps w) {r:ResultVar} {l l':List Nat} {x:AV} (hm:(XO C st r).run st.tbl l = some (x,l')) :
  ∃ v,(Zb2 tmps r).run C.P w = .ok v w ∧ RA σ w lim x v ∧ Zd st.tbl (Za x):=by
 cases r with
 | tmp t =>
  obtain ⟨rfl,_⟩:=M.run_ret hm
  exact ⟨_,rfl,h.env t,h.known t⟩
 | cell a T =>
  simp only [XO] at hm
  obtain ⟨e,l1,h1,h2⟩:=M.run_bind_some hm
  obtain ⟨rfl,_⟩:=M.run_ret h2
  obtain ⟨v,e1,e2,e3,e4⟩:=ZbG h1 (h.env a) h.res
  exact ⟨v,Zfj e1,e2,e3⟩
theorem Yi (h:RelW G σ lim st tmps w):(rs:List ResultVar) → {l l':List Nat} → {xs:List AV} → (Wa C st rs).run st.tbl l = some (xs,l') →
  ∃ vs,(rs.mapM (Zb2 tmps)).run C.P w = .ok vs w ∧ Zw σ w lim xs vs ∧ Zd st.tbl (Zc xs)
 | [],l,l',xs,hm => by
  obtain ⟨rfl,_⟩:=M.run_ret hm
  simp_all [Zw,Zc,Zd]
 | r :: rs,l,l',xs,hm => by
  simp only [Wa] at hm
  obtain ⟨x,l1,h1,h2⟩:=M.run_bind_some hm
  obtain ⟨ys,l2,h3,h4⟩:=M.run_bind_some h2
  obtain ⟨rfl,_⟩:=M.run_ret h4
  obtain ⟨v,e1,e2,e3⟩:=Zb1 h h1
  obtain ⟨vs,f1,f2,f3⟩:=Yi h rs h3
  refine ⟨v :: vs,?_,by simp only [Zw]; exact ⟨e2,f2⟩,?_⟩
  ·simp_all
  ·intro i hi; simp only [Zc,Js] at hi; rcases hi with hi | hi; exact e3 i hi; exact f3 i hi
theorem Ke {st st2:St} (he:st2.env = st.env):∀ (rs:List ResultVar),Wa C st rs = Wa C st2 rs
 | [] => rfl
 | r :: rs => by
  have h1:XO C st r = XO C st2 r:=by cases r <;> simp only [XO,he]
  simp only [Wa,h1,Ke he rs]
theorem Zcr (h:RelW G σ lim st tmps w) {fn:Func} {l l':List Nat} {xs:List AV} (hm:(Wa C st fn.results.toList).run st.tbl l = some (xs,l')) :
  ∃ v,(results fn tmps).run C.P w = .ok v w ∧ RA σ w lim (match (generalizing:=false) xs with | [a] => a | as => .tup as) v:=by
 obtain ⟨vs,e1,e2,e3⟩:=Yi h _ hm
 have e0:results fn tmps = (do let vs ← fn.results.mapM (Zb2 tmps); pure (if h:vs.size = 1 then vs[0] else .tuple vs)):=by
  unfold results
  congr 1
 rw [e0,Array.mapM_eq_mapM_toList]
 match xs,vs,e2 with
 | [x],[v],e2 =>
  simp_all [Zw,Sem.run_bind,Sem.run_map,e1]
 | [],[],e2 =>
  simp_all [RA,Zw,Sem.run_bind,Sem.run_map,e1]
 | x :: y :: xs,v :: u :: vs,e2 =>
  simp_all [RA,Sem.run_bind,Sem.run_map,e1]
 | [],_ :: _,e2 => simp [Zw] at e2
 | _ :: _,[],e2 => simp [Zw] at e2
 | [_],_ :: _ :: _,e2 => simp [Zw] at e2
 | _ :: _ :: _,[_],e2 => simp [Zw] at e2
def QW:List Kd → List Value → List Value
 | .box _ :: l,a :: as => a :: QW l as
 | .bld _ :: l,a :: as => a :: QW l as
 | _ :: l,_ :: as => QW l as
 | _,_ => []
def Wy:List AV → List Value → List (Nat × Value)
 | .bx r _ :: l,v :: vs => (r,v) :: Wy l vs
 | _ :: l,_ :: vs => Wy l vs
 | _,_ => []
theorem KT:(as:List AV) → (vs:List Value) → ∀ p ∈ Wy as vs,p.1 ∈ Qj as
 | [],vs,p,hp => by cases vs <;> simp [Wy] at hp
 | x :: as,[],p,hp => by cases x <;> simp [Wy] at hp
 | x :: as,v :: vs,p,hp => by
  cases x with
  | bx r k =>
   simp only [Wy,VM] at hp
   simp only [Qj,VM]
   rcases hp with rfl | hp
   ·exact .inl rfl
   ·exact .inr (KT as vs p hp)
  | _ => simp only [Wy] at hp; simp only [Qj]; exact KT as vs p hp
theorem Zf9:(pk:List Kd) → {as:List AV} → {vs:List Value} → Zw σ w lim as vs → Zw σ w lim (ZM pk as) (QW pk vs)
 | [],as,vs,h => by grind [ZM,QW,Zw]
 | k :: pk,as,vs,h => by
  match as,vs,h with
  | [],[],h => cases k <;> simp [ZM,QW,Zw]
  | x :: as,v :: vs,h =>
   simp only [Zw] at h
   have ih:=Zf9 pk h.2
   cases k <;> simp only [ZM,QW,Zw] <;> first | exact ih | exact ⟨h.1,ih⟩
  | [],_ :: _,h => simp [Zw] at h
  | _ :: _,[],h => simp [Zw] at h
def We (as:List AV):Bool:=as.all fun | .bx _ 0 => true | _ => false
theorem Zkp {as:List AV} {vs:List Value} (hb:We as = true) (h:Zw σ w lim as vs):∀ p ∈ Wy as vs,σ p.1 = p.2:=by
 induction as generalizing vs with
 | nil => grind [Wy]
 | cons x as ih =>
  cases vs with
  | nil => simp [Zw] at h
  | cons v vs =>
   simp only [Zw] at h
   simp only [We,UA,Jh] at hb
   intro p hp
   obtain ⟨hb1,hb2⟩:=hb
   split at hb1
   ·rename_i r
    simp only [Wy,VM] at hp
    rcases hp with rfl | hp
    ·grind [RA]
    ·exact ih hb2 h.2 p hp
   ·cases hb1
theorem Zfx {σ':Qt} {w':World} {lim':Nat → Nat} {as:List AV} {vs:List Value} (hb:We as = true) (h:Zw σ w lim as vs) (hp:∀ p ∈ Wy as vs,σ' p.1 = p.2):Zw σ' w' lim' as vs:=by
 induction as generalizing vs with
 | nil => cases vs <;> simp [Zw] at h ⊢
 | cons x as ih =>
  cases vs with
  | nil => simp [Zw] at h
  | cons v vs =>
   simp only [Zw] at h ⊢
   simp only [We,UA,Jh] at hb
   obtain ⟨hb1,hb2⟩:=hb
   split at hb1
   ·rename_i r
    simp only [Wy,VM] at hp
    refine ⟨?_,ih hb2 h.2 fun p hm => hp p (.inr hm)⟩
    have h1:=h.1
    simp only [RA] at h1 ⊢
    obtain ⟨b,e1,e2⟩:=h1
    simp_all
   ·cases hb1
theorem Zgp:(pk:List Kd) → {vs:List Value} → {rs:List RV} → {bs:List Nat} → vs.length = pk.length → Y4 w lim rs (QW pk vs) bs → TL w lim pk vs rs bs
 | [],[],rs,bs,_,h => by
  grind [QW,TL,Y4]
 | k :: pk,v :: vs,rs,bs,hl,h => by
  have hl':vs.length = pk.length:=by simpa using hl
  cases k with
  | box l =>
   simp only [QW] at h
   cases rs with
   | nil => simp [Y4] at h
   | cons x rs =>
    simp only [Y4] at h
    simp only [TL]
    obtain ⟨b1,b2,e,h1,h2⟩:=h
    exact ⟨b1,b2,e,h1,Zgp pk hl' h2⟩
  | bld T =>
   simp only [QW] at h
   cases rs with
   | nil => simp [Y4] at h
   | cons x rs =>
    simp only [Y4] at h
    simp only [TL]
    obtain ⟨b1,b2,e,h1,h2⟩:=h
    exact ⟨b1,b2,e,h1,Zgp pk hl' h2⟩
  | _ => simp only [QW] at h; simp only [TL]; exact Zgp pk hl' h
 | [],_ :: _,rs,bs,hl,_ => by simp at hl
 | _ :: _,[],rs,bs,hl,_ => by simp at hl
theorem XU:∀ (u:Z5),Ql u = ZA.put (fun _ => .fresh) u
 | [] => rfl
 | (a,x) :: u => by
  funext r
  simp only [Ql,ZA.put,Zk,XU u]
  grind
theorem Xk:∀ (as:List AV) (i s:Nat),Qm (index i as) s = .dead ∨ ∃ j,s = i + j ∧ as[j]? = some (Qm (index i as) s)
 | [],i,s => .inl rfl
 | x :: as,i,s => by
  simp only [index,Qm]
  cases h:Ja s i with
  | true => simp_all
  | false =>
   simp only [cond_false]
   rcases Xk as (i + 1) s with h | ⟨j,h1,h2⟩
   ·exact .inl h
   ·exact .inr ⟨j + 1,by omega,by simpa using h2⟩
theorem ZcL {as:List AV} {j:Nat} {x:AV} (h:as[j]? = some x):∀ r ∈ Za x,r ∈ Zc as:=by
 induction as generalizing j with
 | nil => simp at h
 | cons y as ih =>
  grind [Zc]
theorem Kj {as:List AV} {vs:List Value} (h:Zw σ w lim as vs):as.length = vs.length:=by
 induction as generalizing vs with
 | nil => cases vs <;> simp [Zw] at h ⊢
 | cons x as ih =>
  cases vs with
  | nil => simp [Zw] at h
  | cons v vs => simp only [Zw] at h; simp [ih h.2]
theorem YM:(xs:List RV) → (n:Nat) → (Zo n xs).1.length = xs.length
 | [],n => rfl
 | x :: xs,n => by simp only [Zo,JF,YM xs]
theorem Q3:(pk:List Kd) → (as:List AV) → ∀ r ∈ Qj (ZM pk as),r ∈ Zc as
 | [],as,r,hr => by contradiction
 | k :: pk,[],r,hr => by grind [ZM,Qj]
 | k :: pk,x :: as,r,hr => by
  simp only [Zc,Js]
  cases k with
  | box l =>
   simp only [ZM] at hr
   cases x with
   | bx b j =>
    simp only [Qj,VM] at hr
    rcases hr with rfl | hr
    ·exact .inl (by simp [Za])
    ·exact .inr (Q3 pk as r hr)
   | _ => simp only [Qj] at hr; exact .inr (Q3 pk as r hr)
  | bld T =>
   simp only [ZM] at hr
   cases x with
   | bx b j =>
    simp only [Qj,VM] at hr
    rcases hr with rfl | hr
    ·exact .inl (by simp [Za])
    ·exact .inr (Q3 pk as r hr)
   | _ => simp only [Qj] at hr; exact .inr (Q3 pk as r hr)
  | _ => simp only [ZM] at hr; exact .inr (Q3 pk as r hr)
mutual
theorem Zi7:(x:RV) → (n:Nat) → (∀ r ∈ Za (put n x).1,r < (put n x).2.2) ∧ ∀ p ∈ (put n x).2.1,p.1 < (put n x).2.2 ∧ Xc p.2 = true ∧ ∀ cs,p.2 = .live (.box cs) → ∀ q ∈ Zc cs,q < (put n x).2.2
 | .view t x,n => by simp only [put]; rw [Zbf]; simp
 | .own t sh xs,n => by simp [put,Za,Xc]
 | .box cs,n => by
  obtain ⟨h1,h2⟩:=XM cs (n + 1)
  have hle:=QB cs (n + 1)
  simp only [put]
  refine ⟨by intro r hr; simp [Za] at hr; omega,fun p hp => ?_⟩
  cases hp with
  | head => exact ⟨by simp only; omega,rfl,fun ds hd => by simp only [RS.live.injEq,Res.box.injEq] at hd; subst hd; exact h1⟩
  | tail _ hp => exact h2 p hp
 | .agg cs,n => by
  obtain ⟨h1,h2⟩:=XM cs n
  simp only [put]
  exact ⟨by simpa [Za] using h1,h2⟩
 | .tup cs,n => by
  obtain ⟨h1,h2⟩:=XM cs n
  simp only [put]
  exact ⟨by simpa [Za] using h1,h2⟩
 | .fn f,n => by simp [put,Za]
 | .ns t xs,n => by simp [put,Za]
 | .vp t xs,n => by simp [put,Za]
 | .clo f cs,n => by
  obtain ⟨h1,h2⟩:=XM cs n
  simp only [put]
  exact ⟨by simpa [Za] using h1,h2⟩
 | .bld T xs,n => by
  simp only [put]
  refine ⟨by intro r hr; simp [Za] at hr; omega,fun p hp => ?_⟩
  simp only [VM,List.not_mem_nil,or_false] at hp
  rcases hp with rfl | rfl
  ·refine ⟨by simp only; omega,rfl,fun cs hc q hq => ?_⟩
   simp only [RS.live.injEq,Res.box.injEq] at hc
   subst hc
   simp [Zc,Za] at hq
   omega
  ·exact ⟨by simp only; omega,rfl,fun cs hc => by cases hc⟩
theorem XM:(xs:List RV) → (n:Nat) → (∀ r ∈ Zc (Zo n xs).1,r < (Zo n xs).2.2) ∧ ∀ p ∈ (Zo n xs).2.1,p.1 < (Zo n xs).2.2 ∧ Xc p.2 = true ∧ ∀ cs,p.2 = .live (.box cs) → ∀ q ∈ Zc cs,q < (Zo n xs).2.2
 | [],n => by simp [Zo,Zc]
 | x :: xs,n => by
  obtain ⟨h1,h2⟩:=Zi7 x n
  obtain ⟨h3,h4⟩:=XM xs (put n x).2.2
  have hle:=QB xs (put n x).2.2
  simp only [Zo]
  refine ⟨fun r hr => ?_,fun p hp => ?_⟩
  ·simp only [Zc,Js] at hr
   rcases hr with hr | hr
   ·have:=h1 r hr; omega
   ·exact h3 r hr
  ·rcases Js.1 hp with hp | hp
   ·exact h4 p hp
   ·obtain ⟨a,b,c⟩:=h2 p hp
    exact ⟨by omega,b,fun cs hc q hq => by have:=c cs hc q hq; omega⟩
end
theorem ZgG:QP (fun _ => .fresh) = fun _ => .fresh:=by
 funext n
 simp only [QP,Y1,ite_self]
theorem ZjW {avs:List AV} {u:Z5} (h:RelW G σ lim (enter avs u) tmps w) (hu:∀ p ∈ u,p.1 < Zy ∧ Xc p.2 = true ∧ ∀ cs,p.2 = .live (.box cs) → ∀ q ∈ Zc cs,q < Zy)
  (hids:∀ r ∈ Zc avs,r < Zy) (hp:∀ p ∈ G.pins,p.1 < Zy):Qd G σ lim (enter avs u) tmps w:=by
 have e:Ql u = ZA.put (fun _ => .fresh) u:=XU u
 unfold enter at h ⊢
 rw [e] at h ⊢
 refine Qd.of_put (T:=fun _ => .fresh) (by rw [ZgG]; exact h) (fun p hp => ⟨(hu p hp).1,(hu p hp).2.1⟩) ⟨fun s r hr => ?_,fun r cs hr => ?_,hp⟩
 ·simp only at hr
  rcases Xk avs 0 s with h | ⟨j,h1,h2⟩
  ·rw [h] at hr; simp [Za] at hr
  ·exact hids r (ZcL h2 r hr)
 ·simp only [ZA.put] at hr
  cases hl:Zk u r with
  | none => rw [hl] at hr; cases hr
  | some z => rw [hl] at hr; simp only at hr; exact (hu _ (Z8 hl)).2.2 cs hr
theorem Zbx:(ks:List Kd) → (as:List AV) → QG ks as = true → (ZD ks as).length = (Zp ks).length
 | [],[],_ => rfl
 | [],_ :: _,h => by simp [QG] at h
 | k :: ks,[],h => by cases k <;> simp [QG] at h
 | k :: ks,a :: as,h => by
  cases k with
  | clo f l =>
   cases a with
   | clo g cs =>
    simp only [QG,Jh] at h
    have:=Zu h.1
    simp only [ZD,Zp,List.length_append,Zbx ks as h.2,this]
   | _ => simp [QG] at h
  | _ => grind [QG,ZD,Zp,JF,Zbx ks as h]
def KR:List Kd → Nat
 | [] => 0
 | .ref _ :: l => KR l + 1
 | _ :: l => KR l
theorem ZaH:(ks:List Kd) → WN ks = false → KR ks = 0
 | [],_ => rfl
 | k :: ks,h => by
  cases k with
  | ref l => simp [WN] at h
  | _ => simp only [WN] at h; simp only [KR]; exact ZaH ks h
theorem X9:(ks:List Kd) → (cs:List AV) → {q:List Nat} → Zj ks cs = some q → q.length = KR ks
 | [],[],q,h => by simp [Zj] at h; subst h; rfl
 | k :: ks,a :: as,q,h => by
  have other:(∀ l,k ≠ .ref l) → q.length = KR (k :: ks):=by
   intro hk
   have e:Zj (k :: ks) (a :: as) = Zj ks as:=by cases k <;> first | rfl | exact absurd rfl (hk _)
   have e2:KR (k :: ks) = KR ks:=by cases k <;> first | rfl | exact absurd rfl (hk _)
   rw [e] at h
   rw [e2]; exact X9 ks as h
  cases k with
  | ref l =>
   cases a with
   | bx s kk =>
    cases kk with
    | succ kk => simp [Zj] at h
    | zero =>
     simp only [Zj] at h
     cases hq2:Zj ks as with
     | none => rw [hq2] at h; simp at h
     | some q2 =>
      grind [VF.injEq,JF,KR,X9 ks as hq2]
   | _ => simp [Zj] at h
  | _ => exact other (by intro l; simp)
 | [],_ :: _,q,h => by simp [Zj] at h
 | k :: _,[],q,h => by cases k <;> simp [Zj] at h
theorem K1 {σ:Qt}:(ks:List Kd) → (q:List Nat) → (vs vs':List Value) → q.length = KR ks → ZC σ q ks vs → ZC σ q ks vs' → Wm ks vs vs'
 | [],q,vs,vs',_,_,_ => by simp [Wm]
 | k :: ks,q,[],vs',_,_,_ => by cases k <;> simp [Wm]
 | k :: ks,q,v :: vs,[],_,_,_ => by cases k <;> simp [Wm]
 | k :: ks,q,v :: vs,v' :: vs',hl,h,h' => by
  have other:(∀ l,k ≠ .ref l) → Wm (k :: ks) (v :: vs) (v' :: vs'):=by
   intro hk
   have e2:KR (k :: ks) = KR ks:=by cases k <;> first | rfl | exact absurd rfl (hk _)
   have e3:Wm (k :: ks) (v :: vs) (v' :: vs') = Wm ks vs vs':=by cases k <;> first | rfl | exact absurd rfl (hk _)
   rw [e3]
   rw [e2] at hl
   cases q with
   | nil => exact K1 (σ:=σ) ks [] vs vs' hl Z3 Z3
   | cons q0 q =>
    have e4:∀ (u:Value) (us:List Value),ZC σ (q0 :: q) (k :: ks) (u :: us) = ZC σ (q0 :: q) ks us:=by intro u us; cases k <;> first | rfl | exact absurd rfl (hk _)
    rw [e4] at h h'
    exact K1 ks (q0 :: q) vs vs' hl h h'
  cases k with
  | ref l =>
   cases q with
   | nil => simp [KR] at hl
   | cons q0 q =>
    simp only [ZC] at h h'
    simp only [Wm]
    exact ⟨h'.1.trans h.1.symm,K1 ks q vs vs' (by simpa [KR] using hl) h.2 h'.2⟩
  | _ => exact other (by intro l; simp)
theorem Zao {σ1:Qt} {w0:World} (h:RelW G σ lim st tmps w):(ks:List Kd) → {as:List AV} → {vs:List Value} → {l l':List Nat} → {nm:List (List Nat)} → (WQ ks as).run st.tbl l = some (nm,l') → Zw σ w lim as vs → Qs σ1 w0 nm ks vs → (∀ q ∈ nm.flatten,σ q = σ1 q) → Wo w0 w ks vs
 | [],as,vs,l,l',nm,hm,hv,hr,hq => by cases vs <;> simp [Wo]
 | k :: ks,[],vs,l,l',nm,hm,hv,hr,hq => by
  match vs,hv with
  | [],_ => cases k <;> simp [Wo]
 | k :: ks,a :: as,vs,l,l',nm,hm,hv,hr,hq => by
  match vs,hv with
  | v :: vs,hv =>
   simp only [Zw] at hv
   have other:(∀ l,k ≠ .box l) → Wo w0 w (k :: ks) (v :: vs):=fun hk => by
    rw [Xf hk] at hm
    have e:Wo w0 w (k :: ks) (v :: vs) = Wo w0 w ks vs:=by cases k <;> first | rfl | exact absurd rfl (hk _)
    have e2:Qs σ1 w0 nm (k :: ks) (v :: vs) = Qs σ1 w0 nm ks vs:=by cases k <;> first | (cases nm <;> rfl) | exact absurd rfl (hk _)
    rw [e]
    rw [e2] at hr
    exact Zao h ks hm hv.2 hr hq
   cases k with
   | box l0 =>
    cases a with
    | bx r kk =>
     cases kk with
     | succ kk => exact (M.run_fail hm).elim
     | zero =>
      simp only [WQ] at hm
      obtain ⟨q0,l5,h5,h6⟩:=M.run_bind_some hm
      obtain ⟨qs,l6,h7,h8⟩:=M.run_bind_some h6
      obtain ⟨h9,_⟩:=M.run_ret h8
      subst h9
      simp only [Qs] at hr
      simp only [Wo]
      refine ⟨fun b cs T fz cs' T' fz' e1 e2 e3 => ?_,Zao h ks h7 hv.2 hr.2 (fun q' hq' => hq q' (by simp_all))⟩
      have hold:=hr.1 b cs T fz e1 e2
      cases hh:WN l0 with
      | false =>
       have hz:=ZaH l0 hh
       exact K1 (σ:=σ) l0 [] _ _ (by simp [hz]) Z3 Z3
      | true =>
       unfold XY at h5
       rw [hh] at h5
       simp only [cond_true,M.run] at h5
       cases hrr:st.tbl r with
       | fresh => simp [hrr,M.run] at h5
       | gone => simp [hrr,M.run] at h5
       | live y =>
        cases y with
        | arr => simp [hrr,M.run] at h5
        | nest => simp [hrr,M.run] at h5
        | box as0 =>
         simp only [hrr] at h5
         have hn:=M.run_ofOpt h5
         obtain ⟨hR,_⟩:=h.res r _ hrr
         obtain ⟨b0,ws,U,f1,f2,f3,f4,_⟩:=Q9 hv.1 hR
         rw [e1] at f2
         obtain rfl:b = b0:=by simpa using f2
         rw [e3] at f3
         obtain ⟨rfl,_⟩:cs' = ws ∧ _:=by simpa using f3
         have hnew:=Wk l0 as0 hn f4 (KB l0 cs'.toList)
         exact K1 (σ:=σ1) l0 q0 _ _ (X9 l0 as0 hn) hold (QR _ _ _ (fun q' hq' => (hq q' (by simp_all)).symm) hnew)
    | _ => exact (M.run_fail hm).elim
   | _ => exact other (by intro l; simp)
  | [],hv => simp [Zw] at hv
theorem ZcR (h : RelW G σ lim st tmps w) : (ks : List Kd) → {as : List AV} → {vs : List Value} → We as = true → Zw σ w lim as vs → Qs σ w (Xp st.tbl ks as) ks vs
  | [], as, vs, hb, hv => by
    grind [Qs]
  | k :: ks, [], vs, hb, hv => by
    match vs, hv with
    | [], _ => cases k <;> simp [Xp, Qs]
  | k :: ks, a :: as, vs, hb, hv => by
    match vs, hv with
    | v :: vs, hv =>
      simp only [Zw] at hv
      simp only [We, UA, Jh] at hb
      have ih := ZcR h ks hb.2 hv.2
      have other : (∀ l, k ≠ .box l) → Qs σ w (Xp st.tbl (k :: ks) (a :: as)) (k :: ks) (v :: vs) := fun hk => by
        have e : Xp st.tbl (k :: ks) (a :: as) = Xp st.tbl ks as := by cases k <;> first | rfl | exact absurd rfl (hk _)
        rw [e]
        have e2 : ∀ nm, Qs σ w nm (k :: ks) (v :: vs) = Qs σ w nm ks vs := by intro nm; cases k <;> first | (cases nm <;> rfl) | exact absurd rfl (hk _)
        rw [e2]; exact ih
      cases k with
      | box l0 =>
        cases a with
        | bx r kk =>
         cases kk with
         | succ kk => simp at hb
         | zero =>
          simp only [Xp, Qs]
          refine ⟨fun b cs T fz e1 e2 => ?_, ih⟩
          cases hh : WN l0 with
          | false => exact Z3
          | true =>
            simp only [cond_true]
            cases hr : st.tbl r with
            | fresh => exact Z3
            | gone => exact Z3
            | live y =>
              cases y with
              | arr => exact Z3
              | nest => exact Z3
              | box as0 =>
                simp only
                cases hn : Zj l0 as0 with
                | none => exact Z3
                | some q =>
                  obtain ⟨hR, _⟩ := h.res r _ hr
                  obtain ⟨b0, ws, U, f1, f2, f3, f4, _⟩ := Q9 hv.1 hR
                  rw [e1] at f2
                  obtain rfl : b = b0 := by simpa using f2
                  rw [e2] at f3
                  obtain ⟨rfl, _⟩ : cs = ws ∧ _ := by simpa using f3
                  exact Wk l0 as0 hn f4 (KB l0 cs.toList)
        | _ => simp at hb
      | _ => exact other (by intro l; simp)
    | [], hv => simp [Zw] at hv
theorem Xq {tbl:ZA} {lim:Nat → Nat} (hres:∀ r x,tbl r = .live x → RR σ w lim r x ∧ Zd tbl (ZF r x)):(ks:List Kd) → (as:List AV) → ∀ q ∈ (Xp tbl ks as).flatten,∃ r cs,tbl r = .live (.box cs) ∧ q ∈ Zc cs
 | [],as,q,hq => by
  contradiction
 | k :: ks,[],q,hq => by
  have:Xp tbl (k :: ks) [] = []:=by cases k <;> rfl
  rw [this] at hq; simp at hq
 | k :: ks,a :: as,q,hq => by
  have other:Xp tbl (k :: ks) (a :: as) = Xp tbl ks as → ∃ r cs,tbl r = .live (.box cs) ∧ q ∈ Zc cs:=fun e => by
   rw [e] at hq
   exact Xq hres ks as q hq
  cases k with
  | box l0 =>
   cases a with
   | bx r kk =>
    cases kk with
    | succ kk => exact other rfl
    | zero =>
     simp only [Xp,List.flatten_cons,Js] at hq
     rcases hq with hq | hq
     ·cases hh:WN l0 with
      | false => rw [hh] at hq; simp at hq
      | true =>
       rw [hh] at hq
       simp only [cond_true] at hq
       cases hr:tbl r with
       | fresh => rw [hr] at hq; simp at hq
       | gone => rw [hr] at hq; simp at hq
       | live y =>
        rw [hr] at hq
        cases y with
        | arr => simp at hq
        | nest => simp at hq
        | box as0 =>
         simp only at hq
         cases hn:Zj l0 as0 with
         | none => rw [hn] at hq; simp at hq
         | some q' => rw [hn] at hq; exact ⟨r,as0,hr,WX l0 as0 hn q hq⟩
     ·exact Xq hres ks as q hq
   | _ => exact other rfl
  | _ => exact other rfl
theorem Zig : {a b:List Nat} → nEq a b = true → a = b
 | [],[],_ => rfl
 | x :: a,y :: b,h => by
  simp only [nEq,Jh] at h
  rw [Zu h.1,Zig h.2]
 | [],_ :: _,h => by simp [nEq] at h
 | _ :: _,[],h => by simp [nEq] at h
theorem Zgb : {a b:List (List Nat)} → ZgR a b = true → a = b
 | [],[],_ => rfl
 | x :: a,y :: b,h => by
  simp only [ZgR,Jh] at h
  rw [Zig h.1,Zgb h.2]
 | [],_ :: _,h => by simp [ZgR] at h
 | _ :: _,[],h => by simp [ZgR] at h
theorem YY {w0:World}:(ks:List Kd) → (vs:List Value) → Wo w0 w (QV ks) (QW ks vs) → Wo w0 w ks vs
 | [],vs,_ => by cases vs <;> simp [Wo]
 | k :: ks,[],_ => by cases k <;> simp [Wo]
 | k :: ks,v :: vs,h => by
  cases k with
  | box l =>
   simp only [QV,QW,Wo] at h ⊢
   exact ⟨h.1,YY ks vs h.2⟩
  | bld T =>
   simp only [QV,QW,Wo] at h ⊢
   exact YY ks vs h
  | _ => simp only [QV,QW] at h; simp only [Wo]; exact YY ks vs h
theorem Zdc {rvs:List RV} {vs:List Value} {bs:List Nat} {pk:List Kd} {n:Nat} (hlz:∀ b,w.heap.size ≤ b → lim b = 0) (hgl:Zcb w lim) (hT:Y4 w lim rvs vs bs) (hnd:bs.Nodup) (hbs:∀ b ∈ bs,b < w.heap.size)
    (hn:rvs.length ≤ n) (hin:(Zo 0 rvs).2.2 ≤ Zy) (hco:QG pk (Zo 0 rvs).1 = true) (hb:We (ZM (Zp pk) (ZD pk (Zo 0 rvs).1)) = true) :
    ∃ σ,Qn ⟨w,lim,bs,Wy (ZM (Zp pk) (ZD pk (Zo 0 rvs).1)) (QW (Zp pk) (Qy pk vs)) ++ (Xy pk rvs).flatten.map (fun q => (q,σ q))⟩ n (enter (Zo 0 rvs).1 (Zo 0 rvs).2.1) { tmps:=vs.toArray ++ UB (n - vs.toArray.size) undef,defers:=[] } w ∧
      Zw σ w lim (ZM (Zp pk) (ZD pk (Zo 0 rvs).1)) (QW (Zp pk) (Qy pk vs)) ∧ vs.length = rvs.length ∧ (Qy pk vs).length = (Zp pk).length ∧ Qs σ w (Xy pk rvs) (QV (Zp pk)) (QW (Zp pk) (Qy pk vs)):=by
  have h0:RelW ⟨w,lim,bs,[]⟩ (fun _ => undef) lim ⟨fun _ => .dead,fun _ => .fresh⟩ (vs.toArray ++ UB (n - vs.toArray.size) undef) w :=
    { env:=by intro s; simp [RA]
      known:=by intro s; simp [Za,Zd]
      res:=by intro r x h; simp at h
      inj:=by intro r r' b h; simp [Zt] at h
      own:=by intro r b h; simp [Zt] at h
      ext:=Ext.refl _ _
      keep:=fun _ _ _ => rfl
      same:=⟨rfl,rfl,rfl⟩
      lz:=hlz
      limk:=fun _ _ _ => rfl
      glob:=hgl
      pin:=by intro p hp; simp at hp }
  obtain ⟨σ,hP,hA,hK⟩:=QK rvs 0 h0 hT (fun _ _ _ => rfl) ⟨hnd,fun b hb => ⟨.inr hb,by intro r h; simp [Zt] at h⟩⟩
  have hlen:vs.length = rvs.length:=by rw [← YM rvs 0]; exact (Kj hA).symm
  have hfA:=ZaY pk hco hA
  have hL:=Zf9 (Zp pk) hfA
  have hfl:(Qy pk vs).length = (Zp pk).length:=by rw [← Kj hfA]; exact Zbx pk _ hco
  have hrv:Qs σ w (Xy pk rvs) (QV (Zp pk)) (QW (Zp pk) (Qy pk vs)):=by
    have:=ZcR hP.rel (QV (Zp pk)) hb hL
    simp only at this
    rw [← XU] at this
    exact this
  refine ⟨σ,⟨σ,lim,?_,by simp; omega,rfl⟩,hL,hlen,hfl,hrv⟩
  have hR:=hP.rel
  simp only at hR hK
  rw [← XU] at hR hK
  have hpin:=Zkp hb hL
  obtain ⟨lw1,lw2⟩:=XM rvs 0
  refine ZjW ?_ (fun p hp => ⟨V0 (lw2 p hp).1 hin,(lw2 p hp).2.1,fun cs hc q hq => V0 ((lw2 p hp).2.2 cs hc q hq) hin⟩) (fun r hr => V0 (lw1 r hr) hin)
    (fun p hp => by
      rcases Js.1 hp with hp | hp
      · exact V0 (lw1 p.1 (Yz pk _ _ (Q3 (Zp pk) _ _ (KT _ _ p hp)))) hin
      · obtain ⟨q,hq,rfl⟩:=VG.1 hp
        obtain ⟨r,cs,hr,hqc⟩:=Xq hR.res (QV (Zp pk)) (ZM (Zp pk) (ZD pk (Zo 0 rvs).1)) q hq
        simp only [XU,ZA.put] at hr
        cases hl:Zk (Zo 0 rvs).2.1 r with
        | none => rw [hl] at hr; cases hr
        | some z => rw [hl] at hr; simp only at hr; exact V0 ((lw2 _ (Z8 hl)).2.2 cs hr q hqc) hin)
  exact
    { env:=by
        intro s
        rcases Xk (Zo 0 rvs).1 0 s with h | ⟨j,h1,h2⟩
        · simp only [enter,h,RA]
        · have hs:s = j:=by omega
          subst hs
          have hjl:s < vs.length:=by
            rw [← Kj hA]
            grind
          have hv:vs[s]? = some vs[s]:=by simp [hjl]
          have:=ZeR hA h2 hv
          simp only [enter]
          rw [Array.getD_eq_getD_getElem?,Array.getElem?_append_left (by simpa using hjl)]
          simpa [hv] using this
      known:=by
        intro s
        rcases Xk (Zo 0 rvs).1 0 s with h | ⟨j,h1,h2⟩
        · simp [enter,h,Za,Zd]
        · intro r hr
          exact hK r (ZcL h2 r hr)
      res:=hR.res,inj:=hR.inj,own:=hR.own,ext:=hR.ext,keep:=hR.keep,same:=hR.same,lz:=hR.lz,limk:=hR.limk,glob:=hR.glob
      pin:=by
        intro p hp
        rcases Js.1 hp with hp | hp
        · refine ⟨hpin p hp,?_⟩
          exact hK p.1 (Yz pk _ _ (Q3 (Zp pk) _ _ (KT _ _ p hp)))
        · obtain ⟨q,hq,rfl⟩:=VG.1 hp
          obtain ⟨r,cs,hr,hqc⟩:=Xq hR.res (QV (Zp pk)) (ZM (Zp pk) (ZD pk (Zo 0 rvs).1)) q hq
          exact ⟨rfl,(hR.res r _ hr).2 q hqc⟩ }
def ZeP (w:World) (lim:Nat → Nat) (vs:List Value) (bs:List Nat) (pk:List Kd) (r:RV × List RV):Ending → World → Prop:=fun e w' => ∃ v lim' b1 b2,e = .returned v ∧ Ext w lim w' lim' ∧ (∀ b,w'.heap.size ≤ b → lim' b = 0) ∧
   (w'.os = w.os ∧ w'.tape = w.tape ∧ w'.output = w.output) ∧ (∀ b,b < w.heap.size → b ∉ bs → w'.heap[b]? = w.heap[b]? ∧ lim' b = lim b) ∧
   TT w' lim' r.1 v b1 ∧ TL w' lim' (Zp pk) (Qy pk vs) r.2 b2 ∧ Wo w w' (Zp pk) (Qy pk vs) ∧ (b1 ++ b2).Nodup ∧ ∀ b ∈ b1 ++ b2,b ∈ bs ∨ w.heap.size ≤ b
theorem ZcK {f:Nat} {fn:Func} {code:Code} {pk:List Kd} {rk:Kd} {rvs:List RV} {r:RV × List RV} {vs:List Value} {bs:List Nat} (hf:C.P.funcs[f]? = some fn) (hb:fn.body = some code)
  (hlz:∀ b,w.heap.size ≤ b → lim b = 0) (hgl:Zcb w lim) (hT:Y4 w lim rvs vs bs) (hnd:bs.Nodup) (hbs:∀ b ∈ bs,b < w.heap.size) (hbx:We (ZM (Zp pk) (ZD pk (Zo 0 rvs).1)) = true) (hn:rvs.length ≤ fn.ntmps) (hin:(Zo 0 rvs).2.2 ≤ Zy) (hco:QG pk (Zo 0 rvs).1 = true)
  (hwp:∀ (G:Glob),(∀ p ∈ G.pins,p.1 ∈ Qj (ZM (Zp pk) (ZD pk (Zo 0 rvs).1)) ++ (Xy pk rvs).flatten) → Qn G fn.ntmps (enter (Zo 0 rvs).1 (Zo 0 rvs).2.1) { tmps:=vs.toArray ++ UB (fn.ntmps - vs.toArray.size) undef,defers:=[] } w →
   code.wp C.P (fun e a w => ∃ e' st',e = Ex.out e' ∧ Wu C fn.results.toList pk (ZM (Zp pk) (ZD pk (Zo 0 rvs).1)) (Xy pk rvs) rk some e' st' = some r ∧ Qn G fn.ntmps st' a w) { tmps:=vs.toArray ++ UB (fn.ntmps - vs.toArray.size) undef,defers:=[] } w) :
  Calls C.P f vs.toArray w (ZeP w lim vs bs pk r):=by
 obtain ⟨σ0,hS,hL,hlen,hfl,hRV⟩:=Zdc (pk:=pk) hlz hgl hT hnd hbs hn hin hco hbx
 refine calls_of_wp hf hb (wp_mono (hwp _ (fun p hp => by
  rcases Js.1 hp with hp | hp
  ·exact JG _ (KT _ _ p hp)
  grind) hS) ?_)
 rintro e a' w' ⟨e',st',rfl,hK,hs⟩
 obtain ⟨σ,lim',⟨hR,_⟩,_,hd⟩:=hs
 have leave:(ZbE C fn.results.toList pk (ZM (Zp pk) (ZD pk (Zo 0 rvs).1)) (Xy pk rvs) rk st').runK st'.tbl [] (fun x l => bif Y2 l then some x else none) = some r →
   a'.defers = [] ∧ ∃ v,(results fn a'.tmps).run C.P w' = .ok v w' ∧ ZeP w lim vs bs pk r (.returned v) w':=by
  intro hl
  rw [M.runK_eq] at hl
  cases hr:(ZbE C fn.results.toList pk (ZM (Zp pk) (ZD pk (Zo 0 rvs).1)) (Xy pk rvs) rk st').run st'.tbl [] with
  | none => rw [hr] at hl; simp at hl
  | some p =>
   obtain ⟨q,lg⟩:=p
   rw [hr] at hl
   simp only [VK] at hl
   have hlow:Y2 lg = true:=by
    grind
   rw [hlow] at hl
   simp only [cond_true,VF.injEq] at hl
   subst hl
   have hr:=ZdO hr hlow
   unfold ZbE at hr
   rw [Ke (st:=st') (st2:=⟨st'.env,QP st'.tbl⟩) rfl] at hr
   obtain ⟨as,l1,h1,hr⟩:=M.run_bind_some hr
   obtain ⟨⟨y,u⟩,l2,h2,hr⟩:=M.run_bind_some hr
   obtain ⟨⟨ys,v⟩,l3,h3,hr⟩:=M.run_bind_some hr
   obtain ⟨nm',l4,h4,hr⟩:=M.run_bind_some hr
   obtain ⟨hok,hr2⟩:=M.run_guard hr
   simp only [Jh] at hok
   obtain ⟨hok,hnm⟩:=hok
   have hnm:=Zgb hnm
   obtain ⟨hq,_⟩:=M.run_ret hr2
   subst hnm
   obtain ⟨rv,r1,r2⟩:=Zcr hR h1
   obtain ⟨g1,k1⟩:=ZcW (st:=⟨st'.env,QP st'.tbl⟩) (σ:=σ) (w:=w') (lim:=lim') rk _ h2
   obtain ⟨g2,k2⟩:=Qr (st:=⟨st'.env,QP st'.tbl⟩) (σ:=σ) (w:=w') (lim:=lim') (QV (Zp pk)) _ h3
   obtain ⟨lim2,hR2,hE,hSh,hN,hB⟩:=hR.takes (g1.append g2) hok
   have hLf:Zw σ w' lim' (ZM (Zp pk) (ZD pk (Zo 0 rvs).1)) (QW (Zp pk) (Qy pk vs)):=Zfx hbx hL fun p hp => (hR.pin p (JG _ hp)).1
   have hStay:Wo w w' (Zp pk) (Qy pk vs):=YY _ _ (Zao hR (QV (Zp pk)) h4 hLf hRV fun q hq => (hR.pin (q,σ0 q) (List.mem_append_right _ (VG.2 ⟨q,hq,rfl⟩))).1)
   refine ⟨hd,rv,r1,rv,lim2,ZP σ (Zv u),ZP σ (Zv v),rfl,hR2.ext,hR2.lz,hR2.same,fun b hb1 hb2 => ⟨hR2.keep b hb1 hb2,hR2.limk b hb1 hb2⟩,?_,?_,hStay,?_,?_⟩
   ·rw [hq]; exact k1 rv r2 (fun r y hy => (hR.res r y hy).1) lim2 hE hSh.left
   ·rw [hq]; exact Zgp (Zp pk) hfl (k2 _ hLf (fun r y hy => (hR.res r y hy).1) lim2 hE hSh.right)
   ·rw [← Xu,← Wg]; exact hN
   ·intro b hb; rw [← Xu,← Wg] at hb; exact (hB b hb).1.symm
 cases e' with
 | normal => exact leave hK
 | ret => exact leave hK
 | exit i => simp [Wu] at hK
theorem ZgK (hC:∀ f cal,C.Φ f = some cal → Ctr C.P C.k f cal) (hm:C.P.follows .mixedOrders = true) {A:Nat → Ann} {f k:Nat} {fn:Func} {code:Code} {cal:Callee} {rk:Kd}
  (hf:C.P.funcs[f]? = some fn) (hb:fn.body = some code) (hname:(fn.name == "runtime.NumGoroutine") = false) (hfit:QU C.P fn.ntmps code = true)
  (hlent:∀ rvs x,cal.run k rvs = some x → We (ZM (Zp cal.pk) (ZD cal.pk (Zo 0 rvs).1)) = true)
  (hrun:∀ rvs x,cal.run k rvs = some x → Zfz C A fn.ntmps code fn.results.toList cal.pk rk rvs some = some (cal.enc x)):Ctr C.P k f cal where
 enters:=⟨fn,hf,hname,by rw [hb]; rfl⟩
 calls:=by
  intro rvs x hx w lim vs bs hlz hgl hT hnd hbs
  have h:=hrun rvs x hx
  have hbx:=hlent rvs x hx
  unfold Zfz at h
  cases hg:Zi1 cal.pk rvs fn.ntmps with
  | false => rw [hg] at h; simp at h
  | true =>
   rw [hg] at h
   simp only [cond_true] at h
   simp only [Zi1,Jh] at hg
   exact ZcK (rk:=rk) hf hb hlz hgl hT hnd hbs hbx (Jt hg.1.1) (Jt hg.1.2) hg.2 fun G hp hS => Qe hC hm hp code h hfit hS fun e st' a' w' hK hs => ⟨e,st',rfl,hK,hs⟩
end Go.Sh
namespace Go.Sh
open Go
variable [Gl]
def Zgd:Ex → St → Option (Ex × St):=fun e s => some (e,s)
def Ku {R:Type} (K:Ex → St → Option R):Ex × St → Option R:=fun x => K x.1 x.2
theorem ZbI {R:Type} {nm:St → Option St} {b1:St → (Ex → St → Option (Ex × St)) → Option (Ex × St)} {bR:St → (Ex → St → Option R) → Option R}
  (h1:∀ st K,b1 st K = (b1 st Zgd).bind (Ku K)) (hb:∀ st K,bR st K = (b1 st Zgd).bind (Ku K)):∀ (n:Nat) (st:St) (K:Ex → St → Option R),
  Y9 bR nm n st K = (Y9 b1 nm n st Zgd).bind (Ku K)
 | 0,st,K => rfl
 | n + 1,st,K => by
  simp only [Y9]
  rw [hb]
  conv => rhs; rw [h1]
  rw [Uz]
  congr 1
  funext x
  obtain ⟨e,s⟩:=x
  cases e with
  | exit i => rfl
  | ret => rfl
  | normal =>
   simp only [Ku]
   cases nm s with
   | none => rfl
   | some s' => exact ZbI h1 hb n s' K
theorem Z7 {C:Ctx} {A:Nat → Ann} {kp:List Nat}:(c:Code) → {R:Type} → (st:St) → (K:Ex → St → Option R) → QH C A kp c st K = (QH C A kp c st Zgd).bind (Ku K)
 | .skip,R,st,K => rfl
 | .label _,R,st,K => rfl
 | .ret,R,st,K => rfl
 | .exit _,R,st,K => rfl
 | .goto _,R,st,K => rfl
 | .refuse _,R,st,K => rfl
 | .rangeFunc _ _ _ _,R,st,K => rfl
 | .region id ops d,R,st,K => by
  simp only [QH]
  cases d with
  | false => simp only [cond_false,ZdE,Uz]; rfl
  | true =>
   simp only [cond_true,Zaa,Uz]
   congr 1
   funext x
   cases Xa ops.toList (Wn ops.toList []) ([] ++ x.2) <;> rfl
 | .seq a b,R,st,K => by
  simp only [QH]
  rw [Z7 a]
  conv => rhs; rw [Z7 a]
  rw [Uz]
  congr 1
  funext x
  obtain ⟨e,s⟩:=x
  cases e with
  | normal => exact Z7 b s K
  | exit i => rfl
  | ret => rfl
 | .cond c a b,R,st,K => by
  simp only [QH]
  split
  ·rename_i t _
   cases t with
   | true => simp only [cond_true]; exact Z7 a _ K
   | false => simp only [cond_false]; exact Z7 b _ K
  ·rfl
 | .block id c,R,st,K => by
  simp only [QH]
  rw [Z7 c]
  conv => rhs; rw [Z7 c]
  rw [Uz]
  congr 1
  funext x
  obtain ⟨e,s⟩:=x
  cases e with
  | normal => rfl
  | ret => rfl
  | exit i => simp only [Ku,Zc7]; cases Ja i id <;> rfl
 | .loop c,R,st,K => by
  simp only [QH,Uz]
  congr 1
  funext s
  exact ZbI (fun st K => Z7 c st K) (fun st K => Z7 c st K) C.k s K
 | .scope c,R,st,K => by simp only [QH]; exact Z7 c st K
theorem ZgY {C:Ctx} {A:Nat → Ann} {n:Nat} {body:Code} {rs:List ResultVar} {pk:List Kd} {rk:Kd} {rvs:List RV} {R:Type} (K:RV × List RV → Option R) :
  Zfz C A n body rs pk rk rvs K = (Zfz C A n body rs pk rk rvs some).bind K:=by
 unfold Zfz
 cases Zi1 pk rvs n with
 | false => rfl
 | true =>
  simp only [cond_true]
  rw [Z7]
  conv => rhs; rw [Z7]
  rw [Uz]
  congr 1
  funext x
  obtain ⟨e,s⟩:=x
  simp only [Ku]
  cases e <;> simp only [Wu,M.runK_eq,Uz,VK,Option.bind_none]
  all_goals grind
mutual
def Kd.den:Kd → Type
 | .view t => t.den
 | .own t _ => List t.den
 | .box ks => Kd.dens ks
 | .agg ks => Kd.dens ks
 | .tup ks => Kd.dens ks
 | .fn _ => Unit
 | .bld _ => List Int
 | .use _ => List Int
 | .clo _ ks => Kd.dens ks
 | .ref ks => Kd.dens ks
 | .ns t => List t.den
 | .vp t => List t.den
def Kd.dens:List Kd → Type
 | [] => Unit
 | k :: ks => k.den × Kd.dens ks
end
mutual
def enc:(k:Kd) → k.den → RV
 | .view t,x => .view t x
 | .own t sh,xs => .own t sh xs
 | .box ks,x => .box (Qu ks x)
 | .agg ks,x => .agg (Qu ks x)
 | .tup ks,x => .tup (Qu ks x)
 | .fn f,_ => .fn f
 | .bld T,xs => .bld T xs
 | .use T,xs => .bld T xs
 | .clo f ks,x => .clo f (Qu ks x)
 | .ref ks,x => .box (Qu ks x)
 | .ns t,xs => .ns t xs
 | .vp t,xs => .vp t xs
def Qu:(ks:List Kd) → Kd.dens ks → List RV
 | [],_ => []
 | k :: ks,x => enc k x.1 :: Qu ks x.2
end
def Zbe (t:Ty):RV → Option t.den
 | .view t' x => if h:t' = t then some (h ▸ x:t.den) else none
 | _ => none
def Zhg (t:Ty) (sh:Bool):RV → Option (List t.den)
 | .own t' sh' xs => if h:t' = t then (bif sh == sh' then some (h ▸ xs:List t.den) else none) else none
 | _ => none
def ZfP:RV → Option (List RV)
 | .box cs => some cs
 | _ => none
def asAgg:RV → Option (List RV)
 | .agg cs => some cs
 | _ => none
def Zhi:RV → Option (List RV)
 | .tup cs => some cs
 | _ => none
def ZjP (f:Nat):RV → Option Unit
 | .fn g => bif Ja f g then some () else none
 | _ => none
def Zhe (f:Nat):RV → Option (List RV)
 | .clo g cs => bif Ja f g then some cs else none
 | _ => none
def ZjQ (t:Ty):RV → Option (List t.den)
 | .ns t' xs => if h:t' = t then some (h ▸ xs:List t.den) else none
 | _ => none
def ZjR (t:Ty):RV → Option (List t.den)
 | .vp t' xs => if h:t' = t then some (h ▸ xs:List t.den) else none
 | _ => none
def ZfO (T:TypeId):RV → Option (List Int)
 | .bld U xs => bif Ja T U then some xs else none
 | _ => none
mutual
def dec:(k:Kd) → RV → Option k.den
 | .view t,r => Zbe t r
 | .own t sh,r => Zhg t sh r
 | .box ks,r => (ZfP r).bind (Yr ks)
 | .agg ks,r => (asAgg r).bind (Yr ks)
 | .tup ks,r => (Zhi r).bind (Yr ks)
 | .fn f,r => ZjP f r
 | .bld T,r => ZfO T r
 | .use T,r => ZfO T r
 | .clo f ks,r => (Zhe f r).bind (Yr ks)
 | .ref ks,r => (ZfP r).bind (Yr ks)
 | .ns t,r => ZjQ t r
 | .vp t,r => ZjR t r
def Yr:(ks:List Kd) → List RV → Option (Kd.dens ks)
 | [],[] => some ()
 | [],_ :: _ => none
 | _ :: _,[] => none
 | k :: ks,x :: xs => (dec k x).bind fun y => (Yr ks xs).bind fun ys => some (y,ys)
end
theorem Zgv {t:Ty} {r:RV} {x:t.den} (h:Zbe t r = some x):r = .view t x:=by
 unfold Zbe at h
 grind
theorem Zhh {t:Ty} {sh:Bool} {r:RV} {x:List t.den} (h:Zhg t sh r = some x):r = .own t sh x:=by
 unfold Zhg at h
 grind
theorem Zd4 {r:RV} {cs:List RV} (h:ZfP r = some cs):r = .box cs:=by unfold ZfP at h; split at h <;> simp at h; rw [h]
theorem Zhd {r:RV} {cs:List RV} (h:asAgg r = some cs):r = .agg cs:=by unfold asAgg at h; split at h <;> simp at h; rw [h]
theorem Zhj {r:RV} {cs:List RV} (h:Zhi r = some cs):r = .tup cs:=by unfold Zhi at h; split at h <;> simp at h; rw [h]
theorem ZiI {f:Nat} {r:RV} {x:Unit} (h:ZjP f r = some x):r = .fn f:=by
 unfold ZjP at h
 split at h
 ·rename_i g
  cases hb:Ja f g with
  | false => rw [hb] at h; simp at h
  | true => rw [Zu hb]
 ·cases h
theorem Zhf {f:Nat} {r:RV} {cs:List RV} (h:Zhe f r = some cs):r = .clo f cs:=by
 unfold Zhe at h
 split at h
 ·rename_i g l
  cases hb:Ja f g with
  | false => rw [hb] at h; simp at h
  | true => simp_all
 ·cases h
theorem ZiJ {t:Ty} {r:RV} {x:List t.den} (h:ZjQ t r = some x):r = .ns t x:=by
 unfold ZjQ at h
 grind
theorem ZiK {t:Ty} {r:RV} {x:List t.den} (h:ZjR t r = some x):r = .vp t x:=by
 unfold ZjR at h
 split at h
 ·split at h
  ·rename_i e; subst e; simp at h; rw [h]
  ·cases h
 ·cases h
theorem Zd3 {T:TypeId} {r:RV} {x:List Int} (h:ZfO T r = some x):r = .bld T x:=by
 unfold ZfO at h
 split at h
 ·rename_i U xs
  cases hb:Ja T U with
  | false => rw [hb] at h; simp at h
  | true => simp_all
 ·cases h
mutual
theorem ZfR:(k:Kd) → (r:RV) → (x:k.den) → dec k r = some x → r = enc k x
 | .view t,r,x,h => by simp only [dec] at h; simp only [enc]; exact Zgv h
 | .own t sh,r,x,h => by simp only [dec] at h; simp only [enc]; exact Zhh h
 | .box ks,r,x,h => by
  simp only [dec] at h
  obtain ⟨cs,h1,h2⟩:=Uy.1 h
  simp only [enc,Zd4 h1,ZZ ks cs x h2]
 | .agg ks,r,x,h => by
  simp only [dec] at h
  obtain ⟨cs,h1,h2⟩:=Uy.1 h
  simp only [enc,Zhd h1,ZZ ks cs x h2]
 | .tup ks,r,x,h => by
  simp only [dec] at h
  obtain ⟨cs,h1,h2⟩:=Uy.1 h
  simp only [enc,Zhj h1,ZZ ks cs x h2]
 | .fn f,r,x,h => by simp only [dec] at h; simp only [enc]; exact ZiI h
 | .bld T,r,x,h => by simp only [dec] at h; simp only [enc]; exact Zd3 h
 | .use T,r,x,h => by simp only [dec] at h; simp only [enc]; exact Zd3 h
 | .clo f ks,r,x,h => by
  simp only [dec] at h
  obtain ⟨cs,h1,h2⟩:=Uy.1 h
  simp only [enc,Zhf h1,ZZ ks cs x h2]
 | .ns t,r,x,h => by simp only [dec] at h; simp only [enc]; exact ZiJ h
 | .vp t,r,x,h => by simp only [dec] at h; simp only [enc]; exact ZiK h
 | .ref ks,r,x,h => by
  simp only [dec] at h
  obtain ⟨cs,h1,h2⟩:=Uy.1 h
  simp only [enc,Zd4 h1,ZZ ks cs x h2]
theorem ZZ:(ks:List Kd) → (rs:List RV) → (x:Kd.dens ks) → Yr ks rs = some x → rs = Qu ks x
 | [],[],x,h => rfl
 | k :: ks,r :: rs,x,h => by
  simp only [Yr] at h
  obtain ⟨y,h1,h⟩:=Uy.1 h
  obtain ⟨ys,h2,h⟩:=Uy.1 h
  cases h
  simp only [Qu,← ZfR k r y h1,← ZZ ks rs ys h2]
 | [],_ :: _,x,h => by simp [Yr] at h
 | _ :: _,[],x,h => by simp [Yr] at h
end
theorem ZaB:(ks:List Kd) → (x:Kd.dens ks) → (Qu ks x).length = ks.length
 | [],_ => rfl
 | k :: ks,x => by simp only [Qu,JF,ZaB ks]
theorem Zdx {ks ls:List Kd} {as bs:List AV} (h:ks.length = as.length):ZM (ks ++ ls) (as ++ bs) = ZM ks as ++ ZM ls bs:=by
 induction ks generalizing as with
 | nil =>
  grind [ZM]
 | cons k ks ih =>
  cases as with
  | nil => simp at h
  | cons a as =>
   have ih:=ih (as:=as) (by simpa using h)
   cases k <;> simp [ZM,ih]
theorem Zc9 (a b:List AV):We (a ++ b) = (We a && We b):=by simp [We]
theorem Zax:(ks:List Kd) → (x:Kd.dens ks) → (n:Nat) → We (ZM ks (Zo n (Qu ks x)).1) = true
 | [],_,n => rfl
 | k :: ks,x,n => by
  have ih:=Zax ks x.2
  cases k with
  | box l =>
   simp only [Qu,enc,Zo,put,ZM,We,UA,UC] at ih ⊢
   exact ih _
  | bld T =>
   simp only [Qu,enc,Zo,put,ZM,We,UA,UC] at ih ⊢
   exact ih _
  | _ => grind [Qu,enc,Zo,ZM]
theorem Zbi:(ks:List Kd) → (x:Kd.dens ks) → (n:Nat) → We (ZM (Zp ks) (ZD ks (Zo n (Qu ks x)).1)) = true
 | [],_,n => rfl
 | k :: ks,x,n => by
  have ih:=Zbi ks x.2
  cases k with
  | box l =>
   simp only [Qu,enc,Zo,put,Zp,ZD,ZM,We,UA,UC] at ih ⊢
   exact ih _
  | bld T =>
   simp only [Qu,enc,Zo,put,Zp,ZD,ZM,We,UA,UC] at ih ⊢
   exact ih _
  | clo f l =>
   simp only [Qu,enc,Zo,put,Zp,ZD]
   rw [Zdx (by rw [YM]; exact (ZaB l x.1).symm),Zc9,Jh]
   exact ⟨Zax l x.1 n,ih _⟩
  | _ => grind [Qu,enc,Zo,Zp,ZD,ZM]
abbrev Ans (pk:List Kd) (rk:Kd):Type:=rk.den × Kd.dens (QV (Zp pk))
def Zhr (pk:List Kd) (rk:Kd) (r:RV × List RV):Option (Ans pk rk):=(dec rk r.1).bind fun x => (Yr (QV (Zp pk)) r.2).bind fun l => some (x,l)
def ZjV (pk:List Kd) (rk:Kd) (x:Ans pk rk):RV × List RV:=(enc rk x.1,Qu (QV (Zp pk)) x.2)
theorem ZgE {pk:List Kd} {rk:Kd} {r:RV × List RV} {x:Ans pk rk} (h:Zhr pk rk r = some x):r = ZjV pk rk x:=by
 unfold Zhr at h
 obtain ⟨y,h1,h⟩:=Uy.1 h
 obtain ⟨ys,h2,h⟩:=Uy.1 h
 cases h
 obtain ⟨a,b⟩:=r
 simp only [ZjV,← ZfR rk a y h1,← ZZ (QV (Zp pk)) b ys h2]
def mk (pk:List Kd) (rk:Kd) (F:Nat → Kd.dens pk → Option (Ans pk rk)):Callee :=
 { ρ:=Ans pk rk,pk:=pk,run:=fun k rvs => (Yr pk rvs).bind (F k),enc:=ZjV pk rk }
theorem ZiV {C:Ctx} (hC:∀ f cal,C.Φ f = some cal → Ctr C.P C.k f cal) (hm:C.P.follows .mixedOrders = true) {A:Nat → Ann} {f k:Nat} {fn:Func} {code:Code} {pk:List Kd} {rk:Kd} {F:Nat → Kd.dens pk → Option (Ans pk rk)}
  (hf:C.P.funcs[f]? = some fn) (hb:fn.body = some code) (hname:(fn.name == "runtime.NumGoroutine") = false) (hfit:QU C.P fn.ntmps code = true)
  (h:∀ x y,F k x = some y → Zfz C A fn.ntmps code fn.results.toList pk rk (Qu pk x) (Zhr pk rk) = some y):Ctr C.P k f (mk pk rk F):=by
 refine ZgK (A:=A) (rk:=rk) hC hm hf hb hname hfit (fun rvs x hx => ?_) (fun rvs x hx => ?_)
 ·simp only [mk] at hx ⊢
  obtain ⟨y,h1,h2⟩:=Uy.1 hx
  rw [ZZ pk rvs y h1]
  exact Zbi pk y 0
 ·simp only [mk] at hx ⊢
  obtain ⟨y,h1,h2⟩:=Uy.1 hx
  have h3:=h y x h2
  rw [← ZZ pk rvs y h1,ZgY] at h3
  obtain ⟨r,h4,h5⟩:=Uy.1 h3
  rw [h4,ZgE h5]
def phi:List (Nat × Callee) → Nat → Option Callee
 | [],_ => none
 | (f,c) :: l,g => bif Ja g f then some c else phi l g
theorem Zfs {P:Program} {k:Nat}:∀ {l:List (Nat × Callee)},(∀ p ∈ l,Ctr P k p.1 p.2) → ∀ f cal,phi l f = some cal → Ctr P k f cal
 | [],_,f,cal,h => by simp [phi] at h
 | (g,c) :: l,hl,f,cal,h => by
  simp only [phi] at h
  cases hb:Ja f g with
  | true => simp_all
  | false => rw [hb] at h; exact Zfs (fun p hp => hl p (by simp [hp])) f cal h
theorem ZiN {P:Program} {k:Nat}:∀ p ∈ ([]:List (Nat × Callee)),Ctr P k p.1 p.2:=by intro p hp; simp at hp
theorem ZkF {P:Program} {k f:Nat} {c:Callee} {l:List (Nat × Callee)} (h:Ctr P k f c) (hl:∀ p ∈ l,Ctr P k p.1 p.2):∀ p ∈ (f,c) :: l,Ctr P k p.1 p.2:=by
 simp_all
def Wh {V R:Type} (step:(V → Option R) → V → Option R):Nat → V → Option R
 | 0,_ => none
 | n + 1,v => step (Wh step n) v
theorem Zey {V R:Type} {L:Nat → V → Option R} {step:(V → Option R) → V → Option R} (h0:∀ v,L 0 v = none) (h:∀ n v,L (n + 1) v = step (L n) v):∀ n,L n = Wh step n
 | 0 => funext h0
 | n + 1 => funext fun v => by rw [h,Zey h0 h n]; rfl
section
variable {R:Type}
def place (C:Ctx) (A:Nat → Ann) (kp:List Nat):List Nat → List Nat → Code → (Ex → St → Option R) → Code × (Ex → St → Option R)
 | 0 :: p,ns,.seq a b,K => place C A kp p ns a (Ziv (fun s => QH C A kp b s K) K)
 | _ :: p,ns,.seq _ b,K => place C A kp p ns b K
 | 0 :: p,ns,.cond _ a _,K => place C A kp p ns a K
 | _ :: p,ns,.cond _ _ b,K => place C A kp p ns b K
 | _ :: p,ns,.block id c,K => place C A kp p ns c (Zc7 id K)
 | _ :: p,ns,.scope c,K => place C A kp p ns c K
 | _ :: p,n :: ns,.loop c,K => place C A kp p ns c fun e s => match e with
  | .normal => (Zcp kp (A (ZI c)) s).bind fun s => Y9 (QH C A kp c) (Zcp kp (A (ZI c))) n s K
  | .exit i => K (.exit i) s
  | .ret => K .ret s
 | _,_,c,K => (c,K)
def Zkl (C:Ctx) (A:Nat → Ann) (kp:List Nat) (p ns:List Nat) (code:Code) (K:Ex → St → Option R) (n:Nat) (st:St):Option R :=
 match place C A kp p ns code K with
 | (.loop c,K) => Y9 (QH C A kp c) (Zcp kp (A (ZI c))) n st K
 | _ => none
end
end Go.Sh
