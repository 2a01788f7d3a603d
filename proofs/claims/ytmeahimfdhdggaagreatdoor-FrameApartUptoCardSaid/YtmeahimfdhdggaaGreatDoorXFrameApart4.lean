/-
  What the row needs, part 4.
-/
import Derived.Test.YtmeahimfdhdggaaGreatDoorXFrameApart3
import Derived.Scope
import Derived.LoopN
set_option linter.unusedSimpArgs false
set_option linter.unusedVariables false
set_option linter.unusedSectionVars false
open Array renaming replicate→UB
open Bool renaming and_eq_true→Jh,true_and→UC
open Go.Instr renaming loadAt→JZ
open List renaming mem_append→Js,all_cons→UA,mem_cons→VM,length_cons→JF,mem_map→VG,mem_append_left→JG
open Nat renaming beq→Ja,lt_of_lt_of_le→V0,le_of_ble_eq_true→Jt
open Option renaming bind_eq_some_iff→Uy,bind_assoc→Uz,bind_some→VK,some→VF
namespace Go.Sh
open Go
variable [Gl]
variable {C:Ctx} {G:Glob} {σ:WM} {w:World} {lim:Nat → Nat} {st:St} {a:Act}
def Ex.out:Ex → Exit
 | .normal => .normal
 | .exit i => .exit i
 | .ret => .ret
def Xv (P:Program) (n:Nat):Code → Bool
 | .region _ ops _ => Zns P n ops.toList
 | .seq a b => Xv P n a && Xv P n b
 | .cond _ a b => Xv P n a && Xv P n b
 | .block _ c => Xv P n c
 | .loop c => Xv P n c
 | .scope c => Xv P n c
 | _ => true
def WC (G:Glob) (n:Nat) (st:St) (a:Act) (w:World):Prop := ∃ σ lim,Wj G σ lim st a.tmps w ∧ a.tmps.size = n ∧ a.defers = []
theorem ZEh {n:Nat} (h:WC G n st a w) {c:Operand} {t:Bool} (hc:Kg st.env c = .val (.v (.bool t))):a.eval c = .bool t:=by
 obtain ⟨σ,lim,h,_,_⟩:=h
 have:=(Zm h.1 c).1
 grind [RA,RP]
theorem Ziq {n:Nat} (h:WC G n st a w) {q:Nat} (hq:q < ZZ):WC G n (ZwN st q) a w:=by
 obtain ⟨σ,lim,h,h2,h3⟩:=h
 unfold ZwN
 split
 ·rename_i t xss hT
  obtain ⟨lim',h4⟩:=RelW.melt h.1 h.2 hq hT
  exact ⟨σ,lim',h4,h2,h3⟩
 ·exact ⟨σ,lim,h,h2,h3⟩
theorem Zp3 {n:Nat} (h:WC G n st a w) (id:Nat):WC G n (ZeJ C id st) a w:=by
 have hL:Low G st:=by obtain ⟨_,_,⟨_,hL⟩,_,_⟩:=h; exact hL
 unfold ZeJ
 split
 ·split
  ·rename_i s _ _ q hs
   exact Ziq h (hL.env s q (by rw [hs]; simp [Zb]))
  ·exact h
 ·split
  ·rename_i s k _ _ r hs
   unfold ZGH
   split
   ·rename_i cs hr
    split
    ·rename_i q hq
     exact Ziq h (hL.box r cs hr q (Ys (List.mem_of_getElem? hq) (by simp [Zb])))
    ·exact h
   ·exact h
  ·exact h
 ·exact h
theorem Wk (hC:∀ f cal,C.Φ f = some cal → Ctr C.P C.k f cal) (hm:C.P.follows .mixedOrders = true) {A:Nat → Ann} {kp:List Nat} (hk:∀ p ∈ G.pins,p.1 ∈ kp) {n:Nat} {R:Type} {r:R} :
  (c:Code) → {st:St} → {K:Ex → St → Option R} → W3 C A kp c st K = some r → Xv C.P n c = true → {a:Act} → {w:World} → WC G n st a w → {Q:Exit → Act → World → Prop} →
  (∀ e st' a' w',K e st' = some r → WC G n st' a' w' → Q e.out a' w') → c.wp C.P Q a w
 | .skip,st,K,h,hf,a,w,hs,Q,hQ => wp_skip (hQ .normal st a w h hs)
 | .label _,st,K,h,hf,a,w,hs,Q,hQ => wp_label (hQ .normal st a w h hs)
 | .ret,st,K,h,hf,a,w,hs,Q,hQ => wp_ret (hQ .ret st a w h hs)
 | .exit i,st,K,h,hf,a,w,hs,Q,hQ => wp_exit (hQ (.exit i) st a w h hs)
 | .region id ops d,st,K,h,hf,a,w,hs,Q,hQ => by
  simp only [W3] at h
  simp only [Xv] at hf
  obtain ⟨σ,lim,hR,hn,hd⟩:=Zp3 (C:=C) hs id
  have hb:∃ stf lgs,ZhR C id ops.toList ops.toList 0 (ZeJ C id st) = some (stf,lgs) ∧ (d = true → KB ops.toList (Ym ops.toList []) lgs = true) ∧ K .normal stf = some r:=by
   cases d with
   | false =>
    simp only [cond_false,Zp7] at h
    cases ho:ZhR C id ops.toList ops.toList 0 (ZeJ C id st) with
    | none => rw [ho] at h; simp at h
    | some x => grind
   | true =>
    simp only [cond_true,ZgD,List.nil_append] at h
    cases ho:ZhR C id ops.toList ops.toList 0 (ZeJ C id st) with
    | none => rw [ho] at h; simp at h
    | some x =>
     grind
  obtain ⟨stf,lgs,h1,h2,h3⟩:=hb
  exact Zqd hC hm hf hR hn hd h1 h2 fun a' w' σ' lim' hR' hn' hd' => hQ .normal stf a' w' h3 ⟨σ',lim',hR',hn',hd'⟩
 | .seq x y,st,K,h,hf,a,w,hs,Q,hQ => by
  simp only [W3] at h
  simp only [Xv,Jh] at hf
  refine wp_seq (Wk hC hm hk x h hf.1 hs fun e st' a' w' hK hs' => ?_)
  cases e with
  | normal => exact Wk hC hm hk y hK hf.2 hs' hQ
  | exit i => exact hQ (.exit i) st' a' w' hK hs'
  | ret => exact hQ .ret st' a' w' hK hs'
 | .cond c x y,st,K,h,hf,a,w,hs,Q,hQ => by
  simp only [W3] at h
  simp only [Xv,Jh] at hf
  split at h
  ·rename_i t hc
   have e1:=ZEh hs hc
   cases t with
   | true =>
    refine wp_cond_true e1 (Wk hC hm (A:=A) hk x (K:=K) ?_ hf.1 hs hQ)
    cases c with
    | tmp d => simp_all [Kg,cond_true,Zh2 hc]
    | _ => exact h
   | false =>
    refine wp_cond_false e1 (Wk hC hm (A:=A) hk y (K:=K) ?_ hf.2 hs hQ)
    cases c with
    | tmp d => simp_all [Kg,cond_false,Zh2 hc]
    | _ => exact h
  ·simp at h
 | .block id c,st,K,h,hf,a,w,hs,Q,hQ => by
  simp only [W3] at h
  simp only [Xv] at hf
  refine wp_block (Wk hC hm hk c h hf hs fun e st' a' w' hK hs' => ?_)
  cases e with
  | normal => exact hQ .normal st' a' w' hK hs'
  | ret => exact hQ .ret st' a' w' hK hs'
  | exit i =>
   simp only [Zoj] at hK
   simp only [Ex.out,Exit.inBlock]
   cases hb:Ja i id with
   | true => rw [hb] at hK; rw [if_pos (ZS hb)]; exact hQ .normal st' a' w' hK hs'
   | false =>
    rw [hb] at hK
    rw [if_neg (by rintro rfl; rw [X7] at hb; cases hb)]
    exact hQ (.exit i) st' a' w' hK hs'
 | .loop c,st,K,h,hf,a,w,hs,Q,hQ => by
  simp only [W3] at h
  simp only [Xv] at hf
  have key:∀ (m:Nat) (st:St) (a:Act) (w:World),Zef (W3 C A kp c) (ZmA kp (A (Qm c))) m st K = some r → WC G n st a w → Code.rounds C.P c Q m a w:=by
   intro m
   induction m with
   | zero => intro st a w h; simp [Zef] at h
   | succ m ih =>
    intro st a w h hs
    rw [rounds_succ]
    simp only [Zef] at h
    refine Wk hC hm hk c h hf hs fun e st' a' w' hK hs' => ?_
    cases e with
    | ret => exact hQ .ret st' a' w' hK hs'
    | exit i => exact hQ (.exit i) st' a' w' hK hs'
    | normal =>
     cases hn:ZmA kp (A (Qm c)) st' with
     | none => rw [hn] at hK; simp at hK
     | some s =>
      rw [hn] at hK
      obtain ⟨σ,lim,hR,q1,q2⟩:=hs'
      obtain ⟨σ2,lim2,hR2⟩:=ZlJ hR hk hn
      exact ih s a' w' hK ⟨σ2,lim2,hR2,q1,q2⟩
  cases hn:ZmA kp (A (Qm c)) st with
  | none => rw [hn] at h; simp at h
  | some s =>
   rw [hn] at h
   obtain ⟨σ,lim,hR,q1,q2⟩:=hs
   obtain ⟨σ2,lim2,hR2⟩:=ZlJ hR hk hn
   exact wp_loop_rounds C.k (key C.k s a w h ⟨σ2,lim2,hR2,q1,q2⟩)
 | .scope c,st,K,h,hf,a,w,hs,Q,hQ => by
  simp only [W3] at h
  simp only [Xv] at hf
  refine wp_scope_straight (Wk hC hm hk c h hf hs fun e st' a' w' hK hs' => ?_)
  cases e <;> exact hQ _ st' a' w' hK hs'
 | .rangeFunc _ _ _ _,st,K,h,hf,a,w,hs,Q,hQ => by simp [W3] at h
 | .goto _,st,K,h,hf,a,w,hs,Q,hQ => by simp [W3] at h
end Go.Sh
namespace Go.Sh
open Go
variable [Gl]
variable {C:Ctx} {G:Glob} {σ:WM} {w:World} {lim:Nat → Nat} {st:St} {tmps:Array Value}
theorem Zux {P:Program} {T:TypeId} {v x:Value} (h:(JZ T v).run P w = .ok x w):(asAddr v >>= fun p => loadVar T p:Sem Value).run P w = .ok x w:=by
 unfold JZ at h
 unfold Instr.sureAddr at h
 split at h
 ·simpa [asAddr] using h
 ·simp [stuck,Sem.run_bind] at h
def Zl1 (tmps:Array Value):ResultVar → Sem Value
 | .tmp t => pure (tmps.getD t undef)
 | .cell a t => do loadVar t (← asAddr (tmps.getD a undef))
theorem Zl0 (h:RelW G σ lim st tmps w) {r:ResultVar} {l l':List Nat} {x:AV} (hm:(Zbi C st r).run st.tbl l = some (x,l')) :
  ∃ v,(Zl1 tmps r).run C.P w = .ok v w ∧ RA σ w lim x v ∧ Zi st.tbl (Zb x):=by
 cases r with
 | tmp t =>
  obtain ⟨rfl,_⟩:=M.run_ret hm
  exact ⟨_,rfl,h.env t,h.known t⟩
 | cell a T =>
  simp only [Zbi] at hm
  obtain ⟨e,l1,h1,h2⟩:=M.run_bind_some hm
  obtain ⟨rfl,_⟩:=M.run_ret h2
  obtain ⟨v,e1,e2,e3,e4⟩:=Zlz h1 (h.env a) h.res
  exact ⟨v,Zux e1,e2,e3⟩
theorem Zb5 (h:RelW G σ lim st tmps w):(rs:List ResultVar) → {l l':List Nat} → {xs:List AV} → (X2 C st rs).run st.tbl l = some (xs,l') →
  ∃ vs,(rs.mapM (Zl1 tmps)).run C.P w = .ok vs w ∧ ZX σ w lim xs vs ∧ Zi st.tbl (Zh xs)
 | [],l,l',xs,hm => by
  obtain ⟨rfl,_⟩:=M.run_ret hm
  simp_all [ZX,Zh,Zi]
 | r :: rs,l,l',xs,hm => by
  simp only [X2] at hm
  obtain ⟨x,l1,h1,h2⟩:=M.run_bind_some hm
  obtain ⟨ys,l2,h3,h4⟩:=M.run_bind_some h2
  obtain ⟨rfl,_⟩:=M.run_ret h4
  obtain ⟨v,e1,e2,e3⟩:=Zl0 h h1
  obtain ⟨vs,f1,f2,f3⟩:=Zb5 h rs h3
  refine ⟨v :: vs,?_,by simp only [ZX]; exact ⟨e2,f2⟩,?_⟩
  ·simp_all
  ·intro i hi; simp only [Zh,Js] at hi; rcases hi with hi | hi; exact e3 i hi; exact f3 i hi
theorem Zek {st st2:St} (he:st2.env = st.env):∀ (rs:List ResultVar),X2 C st rs = X2 C st2 rs
 | [] => rfl
 | r :: rs => by
  have h1:Zbi C st r = Zbi C st2 r:=by cases r <;> simp only [Zbi,he]
  simp only [X2,h1,Zek he rs]
theorem ZmE (h:RelW G σ lim st tmps w) {fn:Func} {l l':List Nat} {xs:List AV} (hm:(X2 C st fn.results.toList).run st.tbl l = some (xs,l')) :
  ∃ v,(results fn tmps).run C.P w = .ok v w ∧ RA σ w lim (match (generalizing:=false) xs with | [a] => a | as => .tup as) v:=by
 obtain ⟨vs,e1,e2,e3⟩:=Zb5 h _ hm
 have e0:results fn tmps = (do let vs ← fn.results.mapM (Zl1 tmps); pure (if h:vs.size = 1 then vs[0] else .tuple vs)):=by
  unfold results
  congr 1
 rw [e0,Array.mapM_eq_mapM_toList]
 match xs,vs,e2 with
 | [x],[v],e2 =>
  simp_all [ZX,Sem.run_bind,Sem.run_map,e1]
 | [],[],e2 =>
  simp_all [RA,ZX,Sem.run_bind,Sem.run_map,e1]
 | x :: y :: xs,v :: u :: vs,e2 =>
  simp_all [RA,Sem.run_bind,Sem.run_map,e1]
 | [],_ :: _,e2 => simp [ZX] at e2
 | _ :: _,[],e2 => simp [ZX] at e2
 | [_],_ :: _ :: _,e2 => simp [ZX] at e2
 | _ :: _ :: _,[_],e2 => simp [ZX] at e2
def Xy:List Kd → List Value → List Value
 | .box _ :: l,a :: as => a :: Xy l as
 | .bld _ :: l,a :: as => a :: Xy l as
 | _ :: l,_ :: as => Xy l as
 | _,_ => []
def Yx:List AV → List Value → List (Nat × Value)
 | .bx r _ :: l,v :: vs => (r,v) :: Yx l vs
 | _ :: l,_ :: vs => Yx l vs
 | _,_ => []
theorem Zf8:(as:List AV) → (vs:List Value) → ∀ p ∈ Yx as vs,p.1 ∈ Ww as
 | [],vs,p,hp => by cases vs <;> simp [Yx] at hp
 | x :: as,[],p,hp => by cases x <;> simp [Yx] at hp
 | x :: as,v :: vs,p,hp => by
  cases x with
  | bx r k =>
   simp only [Yx,VM] at hp
   simp only [Ww,VM]
   rcases hp with rfl | hp
   ·exact .inl rfl
   ·exact .inr (Zf8 as vs p hp)
  | _ => simp only [Yx] at hp; simp only [Ww]; exact Zf8 as vs p hp
theorem ZwL:(pk:List Kd) → {as:List AV} → {vs:List Value} → ZX σ w lim as vs → ZX σ w lim (Qw pk as) (Xy pk vs)
 | [],as,vs,h => by grind [Qw,Xy,ZX]
 | k :: pk,as,vs,h => by
  match as,vs,h with
  | [],[],h => cases k <;> simp [Qw,Xy,ZX]
  | x :: as,v :: vs,h =>
   simp only [ZX] at h
   have ih:=ZwL pk h.2
   cases k <;> simp only [Qw,Xy,ZX] <;> first | exact ih | exact ⟨h.1,ih⟩
  | [],_ :: _,h => simp [ZX] at h
  | _ :: _,[],h => simp [ZX] at h
def X8 (as:List AV):Bool:=as.all fun | .bx _ 0 => true | _ => false
theorem ZIw {as:List AV} {vs:List Value} (hb:X8 as = true) (h:ZX σ w lim as vs):∀ p ∈ Yx as vs,σ p.1 = p.2:=by
 induction as generalizing vs with
 | nil => grind [Yx]
 | cons x as ih =>
  cases vs with
  | nil => simp [ZX] at h
  | cons v vs =>
   simp only [ZX] at h
   simp only [X8,UA,Jh] at hb
   intro p hp
   obtain ⟨hb1,hb2⟩:=hb
   split at hb1
   ·rename_i r
    simp only [Yx,VM] at hp
    rcases hp with rfl | hp
    ·grind [RA]
    ·exact ih hb2 h.2 p hp
   ·cases hb1
theorem ZuJ {σ':WM} {w':World} {lim':Nat → Nat} {as:List AV} {vs:List Value} (hb:X8 as = true) (h:ZX σ w lim as vs) (hp:∀ p ∈ Yx as vs,σ' p.1 = p.2):ZX σ' w' lim' as vs:=by
 induction as generalizing vs with
 | nil => cases vs <;> simp [ZX] at h ⊢
 | cons x as ih =>
  cases vs with
  | nil => simp [ZX] at h
  | cons v vs =>
   simp only [ZX] at h ⊢
   simp only [X8,UA,Jh] at hb
   obtain ⟨hb1,hb2⟩:=hb
   split at hb1
   ·rename_i r
    simp only [Yx,VM] at hp
    refine ⟨?_,ih hb2 h.2 fun p hm => hp p (.inr hm)⟩
    have h1:=h.1
    simp only [RA] at h1 ⊢
    obtain ⟨b,e1,e2⟩:=h1
    simp_all
   ·cases hb1
theorem Zw5:(pk:List Kd) → {vs:List Value} → {rs:List RV} → {bs:List Nat} → vs.length = pk.length → TTs w lim rs (Xy pk vs) bs → TL w lim pk vs rs bs
 | [],[],rs,bs,_,h => by
  grind [Xy,TL,TTs]
 | k :: pk,v :: vs,rs,bs,hl,h => by
  have hl':vs.length = pk.length:=by simpa using hl
  cases k with
  | box l =>
   simp only [Xy] at h
   cases rs with
   | nil => simp [TTs] at h
   | cons x rs =>
    simp only [TTs] at h
    simp only [TL]
    obtain ⟨b1,b2,e,h1,h2⟩:=h
    exact ⟨b1,b2,e,h1,Zw5 pk hl' h2⟩
  | bld T =>
   simp only [Xy] at h
   cases rs with
   | nil => simp [TTs] at h
   | cons x rs =>
    simp only [TTs] at h
    simp only [TL]
    obtain ⟨b1,b2,e,h1,h2⟩:=h
    exact ⟨b1,b2,e,h1,Zw5 pk hl' h2⟩
  | _ => simp only [Xy] at h; simp only [TL]; exact Zw5 pk hl' h
 | [],_ :: _,rs,bs,hl,_ => by simp at hl
 | _ :: _,[],rs,bs,hl,_ => by simp at hl
theorem Zbs:∀ (u:Q3),Zy u = Z3.put (fun _ => .fresh) u
 | [] => rfl
 | (a,x) :: u => by
  funext r
  simp only [Zy,Z3.put,Zu,Zbs u]
  grind
theorem KV:∀ (as:List AV) (i s:Nat),Zz (index i as) s = .dead ∨ ∃ j,s = i + j ∧ as[j]? = some (Zz (index i as) s)
 | [],i,s => .inl rfl
 | x :: as,i,s => by
  simp only [index,Zz]
  cases h:Ja s i with
  | true => simp_all
  | false =>
   simp only [cond_false]
   rcases KV as (i + 1) s with h | ⟨j,h1,h2⟩
   ·exact .inl h
   ·exact .inr ⟨j + 1,by omega,by simpa using h2⟩
theorem Znz {as:List AV} {j:Nat} {x:AV} (h:as[j]? = some x):∀ r ∈ Zb x,r ∈ Zh as:=by
 induction as generalizing j with
 | nil => simp at h
 | cons y as ih =>
  grind [Zh]
theorem Zer {as:List AV} {vs:List Value} (h:ZX σ w lim as vs):as.length = vs.length:=by
 induction as generalizing vs with
 | nil => cases vs <;> simp [ZX] at h ⊢
 | cons x as ih =>
  cases vs with
  | nil => simp [ZX] at h
  | cons v vs => simp only [ZX] at h; simp [ih h.2]
theorem Zdb:(xs:List RV) → (n:Nat) → (ZG n xs).1.length = xs.length
 | [],n => rfl
 | x :: xs,n => by simp only [ZG,JF,Zdb xs]
theorem XN:(pk:List Kd) → (as:List AV) → ∀ r ∈ Ww (Qw pk as),r ∈ Zh as
 | [],as,r,hr => by contradiction
 | k :: pk,[],r,hr => by grind [Qw,Ww]
 | k :: pk,x :: as,r,hr => by
  simp only [Zh,Js]
  cases k with
  | box l =>
   simp only [Qw] at hr
   cases x with
   | bx b j =>
    simp only [Ww,VM] at hr
    rcases hr with rfl | hr
    ·exact .inl (by simp [Zb])
    ·exact .inr (XN pk as r hr)
   | _ => simp only [Ww] at hr; exact .inr (XN pk as r hr)
  | bld T =>
   simp only [Qw] at hr
   cases x with
   | bx b j =>
    simp only [Ww,VM] at hr
    rcases hr with rfl | hr
    ·exact .inl (by simp [Zb])
    ·exact .inr (XN pk as r hr)
   | _ => simp only [Ww] at hr; exact .inr (XN pk as r hr)
  | _ => simp only [Qw] at hr; exact .inr (XN pk as r hr)
mutual
theorem ZFz:(x:RV) → (n:Nat) → (∀ r ∈ Zb (put n x).1,r < (put n x).2.2) ∧ ∀ p ∈ (put n x).2.1,p.1 < (put n x).2.2 ∧ KF p.2 = true ∧ ∀ cs,p.2 = .live (.box cs) → ∀ q ∈ Zh cs,q < (put n x).2.2
 | .view t x,n => by simp only [put]; rw [ZjT]; simp
 | .own t sh xs,n => by simp [put,Zb,KF]
 | .box cs,n => by
  obtain ⟨h1,h2⟩:=Zbg cs (n + 1)
  have hle:=WU cs (n + 1)
  simp only [put]
  refine ⟨by intro r hr; simp [Zb] at hr; omega,fun p hp => ?_⟩
  cases hp with
  | head => exact ⟨by simp only; omega,rfl,fun ds hd => by simp only [RS.live.injEq,Res.box.injEq] at hd; subst hd; exact h1⟩
  | tail _ hp => exact h2 p hp
 | .agg cs,n => by
  obtain ⟨h1,h2⟩:=Zbg cs n
  simp only [put]
  exact ⟨by simpa [Zb] using h1,h2⟩
 | .tup cs,n => by
  obtain ⟨h1,h2⟩:=Zbg cs n
  simp only [put]
  exact ⟨by simpa [Zb] using h1,h2⟩
 | .fn f,n => by simp [put,Zb]
 | .ns t xs,n => by simp [put,Zb]
 | .vp t xs,n => by simp [put,Zb]
 | .clo f cs,n => by
  obtain ⟨h1,h2⟩:=Zbg cs n
  simp only [put]
  exact ⟨by simpa [Zb] using h1,h2⟩
 | .bld T xs,n => by
  simp only [put]
  refine ⟨by intro r hr; simp [Zb] at hr; omega,fun p hp => ?_⟩
  simp only [VM,List.not_mem_nil,or_false] at hp
  rcases hp with rfl | rfl
  ·refine ⟨by simp only; omega,rfl,fun cs hc q hq => ?_⟩
   simp only [RS.live.injEq,Res.box.injEq] at hc
   subst hc
   simp [Zh,Zb] at hq
   omega
  ·exact ⟨by simp only; omega,rfl,fun cs hc => by cases hc⟩
theorem Zbg:(xs:List RV) → (n:Nat) → (∀ r ∈ Zh (ZG n xs).1,r < (ZG n xs).2.2) ∧ ∀ p ∈ (ZG n xs).2.1,p.1 < (ZG n xs).2.2 ∧ KF p.2 = true ∧ ∀ cs,p.2 = .live (.box cs) → ∀ q ∈ Zh cs,q < (ZG n xs).2.2
 | [],n => by simp [ZG,Zh]
 | x :: xs,n => by
  obtain ⟨h1,h2⟩:=ZFz x n
  obtain ⟨h3,h4⟩:=Zbg xs (put n x).2.2
  have hle:=WU xs (put n x).2.2
  simp only [ZG]
  refine ⟨fun r hr => ?_,fun p hp => ?_⟩
  ·simp only [Zh,Js] at hr
   rcases hr with hr | hr
   ·have:=h1 r hr; omega
   ·exact h3 r hr
  ·rcases Js.1 hp with hp | hp
   ·exact h4 p hp
   ·obtain ⟨a,b,c⟩:=h2 p hp
    exact ⟨by omega,b,fun cs hc q hq => by have:=c cs hc q hq; omega⟩
end
theorem Zxt:Xc (fun _ => .fresh) = fun _ => .fresh:=by
 funext n
 simp only [Xc,Zd2,ite_self]
theorem ZGX {avs:List AV} {u:Q3} (h:RelW G σ lim (enter avs u) tmps w) (hu:∀ p ∈ u,p.1 < ZZ ∧ KF p.2 = true ∧ ∀ cs,p.2 = .live (.box cs) → ∀ q ∈ Zh cs,q < ZZ)
  (hids:∀ r ∈ Zh avs,r < ZZ) (hp:∀ p ∈ G.pins,p.1 < ZZ):Wj G σ lim (enter avs u) tmps w:=by
 have e:Zy u = Z3.put (fun _ => .fresh) u:=Zbs u
 unfold enter at h ⊢
 rw [e] at h ⊢
 refine Wj.of_put (T:=fun _ => .fresh) (by rw [Zxt]; exact h) (fun p hp => ⟨(hu p hp).1,(hu p hp).2.1⟩) ⟨fun s r hr => ?_,fun r cs hr => ?_,hp⟩
 ·simp only at hr
  rcases KV avs 0 s with h | ⟨j,h1,h2⟩
  ·rw [h] at hr; simp [Zb] at hr
  ·exact hids r (Znz h2 r hr)
 ·simp only [Z3.put] at hr
  cases hl:Zu u r with
  | none => rw [hl] at hr; cases hr
  | some z => rw [hl] at hr; simp only at hr; exact (hu _ (Wc hl)).2.2 cs hr
theorem Zlm:(ks:List Kd) → (as:List AV) → W1 ks as = true → (Z7 ks as).length = (ZI ks).length
 | [],[],_ => rfl
 | [],_ :: _,h => by simp [W1] at h
 | k :: ks,[],h => by cases k <;> simp [W1] at h
 | k :: ks,a :: as,h => by
  cases k with
  | clo f l =>
   cases a with
   | clo g cs =>
    simp only [W1,Jh] at h
    have:=ZS h.1
    simp only [Z7,ZI,List.length_append,Zlm ks as h.2,this]
   | _ => simp [W1] at h
  | _ => grind [W1,Z7,ZI,JF,Zlm ks as h]
def Zf2:List Kd → Nat
 | [] => 0
 | .ref _ :: l => Zf2 l + 1
 | _ :: l => Zf2 l
theorem Zio:(ks:List Kd) → Y5 ks = false → Zf2 ks = 0
 | [],_ => rfl
 | k :: ks,h => by
  cases k with
  | ref l => simp [Y5] at h
  | _ => simp only [Y5] at h; simp only [Zf2]; exact Zio ks h
theorem ZbQ:(ks:List Kd) → (cs:List AV) → {q:List Nat} → Zt ks cs = some q → q.length = Zf2 ks
 | [],[],q,h => by simp [Zt] at h; subst h; rfl
 | k :: ks,a :: as,q,h => by
  have other:(∀ l,k ≠ .ref l) → q.length = Zf2 (k :: ks):=by
   intro hk
   have e:Zt (k :: ks) (a :: as) = Zt ks as:=by cases k <;> first | rfl | exact absurd rfl (hk _)
   have e2:Zf2 (k :: ks) = Zf2 ks:=by cases k <;> first | rfl | exact absurd rfl (hk _)
   rw [e] at h
   rw [e2]; exact ZbQ ks as h
  cases k with
  | ref l =>
   cases a with
   | bx s kk =>
    cases kk with
    | succ kk => simp [Zt] at h
    | zero =>
     simp only [Zt] at h
     cases hq2:Zt ks as with
     | none => rw [hq2] at h; simp at h
     | some q2 =>
      grind [VF.injEq,JF,Zf2,ZbQ ks as hq2]
   | _ => simp [Zt] at h
  | _ => exact other (by intro l; simp)
 | [],_ :: _,q,h => by simp [Zt] at h
 | k :: _,[],q,h => by cases k <;> simp [Zt] at h
theorem Zgk {σ:WM}:(ks:List Kd) → (q:List Nat) → (vs vs':List Value) → q.length = Zf2 ks → Z6 σ q ks vs → Z6 σ q ks vs' → Yj ks vs vs'
 | [],q,vs,vs',_,_,_ => by simp [Yj]
 | k :: ks,q,[],vs',_,_,_ => by cases k <;> simp [Yj]
 | k :: ks,q,v :: vs,[],_,_,_ => by cases k <;> simp [Yj]
 | k :: ks,q,v :: vs,v' :: vs',hl,h,h' => by
  have other:(∀ l,k ≠ .ref l) → Yj (k :: ks) (v :: vs) (v' :: vs'):=by
   intro hk
   have e2:Zf2 (k :: ks) = Zf2 ks:=by cases k <;> first | rfl | exact absurd rfl (hk _)
   have e3:Yj (k :: ks) (v :: vs) (v' :: vs') = Yj ks vs vs':=by cases k <;> first | rfl | exact absurd rfl (hk _)
   rw [e3]
   rw [e2] at hl
   cases q with
   | nil => exact Zgk (σ:=σ) ks [] vs vs' hl QZ QZ
   | cons q0 q =>
    have e4:∀ (u:Value) (us:List Value),Z6 σ (q0 :: q) (k :: ks) (u :: us) = Z6 σ (q0 :: q) ks us:=by intro u us; cases k <;> first | rfl | exact absurd rfl (hk _)
    rw [e4] at h h'
    exact Zgk ks (q0 :: q) vs vs' hl h h'
  cases k with
  | ref l =>
   cases q with
   | nil => simp [Zf2] at hl
   | cons q0 q =>
    simp only [Z6] at h h'
    simp only [Yj]
    exact ⟨h'.1.trans h.1.symm,Zgk ks q vs vs' (by simpa [Zf2] using hl) h.2 h'.2⟩
  | _ => exact other (by intro l; simp)
theorem ZhX {σ1:WM} {w0:World} (h:RelW G σ lim st tmps w):(ks:List Kd) → {as:List AV} → {vs:List Value} → {l l':List Nat} → {nm:List (List Nat)} → (Y9 ks as).run st.tbl l = some (nm,l') → ZX σ w lim as vs → WL σ1 w0 nm ks vs → (∀ q ∈ nm.flatten,σ q = σ1 q) → X5 w0 w ks vs
 | [],as,vs,l,l',nm,hm,hv,hr,hq => by cases vs <;> simp [X5]
 | k :: ks,[],vs,l,l',nm,hm,hv,hr,hq => by
  match vs,hv with
  | [],_ => cases k <;> simp [X5]
 | k :: ks,a :: as,vs,l,l',nm,hm,hv,hr,hq => by
  match vs,hv with
  | v :: vs,hv =>
   simp only [ZX] at hv
   have other:(∀ l,k ≠ .box l) → X5 w0 w (k :: ks) (v :: vs):=fun hk => by
    rw [KJ hk] at hm
    have e:X5 w0 w (k :: ks) (v :: vs) = X5 w0 w ks vs:=by cases k <;> first | rfl | exact absurd rfl (hk _)
    have e2:WL σ1 w0 nm (k :: ks) (v :: vs) = WL σ1 w0 nm ks vs:=by cases k <;> first | (cases nm <;> rfl) | exact absurd rfl (hk _)
    rw [e]
    rw [e2] at hr
    exact ZhX h ks hm hv.2 hr hq
   cases k with
   | box l0 =>
    cases a with
    | bx r kk =>
     cases kk with
     | succ kk => exact (M.run_fail hm).elim
     | zero =>
      simp only [Y9] at hm
      obtain ⟨q0,l5,h5,h6⟩:=M.run_bind_some hm
      obtain ⟨qs,l6,h7,h8⟩:=M.run_bind_some h6
      obtain ⟨h9,_⟩:=M.run_ret h8
      subst h9
      simp only [WL] at hr
      simp only [X5]
      refine ⟨fun b cs T fz cs' T' fz' e1 e2 e3 => ?_,ZhX h ks h7 hv.2 hr.2 (fun q' hq' => hq q' (by simp_all))⟩
      have hold:=hr.1 b cs T fz e1 e2
      cases hh:Y5 l0 with
      | false =>
       have hz:=Zio l0 hh
       exact Zgk (σ:=σ) l0 [] _ _ (by simp [hz]) QZ QZ
      | true =>
       unfold ZbB at h5
       rw [hh] at h5
       simp only [cond_true,M.run] at h5
       cases hrr:st.tbl r with
       | fresh => simp [hrr,M.run] at h5
       | gone => simp [hrr,M.run] at h5
       | live y =>
        cases y with
        | arr => simp [hrr,M.run] at h5
        | nest => simp [hrr,M.run] at h5
        | box as0 =>
         simp only [hrr] at h5
         have hn:=M.run_ofOpt h5
         obtain ⟨hR,_⟩:=h.res r _ hrr
         obtain ⟨b0,ws,U,f1,f2,f3,f4,_⟩:=XW hv.1 hR
         rw [e1] at f2
         obtain rfl:b = b0:=by simpa using f2
         rw [e3] at f3
         obtain ⟨rfl,_⟩:cs' = ws ∧ _:=by simpa using f3
         have hnew:=Yg l0 as0 hn f4 (ZeZ l0 cs'.toList)
         exact Zgk (σ:=σ1) l0 q0 _ _ (ZbQ l0 as0 hn) hold (Xi _ _ _ (fun q' hq' => (hq q' (by simp_all)).symm) hnew)
    | _ => exact (M.run_fail hm).elim
   | _ => exact other (by intro l; simp)
  | [],hv => simp [ZX] at hv
theorem ZnO (h : RelW G σ lim st tmps w) : (ks : List Kd) → {as : List AV} → {vs : List Value} → X8 as = true → ZX σ w lim as vs → WL σ w (Zag st.tbl ks as) ks vs
  | [], as, vs, hb, hv => by
    grind [WL]
  | k :: ks, [], vs, hb, hv => by
    match vs, hv with
    | [], _ => cases k <;> simp [Zag, WL]
  | k :: ks, a :: as, vs, hb, hv => by
    match vs, hv with
    | v :: vs, hv =>
      simp only [ZX] at hv
      simp only [X8, UA, Jh] at hb
      have ih := ZnO h ks hb.2 hv.2
      have other : (∀ l, k ≠ .box l) → WL σ w (Zag st.tbl (k :: ks) (a :: as)) (k :: ks) (v :: vs) := fun hk => by
        have e : Zag st.tbl (k :: ks) (a :: as) = Zag st.tbl ks as := by cases k <;> first | rfl | exact absurd rfl (hk _)
        rw [e]
        have e2 : ∀ nm, WL σ w nm (k :: ks) (v :: vs) = WL σ w nm ks vs := by intro nm; cases k <;> first | (cases nm <;> rfl) | exact absurd rfl (hk _)
        rw [e2]; exact ih
      cases k with
      | box l0 =>
        cases a with
        | bx r kk =>
         cases kk with
         | succ kk => simp at hb
         | zero =>
          simp only [Zag, WL]
          refine ⟨fun b cs T fz e1 e2 => ?_, ih⟩
          cases hh : Y5 l0 with
          | false => exact QZ
          | true =>
            simp only [cond_true]
            cases hr : st.tbl r with
            | fresh => exact QZ
            | gone => exact QZ
            | live y =>
              cases y with
              | arr => exact QZ
              | nest => exact QZ
              | box as0 =>
                simp only
                cases hn : Zt l0 as0 with
                | none => exact QZ
                | some q =>
                  obtain ⟨hR, _⟩ := h.res r _ hr
                  obtain ⟨b0, ws, U, f1, f2, f3, f4, _⟩ := XW hv.1 hR
                  rw [e1] at f2
                  obtain rfl : b = b0 := by simpa using f2
                  rw [e2] at f3
                  obtain ⟨rfl, _⟩ : cs = ws ∧ _ := by simpa using f3
                  exact Yg l0 as0 hn f4 (ZeZ l0 cs.toList)
        | _ => simp at hb
      | _ => exact other (by intro l; simp)
    | [], hv => simp [ZX] at hv
theorem Zah {tbl:Z3} {lim:Nat → Nat} (hres:∀ r x,tbl r = .live x → RR σ w lim r x ∧ Zi tbl (Qb r x)):(ks:List Kd) → (as:List AV) → ∀ q ∈ (Zag tbl ks as).flatten,∃ r cs,tbl r = .live (.box cs) ∧ q ∈ Zh cs
 | [],as,q,hq => by
  contradiction
 | k :: ks,[],q,hq => by
  have:Zag tbl (k :: ks) [] = []:=by cases k <;> rfl
  rw [this] at hq; simp at hq
 | k :: ks,a :: as,q,hq => by
  have other:Zag tbl (k :: ks) (a :: as) = Zag tbl ks as → ∃ r cs,tbl r = .live (.box cs) ∧ q ∈ Zh cs:=fun e => by
   rw [e] at hq
   exact Zah hres ks as q hq
  cases k with
  | box l0 =>
   cases a with
   | bx r kk =>
    cases kk with
    | succ kk => exact other rfl
    | zero =>
     simp only [Zag,List.flatten_cons,Js] at hq
     rcases hq with hq | hq
     ·cases hh:Y5 l0 with
      | false => rw [hh] at hq; simp at hq
      | true =>
       rw [hh] at hq
       simp only [cond_true] at hq
       cases hr:tbl r with
       | fresh => rw [hr] at hq; simp at hq
       | gone => rw [hr] at hq; simp at hq
       | live y =>
        rw [hr] at hq
        cases y with
        | arr => simp at hq
        | nest => simp at hq
        | box as0 =>
         simp only at hq
         cases hn:Zt l0 as0 with
         | none => rw [hn] at hq; simp at hq
         | some q' => rw [hn] at hq; exact ⟨r,as0,hr,Ki l0 as0 hn q hq⟩
     ·exact Zah hres ks as q hq
   | _ => exact other rfl
  | _ => exact other rfl
theorem ZDs : {a b:List Nat} → nEq a b = true → a = b
 | [],[],_ => rfl
 | x :: a,y :: b,h => by
  simp only [nEq,Jh] at h
  rw [ZS h.1,ZDs h.2]
 | [],_ :: _,h => by simp [nEq] at h
 | _ :: _,[],h => by simp [nEq] at h
theorem ZwP : {a b:List (List Nat)} → Zze a b = true → a = b
 | [],[],_ => rfl
 | x :: a,y :: b,h => by
  simp only [Zze,Jh] at h
  rw [ZDs h.1,ZwP h.2]
 | [],_ :: _,h => by simp [Zze] at h
 | _ :: _,[],h => by simp [Zze] at h
theorem Zd0 {w0:World}:(ks:List Kd) → (vs:List Value) → X5 w0 w (Xx ks) (Xy ks vs) → X5 w0 w ks vs
 | [],vs,_ => by cases vs <;> simp [X5]
 | k :: ks,[],_ => by cases k <;> simp [X5]
 | k :: ks,v :: vs,h => by
  cases k with
  | box l =>
   simp only [Xx,Xy,X5] at h ⊢
   exact ⟨h.1,Zd0 ks vs h.2⟩
  | bld T =>
   simp only [Xx,Xy,X5] at h ⊢
   exact Zd0 ks vs h
  | _ => simp only [Xx,Xy] at h; simp only [X5]; exact Zd0 ks vs h
theorem Zoq {rvs:List RV} {vs:List Value} {bs:List Nat} {pk:List Kd} {n:Nat} (hlz:∀ b,w.heap.size ≤ b → lim b = 0) (hgl:Ze6 w lim) (hT:TTs w lim rvs vs bs) (hnd:bs.Nodup) (hbs:∀ b ∈ bs,b < w.heap.size)
    (hn:rvs.length ≤ n) (hin:(ZG 0 rvs).2.2 ≤ ZZ) (hco:W1 pk (ZG 0 rvs).1 = true) (hb:X8 (Qw (ZI pk) (Z7 pk (ZG 0 rvs).1)) = true) :
    ∃ σ,WC ⟨w,lim,bs,Yx (Qw (ZI pk) (Z7 pk (ZG 0 rvs).1)) (Xy (ZI pk) (WT pk vs)) ++ (Zat pk rvs).flatten.map (fun q => (q,σ q))⟩ n (enter (ZG 0 rvs).1 (ZG 0 rvs).2.1) { tmps:=vs.toArray ++ UB (n - vs.toArray.size) undef,defers:=[] } w ∧
      ZX σ w lim (Qw (ZI pk) (Z7 pk (ZG 0 rvs).1)) (Xy (ZI pk) (WT pk vs)) ∧ vs.length = rvs.length ∧ (WT pk vs).length = (ZI pk).length ∧ WL σ w (Zat pk rvs) (Xx (ZI pk)) (Xy (ZI pk) (WT pk vs)):=by
  have h0:RelW ⟨w,lim,bs,[]⟩ (fun _ => undef) lim ⟨fun _ => .dead,fun _ => .fresh⟩ (vs.toArray ++ UB (n - vs.toArray.size) undef) w :=
    { env:=by intro s; simp [RA]
      known:=by intro s; simp [Zb,Zi]
      res:=by intro r x h; simp at h
      inj:=by intro r r' b h; simp [ZO] at h
      own:=by intro r b h; simp [ZO] at h
      ext:=Ext.refl _ _
      keep:=fun _ _ _ => rfl
      same:=⟨rfl,rfl,rfl⟩
      lz:=hlz
      limk:=fun _ _ _ => rfl
      glob:=hgl
      pin:=by intro p hp; simp at hp }
  obtain ⟨σ,hP,hA,hK⟩:=W8 rvs 0 h0 hT (fun _ _ _ => rfl) ⟨hnd,fun b hb => ⟨.inr hb,by intro r h; simp [ZO] at h⟩⟩
  have hlen:vs.length = rvs.length:=by rw [← Zdb rvs 0]; exact (Zer hA).symm
  have hfA:=Zjz pk hco hA
  have hL:=ZwL (ZI pk) hfA
  have hfl:(WT pk vs).length = (ZI pk).length:=by rw [← Zer hfA]; exact Zlm pk _ hco
  have hrv:WL σ w (Zat pk rvs) (Xx (ZI pk)) (Xy (ZI pk) (WT pk vs)):=by
    have:=ZnO hP.rel (Xx (ZI pk)) hb hL
    simp only at this
    rw [← Zbs] at this
    exact this
  refine ⟨σ,⟨σ,lim,?_,by simp; omega,rfl⟩,hL,hlen,hfl,hrv⟩
  have hR:=hP.rel
  simp only at hR hK
  rw [← Zbs] at hR hK
  have hpin:=ZIw hb hL
  obtain ⟨lw1,lw2⟩:=Zbg rvs 0
  refine ZGX ?_ (fun p hp => ⟨V0 (lw2 p hp).1 hin,(lw2 p hp).2.1,fun cs hc q hq => V0 ((lw2 p hp).2.2 cs hc q hq) hin⟩) (fun r hr => V0 (lw1 r hr) hin)
    (fun p hp => by
      rcases Js.1 hp with hp | hp
      · exact V0 (lw1 p.1 (ZcU pk _ _ (XN (ZI pk) _ _ (Zf8 _ _ p hp)))) hin
      · obtain ⟨q,hq,rfl⟩:=VG.1 hp
        obtain ⟨r,cs,hr,hqc⟩:=Zah hR.res (Xx (ZI pk)) (Qw (ZI pk) (Z7 pk (ZG 0 rvs).1)) q hq
        simp only [Zbs,Z3.put] at hr
        cases hl:Zu (ZG 0 rvs).2.1 r with
        | none => rw [hl] at hr; cases hr
        | some z => rw [hl] at hr; simp only at hr; exact V0 ((lw2 _ (Wc hl)).2.2 cs hr q hqc) hin)
  exact
    { env:=by
        intro s
        rcases KV (ZG 0 rvs).1 0 s with h | ⟨j,h1,h2⟩
        · simp only [enter,h,RA]
        · have hs:s = j:=by omega
          subst hs
          have hjl:s < vs.length:=by
            rw [← Zer hA]
            grind
          have hv:vs[s]? = some vs[s]:=by simp [hjl]
          have:=Ztf hA h2 hv
          simp only [enter]
          rw [Array.getD_eq_getD_getElem?,Array.getElem?_append_left (by simpa using hjl)]
          simpa [hv] using this
      known:=by
        intro s
        rcases KV (ZG 0 rvs).1 0 s with h | ⟨j,h1,h2⟩
        · simp [enter,h,Zb,Zi]
        · intro r hr
          exact hK r (Znz h2 r hr)
      res:=hR.res,inj:=hR.inj,own:=hR.own,ext:=hR.ext,keep:=hR.keep,same:=hR.same,lz:=hR.lz,limk:=hR.limk,glob:=hR.glob
      pin:=by
        intro p hp
        rcases Js.1 hp with hp | hp
        · refine ⟨hpin p hp,?_⟩
          exact hK p.1 (ZcU pk _ _ (XN (ZI pk) _ _ (Zf8 _ _ p hp)))
        · obtain ⟨q,hq,rfl⟩:=VG.1 hp
          obtain ⟨r,cs,hr,hqc⟩:=Zah hR.res (Xx (ZI pk)) (Qw (ZI pk) (Z7 pk (ZG 0 rvs).1)) q hq
          exact ⟨rfl,(hR.res r _ hr).2 q hqc⟩ }
def Zw9 (w:World) (lim:Nat → Nat) (vs:List Value) (bs:List Nat) (pk:List Kd) (r:RV × List RV):Ending → World → Prop:=fun e w' => ∃ v lim' b1 b2,e = .returned v ∧ Ext w lim w' lim' ∧ (∀ b,w'.heap.size ≤ b → lim' b = 0) ∧
   (w'.os = w.os ∧ w'.tape = w.tape ∧ w'.output = w.output) ∧ (∀ b,b < w.heap.size → b ∉ bs → w'.heap[b]? = w.heap[b]? ∧ lim' b = lim b) ∧
   TT w' lim' r.1 v b1 ∧ TL w' lim' (ZI pk) (WT pk vs) r.2 b2 ∧ X5 w w' (ZI pk) (WT pk vs) ∧ (b1 ++ b2).Nodup ∧ ∀ b ∈ b1 ++ b2,b ∈ bs ∨ w.heap.size ≤ b
theorem Znx {f:Nat} {fn:Func} {code:Code} {pk:List Kd} {rk:Kd} {rvs:List RV} {r:RV × List RV} {vs:List Value} {bs:List Nat} (hf:C.P.funcs[f]? = some fn) (hb:fn.body = some code)
  (hlz:∀ b,w.heap.size ≤ b → lim b = 0) (hgl:Ze6 w lim) (hT:TTs w lim rvs vs bs) (hnd:bs.Nodup) (hbs:∀ b ∈ bs,b < w.heap.size) (hbx:X8 (Qw (ZI pk) (Z7 pk (ZG 0 rvs).1)) = true) (hn:rvs.length ≤ fn.ntmps) (hin:(ZG 0 rvs).2.2 ≤ ZZ) (hco:W1 pk (ZG 0 rvs).1 = true)
  (hwp:∀ (G:Glob),(∀ p ∈ G.pins,p.1 ∈ Ww (Qw (ZI pk) (Z7 pk (ZG 0 rvs).1)) ++ (Zat pk rvs).flatten) → WC G fn.ntmps (enter (ZG 0 rvs).1 (ZG 0 rvs).2.1) { tmps:=vs.toArray ++ UB (fn.ntmps - vs.toArray.size) undef,defers:=[] } w →
   code.wp C.P (fun e a w => ∃ e' st',e = Ex.out e' ∧ Yt C fn.results.toList pk (Qw (ZI pk) (Z7 pk (ZG 0 rvs).1)) (Zat pk rvs) rk some e' st' = some r ∧ WC G fn.ntmps st' a w) { tmps:=vs.toArray ++ UB (fn.ntmps - vs.toArray.size) undef,defers:=[] } w) :
  Calls C.P f vs.toArray w (Zw9 w lim vs bs pk r):=by
 obtain ⟨σ0,hS,hL,hlen,hfl,hRV⟩:=Zoq (pk:=pk) hlz hgl hT hnd hbs hn hin hco hbx
 refine calls_of_wp hf hb (wp_mono (hwp _ (fun p hp => by
  rcases Js.1 hp with hp | hp
  ·exact JG _ (Zf8 _ _ p hp)
  grind) hS) ?_)
 rintro e a' w' ⟨e',st',rfl,hK,hs⟩
 obtain ⟨σ,lim',⟨hR,_⟩,_,hd⟩:=hs
 have leave:(Zlw C fn.results.toList pk (Qw (ZI pk) (Z7 pk (ZG 0 rvs).1)) (Zat pk rvs) rk st').runK st'.tbl [] (fun x l => bif Zd3 l then some x else none) = some r →
   a'.defers = [] ∧ ∃ v,(results fn a'.tmps).run C.P w' = .ok v w' ∧ Zw9 w lim vs bs pk r (.returned v) w':=by
  intro hl
  rw [M.runK_eq] at hl
  cases hr:(Zlw C fn.results.toList pk (Qw (ZI pk) (Z7 pk (ZG 0 rvs).1)) (Zat pk rvs) rk st').run st'.tbl [] with
  | none => rw [hr] at hl; simp at hl
  | some p =>
   obtain ⟨q,lg⟩:=p
   rw [hr] at hl
   simp only [VK] at hl
   have hlow:Zd3 lg = true:=by
    grind
   rw [hlow] at hl
   simp only [cond_true,VF.injEq] at hl
   subst hl
   have hr:=Zqk hr hlow
   unfold Zlw at hr
   rw [Zek (st:=st') (st2:=⟨st'.env,Xc st'.tbl⟩) rfl] at hr
   obtain ⟨as,l1,h1,hr⟩:=M.run_bind_some hr
   obtain ⟨⟨y,u⟩,l2,h2,hr⟩:=M.run_bind_some hr
   obtain ⟨⟨ys,v⟩,l3,h3,hr⟩:=M.run_bind_some hr
   obtain ⟨nm',l4,h4,hr⟩:=M.run_bind_some hr
   obtain ⟨hok,hr2⟩:=M.run_guard hr
   simp only [Jh] at hok
   obtain ⟨hok,hnm⟩:=hok
   have hnm:=ZwP hnm
   obtain ⟨hq,_⟩:=M.run_ret hr2
   subst hnm
   obtain ⟨rv,r1,r2⟩:=ZmE hR h1
   obtain ⟨g1,k1⟩:=ZnY (st:=⟨st'.env,Xc st'.tbl⟩) (σ:=σ) (w:=w') (lim:=lim') rk _ h2
   obtain ⟨g2,k2⟩:=WK (st:=⟨st'.env,Xc st'.tbl⟩) (σ:=σ) (w:=w') (lim:=lim') (Xx (ZI pk)) _ h3
   obtain ⟨lim2,hR2,hE,hSh,hN,hB⟩:=hR.takes (g1.append g2) hok
   have hLf:ZX σ w' lim' (Qw (ZI pk) (Z7 pk (ZG 0 rvs).1)) (Xy (ZI pk) (WT pk vs)):=ZuJ hbx hL fun p hp => (hR.pin p (JG _ hp)).1
   have hStay:X5 w w' (ZI pk) (WT pk vs):=Zd0 _ _ (ZhX hR (Xx (ZI pk)) h4 hLf hRV fun q hq => (hR.pin (q,σ0 q) (List.mem_append_right _ (VG.2 ⟨q,hq,rfl⟩))).1)
   refine ⟨hd,rv,r1,rv,lim2,Qy σ (ZU u),Qy σ (ZU v),rfl,hR2.ext,hR2.lz,hR2.same,fun b hb1 hb2 => ⟨hR2.keep b hb1 hb2,hR2.limk b hb1 hb2⟩,?_,?_,hStay,?_,?_⟩
   ·rw [hq]; exact k1 rv r2 (fun r y hy => (hR.res r y hy).1) lim2 hE hSh.left
   ·rw [hq]; exact Zw5 (ZI pk) hfl (k2 _ hLf (fun r y hy => (hR.res r y hy).1) lim2 hE hSh.right)
   ·rw [← Zan,← Ya]; exact hN
   ·intro b hb; rw [← Zan,← Ya] at hb; exact (hB b hb).1.symm
 cases e' with
 | normal => exact leave hK
 | ret => exact leave hK
 | exit i => simp [Yt] at hK
theorem Zy1 (hC:∀ f cal,C.Φ f = some cal → Ctr C.P C.k f cal) (hm:C.P.follows .mixedOrders = true) {A:Nat → Ann} {f k:Nat} {fn:Func} {code:Code} {cal:Callee} {rk:Kd}
  (hf:C.P.funcs[f]? = some fn) (hb:fn.body = some code) (hname:(fn.name == "runtime.NumGoroutine") = false) (hfit:Xv C.P fn.ntmps code = true)
  (hlent:∀ rvs x,cal.run k rvs = some x → X8 (Qw (ZI cal.pk) (Z7 cal.pk (ZG 0 rvs).1)) = true)
  (hrun:∀ rvs x,cal.run k rvs = some x → ZuO C A fn.ntmps code fn.results.toList cal.pk rk rvs some = some (cal.enc x)):Ctr C.P k f cal where
 enters:=⟨fn,hf,hname,by rw [hb]; rfl⟩
 calls:=by
  intro rvs x hx w lim vs bs hlz hgl hT hnd hbs
  have h:=hrun rvs x hx
  have hbx:=hlent rvs x hx
  unfold ZuO at h
  cases hg:ZFq cal.pk rvs fn.ntmps with
  | false => rw [hg] at h; simp at h
  | true =>
   rw [hg] at h
   simp only [cond_true] at h
   simp only [ZFq,Jh] at hg
   exact Znx (rk:=rk) hf hb hlz hgl hT hnd hbs hbx (Jt hg.1.1) (Jt hg.1.2) hg.2 fun G hp hS => Wk hC hm hp code h hfit hS fun e st' a' w' hK hs => ⟨e,st',rfl,hK,hs⟩
end Go.Sh
namespace Go.Sh
open Go
variable [Gl]
def ZwS:Ex → St → Option (Ex × St):=fun e s => some (e,s)
def ZeM {R:Type} (K:Ex → St → Option R):Ex × St → Option R:=fun x => K x.1 x.2
theorem ZlB {R:Type} {nm:St → Option St} {b1:St → (Ex → St → Option (Ex × St)) → Option (Ex × St)} {bR:St → (Ex → St → Option R) → Option R}
  (h1:∀ st K,b1 st K = (b1 st ZwS).bind (ZeM K)) (hb:∀ st K,bR st K = (b1 st ZwS).bind (ZeM K)):∀ (n:Nat) (st:St) (K:Ex → St → Option R),
  Zef bR nm n st K = (Zef b1 nm n st ZwS).bind (ZeM K)
 | 0,st,K => rfl
 | n + 1,st,K => by
  simp only [Zef]
  rw [hb]
  conv => rhs; rw [h1]
  rw [Uz]
  congr 1
  funext x
  obtain ⟨e,s⟩:=x
  cases e with
  | exit i => rfl
  | ret => rfl
  | normal =>
   simp only [ZeM]
   cases nm s with
   | none => rfl
   | some s' => exact ZlB h1 hb n s' K
theorem Q8 {C:Ctx} {A:Nat → Ann} {kp:List Nat}:(c:Code) → {R:Type} → (st:St) → (K:Ex → St → Option R) → W3 C A kp c st K = (W3 C A kp c st ZwS).bind (ZeM K)
 | .skip,R,st,K => rfl
 | .label _,R,st,K => rfl
 | .ret,R,st,K => rfl
 | .exit _,R,st,K => rfl
 | .goto _,R,st,K => rfl
 | .refuse _,R,st,K => rfl
 | .rangeFunc _ _ _ _,R,st,K => rfl
 | .region id ops d,R,st,K => by
  simp only [W3]
  cases d with
  | false => simp only [cond_false,Zp7,Uz]; rfl
  | true =>
   simp only [cond_true,ZgD,Uz]
   congr 1
   funext x
   cases KB ops.toList (Ym ops.toList []) ([] ++ x.2) <;> rfl
 | .seq a b,R,st,K => by
  simp only [W3]
  rw [Q8 a]
  conv => rhs; rw [Q8 a]
  rw [Uz]
  congr 1
  funext x
  obtain ⟨e,s⟩:=x
  cases e with
  | normal => exact Q8 b s K
  | exit i => rfl
  | ret => rfl
 | .cond c a b,R,st,K => by
  simp only [W3]
  split
  ·rename_i t _
   cases t with
   | true => simp only [cond_true]; exact Q8 a _ K
   | false => simp only [cond_false]; exact Q8 b _ K
  ·rfl
 | .block id c,R,st,K => by
  simp only [W3]
  rw [Q8 c]
  conv => rhs; rw [Q8 c]
  rw [Uz]
  congr 1
  funext x
  obtain ⟨e,s⟩:=x
  cases e with
  | normal => rfl
  | ret => rfl
  | exit i => simp only [ZeM,Zoj]; cases Ja i id <;> rfl
 | .loop c,R,st,K => by
  simp only [W3,Uz]
  congr 1
  funext s
  exact ZlB (fun st K => Q8 c st K) (fun st K => Q8 c st K) C.k s K
 | .scope c,R,st,K => by simp only [W3]; exact Q8 c st K
theorem Zzv {C:Ctx} {A:Nat → Ann} {n:Nat} {body:Code} {rs:List ResultVar} {pk:List Kd} {rk:Kd} {rvs:List RV} {R:Type} (K:RV × List RV → Option R) :
  ZuO C A n body rs pk rk rvs K = (ZuO C A n body rs pk rk rvs some).bind K:=by
 unfold ZuO
 cases ZFq pk rvs n with
 | false => rfl
 | true =>
  simp only [cond_true]
  rw [Q8]
  conv => rhs; rw [Q8]
  rw [Uz]
  congr 1
  funext x
  obtain ⟨e,s⟩:=x
  simp only [ZeM]
  cases e <;> simp only [Yt,M.runK_eq,Uz,VK,Option.bind_none]
  all_goals grind
mutual
def Kd.den:Kd → Type
 | .view t => t.den
 | .own t _ => List t.den
 | .box ks => Kd.dens ks
 | .agg ks => Kd.dens ks
 | .tup ks => Kd.dens ks
 | .fn _ => Unit
 | .bld _ => List Int
 | .use _ => List Int
 | .clo _ ks => Kd.dens ks
 | .ref ks => Kd.dens ks
 | .ns t => List t.den
 | .vp t => List t.den
def Kd.dens:List Kd → Type
 | [] => Unit
 | k :: ks => k.den × Kd.dens ks
end
mutual
def enc:(k:Kd) → k.den → RV
 | .view t,x => .view t x
 | .own t sh,xs => .own t sh xs
 | .box ks,x => .box (WO ks x)
 | .agg ks,x => .agg (WO ks x)
 | .tup ks,x => .tup (WO ks x)
 | .fn f,_ => .fn f
 | .bld T,xs => .bld T xs
 | .use T,xs => .bld T xs
 | .clo f ks,x => .clo f (WO ks x)
 | .ref ks,x => .box (WO ks x)
 | .ns t,xs => .ns t xs
 | .vp t,xs => .vp t xs
def WO:(ks:List Kd) → Kd.dens ks → List RV
 | [],_ => []
 | k :: ks,x => enc k x.1 :: WO ks x.2
end
def ZjS (t:Ty):RV → Option t.den
 | .view t' x => if h:t' = t then some (h ▸ x:t.den) else none
 | _ => none
def ZzS (t:Ty) (sh:Bool):RV → Option (List t.den)
 | .own t' sh' xs => if h:t' = t then (bif sh == sh' then some (h ▸ xs:List t.den) else none) else none
 | _ => none
def Zva:RV → Option (List RV)
 | .box cs => some cs
 | _ => none
def asAgg:RV → Option (List RV)
 | .agg cs => some cs
 | _ => none
def ZzU:RV → Option (List RV)
 | .tup cs => some cs
 | _ => none
def ZGO (f:Nat):RV → Option Unit
 | .fn g => bif Ja f g then some () else none
 | _ => none
def ZzQ (f:Nat):RV → Option (List RV)
 | .clo g cs => bif Ja f g then some cs else none
 | _ => none
def ZGP (t:Ty):RV → Option (List t.den)
 | .ns t' xs => if h:t' = t then some (h ▸ xs:List t.den) else none
 | _ => none
def ZGQ (t:Ty):RV → Option (List t.den)
 | .vp t' xs => if h:t' = t then some (h ▸ xs:List t.den) else none
 | _ => none
def Zu9 (T:TypeId):RV → Option (List Int)
 | .bld U xs => bif Ja T U then some xs else none
 | _ => none
mutual
def dec:(k:Kd) → RV → Option k.den
 | .view t,r => ZjS t r
 | .own t sh,r => ZzS t sh r
 | .box ks,r => (Zva r).bind (Zcj ks)
 | .agg ks,r => (asAgg r).bind (Zcj ks)
 | .tup ks,r => (ZzU r).bind (Zcj ks)
 | .fn f,r => ZGO f r
 | .bld T,r => Zu9 T r
 | .use T,r => Zu9 T r
 | .clo f ks,r => (ZzQ f r).bind (Zcj ks)
 | .ref ks,r => (Zva r).bind (Zcj ks)
 | .ns t,r => ZGP t r
 | .vp t,r => ZGQ t r
def Zcj:(ks:List Kd) → List RV → Option (Kd.dens ks)
 | [],[] => some ()
 | [],_ :: _ => none
 | _ :: _,[] => none
 | k :: ks,x :: xs => (dec k x).bind fun y => (Zcj ks xs).bind fun ys => some (y,ys)
end
theorem Zxd {t:Ty} {r:RV} {x:t.den} (h:ZjS t r = some x):r = .view t x:=by
 unfold ZjS at h
 grind
theorem ZzT {t:Ty} {sh:Bool} {r:RV} {x:List t.den} (h:ZzS t sh r = some x):r = .own t sh x:=by
 unfold ZzS at h
 grind
theorem ZqG {r:RV} {cs:List RV} (h:Zva r = some cs):r = .box cs:=by unfold Zva at h; split at h <;> simp at h; rw [h]
theorem ZzP {r:RV} {cs:List RV} (h:asAgg r = some cs):r = .agg cs:=by unfold asAgg at h; split at h <;> simp at h; rw [h]
theorem ZzV {r:RV} {cs:List RV} (h:ZzU r = some cs):r = .tup cs:=by unfold ZzU at h; split at h <;> simp at h; rw [h]
theorem ZEc {f:Nat} {r:RV} {x:Unit} (h:ZGO f r = some x):r = .fn f:=by
 unfold ZGO at h
 split at h
 ·rename_i g
  cases hb:Ja f g with
  | false => rw [hb] at h; simp at h
  | true => rw [ZS hb]
 ·cases h
theorem ZzR {f:Nat} {r:RV} {cs:List RV} (h:ZzQ f r = some cs):r = .clo f cs:=by
 unfold ZzQ at h
 split at h
 ·rename_i g l
  cases hb:Ja f g with
  | false => rw [hb] at h; simp at h
  | true => simp_all
 ·cases h
theorem ZEd {t:Ty} {r:RV} {x:List t.den} (h:ZGP t r = some x):r = .ns t x:=by
 unfold ZGP at h
 grind
theorem ZEe {t:Ty} {r:RV} {x:List t.den} (h:ZGQ t r = some x):r = .vp t x:=by
 unfold ZGQ at h
 split at h
 ·split at h
  ·rename_i e; subst e; simp at h; rw [h]
  ·cases h
 ·cases h
theorem ZqF {T:TypeId} {r:RV} {x:List Int} (h:Zu9 T r = some x):r = .bld T x:=by
 unfold Zu9 at h
 split at h
 ·rename_i U xs
  cases hb:Ja T U with
  | false => rw [hb] at h; simp at h
  | true => simp_all
 ·cases h
mutual
theorem Zvg:(k:Kd) → (r:RV) → (x:k.den) → dec k r = some x → r = enc k x
 | .view t,r,x,h => by simp only [dec] at h; simp only [enc]; exact Zxd h
 | .own t sh,r,x,h => by simp only [dec] at h; simp only [enc]; exact ZzT h
 | .box ks,r,x,h => by
  simp only [dec] at h
  obtain ⟨cs,h1,h2⟩:=Uy.1 h
  simp only [enc,ZqG h1,QU ks cs x h2]
 | .agg ks,r,x,h => by
  simp only [dec] at h
  obtain ⟨cs,h1,h2⟩:=Uy.1 h
  simp only [enc,ZzP h1,QU ks cs x h2]
 | .tup ks,r,x,h => by
  simp only [dec] at h
  obtain ⟨cs,h1,h2⟩:=Uy.1 h
  simp only [enc,ZzV h1,QU ks cs x h2]
 | .fn f,r,x,h => by simp only [dec] at h; simp only [enc]; exact ZEc h
 | .bld T,r,x,h => by simp only [dec] at h; simp only [enc]; exact ZqF h
 | .use T,r,x,h => by simp only [dec] at h; simp only [enc]; exact ZqF h
 | .clo f ks,r,x,h => by
  simp only [dec] at h
  obtain ⟨cs,h1,h2⟩:=Uy.1 h
  simp only [enc,ZzR h1,QU ks cs x h2]
 | .ns t,r,x,h => by simp only [dec] at h; simp only [enc]; exact ZEd h
 | .vp t,r,x,h => by simp only [dec] at h; simp only [enc]; exact ZEe h
 | .ref ks,r,x,h => by
  simp only [dec] at h
  obtain ⟨cs,h1,h2⟩:=Uy.1 h
  simp only [enc,ZqG h1,QU ks cs x h2]
theorem QU:(ks:List Kd) → (rs:List RV) → (x:Kd.dens ks) → Zcj ks rs = some x → rs = WO ks x
 | [],[],x,h => rfl
 | k :: ks,r :: rs,x,h => by
  simp only [Zcj] at h
  obtain ⟨y,h1,h⟩:=Uy.1 h
  obtain ⟨ys,h2,h⟩:=Uy.1 h
  cases h
  simp only [WO,← Zvg k r y h1,← QU ks rs ys h2]
 | [],_ :: _,x,h => by simp [Zcj] at h
 | _ :: _,[],x,h => by simp [Zcj] at h
end
theorem Zic:(ks:List Kd) → (x:Kd.dens ks) → (WO ks x).length = ks.length
 | [],_ => rfl
 | k :: ks,x => by simp only [WO,JF,Zic ks]
theorem Zp0 {ks ls:List Kd} {as bs:List AV} (h:ks.length = as.length):Qw (ks ++ ls) (as ++ bs) = Qw ks as ++ Qw ls bs:=by
 induction ks generalizing as with
 | nil =>
  grind [Qw]
 | cons k ks ih =>
  cases as with
  | nil => simp at h
  | cons a as =>
   have ih:=ih (as:=as) (by simpa using h)
   cases k <;> simp [Qw,ih]
theorem Zom (a b:List AV):X8 (a ++ b) = (X8 a && X8 b):=by simp [X8]
theorem Zh8:(ks:List Kd) → (x:Kd.dens ks) → (n:Nat) → X8 (Qw ks (ZG n (WO ks x)).1) = true
 | [],_,n => rfl
 | k :: ks,x,n => by
  have ih:=Zh8 ks x.2
  cases k with
  | box l =>
   simp only [WO,enc,ZG,put,Qw,X8,UA,UC] at ih ⊢
   exact ih _
  | bld T =>
   simp only [WO,enc,ZG,put,Qw,X8,UA,UC] at ih ⊢
   exact ih _
  | _ => grind [WO,enc,ZG,Qw]
theorem Zj2:(ks:List Kd) → (x:Kd.dens ks) → (n:Nat) → X8 (Qw (ZI ks) (Z7 ks (ZG n (WO ks x)).1)) = true
 | [],_,n => rfl
 | k :: ks,x,n => by
  have ih:=Zj2 ks x.2
  cases k with
  | box l =>
   simp only [WO,enc,ZG,put,ZI,Z7,Qw,X8,UA,UC] at ih ⊢
   exact ih _
  | bld T =>
   simp only [WO,enc,ZG,put,ZI,Z7,Qw,X8,UA,UC] at ih ⊢
   exact ih _
  | clo f l =>
   simp only [WO,enc,ZG,put,ZI,Z7]
   rw [Zp0 (by rw [Zdb]; exact (Zic l x.1).symm),Zom,Jh]
   exact ⟨Zh8 l x.1 n,ih _⟩
  | _ => grind [WO,enc,ZG,ZI,Z7,Qw]
abbrev Ans (pk:List Kd) (rk:Kd):Type:=rk.den × Kd.dens (Xx (ZI pk))
def Zz3 (pk:List Kd) (rk:Kd) (r:RV × List RV):Option (Ans pk rk):=(dec rk r.1).bind fun x => (Zcj (Xx (ZI pk)) r.2).bind fun l => some (x,l)
def ZGW (pk:List Kd) (rk:Kd) (x:Ans pk rk):RV × List RV:=(enc rk x.1,WO (Xx (ZI pk)) x.2)
theorem Zxs {pk:List Kd} {rk:Kd} {r:RV × List RV} {x:Ans pk rk} (h:Zz3 pk rk r = some x):r = ZGW pk rk x:=by
 unfold Zz3 at h
 obtain ⟨y,h1,h⟩:=Uy.1 h
 obtain ⟨ys,h2,h⟩:=Uy.1 h
 cases h
 obtain ⟨a,b⟩:=r
 simp only [ZGW,← Zvg rk a y h1,← QU (Xx (ZI pk)) b ys h2]
def mk (pk:List Kd) (rk:Kd) (F:Nat → Kd.dens pk → Option (Ans pk rk)):Callee :=
 { ρ:=Ans pk rk,pk:=pk,run:=fun k rvs => (Zcj pk rvs).bind (F k),enc:=ZGW pk rk }
theorem ZFg {C:Ctx} (hC:∀ f cal,C.Φ f = some cal → Ctr C.P C.k f cal) (hm:C.P.follows .mixedOrders = true) {A:Nat → Ann} {f k:Nat} {fn:Func} {code:Code} {pk:List Kd} {rk:Kd} {F:Nat → Kd.dens pk → Option (Ans pk rk)}
  (hf:C.P.funcs[f]? = some fn) (hb:fn.body = some code) (hname:(fn.name == "runtime.NumGoroutine") = false) (hfit:Xv C.P fn.ntmps code = true)
  (h:∀ x y,F k x = some y → ZuO C A fn.ntmps code fn.results.toList pk rk (WO pk x) (Zz3 pk rk) = some y):Ctr C.P k f (mk pk rk F):=by
 refine Zy1 (A:=A) (rk:=rk) hC hm hf hb hname hfit (fun rvs x hx => ?_) (fun rvs x hx => ?_)
 ·simp only [mk] at hx ⊢
  obtain ⟨y,h1,h2⟩:=Uy.1 hx
  rw [QU pk rvs y h1]
  exact Zj2 pk y 0
 ·simp only [mk] at hx ⊢
  obtain ⟨y,h1,h2⟩:=Uy.1 hx
  have h3:=h y x h2
  rw [← QU pk rvs y h1,Zzv] at h3
  obtain ⟨r,h4,h5⟩:=Uy.1 h3
  rw [h4,Zxs h5]
def phi:List (Nat × Callee) → Nat → Option Callee
 | [],_ => none
 | (f,c) :: l,g => bif Ja g f then some c else phi l g
theorem Zp9 {P:Program} {k:Nat}:∀ {l:List (Nat × Callee)},(∀ p ∈ l,Ctr P k p.1 p.2) → ∀ f cal,phi l f = some cal → Ctr P k f cal
 | [],_,f,cal,h => by simp [phi] at h
 | (g,c) :: l,hl,f,cal,h => by
  simp only [phi] at h
  cases hb:Ja f g with
  | true => simp_all
  | false => rw [hb] at h; exact Zp9 (fun p hp => hl p (by simp [hp])) f cal h
theorem Zvf {P:Program} {k:Nat}:∀ p ∈ ([]:List (Nat × Callee)),Ctr P k p.1 p.2:=by intro p hp; simp at hp
theorem ZIY {P:Program} {k f:Nat} {c:Callee} {l:List (Nat × Callee)} (h:Ctr P k f c) (hl:∀ p ∈ l,Ctr P k p.1 p.2):∀ p ∈ (f,c) :: l,Ctr P k p.1 p.2:=by
 simp_all
def Zn {V R:Type} (step:(V → Option R) → V → Option R):Nat → V → Option R
 | 0,_ => none
 | n + 1,v => step (Zn step n) v
theorem Zso {V R:Type} {L:Nat → V → Option R} {step:(V → Option R) → V → Option R} (h0:∀ v,L 0 v = none) (h:∀ n v,L (n + 1) v = step (L n) v):∀ n,L n = Zn step n
 | 0 => funext h0
 | n + 1 => funext fun v => by rw [h,Zso h0 h n]; rfl
section
variable {R:Type}
def place (C:Ctx) (A:Nat → Ann) (kp:List Nat):List Nat → List Nat → Code → (Ex → St → Option R) → Code × (Ex → St → Option R)
 | 0 :: p,ns,.seq a b,K => place C A kp p ns a (ZDT (fun s => W3 C A kp b s K) K)
 | _ :: p,ns,.seq _ b,K => place C A kp p ns b K
 | 0 :: p,ns,.cond _ a _,K => place C A kp p ns a K
 | _ :: p,ns,.cond _ _ b,K => place C A kp p ns b K
 | _ :: p,ns,.block id c,K => place C A kp p ns c (Zoj id K)
 | _ :: p,ns,.scope c,K => place C A kp p ns c K
 | _ :: p,n :: ns,.loop c,K => place C A kp p ns c fun e s => match e with
  | .normal => (ZmA kp (A (Qm c)) s).bind fun s => Zef (W3 C A kp c) (ZmA kp (A (Qm c))) n s K
  | .exit i => K (.exit i) s
  | .ret => K .ret s
 | _,_,c,K => (c,K)
def ZIq (C:Ctx) (A:Nat → Ann) (kp:List Nat) (p ns:List Nat) (code:Code) (K:Ex → St → Option R) (n:Nat) (st:St):Option R :=
 match place C A kp p ns code K with
 | (.loop c,K) => Zef (W3 C A kp c) (ZmA kp (A (Qm c))) n st K
 | _ => none
end
end Go.Sh
