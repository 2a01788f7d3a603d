/-
  What the row needs, part 4.
-/
import Derived.Test.YtlbgcegonmbddaaDoorXWavKeeps3
import Derived.Scope
import Derived.LoopN
set_option linter.unusedSimpArgs false
set_option linter.unusedVariables false
set_option linter.unusedSectionVars false
open Array renaming replicate→UC
open Bool renaming and_eq_true→Jh,true_and→UD
open Go.Instr renaming loadAt→J0
open List renaming mem_append→Jt,all_cons→UB,mem_cons→VN,length_cons→JG,mem_map→VH,mem_append_left→JH
open Nat renaming beq→Ja,lt_of_lt_of_le→V1,le_of_ble_eq_true→Ju
open Option renaming bind_eq_some_iff→Uz,bind_assoc→UA,bind_some→VL,some→VG
namespace Go.Sh
open Go
variable [Gl]
variable {C:Ctx} {G:Glob} {σ:QM} {w:World} {lim:Nat → Nat} {st:St} {a:Act}
def Ex.out:Ex → Exit
 | .normal => .normal
 | .exit i => .exit i
 | .ret => .ret
def WZ (P:Program) (n:Nat):Code → Bool
 | .region _ ops _ => ZeH P n ops.toList
 | .seq a b => WZ P n a && WZ P n b
 | .cond _ a b => WZ P n a && WZ P n b
 | .block _ c => WZ P n c
 | .loop c => WZ P n c
 | .scope c => WZ P n c
 | _ => true
def WH (G:Glob) (n:Nat) (st:St) (a:Act) (w:World):Prop := ∃ σ lim,QC G σ lim st a.tmps w ∧ a.tmps.size = n ∧ a.defers = []
theorem Zm9 {n:Nat} (h:WH G n st a w) {c:Operand} {t:Bool} (hc:Xv st.env c = .val (.v (.bool t))):a.eval c = .bool t:=by
 obtain ⟨σ,lim,h,_,_⟩:=h
 have:=(Zg h.1 c).1
 grind [RA,RP]
theorem Zcb {n:Nat} (h:WH G n st a w) {q:Nat} (hq:q < ZD):WH G n (Zi9 st q) a w:=by
 obtain ⟨σ,lim,h,h2,h3⟩:=h
 unfold Zi9
 split
 ·rename_i t xss hT
  obtain ⟨lim',h4⟩:=RelW.melt h.1 h.2 hq hT
  exact ⟨σ,lim',h4,h2,h3⟩
 ·exact ⟨σ,lim,h,h2,h3⟩
theorem ZfT {n:Nat} (h:WH G n st a w) (id:Nat):WH G n (Zap C id st) a w:=by
 have hL:Low G st:=by obtain ⟨_,_,⟨_,hL⟩,_,_⟩:=h; exact hL
 unfold Zap
 split
 ·split
  ·rename_i s _ _ q hs
   exact Zcb h (hL.env s q (by rw [hs]; simp [Za]))
  ·exact h
 ·split
  ·rename_i s k _ _ r hs
   unfold Zod
   split
   ·rename_i cs hr
    split
    ·rename_i q hq
     exact Zcb h (hL.box r cs hr q (W5 (List.mem_of_getElem? hq) (by simp [Za])))
    ·exact h
   ·exact h
  ·exact h
 ·exact h
theorem QW (hC:∀ f cal,C.Φ f = some cal → Ctr C.P C.k f cal) (hm:C.P.follows .mixedOrders = true) {A:Nat → Ann} {kp:List Nat} (hk:∀ p ∈ G.pins,p.1 ∈ kp) {n:Nat} {R:Type} {r:R} :
  (c:Code) → {st:St} → {K:Ex → St → Option R} → WM C A kp c st K = some r → WZ C.P n c = true → {a:Act} → {w:World} → WH G n st a w → {Q:Exit → Act → World → Prop} →
  (∀ e st' a' w',K e st' = some r → WH G n st' a' w' → Q e.out a' w') → c.wp C.P Q a w
 | .skip,st,K,h,hf,a,w,hs,Q,hQ => wp_skip (hQ .normal st a w h hs)
 | .label _,st,K,h,hf,a,w,hs,Q,hQ => wp_label (hQ .normal st a w h hs)
 | .ret,st,K,h,hf,a,w,hs,Q,hQ => wp_ret (hQ .ret st a w h hs)
 | .exit i,st,K,h,hf,a,w,hs,Q,hQ => wp_exit (hQ (.exit i) st a w h hs)
 | .region id ops d,st,K,h,hf,a,w,hs,Q,hQ => by
  simp only [WM] at h
  simp only [WZ] at hf
  obtain ⟨σ,lim,hR,hn,hd⟩:=ZfT (C:=C) hs id
  have hb:∃ stf lgs,ZbK C id ops.toList ops.toList 0 (Zap C id st) = some (stf,lgs) ∧ (d = true → XD ops.toList (W1 ops.toList []) lgs = true) ∧ K .normal stf = some r:=by
   cases d with
   | false =>
    simp only [cond_false,ZfY] at h
    cases ho:ZbK C id ops.toList ops.toList 0 (Zap C id st) with
    | none => rw [ho] at h; simp at h
    | some x => grind
   | true =>
    simp only [cond_true,Zbx,List.nil_append] at h
    cases ho:ZbK C id ops.toList ops.toList 0 (Zap C id st) with
    | none => rw [ho] at h; simp at h
    | some x =>
     grind
  obtain ⟨stf,lgs,h1,h2,h3⟩:=hb
  exact Zf2 hC hm hf hR hn hd h1 h2 fun a' w' σ' lim' hR' hn' hd' => hQ .normal stf a' w' h3 ⟨σ',lim',hR',hn',hd'⟩
 | .seq x y,st,K,h,hf,a,w,hs,Q,hQ => by
  simp only [WM] at h
  simp only [WZ,Jh] at hf
  refine wp_seq (QW hC hm hk x h hf.1 hs fun e st' a' w' hK hs' => ?_)
  cases e with
  | normal => exact QW hC hm hk y hK hf.2 hs' hQ
  | exit i => exact hQ (.exit i) st' a' w' hK hs'
  | ret => exact hQ .ret st' a' w' hK hs'
 | .cond c x y,st,K,h,hf,a,w,hs,Q,hQ => by
  simp only [WM] at h
  simp only [WZ,Jh] at hf
  split at h
  ·rename_i t hc
   have e1:=Zm9 hs hc
   cases t with
   | true =>
    refine wp_cond_true e1 (QW hC hm (A:=A) hk x (K:=K) ?_ hf.1 hs hQ)
    cases c with
    | tmp d => simp_all [Xv,cond_true,ZbU hc]
    | _ => exact h
   | false =>
    refine wp_cond_false e1 (QW hC hm (A:=A) hk y (K:=K) ?_ hf.2 hs hQ)
    cases c with
    | tmp d => simp_all [Xv,cond_false,ZbU hc]
    | _ => exact h
  ·simp at h
 | .block id c,st,K,h,hf,a,w,hs,Q,hQ => by
  simp only [WM] at h
  simp only [WZ] at hf
  refine wp_block (QW hC hm hk c h hf hs fun e st' a' w' hK hs' => ?_)
  cases e with
  | normal => exact hQ .normal st' a' w' hK hs'
  | ret => exact hQ .ret st' a' w' hK hs'
  | exit i =>
   simp only [Ze7] at hK
   simp only [Ex.out,Exit.inBlock]
   cases hb:Ja i id with
   | true => rw [hb] at hK; rw [if_pos (ZC hb)]; exact hQ .normal st' a' w' hK hs'
   | false =>
    rw [hb] at hK
    rw [if_neg (by rintro rfl; rw [WJ] at hb; cases hb)]
    exact hQ (.exit i) st' a' w' hK hs'
 | .loop c,st,K,h,hf,a,w,hs,Q,hQ => by
  simp only [WM] at h
  simp only [WZ] at hf
  have key:∀ (m:Nat) (st:St) (a:Act) (w:World),K8 (WM C A kp c) (Zej kp (A (ZQ c))) m st K = some r → WH G n st a w → Code.rounds C.P c Q m a w:=by
   intro m
   induction m with
   | zero => intro st a w h; simp [K8] at h
   | succ m ih =>
    intro st a w h hs
    rw [rounds_succ]
    simp only [K8] at h
    refine QW hC hm hk c h hf hs fun e st' a' w' hK hs' => ?_
    cases e with
    | ret => exact hQ .ret st' a' w' hK hs'
    | exit i => exact hQ (.exit i) st' a' w' hK hs'
    | normal =>
     cases hn:Zej kp (A (ZQ c)) st' with
     | none => rw [hn] at hK; simp at hK
     | some s =>
      rw [hn] at hK
      obtain ⟨σ,lim,hR,q1,q2⟩:=hs'
      obtain ⟨σ2,lim2,hR2⟩:=ZdH hR hk hn
      exact ih s a' w' hK ⟨σ2,lim2,hR2,q1,q2⟩
  cases hn:Zej kp (A (ZQ c)) st with
  | none => rw [hn] at h; simp at h
  | some s =>
   rw [hn] at h
   obtain ⟨σ,lim,hR,q1,q2⟩:=hs
   obtain ⟨σ2,lim2,hR2⟩:=ZdH hR hk hn
   exact wp_loop_rounds C.k (key C.k s a w h ⟨σ2,lim2,hR2,q1,q2⟩)
 | .scope c,st,K,h,hf,a,w,hs,Q,hQ => by
  simp only [WM] at h
  simp only [WZ] at hf
  refine wp_scope_straight (QW hC hm hk c h hf hs fun e st' a' w' hK hs' => ?_)
  cases e <;> exact hQ _ st' a' w' hK hs'
 | .rangeFunc _ _ _ _,st,K,h,hf,a,w,hs,Q,hQ => by simp [WM] at h
 | .goto _,st,K,h,hf,a,w,hs,Q,hQ => by simp [WM] at h
end Go.Sh
namespace Go.Sh
open Go
variable [Gl]
variable {C:Ctx} {G:Glob} {σ:QM} {w:World} {lim:Nat → Nat} {st:St} {tmps:Array Value}
theorem Zh0 {P:Program} {T:TypeId} {v x:Value} (h:(J0 T v).run P w = .ok x w):(asAddr v >>= fun p => loadVar T p:Sem Value).run P w = .ok x w:=by
 unfold J0 at h
 unfold Instr.sureAddr at h
 split at h
 ·simpa [asAddr] using h
 ·simp [stuck,Sem.run_bind] at h
def ZdU (tmps:Array Value):ResultVar → Sem Value
 | .tmp t => pure (tmps.getD t undef)
 | .cell a t => do loadVar t (← asAddr (tmps.getD a undef))
theorem ZdT (h:RelW G σ lim st tmps w) {r:ResultVar} {l l':List Nat} {x:AV} (hm:(Yu C st r).run st.tbl l = some (x,l')) :
  ∃ v,(ZdU tmps r).run C.P w = .ok v w ∧ RA σ w lim x v ∧ Ze st.tbl (Za x):=by
 cases r with
 | tmp t =>
  obtain ⟨rfl,_⟩:=M.run_ret hm
  exact ⟨_,rfl,h.env t,h.known t⟩
 | cell a T =>
  simp only [Yu] at hm
  obtain ⟨e,l1,h1,h2⟩:=M.run_bind_some hm
  obtain ⟨rfl,_⟩:=M.run_ret h2
  obtain ⟨v,e1,e2,e3,e4⟩:=Zdy h1 (h.env a) h.res
  exact ⟨v,Zh0 e1,e2,e3⟩
theorem Y4 (h:RelW G σ lim st tmps w):(rs:List ResultVar) → {l l':List Nat} → {xs:List AV} → (WF C st rs).run st.tbl l = some (xs,l') →
  ∃ vs,(rs.mapM (ZdU tmps)).run C.P w = .ok vs w ∧ ZA σ w lim xs vs ∧ Ze st.tbl (Zd xs)
 | [],l,l',xs,hm => by
  obtain ⟨rfl,_⟩:=M.run_ret hm
  simp_all [ZA,Zd,Ze]
 | r :: rs,l,l',xs,hm => by
  simp only [WF] at hm
  obtain ⟨x,l1,h1,h2⟩:=M.run_bind_some hm
  obtain ⟨ys,l2,h3,h4⟩:=M.run_bind_some h2
  obtain ⟨rfl,_⟩:=M.run_ret h4
  obtain ⟨v,e1,e2,e3⟩:=ZdT h h1
  obtain ⟨vs,f1,f2,f3⟩:=Y4 h rs h3
  refine ⟨v :: vs,?_,by simp only [ZA]; exact ⟨e2,f2⟩,?_⟩
  ·simp_all
  ·intro i hi; simp only [Zd,Jt] at hi; rcases hi with hi | hi; exact e3 i hi; exact f3 i hi
theorem Zac {st st2:St} (he:st2.env = st.env):∀ (rs:List ResultVar),WF C st rs = WF C st2 rs
 | [] => rfl
 | r :: rs => by
  have h1:Yu C st r = Yu C st2 r:=by cases r <;> simp only [Yu,he]
  simp only [WF,h1,Zac he rs]
theorem Zel (h:RelW G σ lim st tmps w) {fn:Func} {l l':List Nat} {xs:List AV} (hm:(WF C st fn.results.toList).run st.tbl l = some (xs,l')) :
  ∃ v,(results fn tmps).run C.P w = .ok v w ∧ RA σ w lim (match (generalizing:=false) xs with | [a] => a | as => .tup as) v:=by
 obtain ⟨vs,e1,e2,e3⟩:=Y4 h _ hm
 have e0:results fn tmps = (do let vs ← fn.results.mapM (ZdU tmps); pure (if h:vs.size = 1 then vs[0] else .tuple vs)):=by
  unfold results
  congr 1
 rw [e0,Array.mapM_eq_mapM_toList]
 match xs,vs,e2 with
 | [x],[v],e2 =>
  simp_all [ZA,Sem.run_bind,Sem.run_map,e1]
 | [],[],e2 =>
  simp_all [RA,ZA,Sem.run_bind,Sem.run_map,e1]
 | x :: y :: xs,v :: u :: vs,e2 =>
  simp_all [RA,Sem.run_bind,Sem.run_map,e1]
 | [],_ :: _,e2 => simp [ZA] at e2
 | _ :: _,[],e2 => simp [ZA] at e2
 | [_],_ :: _ :: _,e2 => simp [ZA] at e2
 | _ :: _ :: _,[_],e2 => simp [ZA] at e2
def Wk:List Kd → List Value → List Value
 | .box _ :: l,a :: as => a :: Wk l as
 | .bld _ :: l,a :: as => a :: Wk l as
 | _ :: l,_ :: as => Wk l as
 | _,_ => []
def W8:List AV → List Value → List (Nat × Value)
 | .bx r _ :: l,v :: vs => (r,v) :: W8 l vs
 | _ :: l,_ :: vs => W8 l vs
 | _,_ => []
theorem Zbc:(as:List AV) → (vs:List Value) → ∀ p ∈ W8 as vs,p.1 ∈ Qy as
 | [],vs,p,hp => by cases vs <;> simp [W8] at hp
 | x :: as,[],p,hp => by cases x <;> simp [W8] at hp
 | x :: as,v :: vs,p,hp => by
  cases x with
  | bx r k =>
   simp only [W8,VN] at hp
   simp only [Qy,VN]
   rcases hp with rfl | hp
   ·exact .inl rfl
   ·exact .inr (Zbc as vs p hp)
  | _ => simp only [W8] at hp; simp only [Qy]; exact Zbc as vs p hp
theorem Zi7:(pk:List Kd) → {as:List AV} → {vs:List Value} → ZA σ w lim as vs → ZA σ w lim (ZW pk as) (Wk pk vs)
 | [],as,vs,h => by grind [ZW,Wk,ZA]
 | k :: pk,as,vs,h => by
  match as,vs,h with
  | [],[],h => cases k <;> simp [ZW,Wk,ZA]
  | x :: as,v :: vs,h =>
   simp only [ZA] at h
   have ih:=Zi7 pk h.2
   cases k <;> simp only [ZW,Wk,ZA] <;> first | exact ih | exact ⟨h.1,ih⟩
  | [],_ :: _,h => simp [ZA] at h
  | _ :: _,[],h => simp [ZA] at h
def WK (as:List AV):Bool:=as.all fun | .bx _ 0 => true | _ => false
theorem ZoW {as:List AV} {vs:List Value} (hb:WK as = true) (h:ZA σ w lim as vs):∀ p ∈ W8 as vs,σ p.1 = p.2:=by
 induction as generalizing vs with
 | nil => grind [W8]
 | cons x as ih =>
  cases vs with
  | nil => simp [ZA] at h
  | cons v vs =>
   simp only [ZA] at h
   simp only [WK,UB,Jh] at hb
   intro p hp
   obtain ⟨hb1,hb2⟩:=hb
   split at hb1
   ·rename_i r
    simp only [W8,VN] at hp
    rcases hp with rfl | hp
    ·grind [RA]
    ·exact ih hb2 h.2 p hp
   ·cases hb1
theorem Zia {σ':QM} {w':World} {lim':Nat → Nat} {as:List AV} {vs:List Value} (hb:WK as = true) (h:ZA σ w lim as vs) (hp:∀ p ∈ W8 as vs,σ' p.1 = p.2):ZA σ' w' lim' as vs:=by
 induction as generalizing vs with
 | nil => cases vs <;> simp [ZA] at h ⊢
 | cons x as ih =>
  cases vs with
  | nil => simp [ZA] at h
  | cons v vs =>
   simp only [ZA] at h ⊢
   simp only [WK,UB,Jh] at hb
   obtain ⟨hb1,hb2⟩:=hb
   split at hb1
   ·rename_i r
    simp only [W8,VN] at hp
    refine ⟨?_,ih hb2 h.2 fun p hm => hp p (.inr hm)⟩
    have h1:=h.1
    simp only [RA] at h1 ⊢
    obtain ⟨b,e1,e2⟩:=h1
    simp_all
   ·cases hb1
theorem Zju:(pk:List Kd) → {vs:List Value} → {rs:List RV} → {bs:List Nat} → vs.length = pk.length → KL w lim rs (Wk pk vs) bs → TL w lim pk vs rs bs
 | [],[],rs,bs,_,h => by
  grind [Wk,TL,KL]
 | k :: pk,v :: vs,rs,bs,hl,h => by
  have hl':vs.length = pk.length:=by simpa using hl
  cases k with
  | box l =>
   simp only [Wk] at h
   cases rs with
   | nil => simp [KL] at h
   | cons x rs =>
    simp only [KL] at h
    simp only [TL]
    obtain ⟨b1,b2,e,h1,h2⟩:=h
    exact ⟨b1,b2,e,h1,Zju pk hl' h2⟩
  | bld T =>
   simp only [Wk] at h
   cases rs with
   | nil => simp [KL] at h
   | cons x rs =>
    simp only [KL] at h
    simp only [TL]
    obtain ⟨b1,b2,e,h1,h2⟩:=h
    exact ⟨b1,b2,e,h1,Zju pk hl' h2⟩
  | _ => simp only [Wk] at h; simp only [TL]; exact Zju pk hl' h
 | [],_ :: _,rs,bs,hl,_ => by simp at hl
 | _ :: _,[],rs,bs,hl,_ => by simp at hl
theorem YB:∀ (u:Qh),Z1 u = ZF.put (fun _ => .fresh) u
 | [] => rfl
 | (a,x) :: u => by
  funext r
  simp only [Z1,ZF.put,Zm,YB u]
  grind
theorem XS:∀ (as:List AV) (i s:Nat),Ql (index i as) s = .dead ∨ ∃ j,s = i + j ∧ as[j]? = some (Ql (index i as) s)
 | [],i,s => .inl rfl
 | x :: as,i,s => by
  simp only [index,Ql]
  cases h:Ja s i with
  | true => simp_all
  | false =>
   simp only [cond_false]
   rcases XS as (i + 1) s with h | ⟨j,h1,h2⟩
   ·exact .inl h
   ·exact .inr ⟨j + 1,by omega,by simpa using h2⟩
theorem ZeM {as:List AV} {j:Nat} {x:AV} (h:as[j]? = some x):∀ r ∈ Za x,r ∈ Zd as:=by
 induction as generalizing j with
 | nil => simp at h
 | cons y as ih =>
  grind [Zd]
theorem Zah {as:List AV} {vs:List Value} (h:ZA σ w lim as vs):as.length = vs.length:=by
 induction as generalizing vs with
 | nil => cases vs <;> simp [ZA] at h ⊢
 | cons x as ih =>
  cases vs with
  | nil => simp [ZA] at h
  | cons v vs => simp only [ZA] at h; simp [ih h.2]
theorem KE:(xs:List RV) → (n:Nat) → (Zu n xs).1.length = xs.length
 | [],n => rfl
 | x :: xs,n => by simp only [Zu,JG,KE xs]
theorem Ws:(pk:List Kd) → (as:List AV) → ∀ r ∈ Qy (ZW pk as),r ∈ Zd as
 | [],as,r,hr => by contradiction
 | k :: pk,[],r,hr => by grind [ZW,Qy]
 | k :: pk,x :: as,r,hr => by
  simp only [Zd,Jt]
  cases k with
  | box l =>
   simp only [ZW] at hr
   cases x with
   | bx b j =>
    simp only [Qy,VN] at hr
    rcases hr with rfl | hr
    ·exact .inl (by simp [Za])
    ·exact .inr (Ws pk as r hr)
   | _ => simp only [Qy] at hr; exact .inr (Ws pk as r hr)
  | bld T =>
   simp only [ZW] at hr
   cases x with
   | bx b j =>
    simp only [Qy,VN] at hr
    rcases hr with rfl | hr
    ·exact .inl (by simp [Za])
    ·exact .inr (Ws pk as r hr)
   | _ => simp only [Qy] at hr; exact .inr (Ws pk as r hr)
  | _ => simp only [ZW] at hr; exact .inr (Ws pk as r hr)
mutual
theorem Zny:(x:RV) → (n:Nat) → (∀ r ∈ Za (put n x).1,r < (put n x).2.2) ∧ ∀ p ∈ (put n x).2.1,p.1 < (put n x).2.2 ∧ XE p.2 = true ∧ ∀ cs,p.2 = .live (.box cs) → ∀ q ∈ Zd cs,q < (put n x).2.2
 | .view t x,n => by simp only [put]; rw [ZcK]; simp
 | .own t sh xs,n => by simp [put,Za,XE]
 | .box cs,n => by
  obtain ⟨h1,h2⟩:=Ys cs (n + 1)
  have hle:=QR cs (n + 1)
  simp only [put]
  refine ⟨by intro r hr; simp [Za] at hr; omega,fun p hp => ?_⟩
  cases hp with
  | head => exact ⟨by simp only; omega,rfl,fun ds hd => by simp only [RS.live.injEq,Res.box.injEq] at hd; subst hd; exact h1⟩
  | tail _ hp => exact h2 p hp
 | .agg cs,n => by
  obtain ⟨h1,h2⟩:=Ys cs n
  simp only [put]
  exact ⟨by simpa [Za] using h1,h2⟩
 | .tup cs,n => by
  obtain ⟨h1,h2⟩:=Ys cs n
  simp only [put]
  exact ⟨by simpa [Za] using h1,h2⟩
 | .fn f,n => by simp [put,Za]
 | .ns t xs,n => by simp [put,Za]
 | .vp t xs,n => by simp [put,Za]
 | .clo f cs,n => by
  obtain ⟨h1,h2⟩:=Ys cs n
  simp only [put]
  exact ⟨by simpa [Za] using h1,h2⟩
 | .bld T xs,n => by
  simp only [put]
  refine ⟨by intro r hr; simp [Za] at hr; omega,fun p hp => ?_⟩
  simp only [VN,List.not_mem_nil,or_false] at hp
  rcases hp with rfl | rfl
  ·refine ⟨by simp only; omega,rfl,fun cs hc q hq => ?_⟩
   simp only [RS.live.injEq,Res.box.injEq] at hc
   subst hc
   simp [Zd,Za] at hq
   omega
  ·exact ⟨by simp only; omega,rfl,fun cs hc => by cases hc⟩
theorem Ys:(xs:List RV) → (n:Nat) → (∀ r ∈ Zd (Zu n xs).1,r < (Zu n xs).2.2) ∧ ∀ p ∈ (Zu n xs).2.1,p.1 < (Zu n xs).2.2 ∧ XE p.2 = true ∧ ∀ cs,p.2 = .live (.box cs) → ∀ q ∈ Zd cs,q < (Zu n xs).2.2
 | [],n => by simp [Zu,Zd]
 | x :: xs,n => by
  obtain ⟨h1,h2⟩:=Zny x n
  obtain ⟨h3,h4⟩:=Ys xs (put n x).2.2
  have hle:=QR xs (put n x).2.2
  simp only [Zu]
  refine ⟨fun r hr => ?_,fun p hp => ?_⟩
  ·simp only [Zd,Jt] at hr
   rcases hr with hr | hr
   ·have:=h1 r hr; omega
   ·exact h3 r hr
  ·rcases Jt.1 hp with hp | hp
   ·exact h4 p hp
   ·obtain ⟨a,b,c⟩:=h2 p hp
    exact ⟨by omega,b,fun cs hc q hq => by have:=c cs hc q hq; omega⟩
end
theorem ZjP:Q5 (fun _ => .fresh) = fun _ => .fresh:=by
 funext n
 simp only [Q5,K1,ite_self]
theorem Zon {avs:List AV} {u:Qh} (h:RelW G σ lim (enter avs u) tmps w) (hu:∀ p ∈ u,p.1 < ZD ∧ XE p.2 = true ∧ ∀ cs,p.2 = .live (.box cs) → ∀ q ∈ Zd cs,q < ZD)
  (hids:∀ r ∈ Zd avs,r < ZD) (hp:∀ p ∈ G.pins,p.1 < ZD):QC G σ lim (enter avs u) tmps w:=by
 have e:Z1 u = ZF.put (fun _ => .fresh) u:=YB u
 unfold enter at h ⊢
 rw [e] at h ⊢
 refine QC.of_put (T:=fun _ => .fresh) (by rw [ZjP]; exact h) (fun p hp => ⟨(hu p hp).1,(hu p hp).2.1⟩) ⟨fun s r hr => ?_,fun r cs hr => ?_,hp⟩
 ·simp only at hr
  rcases XS avs 0 s with h | ⟨j,h1,h2⟩
  ·rw [h] at hr; simp [Za] at hr
  ·exact hids r (ZeM h2 r hr)
 ·simp only [ZF.put] at hr
  cases hl:Zm u r with
  | none => rw [hl] at hr; cases hr
  | some z => rw [hl] at hr; simp only at hr; exact (hu _ (Qn hl)).2.2 cs hr
theorem Zdn:(ks:List Kd) → (as:List AV) → QU ks as = true → (ZM ks as).length = (Zt ks).length
 | [],[],_ => rfl
 | [],_ :: _,h => by simp [QU] at h
 | k :: ks,[],h => by cases k <;> simp [QU] at h
 | k :: ks,a :: as,h => by
  cases k with
  | clo f l =>
   cases a with
   | clo g cs =>
    simp only [QU,Jh] at h
    have:=ZC h.1
    simp only [ZM,Zt,List.length_append,Zdn ks as h.2,this]
   | _ => simp [QU] at h
  | _ => grind [QU,ZM,Zt,JG,Zdn ks as h]
def Zba:List Kd → Nat
 | [] => 0
 | .ref _ :: l => Zba l + 1
 | _ :: l => Zba l
theorem Zb7:(ks:List Kd) → Xo ks = false → Zba ks = 0
 | [],_ => rfl
 | k :: ks,h => by
  cases k with
  | ref l => simp [Xo] at h
  | _ => simp only [Xo] at h; simp only [Zba]; exact Zb7 ks h
theorem YS:(ks:List Kd) → (cs:List AV) → {q:List Nat} → Zl ks cs = some q → q.length = Zba ks
 | [],[],q,h => by simp [Zl] at h; subst h; rfl
 | k :: ks,a :: as,q,h => by
  have other:(∀ l,k ≠ .ref l) → q.length = Zba (k :: ks):=by
   intro hk
   have e:Zl (k :: ks) (a :: as) = Zl ks as:=by cases k <;> first | rfl | exact absurd rfl (hk _)
   have e2:Zba (k :: ks) = Zba ks:=by cases k <;> first | rfl | exact absurd rfl (hk _)
   rw [e] at h
   rw [e2]; exact YS ks as h
  cases k with
  | ref l =>
   cases a with
   | bx s kk =>
    cases kk with
    | succ kk => simp [Zl] at h
    | zero =>
     simp only [Zl] at h
     cases hq2:Zl ks as with
     | none => rw [hq2] at h; simp at h
     | some q2 =>
      grind [VG.injEq,JG,Zba,YS ks as hq2]
   | _ => simp [Zl] at h
  | _ => exact other (by intro l; simp)
 | [],_ :: _,q,h => by simp [Zl] at h
 | k :: _,[],q,h => by cases k <;> simp [Zl] at h
theorem Zbl {σ:QM}:(ks:List Kd) → (q:List Nat) → (vs vs':List Value) → q.length = Zba ks → ZI σ q ks vs → ZI σ q ks vs' → WY ks vs vs'
 | [],q,vs,vs',_,_,_ => by simp [WY]
 | k :: ks,q,[],vs',_,_,_ => by cases k <;> simp [WY]
 | k :: ks,q,v :: vs,[],_,_,_ => by cases k <;> simp [WY]
 | k :: ks,q,v :: vs,v' :: vs',hl,h,h' => by
  have other:(∀ l,k ≠ .ref l) → WY (k :: ks) (v :: vs) (v' :: vs'):=by
   intro hk
   have e2:Zba (k :: ks) = Zba ks:=by cases k <;> first | rfl | exact absurd rfl (hk _)
   have e3:WY (k :: ks) (v :: vs) (v' :: vs') = WY ks vs vs':=by cases k <;> first | rfl | exact absurd rfl (hk _)
   rw [e3]
   rw [e2] at hl
   cases q with
   | nil => exact Zbl (σ:=σ) ks [] vs vs' hl Qf Qf
   | cons q0 q =>
    have e4:∀ (u:Value) (us:List Value),ZI σ (q0 :: q) (k :: ks) (u :: us) = ZI σ (q0 :: q) ks us:=by intro u us; cases k <;> first | rfl | exact absurd rfl (hk _)
    rw [e4] at h h'
    exact Zbl ks (q0 :: q) vs vs' hl h h'
  cases k with
  | ref l =>
   cases q with
   | nil => simp [Zba] at hl
   | cons q0 q =>
    simp only [ZI] at h h'
    simp only [WY]
    exact ⟨h'.1.trans h.1.symm,Zbl ks q vs vs' (by simpa [Zba] using hl) h.2 h'.2⟩
  | _ => exact other (by intro l; simp)
theorem ZbO {σ1:QM} {w0:World} (h:RelW G σ lim st tmps w):(ks:List Kd) → {as:List AV} → {vs:List Value} → {l l':List Nat} → {nm:List (List Nat)} → (Xq ks as).run st.tbl l = some (nm,l') → ZA σ w lim as vs → QK σ1 w0 nm ks vs → (∀ q ∈ nm.flatten,σ q = σ1 q) → WI w0 w ks vs
 | [],as,vs,l,l',nm,hm,hv,hr,hq => by cases vs <;> simp [WI]
 | k :: ks,[],vs,l,l',nm,hm,hv,hr,hq => by
  match vs,hv with
  | [],_ => cases k <;> simp [WI]
 | k :: ks,a :: as,vs,l,l',nm,hm,hv,hr,hq => by
  match vs,hv with
  | v :: vs,hv =>
   simp only [ZA] at hv
   have other:(∀ l,k ≠ .box l) → WI w0 w (k :: ks) (v :: vs):=fun hk => by
    rw [XJ hk] at hm
    have e:WI w0 w (k :: ks) (v :: vs) = WI w0 w ks vs:=by cases k <;> first | rfl | exact absurd rfl (hk _)
    have e2:QK σ1 w0 nm (k :: ks) (v :: vs) = QK σ1 w0 nm ks vs:=by cases k <;> first | (cases nm <;> rfl) | exact absurd rfl (hk _)
    rw [e]
    rw [e2] at hr
    exact ZbO h ks hm hv.2 hr hq
   cases k with
   | box l0 =>
    cases a with
    | bx r kk =>
     cases kk with
     | succ kk => exact (M.run_fail hm).elim
     | zero =>
      simp only [Xq] at hm
      obtain ⟨q0,l5,h5,h6⟩:=M.run_bind_some hm
      obtain ⟨qs,l6,h7,h8⟩:=M.run_bind_some h6
      obtain ⟨h9,_⟩:=M.run_ret h8
      subst h9
      simp only [QK] at hr
      simp only [WI]
      refine ⟨fun b cs T fz cs' T' fz' e1 e2 e3 => ?_,ZbO h ks h7 hv.2 hr.2 (fun q' hq' => hq q' (by simp_all))⟩
      have hold:=hr.1 b cs T fz e1 e2
      cases hh:Xo l0 with
      | false =>
       have hz:=Zb7 l0 hh
       exact Zbl (σ:=σ) l0 [] _ _ (by simp [hz]) Qf Qf
      | true =>
       unfold YG at h5
       rw [hh] at h5
       simp only [cond_true,M.run] at h5
       cases hrr:st.tbl r with
       | fresh => simp [hrr,M.run] at h5
       | gone => simp [hrr,M.run] at h5
       | live y =>
        cases y with
        | arr => simp [hrr,M.run] at h5
        | nest => simp [hrr,M.run] at h5
        | box as0 =>
         simp only [hrr] at h5
         have hn:=M.run_ofOpt h5
         obtain ⟨hR,_⟩:=h.res r _ hrr
         obtain ⟨b0,ws,U,f1,f2,f3,f4,_⟩:=Wz hv.1 hR
         rw [e1] at f2
         obtain rfl:b = b0:=by simpa using f2
         rw [e3] at f3
         obtain ⟨rfl,_⟩:cs' = ws ∧ _:=by simpa using f3
         have hnew:=WW l0 as0 hn f4 (Zaz l0 cs'.toList)
         exact Zbl (σ:=σ1) l0 q0 _ _ (YS l0 as0 hn) hold (Q8 _ _ _ (fun q' hq' => (hq q' (by simp_all)).symm) hnew)
    | _ => exact (M.run_fail hm).elim
   | _ => exact other (by intro l; simp)
  | [],hv => simp [ZA] at hv
theorem ZeR (h : RelW G σ lim st tmps w) : (ks : List Kd) → {as : List AV} → {vs : List Value} → WK as = true → ZA σ w lim as vs → QK σ w (XZ st.tbl ks as) ks vs
  | [], as, vs, hb, hv => by
    grind [QK]
  | k :: ks, [], vs, hb, hv => by
    match vs, hv with
    | [], _ => cases k <;> simp [XZ, QK]
  | k :: ks, a :: as, vs, hb, hv => by
    match vs, hv with
    | v :: vs, hv =>
      simp only [ZA] at hv
      simp only [WK, UB, Jh] at hb
      have ih := ZeR h ks hb.2 hv.2
      have other : (∀ l, k ≠ .box l) → QK σ w (XZ st.tbl (k :: ks) (a :: as)) (k :: ks) (v :: vs) := fun hk => by
        have e : XZ st.tbl (k :: ks) (a :: as) = XZ st.tbl ks as := by cases k <;> first | rfl | exact absurd rfl (hk _)
        rw [e]
        have e2 : ∀ nm, QK σ w nm (k :: ks) (v :: vs) = QK σ w nm ks vs := by intro nm; cases k <;> first | (cases nm <;> rfl) | exact absurd rfl (hk _)
        rw [e2]; exact ih
      cases k with
      | box l0 =>
        cases a with
        | bx r kk =>
         cases kk with
         | succ kk => simp at hb
         | zero =>
          simp only [XZ, QK]
          refine ⟨fun b cs T fz e1 e2 => ?_, ih⟩
          cases hh : Xo l0 with
          | false => exact Qf
          | true =>
            simp only [cond_true]
            cases hr : st.tbl r with
            | fresh => exact Qf
            | gone => exact Qf
            | live y =>
              cases y with
              | arr => exact Qf
              | nest => exact Qf
              | box as0 =>
                simp only
                cases hn : Zl l0 as0 with
                | none => exact Qf
                | some q =>
                  obtain ⟨hR, _⟩ := h.res r _ hr
                  obtain ⟨b0, ws, U, f1, f2, f3, f4, _⟩ := Wz hv.1 hR
                  rw [e1] at f2
                  obtain rfl : b = b0 := by simpa using f2
                  rw [e2] at f3
                  obtain ⟨rfl, _⟩ : cs = ws ∧ _ := by simpa using f3
                  exact WW l0 as0 hn f4 (Zaz l0 cs.toList)
        | _ => simp at hb
      | _ => exact other (by intro l; simp)
    | [], hv => simp [ZA] at hv
theorem X0 {tbl:ZF} {lim:Nat → Nat} (hres:∀ r x,tbl r = .live x → RR σ w lim r x ∧ Ze tbl (ZL r x)):(ks:List Kd) → (as:List AV) → ∀ q ∈ (XZ tbl ks as).flatten,∃ r cs,tbl r = .live (.box cs) ∧ q ∈ Zd cs
 | [],as,q,hq => by
  contradiction
 | k :: ks,[],q,hq => by
  have:XZ tbl (k :: ks) [] = []:=by cases k <;> rfl
  rw [this] at hq; simp at hq
 | k :: ks,a :: as,q,hq => by
  have other:XZ tbl (k :: ks) (a :: as) = XZ tbl ks as → ∃ r cs,tbl r = .live (.box cs) ∧ q ∈ Zd cs:=fun e => by
   rw [e] at hq
   exact X0 hres ks as q hq
  cases k with
  | box l0 =>
   cases a with
   | bx r kk =>
    cases kk with
    | succ kk => exact other rfl
    | zero =>
     simp only [XZ,List.flatten_cons,Jt] at hq
     rcases hq with hq | hq
     ·cases hh:Xo l0 with
      | false => rw [hh] at hq; simp at hq
      | true =>
       rw [hh] at hq
       simp only [cond_true] at hq
       cases hr:tbl r with
       | fresh => rw [hr] at hq; simp at hq
       | gone => rw [hr] at hq; simp at hq
       | live y =>
        rw [hr] at hq
        cases y with
        | arr => simp at hq
        | nest => simp at hq
        | box as0 =>
         simp only at hq
         cases hn:Zl l0 as0 with
         | none => rw [hn] at hq; simp at hq
         | some q' => rw [hn] at hq; exact ⟨r,as0,hr,Xw l0 as0 hn q hq⟩
     ·exact X0 hres ks as q hq
   | _ => exact other rfl
  | _ => exact other rfl
theorem Zmv : {a b:List Nat} → nEq a b = true → a = b
 | [],[],_ => rfl
 | x :: a,y :: b,h => by
  simp only [nEq,Jh] at h
  rw [ZC h.1,Zmv h.2]
 | [],_ :: _,h => by simp [nEq] at h
 | _ :: _,[],h => by simp [nEq] at h
theorem Zjb : {a b:List (List Nat)} → Zj7 a b = true → a = b
 | [],[],_ => rfl
 | x :: a,y :: b,h => by
  simp only [Zj7,Jh] at h
  rw [Zmv h.1,Zjb h.2]
 | [],_ :: _,h => by simp [Zj7] at h
 | _ :: _,[],h => by simp [Zj7] at h
theorem KY {w0:World}:(ks:List Kd) → (vs:List Value) → WI w0 w (Wj ks) (Wk ks vs) → WI w0 w ks vs
 | [],vs,_ => by cases vs <;> simp [WI]
 | k :: ks,[],_ => by cases k <;> simp [WI]
 | k :: ks,v :: vs,h => by
  cases k with
  | box l =>
   simp only [Wj,Wk,WI] at h ⊢
   exact ⟨h.1,KY ks vs h.2⟩
  | bld T =>
   simp only [Wj,Wk,WI] at h ⊢
   exact KY ks vs h
  | _ => simp only [Wj,Wk] at h; simp only [WI]; exact KY ks vs h
theorem Zfd {rvs:List RV} {vs:List Value} {bs:List Nat} {pk:List Kd} {n:Nat} (hlz:∀ b,w.heap.size ≤ b → lim b = 0) (hgl:Zbn w lim) (hT:KL w lim rvs vs bs) (hnd:bs.Nodup) (hbs:∀ b ∈ bs,b < w.heap.size)
    (hn:rvs.length ≤ n) (hin:(Zu 0 rvs).2.2 ≤ ZD) (hco:QU pk (Zu 0 rvs).1 = true) (hb:WK (ZW (Zt pk) (ZM pk (Zu 0 rvs).1)) = true) :
    ∃ σ,WH ⟨w,lim,bs,W8 (ZW (Zt pk) (ZM pk (Zu 0 rvs).1)) (Wk (Zt pk) (Qx pk vs)) ++ (YT pk rvs).flatten.map (fun q => (q,σ q))⟩ n (enter (Zu 0 rvs).1 (Zu 0 rvs).2.1) { tmps:=vs.toArray ++ UC (n - vs.toArray.size) undef,defers:=[] } w ∧
      ZA σ w lim (ZW (Zt pk) (ZM pk (Zu 0 rvs).1)) (Wk (Zt pk) (Qx pk vs)) ∧ vs.length = rvs.length ∧ (Qx pk vs).length = (Zt pk).length ∧ QK σ w (YT pk rvs) (Wj (Zt pk)) (Wk (Zt pk) (Qx pk vs)):=by
  have h0:RelW ⟨w,lim,bs,[]⟩ (fun _ => undef) lim ⟨fun _ => .dead,fun _ => .fresh⟩ (vs.toArray ++ UC (n - vs.toArray.size) undef) w :=
    { env:=by intro s; simp [RA]
      known:=by intro s; simp [Za,Ze]
      res:=by intro r x h; simp at h
      inj:=by intro r r' b h; simp [Zw] at h
      own:=by intro r b h; simp [Zw] at h
      ext:=Ext.refl _ _
      keep:=fun _ _ _ => rfl
      same:=⟨rfl,rfl,rfl⟩
      lz:=hlz
      limk:=fun _ _ _ => rfl
      glob:=hgl
      pin:=by intro p hp; simp at hp }
  obtain ⟨σ,hP,hA,hK⟩:=Q0 rvs 0 h0 hT (fun _ _ _ => rfl) ⟨hnd,fun b hb => ⟨.inr hb,by intro r h; simp [Zw] at h⟩⟩
  have hlen:vs.length = rvs.length:=by rw [← KE rvs 0]; exact (Zah hA).symm
  have hfA:=Zcv pk hco hA
  have hL:=Zi7 (Zt pk) hfA
  have hfl:(Qx pk vs).length = (Zt pk).length:=by rw [← Zah hfA]; exact Zdn pk _ hco
  have hrv:QK σ w (YT pk rvs) (Wj (Zt pk)) (Wk (Zt pk) (Qx pk vs)):=by
    have:=ZeR hP.rel (Wj (Zt pk)) hb hL
    simp only at this
    rw [← YB] at this
    exact this
  refine ⟨σ,⟨σ,lim,?_,by simp; omega,rfl⟩,hL,hlen,hfl,hrv⟩
  have hR:=hP.rel
  simp only at hR hK
  rw [← YB] at hR hK
  have hpin:=ZoW hb hL
  obtain ⟨lw1,lw2⟩:=Ys rvs 0
  refine Zon ?_ (fun p hp => ⟨V1 (lw2 p hp).1 hin,(lw2 p hp).2.1,fun cs hc q hq => V1 ((lw2 p hp).2.2 cs hc q hq) hin⟩) (fun r hr => V1 (lw1 r hr) hin)
    (fun p hp => by
      rcases Jt.1 hp with hp | hp
      · exact V1 (lw1 p.1 (Ku pk _ _ (Ws (Zt pk) _ _ (Zbc _ _ p hp)))) hin
      · obtain ⟨q,hq,rfl⟩:=VH.1 hp
        obtain ⟨r,cs,hr,hqc⟩:=X0 hR.res (Wj (Zt pk)) (ZW (Zt pk) (ZM pk (Zu 0 rvs).1)) q hq
        simp only [YB,ZF.put] at hr
        cases hl:Zm (Zu 0 rvs).2.1 r with
        | none => rw [hl] at hr; cases hr
        | some z => rw [hl] at hr; simp only at hr; exact V1 ((lw2 _ (Qn hl)).2.2 cs hr q hqc) hin)
  exact
    { env:=by
        intro s
        rcases XS (Zu 0 rvs).1 0 s with h | ⟨j,h1,h2⟩
        · simp only [enter,h,RA]
        · have hs:s = j:=by omega
          subst hs
          have hjl:s < vs.length:=by
            rw [← Zah hA]
            grind
          have hv:vs[s]? = some vs[s]:=by simp [hjl]
          have:=Zhr hA h2 hv
          simp only [enter]
          rw [Array.getD_eq_getD_getElem?,Array.getElem?_append_left (by simpa using hjl)]
          simpa [hv] using this
      known:=by
        intro s
        rcases XS (Zu 0 rvs).1 0 s with h | ⟨j,h1,h2⟩
        · simp [enter,h,Za,Ze]
        · intro r hr
          exact hK r (ZeM h2 r hr)
      res:=hR.res,inj:=hR.inj,own:=hR.own,ext:=hR.ext,keep:=hR.keep,same:=hR.same,lz:=hR.lz,limk:=hR.limk,glob:=hR.glob
      pin:=by
        intro p hp
        rcases Jt.1 hp with hp | hp
        · refine ⟨hpin p hp,?_⟩
          exact hK p.1 (Ku pk _ _ (Ws (Zt pk) _ _ (Zbc _ _ p hp)))
        · obtain ⟨q,hq,rfl⟩:=VH.1 hp
          obtain ⟨r,cs,hr,hqc⟩:=X0 hR.res (Wj (Zt pk)) (ZW (Zt pk) (ZM pk (Zu 0 rvs).1)) q hq
          exact ⟨rfl,(hR.res r _ hr).2 q hqc⟩ }
def Zhp (w:World) (lim:Nat → Nat) (vs:List Value) (bs:List Nat) (pk:List Kd) (r:RV × List RV):Ending → World → Prop:=fun e w' => ∃ v lim' b1 b2,e = .returned v ∧ Ext w lim w' lim' ∧ (∀ b,w'.heap.size ≤ b → lim' b = 0) ∧
   (w'.os = w.os ∧ w'.tape = w.tape ∧ w'.output = w.output) ∧ (∀ b,b < w.heap.size → b ∉ bs → w'.heap[b]? = w.heap[b]? ∧ lim' b = lim b) ∧
   TT w' lim' r.1 v b1 ∧ TL w' lim' (Zt pk) (Qx pk vs) r.2 b2 ∧ WI w w' (Zt pk) (Qx pk vs) ∧ (b1 ++ b2).Nodup ∧ ∀ b ∈ b1 ++ b2,b ∈ bs ∨ w.heap.size ≤ b
theorem ZjW {f:Nat} {fn:Func} {code:Code} {pk:List Kd} {rk:Kd} {rvs:List RV} {r:RV × List RV} {vs:List Value} {bs:List Nat} (hf:C.P.funcs[f]? = some fn) (hb:fn.body = some code)
  (hlz:∀ b,w.heap.size ≤ b → lim b = 0) (hgl:Zbn w lim) (hT:KL w lim rvs vs bs) (hnd:bs.Nodup) (hbs:∀ b ∈ bs,b < w.heap.size) (hbx:WK (ZW (Zt pk) (ZM pk (Zu 0 rvs).1)) = true) (hn:rvs.length ≤ fn.ntmps) (hin:(Zu 0 rvs).2.2 ≤ ZD) (hco:QU pk (Zu 0 rvs).1 = true)
  (hwp:∀ (G:Glob),(∀ p ∈ G.pins,p.1 ∈ Qy (ZW (Zt pk) (ZM pk (Zu 0 rvs).1)) ++ (YT pk rvs).flatten) → WH G fn.ntmps (enter (Zu 0 rvs).1 (Zu 0 rvs).2.1) { tmps:=vs.toArray ++ UC (fn.ntmps - vs.toArray.size) undef,defers:=[] } w →
   code.wp C.P (fun e a w => ∃ e' st',e = Ex.out e' ∧ Zdu C fn.results.toList pk (ZW (Zt pk) (ZM pk (Zu 0 rvs).1)) (YT pk rvs) rk some e' st' = some r ∧ WH G fn.ntmps st' a w) { tmps:=vs.toArray ++ UC (fn.ntmps - vs.toArray.size) undef,defers:=[] } w) :
  Calls C.P f vs.toArray w (Zhp w lim vs bs pk r):=by
 obtain ⟨σ0,hS,hL,hlen,hfl,hRV⟩:=Zfd (pk:=pk) hlz hgl hT hnd hbs hn hin hco hbx
 refine calls_of_wp hf hb (wp_mono (hwp _ (fun p hp => by
  rcases Jt.1 hp with hp | hp
  ·exact JH _ (Zbc _ _ p hp)
  grind) hS) ?_)
 rintro e a' w' ⟨e',st',rfl,hK,hs⟩
 obtain ⟨σ,lim',⟨hR,_⟩,_,hd⟩:=hs
 have leave:(Zdv C fn.results.toList pk (ZW (Zt pk) (ZM pk (Zu 0 rvs).1)) (YT pk rvs) rk st').runK st'.tbl [] (fun x l => bif K2 l then some x else none) = some r →
   a'.defers = [] ∧ ∃ v,(results fn a'.tmps).run C.P w' = .ok v w' ∧ Zhp w lim vs bs pk r (.returned v) w':=by
  intro hl
  rw [M.runK_eq] at hl
  cases hr:(Zdv C fn.results.toList pk (ZW (Zt pk) (ZM pk (Zu 0 rvs).1)) (YT pk rvs) rk st').run st'.tbl [] with
  | none => rw [hr] at hl; simp at hl
  | some p =>
   obtain ⟨q,lg⟩:=p
   rw [hr] at hl
   simp only [VL] at hl
   have hlow:K2 lg = true:=by
    grind
   rw [hlow] at hl
   simp only [cond_true,VG.injEq] at hl
   subst hl
   have hr:=Zf6 hr hlow
   unfold Zdv at hr
   rw [Zac (st:=st') (st2:=⟨st'.env,Q5 st'.tbl⟩) rfl] at hr
   obtain ⟨as,l1,h1,hr⟩:=M.run_bind_some hr
   obtain ⟨⟨y,u⟩,l2,h2,hr⟩:=M.run_bind_some hr
   obtain ⟨⟨ys,v⟩,l3,h3,hr⟩:=M.run_bind_some hr
   obtain ⟨nm',l4,h4,hr⟩:=M.run_bind_some hr
   obtain ⟨hok,hr2⟩:=M.run_guard hr
   simp only [Jh] at hok
   obtain ⟨hok,hnm⟩:=hok
   have hnm:=Zjb hnm
   obtain ⟨hq,_⟩:=M.run_ret hr2
   subst hnm
   obtain ⟨rv,r1,r2⟩:=Zel hR h1
   obtain ⟨g1,k1⟩:=ZeX (st:=⟨st'.env,Q5 st'.tbl⟩) (σ:=σ) (w:=w') (lim:=lim') rk _ h2
   obtain ⟨g2,k2⟩:=QJ (st:=⟨st'.env,Q5 st'.tbl⟩) (σ:=σ) (w:=w') (lim:=lim') (Wj (Zt pk)) _ h3
   obtain ⟨lim2,hR2,hE,hSh,hN,hB⟩:=hR.takes (g1.append g2) hok
   have hLf:ZA σ w' lim' (ZW (Zt pk) (ZM pk (Zu 0 rvs).1)) (Wk (Zt pk) (Qx pk vs)):=Zia hbx hL fun p hp => (hR.pin p (JH _ hp)).1
   have hStay:WI w w' (Zt pk) (Qx pk vs):=KY _ _ (ZbO hR (Wj (Zt pk)) h4 hLf hRV fun q hq => (hR.pin (q,σ0 q) (List.mem_append_right _ (VH.2 ⟨q,hq,rfl⟩))).1)
   refine ⟨hd,rv,r1,rv,lim2,ZX σ (Zy u),ZX σ (Zy v),rfl,hR2.ext,hR2.lz,hR2.same,fun b hb1 hb2 => ⟨hR2.keep b hb1 hb2,hR2.limk b hb1 hb2⟩,?_,?_,hStay,?_,?_⟩
   ·rw [hq]; exact k1 rv r2 (fun r y hy => (hR.res r y hy).1) lim2 hE hSh.left
   ·rw [hq]; exact Zju (Zt pk) hfl (k2 _ hLf (fun r y hy => (hR.res r y hy).1) lim2 hE hSh.right)
   ·rw [← X5,← WP]; exact hN
   ·intro b hb; rw [← X5,← WP] at hb; exact (hB b hb).1.symm
 cases e' with
 | normal => exact leave hK
 | ret => exact leave hK
 | exit i => simp [Zdu] at hK
theorem ZjX (hC:∀ f cal,C.Φ f = some cal → Ctr C.P C.k f cal) (hm:C.P.follows .mixedOrders = true) {A:Nat → Ann} {f k:Nat} {fn:Func} {code:Code} {cal:Callee} {rk:Kd}
  (hf:C.P.funcs[f]? = some fn) (hb:fn.body = some code) (hname:(fn.name == "runtime.NumGoroutine") = false) (hfit:WZ C.P fn.ntmps code = true)
  (hlent:∀ rvs x,cal.run k rvs = some x → WK (ZW (Zt cal.pk) (ZM cal.pk (Zu 0 rvs).1)) = true)
  (hrun:∀ rvs x,cal.run k rvs = some x → Zic C A fn.ntmps code fn.results.toList cal.pk rk rvs some = some (cal.enc x)):Ctr C.P k f cal where
 enters:=⟨fn,hf,hname,by rw [hb]; rfl⟩
 calls:=by
  intro rvs x hx w lim vs bs hlz hgl hT hnd hbs
  have h:=hrun rvs x hx
  have hbx:=hlent rvs x hx
  unfold Zic at h
  cases hg:Znu cal.pk rvs fn.ntmps with
  | false => rw [hg] at h; simp at h
  | true =>
   rw [hg] at h
   simp only [cond_true] at h
   simp only [Znu,Jh] at hg
   exact ZjW (rk:=rk) hf hb hlz hgl hT hnd hbs hbx (Ju hg.1.1) (Ju hg.1.2) hg.2 fun G hp hS => QW hC hm hp code h hfit hS fun e st' a' w' hK hs => ⟨e,st',rfl,hK,hs⟩
end Go.Sh
namespace Go.Sh
open Go
variable [Gl]
def Zjd:Ex → St → Option (Ex × St):=fun e s => some (e,s)
def Zaq {R:Type} (K:Ex → St → Option R):Ex × St → Option R:=fun x => K x.1 x.2
theorem ZdA {R:Type} {nm:St → Option St} {b1:St → (Ex → St → Option (Ex × St)) → Option (Ex × St)} {bR:St → (Ex → St → Option R) → Option R}
  (h1:∀ st K,b1 st K = (b1 st Zjd).bind (Zaq K)) (hb:∀ st K,bR st K = (b1 st Zjd).bind (Zaq K)):∀ (n:Nat) (st:St) (K:Ex → St → Option R),
  K8 bR nm n st K = (K8 b1 nm n st Zjd).bind (Zaq K)
 | 0,st,K => rfl
 | n + 1,st,K => by
  simp only [K8]
  rw [hb]
  conv => rhs; rw [h1]
  rw [UA]
  congr 1
  funext x
  obtain ⟨e,s⟩:=x
  cases e with
  | exit i => rfl
  | ret => rfl
  | normal =>
   simp only [Zaq]
   cases nm s with
   | none => rfl
   | some s' => exact ZdA h1 hb n s' K
theorem Qj {C:Ctx} {A:Nat → Ann} {kp:List Nat}:(c:Code) → {R:Type} → (st:St) → (K:Ex → St → Option R) → WM C A kp c st K = (WM C A kp c st Zjd).bind (Zaq K)
 | .skip,R,st,K => rfl
 | .label _,R,st,K => rfl
 | .ret,R,st,K => rfl
 | .exit _,R,st,K => rfl
 | .goto _,R,st,K => rfl
 | .refuse _,R,st,K => rfl
 | .rangeFunc _ _ _ _,R,st,K => rfl
 | .region id ops d,R,st,K => by
  simp only [WM]
  cases d with
  | false => simp only [cond_false,ZfY,UA]; rfl
  | true =>
   simp only [cond_true,Zbx,UA]
   congr 1
   funext x
   cases XD ops.toList (W1 ops.toList []) ([] ++ x.2) <;> rfl
 | .seq a b,R,st,K => by
  simp only [WM]
  rw [Qj a]
  conv => rhs; rw [Qj a]
  rw [UA]
  congr 1
  funext x
  obtain ⟨e,s⟩:=x
  cases e with
  | normal => exact Qj b s K
  | exit i => rfl
  | ret => rfl
 | .cond c a b,R,st,K => by
  simp only [WM]
  split
  ·rename_i t _
   cases t with
   | true => simp only [cond_true]; exact Qj a _ K
   | false => simp only [cond_false]; exact Qj b _ K
  ·rfl
 | .block id c,R,st,K => by
  simp only [WM]
  rw [Qj c]
  conv => rhs; rw [Qj c]
  rw [UA]
  congr 1
  funext x
  obtain ⟨e,s⟩:=x
  cases e with
  | normal => rfl
  | ret => rfl
  | exit i => simp only [Zaq,Ze7]; cases Ja i id <;> rfl
 | .loop c,R,st,K => by
  simp only [WM,UA]
  congr 1
  funext s
  exact ZdA (fun st K => Qj c st K) (fun st K => Qj c st K) C.k s K
 | .scope c,R,st,K => by simp only [WM]; exact Qj c st K
theorem Zkh {C:Ctx} {A:Nat → Ann} {n:Nat} {body:Code} {rs:List ResultVar} {pk:List Kd} {rk:Kd} {rvs:List RV} {R:Type} (K:RV × List RV → Option R) :
  Zic C A n body rs pk rk rvs K = (Zic C A n body rs pk rk rvs some).bind K:=by
 unfold Zic
 cases Znu pk rvs n with
 | false => rfl
 | true =>
  simp only [cond_true]
  rw [Qj]
  conv => rhs; rw [Qj]
  rw [UA]
  congr 1
  funext x
  obtain ⟨e,s⟩:=x
  simp only [Zaq]
  cases e <;> simp only [Zdu,M.runK_eq,UA,VL,Option.bind_none]
  all_goals grind
mutual
def Kd.den:Kd → Type
 | .view t => t.den
 | .own t _ => List t.den
 | .box ks => Kd.dens ks
 | .agg ks => Kd.dens ks
 | .tup ks => Kd.dens ks
 | .fn _ => Unit
 | .bld _ => List Int
 | .use _ => List Int
 | .clo _ ks => Kd.dens ks
 | .ref ks => Kd.dens ks
 | .ns t => List t.den
 | .vp t => List t.den
def Kd.dens:List Kd → Type
 | [] => Unit
 | k :: ks => k.den × Kd.dens ks
end
mutual
def enc:(k:Kd) → k.den → RV
 | .view t,x => .view t x
 | .own t sh,xs => .own t sh xs
 | .box ks,x => .box (QD ks x)
 | .agg ks,x => .agg (QD ks x)
 | .tup ks,x => .tup (QD ks x)
 | .fn f,_ => .fn f
 | .bld T,xs => .bld T xs
 | .use T,xs => .bld T xs
 | .clo f ks,x => .clo f (QD ks x)
 | .ref ks,x => .box (QD ks x)
 | .ns t,xs => .ns t xs
 | .vp t,xs => .vp t xs
def QD:(ks:List Kd) → Kd.dens ks → List RV
 | [],_ => []
 | k :: ks,x => enc k x.1 :: QD ks x.2
end
def Zbs (t:Ty):RV → Option t.den
 | .view t' x => if h:t' = t then some (h ▸ x:t.den) else none
 | _ => none
def ZkG (t:Ty) (sh:Bool):RV → Option (List t.den)
 | .own t' sh' xs => if h:t' = t then (bif sh == sh' then some (h ▸ xs:List t.den) else none) else none
 | _ => none
def Zio:RV → Option (List RV)
 | .box cs => some cs
 | _ => none
def asAgg:RV → Option (List RV)
 | .agg cs => some cs
 | _ => none
def ZkI:RV → Option (List RV)
 | .tup cs => some cs
 | _ => none
def Zoh (f:Nat):RV → Option Unit
 | .fn g => bif Ja f g then some () else none
 | _ => none
def ZkE (f:Nat):RV → Option (List RV)
 | .clo g cs => bif Ja f g then some cs else none
 | _ => none
def Zoi (t:Ty):RV → Option (List t.den)
 | .ns t' xs => if h:t' = t then some (h ▸ xs:List t.den) else none
 | _ => none
def Zoj (t:Ty):RV → Option (List t.den)
 | .vp t' xs => if h:t' = t then some (h ▸ xs:List t.den) else none
 | _ => none
def Zin (T:TypeId):RV → Option (List Int)
 | .bld U xs => bif Ja T U then some xs else none
 | _ => none
mutual
def dec:(k:Kd) → RV → Option k.den
 | .view t,r => Zbs t r
 | .own t sh,r => ZkG t sh r
 | .box ks,r => (Zio r).bind (Yd ks)
 | .agg ks,r => (asAgg r).bind (Yd ks)
 | .tup ks,r => (ZkI r).bind (Yd ks)
 | .fn f,r => Zoh f r
 | .bld T,r => Zin T r
 | .use T,r => Zin T r
 | .clo f ks,r => (ZkE f r).bind (Yd ks)
 | .ref ks,r => (Zio r).bind (Yd ks)
 | .ns t,r => Zoi t r
 | .vp t,r => Zoj t r
def Yd:(ks:List Kd) → List RV → Option (Kd.dens ks)
 | [],[] => some ()
 | [],_ :: _ => none
 | _ :: _,[] => none
 | k :: ks,x :: xs => (dec k x).bind fun y => (Yd ks xs).bind fun ys => some (y,ys)
end
theorem ZjC {t:Ty} {r:RV} {x:t.den} (h:Zbs t r = some x):r = .view t x:=by
 unfold Zbs at h
 grind
theorem ZkH {t:Ty} {sh:Bool} {r:RV} {x:List t.den} (h:ZkG t sh r = some x):r = .own t sh x:=by
 unfold ZkG at h
 grind
theorem Zgo {r:RV} {cs:List RV} (h:Zio r = some cs):r = .box cs:=by unfold Zio at h; split at h <;> simp at h; rw [h]
theorem ZkD {r:RV} {cs:List RV} (h:asAgg r = some cs):r = .agg cs:=by unfold asAgg at h; split at h <;> simp at h; rw [h]
theorem ZkJ {r:RV} {cs:List RV} (h:ZkI r = some cs):r = .tup cs:=by unfold ZkI at h; split at h <;> simp at h; rw [h]
theorem Zm6 {f:Nat} {r:RV} {x:Unit} (h:Zoh f r = some x):r = .fn f:=by
 unfold Zoh at h
 split at h
 ·rename_i g
  cases hb:Ja f g with
  | false => rw [hb] at h; simp at h
  | true => rw [ZC hb]
 ·cases h
theorem ZkF {f:Nat} {r:RV} {cs:List RV} (h:ZkE f r = some cs):r = .clo f cs:=by
 unfold ZkE at h
 split at h
 ·rename_i g l
  cases hb:Ja f g with
  | false => rw [hb] at h; simp at h
  | true => simp_all
 ·cases h
theorem Zm7 {t:Ty} {r:RV} {x:List t.den} (h:Zoi t r = some x):r = .ns t x:=by
 unfold Zoi at h
 grind
theorem Zm8 {t:Ty} {r:RV} {x:List t.den} (h:Zoj t r = some x):r = .vp t x:=by
 unfold Zoj at h
 split at h
 ·split at h
  ·rename_i e; subst e; simp at h; rw [h]
  ·cases h
 ·cases h
theorem Zgn {T:TypeId} {r:RV} {x:List Int} (h:Zin T r = some x):r = .bld T x:=by
 unfold Zin at h
 split at h
 ·rename_i U xs
  cases hb:Ja T U with
  | false => rw [hb] at h; simp at h
  | true => simp_all
 ·cases h
mutual
theorem Zis:(k:Kd) → (r:RV) → (x:k.den) → dec k r = some x → r = enc k x
 | .view t,r,x,h => by simp only [dec] at h; simp only [enc]; exact ZjC h
 | .own t sh,r,x,h => by simp only [dec] at h; simp only [enc]; exact ZkH h
 | .box ks,r,x,h => by
  simp only [dec] at h
  obtain ⟨cs,h1,h2⟩:=Uz.1 h
  simp only [enc,Zgo h1,Z6 ks cs x h2]
 | .agg ks,r,x,h => by
  simp only [dec] at h
  obtain ⟨cs,h1,h2⟩:=Uz.1 h
  simp only [enc,ZkD h1,Z6 ks cs x h2]
 | .tup ks,r,x,h => by
  simp only [dec] at h
  obtain ⟨cs,h1,h2⟩:=Uz.1 h
  simp only [enc,ZkJ h1,Z6 ks cs x h2]
 | .fn f,r,x,h => by simp only [dec] at h; simp only [enc]; exact Zm6 h
 | .bld T,r,x,h => by simp only [dec] at h; simp only [enc]; exact Zgn h
 | .use T,r,x,h => by simp only [dec] at h; simp only [enc]; exact Zgn h
 | .clo f ks,r,x,h => by
  simp only [dec] at h
  obtain ⟨cs,h1,h2⟩:=Uz.1 h
  simp only [enc,ZkF h1,Z6 ks cs x h2]
 | .ns t,r,x,h => by simp only [dec] at h; simp only [enc]; exact Zm7 h
 | .vp t,r,x,h => by simp only [dec] at h; simp only [enc]; exact Zm8 h
 | .ref ks,r,x,h => by
  simp only [dec] at h
  obtain ⟨cs,h1,h2⟩:=Uz.1 h
  simp only [enc,Zgo h1,Z6 ks cs x h2]
theorem Z6:(ks:List Kd) → (rs:List RV) → (x:Kd.dens ks) → Yd ks rs = some x → rs = QD ks x
 | [],[],x,h => rfl
 | k :: ks,r :: rs,x,h => by
  simp only [Yd] at h
  obtain ⟨y,h1,h⟩:=Uz.1 h
  obtain ⟨ys,h2,h⟩:=Uz.1 h
  cases h
  simp only [QD,← Zis k r y h1,← Z6 ks rs ys h2]
 | [],_ :: _,x,h => by simp [Yd] at h
 | _ :: _,[],x,h => by simp [Yd] at h
end
theorem Zb3:(ks:List Kd) → (x:Kd.dens ks) → (QD ks x).length = ks.length
 | [],_ => rfl
 | k :: ks,x => by simp only [QD,JG,Zb3 ks]
theorem ZfS {ks ls:List Kd} {as bs:List AV} (h:ks.length = as.length):ZW (ks ++ ls) (as ++ bs) = ZW ks as ++ ZW ls bs:=by
 induction ks generalizing as with
 | nil =>
  grind [ZW]
 | cons k ks ih =>
  cases as with
  | nil => simp at h
  | cons a as =>
   have ih:=ih (as:=as) (by simpa using h)
   cases k <;> simp [ZW,ih]
theorem Ze9 (a b:List AV):WK (a ++ b) = (WK a && WK b):=by simp [WK]
theorem ZbZ:(ks:List Kd) → (x:Kd.dens ks) → (n:Nat) → WK (ZW ks (Zu n (QD ks x)).1) = true
 | [],_,n => rfl
 | k :: ks,x,n => by
  have ih:=ZbZ ks x.2
  cases k with
  | box l =>
   simp only [QD,enc,Zu,put,ZW,WK,UB,UD] at ih ⊢
   exact ih _
  | bld T =>
   simp only [QD,enc,Zu,put,ZW,WK,UB,UD] at ih ⊢
   exact ih _
  | _ => grind [QD,enc,Zu,ZW]
theorem ZcN:(ks:List Kd) → (x:Kd.dens ks) → (n:Nat) → WK (ZW (Zt ks) (ZM ks (Zu n (QD ks x)).1)) = true
 | [],_,n => rfl
 | k :: ks,x,n => by
  have ih:=ZcN ks x.2
  cases k with
  | box l =>
   simp only [QD,enc,Zu,put,Zt,ZM,ZW,WK,UB,UD] at ih ⊢
   exact ih _
  | bld T =>
   simp only [QD,enc,Zu,put,Zt,ZM,ZW,WK,UB,UD] at ih ⊢
   exact ih _
  | clo f l =>
   simp only [QD,enc,Zu,put,Zt,ZM]
   rw [ZfS (by rw [KE]; exact (Zb3 l x.1).symm),Ze9,Jh]
   exact ⟨ZbZ l x.1 n,ih _⟩
  | _ => grind [QD,enc,Zu,Zt,ZM,ZW]
abbrev Ans (pk:List Kd) (rk:Kd):Type:=rk.den × Kd.dens (Wj (Zt pk))
def ZkO (pk:List Kd) (rk:Kd) (r:RV × List RV):Option (Ans pk rk):=(dec rk r.1).bind fun x => (Yd (Wj (Zt pk)) r.2).bind fun l => some (x,l)
def Zom (pk:List Kd) (rk:Kd) (x:Ans pk rk):RV × List RV:=(enc rk x.1,QD (Wj (Zt pk)) x.2)
theorem ZjO {pk:List Kd} {rk:Kd} {r:RV × List RV} {x:Ans pk rk} (h:ZkO pk rk r = some x):r = Zom pk rk x:=by
 unfold ZkO at h
 obtain ⟨y,h1,h⟩:=Uz.1 h
 obtain ⟨ys,h2,h⟩:=Uz.1 h
 cases h
 obtain ⟨a,b⟩:=r
 simp only [Zom,← Zis rk a y h1,← Z6 (Wj (Zt pk)) b ys h2]
def mk (pk:List Kd) (rk:Kd) (F:Nat → Kd.dens pk → Option (Ans pk rk)):Callee :=
 { ρ:=Ans pk rk,pk:=pk,run:=fun k rvs => (Yd pk rvs).bind (F k),enc:=Zom pk rk }
theorem Znm {C:Ctx} (hC:∀ f cal,C.Φ f = some cal → Ctr C.P C.k f cal) (hm:C.P.follows .mixedOrders = true) {A:Nat → Ann} {f k:Nat} {fn:Func} {code:Code} {pk:List Kd} {rk:Kd} {F:Nat → Kd.dens pk → Option (Ans pk rk)}
  (hf:C.P.funcs[f]? = some fn) (hb:fn.body = some code) (hname:(fn.name == "runtime.NumGoroutine") = false) (hfit:WZ C.P fn.ntmps code = true)
  (h:∀ x y,F k x = some y → Zic C A fn.ntmps code fn.results.toList pk rk (QD pk x) (ZkO pk rk) = some y):Ctr C.P k f (mk pk rk F):=by
 refine ZjX (A:=A) (rk:=rk) hC hm hf hb hname hfit (fun rvs x hx => ?_) (fun rvs x hx => ?_)
 ·simp only [mk] at hx ⊢
  obtain ⟨y,h1,h2⟩:=Uz.1 hx
  rw [Z6 pk rvs y h1]
  exact ZcN pk y 0
 ·simp only [mk] at hx ⊢
  obtain ⟨y,h1,h2⟩:=Uz.1 hx
  have h3:=h y x h2
  rw [← Z6 pk rvs y h1,Zkh] at h3
  obtain ⟨r,h4,h5⟩:=Uz.1 h3
  rw [h4,ZjO h5]
def phi:List (Nat × Callee) → Nat → Option Callee
 | [],_ => none
 | (f,c) :: l,g => bif Ja g f then some c else phi l g
theorem Zmx {P:Program} {k:Nat}:∀ {l:List (Nat × Callee)},(∀ p ∈ l,Ctr P k p.1 p.2) → ∀ f cal,phi l f = some cal → Ctr P k f cal
 | [],_,f,cal,h => by simp [phi] at h
 | (g,c) :: l,hl,f,cal,h => by
  simp only [phi] at h
  cases hb:Ja f g with
  | true => simp_all
  | false => rw [hb] at h; exact Zmx (fun p hp => hl p (by simp [hp])) f cal h
theorem Zqc {P:Program} {k:Nat}:∀ p ∈ ([]:List (Nat × Callee)),Ctr P k p.1 p.2:=by intro p hp; simp at hp
theorem Zpj {P:Program} {k f:Nat} {c:Callee} {l:List (Nat × Callee)} (h:Ctr P k f c) (hl:∀ p ∈ l,Ctr P k p.1 p.2):∀ p ∈ (f,c) :: l,Ctr P k p.1 p.2:=by
 simp_all
def ZZ {V R:Type} (step:(V → Option R) → V → Option R):Nat → V → Option R
 | 0,_ => none
 | n + 1,v => step (ZZ step n) v
theorem ZgV {V R:Type} {L:Nat → V → Option R} {step:(V → Option R) → V → Option R} (h0:∀ v,L 0 v = none) (h:∀ n v,L (n + 1) v = step (L n) v):∀ n,L n = ZZ step n
 | 0 => funext h0
 | n + 1 => funext fun v => by rw [h,ZgV h0 h n]; rfl
section
variable {R:Type}
def place (C:Ctx) (A:Nat → Ann) (kp:List Nat):List Nat → List Nat → Code → (Ex → St → Option R) → Code × (Ex → St → Option R)
 | 0 :: p,ns,.seq a b,K => place C A kp p ns a (Zp2 (fun s => WM C A kp b s K) K)
 | _ :: p,ns,.seq _ b,K => place C A kp p ns b K
 | 0 :: p,ns,.cond _ a _,K => place C A kp p ns a K
 | _ :: p,ns,.cond _ _ b,K => place C A kp p ns b K
 | _ :: p,ns,.block id c,K => place C A kp p ns c (Ze7 id K)
 | _ :: p,ns,.scope c,K => place C A kp p ns c K
 | _ :: p,n :: ns,.loop c,K => place C A kp p ns c fun e s => match e with
  | .normal => (Zej kp (A (ZQ c)) s).bind fun s => K8 (WM C A kp c) (Zej kp (A (ZQ c))) n s K
  | .exit i => K (.exit i) s
  | .ret => K .ret s
 | _,_,c,K => (c,K)
def ZoT (C:Ctx) (A:Nat → Ann) (kp:List Nat) (p ns:List Nat) (code:Code) (K:Ex → St → Option R) (n:Nat) (st:St):Option R :=
 match place C A kp p ns code K with
 | (.loop c,K) => K8 (WM C A kp c) (Zej kp (A (ZQ c))) n st K
 | _ => none
end
end Go.Sh
