/-
  What the row needs, part 4.
-/
import Derived.Test.YtgbhjfacjekhcaaGreatDoorXStreamApart3
import Derived.Scope
import Derived.LoopN
set_option linter.unusedSimpArgs false
set_option linter.unusedVariables false
set_option linter.unusedSectionVars false
open Array renaming replicate→UB
open Bool renaming and_eq_true→Jh,true_and→UC
open Go.Instr renaming loadAt→JZ
open List renaming mem_append→Js,all_cons→UA,mem_cons→VM,length_cons→JF,mem_map→VG,mem_append_left→JG
open Nat renaming beq→Ja,lt_of_lt_of_le→V0,le_of_ble_eq_true→Jt
open Option renaming bind_eq_some_iff→Uy,bind_assoc→Uz,bind_some→VK,some→VF
namespace Go.Sh
open Go
variable [Gl]
variable {C:Ctx} {G:Glob} {σ:W7} {w:World} {lim:Nat → Nat} {st:St} {a:Act}
def Ex.out:Ex → Exit
 | .normal => .normal
 | .exit i => .exit i
 | .ret => .ret
def XW (P:Program) (n:Nat):Code → Bool
 | .region _ ops _ => ZsS P n ops.toList
 | .seq a b => XW P n a && XW P n b
 | .cond _ a b => XW P n a && XW P n b
 | .block _ c => XW P n c
 | .loop c => XW P n c
 | .scope c => XW P n c
 | _ => true
def WU (G:Glob) (n:Nat) (st:St) (a:Act) (w:World):Prop := ∃ σ lim,WC G σ lim st a.tmps w ∧ a.tmps.size = n ∧ a.defers = []
theorem ZNX {n:Nat} (h:WU G n st a w) {c:Operand} {t:Bool} (hc:Zab st.env c = .val (.v (.bool t))):a.eval c = .bool t:=by
 obtain ⟨σ,lim,h,_,_⟩:=h
 have:=(Zq h.1 c).1
 grind [RA,RP]
theorem Zmk {n:Nat} (h:WU G n st a w) {q:Nat} (hq:q < Z6):WU G n (ZE0 st q) a w:=by
 obtain ⟨σ,lim,h,h2,h3⟩:=h
 unfold ZE0
 split
 ·rename_i t xss hT
  obtain ⟨lim',h4⟩:=RelW.melt h.1 h.2 hq hT
  exact ⟨σ,lim',h4,h2,h3⟩
 ·exact ⟨σ,lim,h,h2,h3⟩
theorem ZvZ {n:Nat} (h:WU G n st a w) (id:Nat):WU G n (Zho C id st) a w:=by
 have hL:Low G st:=by obtain ⟨_,_,⟨_,hL⟩,_,_⟩:=h; exact hL
 unfold Zho
 split
 ·split
  ·rename_i s _ _ q hs
   exact Zmk h (hL.env s q (by rw [hs]; simp [Zc]))
  ·exact h
 ·split
  ·rename_i s k _ _ r hs
   unfold ZQ3
   split
   ·rename_i cs hr
    split
    ·rename_i q hq
     exact Zmk h (hL.box r cs hr q (Ke (List.mem_of_getElem? hq) (by simp [Zc])))
    ·exact h
   ·exact h
  ·exact h
 ·exact h
theorem WE (hC:∀ f cal,C.Φ f = some cal → Ctr C.P C.k f cal) (hm:C.P.follows .mixedOrders = true) {A:Nat → Ann} {kp:List Nat} (hk:∀ p ∈ G.pins,p.1 ∈ kp) {n:Nat} {R:Type} {r:R} :
  (c:Code) → {st:St} → {K:Ex → St → Option R} → Xn C A kp c st K = some r → XW C.P n c = true → {a:Act} → {w:World} → WU G n st a w → {Q:Exit → Act → World → Prop} →
  (∀ e st' a' w',K e st' = some r → WU G n st' a' w' → Q e.out a' w') → c.wp C.P Q a w
 | .skip,st,K,h,hf,a,w,hs,Q,hQ => wp_skip (hQ .normal st a w h hs)
 | .label _,st,K,h,hf,a,w,hs,Q,hQ => wp_label (hQ .normal st a w h hs)
 | .ret,st,K,h,hf,a,w,hs,Q,hQ => wp_ret (hQ .ret st a w h hs)
 | .exit i,st,K,h,hf,a,w,hs,Q,hQ => wp_exit (hQ (.exit i) st a w h hs)
 | .region id ops d,st,K,h,hf,a,w,hs,Q,hQ => by
  simp only [Xn] at h
  simp only [XW] at hf
  obtain ⟨σ,lim,hR,hn,hd⟩:=ZvZ (C:=C) hs id
  have hb:∃ stf lgs,Zlx C id ops.toList ops.toList 0 (Zho C id st) = some (stf,lgs) ∧ (d = true → ZaZ ops.toList (Y1 ops.toList []) lgs = true) ∧ K .normal stf = some r:=by
   cases d with
   | false =>
    simp only [cond_false,Zv3] at h
    cases ho:Zlx C id ops.toList ops.toList 0 (Zho C id st) with
    | none => rw [ho] at h; simp at h
    | some x => grind
   | true =>
    simp only [cond_true,Zki,List.nil_append] at h
    cases ho:Zlx C id ops.toList ops.toList 0 (Zho C id st) with
    | none => rw [ho] at h; simp at h
    | some x =>
     grind
  obtain ⟨stf,lgs,h1,h2,h3⟩:=hb
  exact Zwa hC hm hf hR hn hd h1 h2 fun a' w' σ' lim' hR' hn' hd' => hQ .normal stf a' w' h3 ⟨σ',lim',hR',hn',hd'⟩
 | .seq x y,st,K,h,hf,a,w,hs,Q,hQ => by
  simp only [Xn] at h
  simp only [XW,Jh] at hf
  refine wp_seq (WE hC hm hk x h hf.1 hs fun e st' a' w' hK hs' => ?_)
  cases e with
  | normal => exact WE hC hm hk y hK hf.2 hs' hQ
  | exit i => exact hQ (.exit i) st' a' w' hK hs'
  | ret => exact hQ .ret st' a' w' hK hs'
 | .cond c x y,st,K,h,hf,a,w,hs,Q,hQ => by
  simp only [Xn] at h
  simp only [XW,Jh] at hf
  split at h
  ·rename_i t hc
   have e1:=ZNX hs hc
   cases t with
   | true =>
    refine wp_cond_true e1 (WE hC hm (A:=A) hk x (K:=K) ?_ hf.1 hs hQ)
    cases c with
    | tmp d => simp_all [Zab,cond_true,ZlL hc]
    | _ => exact h
   | false =>
    refine wp_cond_false e1 (WE hC hm (A:=A) hk y (K:=K) ?_ hf.2 hs hQ)
    cases c with
    | tmp d => simp_all [Zab,cond_false,ZlL hc]
    | _ => exact h
  ·simp at h
 | .block id c,st,K,h,hf,a,w,hs,Q,hQ => by
  simp only [Xn] at h
  simp only [XW] at hf
  refine wp_block (WE hC hm hk c h hf hs fun e st' a' w' hK hs' => ?_)
  cases e with
  | normal => exact hQ .normal st' a' w' hK hs'
  | ret => exact hQ .ret st' a' w' hK hs'
  | exit i =>
   simp only [ZtL] at hK
   simp only [Ex.out,Exit.inBlock]
   cases hb:Ja i id with
   | true => rw [hb] at hK; rw [if_pos (ZW hb)]; exact hQ .normal st' a' w' hK hs'
   | false =>
    rw [hb] at hK
    rw [if_neg (by rintro rfl; rw [YE] at hb; cases hb)]
    exact hQ (.exit i) st' a' w' hK hs'
 | .loop c,st,K,h,hf,a,w,hs,Q,hQ => by
  simp only [Xn] at h
  simp only [XW] at hf
  have key:∀ (m:Nat) (st:St) (a:Act) (w:World),ZgH (Xn C A kp c) (Zru kp (A (Qs c))) m st K = some r → WU G n st a w → Code.rounds C.P c Q m a w:=by
   intro m
   induction m with
   | zero => intro st a w h; simp [ZgH] at h
   | succ m ih =>
    intro st a w h hs
    rw [rounds_succ]
    simp only [ZgH] at h
    refine WE hC hm hk c h hf hs fun e st' a' w' hK hs' => ?_
    cases e with
    | ret => exact hQ .ret st' a' w' hK hs'
    | exit i => exact hQ (.exit i) st' a' w' hK hs'
    | normal =>
     cases hn:Zru kp (A (Qs c)) st' with
     | none => rw [hn] at hK; simp at hK
     | some s =>
      rw [hn] at hK
      obtain ⟨σ,lim,hR,q1,q2⟩:=hs'
      obtain ⟨σ2,lim2,hR2⟩:=Zqv hR hk hn
      exact ih s a' w' hK ⟨σ2,lim2,hR2,q1,q2⟩
  cases hn:Zru kp (A (Qs c)) st with
  | none => rw [hn] at h; simp at h
  | some s =>
   rw [hn] at h
   obtain ⟨σ,lim,hR,q1,q2⟩:=hs
   obtain ⟨σ2,lim2,hR2⟩:=Zqv hR hk hn
   exact wp_loop_rounds C.k (key C.k s a w h ⟨σ2,lim2,hR2,q1,q2⟩)
 | .scope c,st,K,h,hf,a,w,hs,Q,hQ => by
  simp only [Xn] at h
  simp only [XW] at hf
  refine wp_scope_straight (WE hC hm hk c h hf hs fun e st' a' w' hK hs' => ?_)
  cases e <;> exact hQ _ st' a' w' hK hs'
 | .rangeFunc _ _ _ _,st,K,h,hf,a,w,hs,Q,hQ => by simp [Xn] at h
 | .goto _,st,K,h,hf,a,w,hs,Q,hQ => by simp [Xn] at h
end Go.Sh
namespace Go.Sh
open Go
variable [Gl]
variable {C:Ctx} {G:Glob} {σ:W7} {w:World} {lim:Nat → Nat} {st:St} {tmps:Array Value}
theorem ZCc {P:Program} {T:TypeId} {v x:Value} (h:(JZ T v).run P w = .ok x w):(asAddr v >>= fun p => loadVar T p:Sem Value).run P w = .ok x w:=by
 unfold JZ at h
 unfold Instr.sureAddr at h
 split at h
 ·simpa [asAddr] using h
 ·simp [stuck,Sem.run_bind] at h
def ZqQ (tmps:Array Value):ResultVar → Sem Value
 | .tmp t => pure (tmps.getD t undef)
 | .cell a t => do loadVar t (← asAddr (tmps.getD a undef))
theorem ZqP (h:RelW G σ lim st tmps w) {r:ResultVar} {l l':List Nat} {x:AV} (hm:(ZcR C st r).run st.tbl l = some (x,l')) :
  ∃ v,(ZqQ tmps r).run C.P w = .ok v w ∧ RA σ w lim x v ∧ Zm st.tbl (Zc x):=by
 cases r with
 | tmp t =>
  obtain ⟨rfl,_⟩:=M.run_ret hm
  exact ⟨_,rfl,h.env t,h.known t⟩
 | cell a T =>
  simp only [ZcR] at hm
  obtain ⟨e,l1,h1,h2⟩:=M.run_bind_some hm
  obtain ⟨rfl,_⟩:=M.run_ret h2
  obtain ⟨v,e1,e2,e3,e4⟩:=Zqi h1 (h.env a) h.res
  exact ⟨v,ZCc e1,e2,e3⟩
theorem Zd0 (h:RelW G σ lim st tmps w):(rs:List ResultVar) → {l l':List Nat} → {xs:List AV} → (Yz C st rs).run st.tbl l = some (xs,l') →
  ∃ vs,(rs.mapM (ZqQ tmps)).run C.P w = .ok vs w ∧ Z3 σ w lim xs vs ∧ Zm st.tbl (Zk xs)
 | [],l,l',xs,hm => by
  obtain ⟨rfl,_⟩:=M.run_ret hm
  simp_all [Z3,Zk,Zm]
 | r :: rs,l,l',xs,hm => by
  simp only [Yz] at hm
  obtain ⟨x,l1,h1,h2⟩:=M.run_bind_some hm
  obtain ⟨ys,l2,h3,h4⟩:=M.run_bind_some h2
  obtain ⟨rfl,_⟩:=M.run_ret h4
  obtain ⟨v,e1,e2,e3⟩:=ZqP h h1
  obtain ⟨vs,f1,f2,f3⟩:=Zd0 h rs h3
  refine ⟨v :: vs,?_,by simp only [Z3]; exact ⟨e2,f2⟩,?_⟩
  ·simp_all
  ·intro i hi; simp only [Zk,Js] at hi; rcases hi with hi | hi; exact e3 i hi; exact f3 i hi
theorem ZgN {st st2:St} (he:st2.env = st.env):∀ (rs:List ResultVar),Yz C st rs = Yz C st2 rs
 | [] => rfl
 | r :: rs => by
  have h1:ZcR C st r = ZcR C st2 r:=by cases r <;> simp only [ZcR,he]
  simp only [Yz,h1,ZgN he rs]
theorem Zrz (h:RelW G σ lim st tmps w) {fn:Func} {l l':List Nat} {xs:List AV} (hm:(Yz C st fn.results.toList).run st.tbl l = some (xs,l')) :
  ∃ v,(results fn tmps).run C.P w = .ok v w ∧ RA σ w lim (match (generalizing:=false) xs with | [a] => a | as => .tup as) v:=by
 obtain ⟨vs,e1,e2,e3⟩:=Zd0 h _ hm
 have e0:results fn tmps = (do let vs ← fn.results.mapM (ZqQ tmps); pure (if h:vs.size = 1 then vs[0] else .tuple vs)):=by
  unfold results
  congr 1
 rw [e0,Array.mapM_eq_mapM_toList]
 match xs,vs,e2 with
 | [x],[v],e2 =>
  simp_all [Z3,Sem.run_bind,Sem.run_map,e1]
 | [],[],e2 =>
  simp_all [RA,Z3,Sem.run_bind,Sem.run_map,e1]
 | x :: y :: xs,v :: u :: vs,e2 =>
  simp_all [RA,Sem.run_bind,Sem.run_map,e1]
 | [],_ :: _,e2 => simp [Z3] at e2
 | _ :: _,[],e2 => simp [Z3] at e2
 | [_],_ :: _ :: _,e2 => simp [Z3] at e2
 | _ :: _ :: _,[_],e2 => simp [Z3] at e2
def XZ:List Kd → List Value → List Value
 | .box _ :: l,a :: as => a :: XZ l as
 | .bld _ :: l,a :: as => a :: XZ l as
 | _ :: l,_ :: as => XZ l as
 | _,_ => []
def Ki:List AV → List Value → List (Nat × Value)
 | .bx r _ :: l,v :: vs => (r,v) :: Ki l vs
 | _ :: l,_ :: vs => Ki l vs
 | _,_ => []
theorem ZjF:(as:List AV) → (vs:List Value) → ∀ p ∈ Ki as vs,p.1 ∈ WR as
 | [],vs,p,hp => by cases vs <;> simp [Ki] at hp
 | x :: as,[],p,hp => by cases x <;> simp [Ki] at hp
 | x :: as,v :: vs,p,hp => by
  cases x with
  | bx r k =>
   simp only [Ki,VM] at hp
   simp only [WR,VM]
   rcases hp with rfl | hp
   ·exact .inl rfl
   ·exact .inr (ZjF as vs p hp)
  | _ => simp only [Ki] at hp; simp only [WR]; exact ZjF as vs p hp
theorem ZEY:(pk:List Kd) → {as:List AV} → {vs:List Value} → Z3 σ w lim as vs → Z3 σ w lim (QE pk as) (XZ pk vs)
 | [],as,vs,h => by grind [QE,XZ,Z3]
 | k :: pk,as,vs,h => by
  match as,vs,h with
  | [],[],h => cases k <;> simp [QE,XZ,Z3]
  | x :: as,v :: vs,h =>
   simp only [Z3] at h
   have ih:=ZEY pk h.2
   cases k <;> simp only [QE,XZ,Z3] <;> first | exact ih | exact ⟨h.1,ih⟩
  | [],_ :: _,h => simp [Z3] at h
  | _ :: _,[],h => simp [Z3] at h
def YF (as:List AV):Bool:=as.all fun | .bx _ 0 => true | _ => false
theorem ZSY {as:List AV} {vs:List Value} (hb:YF as = true) (h:Z3 σ w lim as vs):∀ p ∈ Ki as vs,σ p.1 = p.2:=by
 induction as generalizing vs with
 | nil => grind [Ki]
 | cons x as ih =>
  cases vs with
  | nil => simp [Z3] at h
  | cons v vs =>
   simp only [Z3] at h
   simp only [YF,UA,Jh] at hb
   intro p hp
   obtain ⟨hb1,hb2⟩:=hb
   split at hb1
   ·rename_i r
    simp only [Ki,VM] at hp
    rcases hp with rfl | hp
    ·grind [RA]
    ·exact ih hb2 h.2 p hp
   ·cases hb1
theorem ZCr {σ':W7} {w':World} {lim':Nat → Nat} {as:List AV} {vs:List Value} (hb:YF as = true) (h:Z3 σ w lim as vs) (hp:∀ p ∈ Ki as vs,σ' p.1 = p.2):Z3 σ' w' lim' as vs:=by
 induction as generalizing vs with
 | nil => cases vs <;> simp [Z3] at h ⊢
 | cons x as ih =>
  cases vs with
  | nil => simp [Z3] at h
  | cons v vs =>
   simp only [Z3] at h ⊢
   simp only [YF,UA,Jh] at hb
   obtain ⟨hb1,hb2⟩:=hb
   split at hb1
   ·rename_i r
    simp only [Ki,VM] at hp
    refine ⟨?_,ih hb2 h.2 fun p hm => hp p (.inr hm)⟩
    have h1:=h.1
    simp only [RA] at h1 ⊢
    obtain ⟨b,e1,e2⟩:=h1
    simp_all
   ·cases hb1
theorem ZFm:(pk:List Kd) → {vs:List Value} → {rs:List RV} → {bs:List Nat} → vs.length = pk.length → TTs w lim rs (XZ pk vs) bs → TL w lim pk vs rs bs
 | [],[],rs,bs,_,h => by
  grind [XZ,TL,TTs]
 | k :: pk,v :: vs,rs,bs,hl,h => by
  have hl':vs.length = pk.length:=by simpa using hl
  cases k with
  | box l =>
   simp only [XZ] at h
   cases rs with
   | nil => simp [TTs] at h
   | cons x rs =>
    simp only [TTs] at h
    simp only [TL]
    obtain ⟨b1,b2,e,h1,h2⟩:=h
    exact ⟨b1,b2,e,h1,ZFm pk hl' h2⟩
  | bld T =>
   simp only [XZ] at h
   cases rs with
   | nil => simp [TTs] at h
   | cons x rs =>
    simp only [TTs] at h
    simp only [TL]
    obtain ⟨b1,b2,e,h1,h2⟩:=h
    exact ⟨b1,b2,e,h1,ZFm pk hl' h2⟩
  | _ => simp only [XZ] at h; simp only [TL]; exact ZFm pk hl' h
 | [],_ :: _,rs,bs,hl,_ => by simp at hl
 | _ :: _,[],rs,bs,hl,_ => by simp at hl
theorem ZcY:∀ (u:Wj),Zo u = Qa.put (fun _ => .fresh) u
 | [] => rfl
 | (a,x) :: u => by
  funext r
  simp only [Zo,Qa.put,Zz,ZcY u]
  grind
theorem Zbn:∀ (as:List AV) (i s:Nat),Zp (index i as) s = .dead ∨ ∃ j,s = i + j ∧ as[j]? = some (Zp (index i as) s)
 | [],i,s => .inl rfl
 | x :: as,i,s => by
  simp only [index,Zp]
  cases h:Ja s i with
  | true => simp_all
  | false =>
   simp only [cond_false]
   rcases Zbn as (i + 1) s with h | ⟨j,h1,h2⟩
   ·exact .inl h
   ·exact .inr ⟨j + 1,by omega,by simpa using h2⟩
theorem Zs0 {as:List AV} {j:Nat} {x:AV} (h:as[j]? = some x):∀ r ∈ Zc x,r ∈ Zk as:=by
 induction as generalizing j with
 | nil => simp at h
 | cons y as ih =>
  grind [Zk]
theorem ZgU {as:List AV} {vs:List Value} (h:Z3 σ w lim as vs):as.length = vs.length:=by
 induction as generalizing vs with
 | nil => cases vs <;> simp [Z3] at h ⊢
 | cons x as ih =>
  cases vs with
  | nil => simp [Z3] at h
  | cons v vs => simp only [Z3] at h; simp [ih h.2]
theorem Zfp:(xs:List RV) → (n:Nat) → (ZN n xs).1.length = xs.length
 | [],n => rfl
 | x :: xs,n => by simp only [ZN,JF,Zfp xs]
theorem Yi:(pk:List Kd) → (as:List AV) → ∀ r ∈ WR (QE pk as),r ∈ Zk as
 | [],as,r,hr => by contradiction
 | k :: pk,[],r,hr => by grind [QE,WR]
 | k :: pk,x :: as,r,hr => by
  simp only [Zk,Js]
  cases k with
  | box l =>
   simp only [QE] at hr
   cases x with
   | bx b j =>
    simp only [WR,VM] at hr
    rcases hr with rfl | hr
    ·exact .inl (by simp [Zc])
    ·exact .inr (Yi pk as r hr)
   | _ => simp only [WR] at hr; exact .inr (Yi pk as r hr)
  | bld T =>
   simp only [QE] at hr
   cases x with
   | bx b j =>
    simp only [WR,VM] at hr
    rcases hr with rfl | hr
    ·exact .inl (by simp [Zc])
    ·exact .inr (Yi pk as r hr)
   | _ => simp only [WR] at hr; exact .inr (Yi pk as r hr)
  | _ => simp only [QE] at hr; exact .inr (Yi pk as r hr)
mutual
theorem ZPW:(x:RV) → (n:Nat) → (∀ r ∈ Zc (put n x).1,r < (put n x).2.2) ∧ ∀ p ∈ (put n x).2.1,p.1 < (put n x).2.2 ∧ Za3 p.2 = true ∧ ∀ cs,p.2 = .live (.box cs) → ∀ q ∈ Zk cs,q < (put n x).2.2
 | .view t x,n => by simp only [put]; rw [Zn2]; simp
 | .own t sh xs,n => by simp [put,Zc,Za3]
 | .box cs,n => by
  obtain ⟨h1,h2⟩:=ZcP cs (n + 1)
  have hle:=Xc cs (n + 1)
  simp only [put]
  refine ⟨by intro r hr; simp [Zc] at hr; omega,fun p hp => ?_⟩
  cases hp with
  | head => exact ⟨by simp only; omega,rfl,fun ds hd => by simp only [RS.live.injEq,Res.box.injEq] at hd; subst hd; exact h1⟩
  | tail _ hp => exact h2 p hp
 | .agg cs,n => by
  obtain ⟨h1,h2⟩:=ZcP cs n
  simp only [put]
  exact ⟨by simpa [Zc] using h1,h2⟩
 | .tup cs,n => by
  obtain ⟨h1,h2⟩:=ZcP cs n
  simp only [put]
  exact ⟨by simpa [Zc] using h1,h2⟩
 | .fn f,n => by simp [put,Zc]
 | .ns t xs,n => by simp [put,Zc]
 | .vp t xs,n => by simp [put,Zc]
 | .clo f cs,n => by
  obtain ⟨h1,h2⟩:=ZcP cs n
  simp only [put]
  exact ⟨by simpa [Zc] using h1,h2⟩
 | .bld T xs,n => by
  simp only [put]
  refine ⟨by intro r hr; simp [Zc] at hr; omega,fun p hp => ?_⟩
  simp only [VM,List.not_mem_nil,or_false] at hp
  rcases hp with rfl | rfl
  ·refine ⟨by simp only; omega,rfl,fun cs hc q hq => ?_⟩
   simp only [RS.live.injEq,Res.box.injEq] at hc
   subst hc
   simp [Zk,Zc] at hq
   omega
  ·exact ⟨by simp only; omega,rfl,fun cs hc => by cases hc⟩
theorem ZcP:(xs:List RV) → (n:Nat) → (∀ r ∈ Zk (ZN n xs).1,r < (ZN n xs).2.2) ∧ ∀ p ∈ (ZN n xs).2.1,p.1 < (ZN n xs).2.2 ∧ Za3 p.2 = true ∧ ∀ cs,p.2 = .live (.box cs) → ∀ q ∈ Zk cs,q < (ZN n xs).2.2
 | [],n => by simp [ZN,Zk]
 | x :: xs,n => by
  obtain ⟨h1,h2⟩:=ZPW x n
  obtain ⟨h3,h4⟩:=ZcP xs (put n x).2.2
  have hle:=Xc xs (put n x).2.2
  simp only [ZN]
  refine ⟨fun r hr => ?_,fun p hp => ?_⟩
  ·simp only [Zk,Js] at hr
   rcases hr with hr | hr
   ·have:=h1 r hr; omega
   ·exact h3 r hr
  ·rcases Js.1 hp with hp | hp
   ·exact h4 p hp
   ·obtain ⟨a,b,c⟩:=h2 p hp
    exact ⟨by omega,b,fun cs hc q hq => by have:=c cs hc q hq; omega⟩
end
theorem ZFM:Xz (fun _ => .fresh) = fun _ => .fresh:=by
 funext n
 simp only [Xz,Zgv,ite_self]
theorem ZRo {avs:List AV} {u:Wj} (h:RelW G σ lim (enter avs u) tmps w) (hu:∀ p ∈ u,p.1 < Z6 ∧ Za3 p.2 = true ∧ ∀ cs,p.2 = .live (.box cs) → ∀ q ∈ Zk cs,q < Z6)
  (hids:∀ r ∈ Zk avs,r < Z6) (hp:∀ p ∈ G.pins,p.1 < Z6):WC G σ lim (enter avs u) tmps w:=by
 have e:Zo u = Qa.put (fun _ => .fresh) u:=ZcY u
 unfold enter at h ⊢
 rw [e] at h ⊢
 refine WC.of_put (T:=fun _ => .fresh) (by rw [ZFM]; exact h) (fun p hp => ⟨(hu p hp).1,(hu p hp).2.1⟩) ⟨fun s r hr => ?_,fun r cs hr => ?_,hp⟩
 ·simp only at hr
  rcases Zbn avs 0 s with h | ⟨j,h1,h2⟩
  ·rw [h] at hr; simp [Zc] at hr
  ·exact hids r (Zs0 h2 r hr)
 ·simp only [Qa.put] at hr
  cases hl:Zz u r with
  | none => rw [hl] at hr; cases hr
  | some z => rw [hl] at hr; simp only at hr; exact (hu _ (Ww hl)).2.2 cs hr
theorem Zp2:(ks:List Kd) → (as:List AV) → Xk ks as = true → (Qh ks as).length = (ZJ ks).length
 | [],[],_ => rfl
 | [],_ :: _,h => by simp [Xk] at h
 | k :: ks,[],h => by cases k <;> simp [Xk] at h
 | k :: ks,a :: as,h => by
  cases k with
  | clo f l =>
   cases a with
   | clo g cs =>
    simp only [Xk,Jh] at h
    have:=ZW h.1
    simp only [Qh,ZJ,List.length_append,Zp2 ks as h.2,this]
   | _ => simp [Xk] at h
  | _ => grind [Xk,Qh,ZJ,JF,Zp2 ks as h]
def Zjz:List Kd → Nat
 | [] => 0
 | .ref _ :: l => Zjz l + 1
 | _ :: l => Zjz l
theorem Zmg:(ks:List Kd) → K1 ks = false → Zjz ks = 0
 | [],_ => rfl
 | k :: ks,h => by
  cases k with
  | ref l => simp [K1] at h
  | _ => simp only [K1] at h; simp only [Zjz]; exact Zmg ks h
theorem ZdJ:(ks:List Kd) → (cs:List AV) → {q:List Nat} → Zy ks cs = some q → q.length = Zjz ks
 | [],[],q,h => by simp [Zy] at h; subst h; rfl
 | k :: ks,a :: as,q,h => by
  have other:(∀ l,k ≠ .ref l) → q.length = Zjz (k :: ks):=by
   intro hk
   have e:Zy (k :: ks) (a :: as) = Zy ks as:=by cases k <;> first | rfl | exact absurd rfl (hk _)
   have e2:Zjz (k :: ks) = Zjz ks:=by cases k <;> first | rfl | exact absurd rfl (hk _)
   rw [e] at h
   rw [e2]; exact ZdJ ks as h
  cases k with
  | ref l =>
   cases a with
   | bx s kk =>
    cases kk with
    | succ kk => simp [Zy] at h
    | zero =>
     simp only [Zy] at h
     cases hq2:Zy ks as with
     | none => rw [hq2] at h; simp at h
     | some q2 =>
      grind [VF.injEq,JF,Zjz,ZdJ ks as hq2]
   | _ => simp [Zy] at h
  | _ => exact other (by intro l; simp)
 | [],_ :: _,q,h => by simp [Zy] at h
 | k :: _,[],q,h => by cases k <;> simp [Zy] at h
theorem ZjT {σ:W7}:(ks:List Kd) → (q:List Nat) → (vs vs':List Value) → q.length = Zjz ks → Qg σ q ks vs → Qg σ q ks vs' → YX ks vs vs'
 | [],q,vs,vs',_,_,_ => by simp [YX]
 | k :: ks,q,[],vs',_,_,_ => by cases k <;> simp [YX]
 | k :: ks,q,v :: vs,[],_,_,_ => by cases k <;> simp [YX]
 | k :: ks,q,v :: vs,v' :: vs',hl,h,h' => by
  have other:(∀ l,k ≠ .ref l) → YX (k :: ks) (v :: vs) (v' :: vs'):=by
   intro hk
   have e2:Zjz (k :: ks) = Zjz ks:=by cases k <;> first | rfl | exact absurd rfl (hk _)
   have e3:YX (k :: ks) (v :: vs) (v' :: vs') = YX ks vs vs':=by cases k <;> first | rfl | exact absurd rfl (hk _)
   rw [e3]
   rw [e2] at hl
   cases q with
   | nil => exact ZjT (σ:=σ) ks [] vs vs' hl Wh Wh
   | cons q0 q =>
    have e4:∀ (u:Value) (us:List Value),Qg σ (q0 :: q) (k :: ks) (u :: us) = Qg σ (q0 :: q) ks us:=by intro u us; cases k <;> first | rfl | exact absurd rfl (hk _)
    rw [e4] at h h'
    exact ZjT ks (q0 :: q) vs vs' hl h h'
  cases k with
  | ref l =>
   cases q with
   | nil => simp [Zjz] at hl
   | cons q0 q =>
    simp only [Qg] at h h'
    simp only [YX]
    exact ⟨h'.1.trans h.1.symm,ZjT ks q vs vs' (by simpa [Zjz] using hl) h.2 h'.2⟩
  | _ => exact other (by intro l; simp)
theorem ZlE {σ1:W7} {w0:World} (h:RelW G σ lim st tmps w):(ks:List Kd) → {as:List AV} → {vs:List Value} → {l l':List Nat} → {nm:List (List Nat)} → (K3 ks as).run st.tbl l = some (nm,l') → Z3 σ w lim as vs → W6 σ1 w0 nm ks vs → (∀ q ∈ nm.flatten,σ q = σ1 q) → YD w0 w ks vs
 | [],as,vs,l,l',nm,hm,hv,hr,hq => by cases vs <;> simp [YD]
 | k :: ks,[],vs,l,l',nm,hm,hv,hr,hq => by
  match vs,hv with
  | [],_ => cases k <;> simp [YD]
 | k :: ks,a :: as,vs,l,l',nm,hm,hv,hr,hq => by
  match vs,hv with
  | v :: vs,hv =>
   simp only [Z3] at hv
   have other:(∀ l,k ≠ .box l) → YD w0 w (k :: ks) (v :: vs):=fun hk => by
    rw [Za7 hk] at hm
    have e:YD w0 w (k :: ks) (v :: vs) = YD w0 w ks vs:=by cases k <;> first | rfl | exact absurd rfl (hk _)
    have e2:W6 σ1 w0 nm (k :: ks) (v :: vs) = W6 σ1 w0 nm ks vs:=by cases k <;> first | (cases nm <;> rfl) | exact absurd rfl (hk _)
    rw [e]
    rw [e2] at hr
    exact ZlE h ks hm hv.2 hr hq
   cases k with
   | box l0 =>
    cases a with
    | bx r kk =>
     cases kk with
     | succ kk => exact (M.run_fail hm).elim
     | zero =>
      simp only [K3] at hm
      obtain ⟨q0,l5,h5,h6⟩:=M.run_bind_some hm
      obtain ⟨qs,l6,h7,h8⟩:=M.run_bind_some h6
      obtain ⟨h9,_⟩:=M.run_ret h8
      subst h9
      simp only [W6] at hr
      simp only [YD]
      refine ⟨fun b cs T fz cs' T' fz' e1 e2 e3 => ?_,ZlE h ks h7 hv.2 hr.2 (fun q' hq' => hq q' (by simp_all))⟩
      have hold:=hr.1 b cs T fz e1 e2
      cases hh:K1 l0 with
      | false =>
       have hz:=Zmg l0 hh
       exact ZjT (σ:=σ) l0 [] _ _ (by simp [hz]) Wh Wh
      | true =>
       unfold Zc5 at h5
       rw [hh] at h5
       simp only [cond_true,M.run] at h5
       cases hrr:st.tbl r with
       | fresh => simp [hrr,M.run] at h5
       | gone => simp [hrr,M.run] at h5
       | live y =>
        cases y with
        | arr => simp [hrr,M.run] at h5
        | nest => simp [hrr,M.run] at h5
        | box as0 =>
         simp only [hrr] at h5
         have hn:=M.run_ofOpt h5
         obtain ⟨hR,_⟩:=h.res r _ hrr
         obtain ⟨b0,ws,U,f1,f2,f3,f4,_⟩:=Yv hv.1 hR
         rw [e1] at f2
         obtain rfl:b = b0:=by simpa using f2
         rw [e3] at f3
         obtain ⟨rfl,_⟩:cs' = ws ∧ _:=by simpa using f3
         have hnew:=YT l0 as0 hn f4 (ZhD l0 cs'.toList)
         exact ZjT (σ:=σ1) l0 q0 _ _ (ZdJ l0 as0 hn) hold (XG _ _ _ (fun q' hq' => (hq q' (by simp_all)).symm) hnew)
    | _ => exact (M.run_fail hm).elim
   | _ => exact other (by intro l; simp)
  | [],hv => simp [Z3] at hv
theorem Zti (h : RelW G σ lim st tmps w) : (ks : List Kd) → {as : List AV} → {vs : List Value} → YF as = true → Z3 σ w lim as vs → W6 σ w (ZbJ st.tbl ks as) ks vs
  | [], as, vs, hb, hv => by
    grind [W6]
  | k :: ks, [], vs, hb, hv => by
    match vs, hv with
    | [], _ => cases k <;> simp [ZbJ, W6]
  | k :: ks, a :: as, vs, hb, hv => by
    match vs, hv with
    | v :: vs, hv =>
      simp only [Z3] at hv
      simp only [YF, UA, Jh] at hb
      have ih := Zti h ks hb.2 hv.2
      have other : (∀ l, k ≠ .box l) → W6 σ w (ZbJ st.tbl (k :: ks) (a :: as)) (k :: ks) (v :: vs) := fun hk => by
        have e : ZbJ st.tbl (k :: ks) (a :: as) = ZbJ st.tbl ks as := by cases k <;> first | rfl | exact absurd rfl (hk _)
        rw [e]
        have e2 : ∀ nm, W6 σ w nm (k :: ks) (v :: vs) = W6 σ w nm ks vs := by intro nm; cases k <;> first | (cases nm <;> rfl) | exact absurd rfl (hk _)
        rw [e2]; exact ih
      cases k with
      | box l0 =>
        cases a with
        | bx r kk =>
         cases kk with
         | succ kk => simp at hb
         | zero =>
          simp only [ZbJ, W6]
          refine ⟨fun b cs T fz e1 e2 => ?_, ih⟩
          cases hh : K1 l0 with
          | false => exact Wh
          | true =>
            simp only [cond_true]
            cases hr : st.tbl r with
            | fresh => exact Wh
            | gone => exact Wh
            | live y =>
              cases y with
              | arr => exact Wh
              | nest => exact Wh
              | box as0 =>
                simp only
                cases hn : Zy l0 as0 with
                | none => exact Wh
                | some q =>
                  obtain ⟨hR, _⟩ := h.res r _ hr
                  obtain ⟨b0, ws, U, f1, f2, f3, f4, _⟩ := Yv hv.1 hR
                  rw [e1] at f2
                  obtain rfl : b = b0 := by simpa using f2
                  rw [e2] at f3
                  obtain ⟨rfl, _⟩ : cs = ws ∧ _ := by simpa using f3
                  exact YT l0 as0 hn f4 (ZhD l0 cs.toList)
        | _ => simp at hb
      | _ => exact other (by intro l; simp)
    | [], hv => simp [Z3] at hv
theorem ZbK {tbl:Qa} {lim:Nat → Nat} (hres:∀ r x,tbl r = .live x → RR σ w lim r x ∧ Zm tbl (Qk r x)):(ks:List Kd) → (as:List AV) → ∀ q ∈ (ZbJ tbl ks as).flatten,∃ r cs,tbl r = .live (.box cs) ∧ q ∈ Zk cs
 | [],as,q,hq => by
  contradiction
 | k :: ks,[],q,hq => by
  have:ZbJ tbl (k :: ks) [] = []:=by cases k <;> rfl
  rw [this] at hq; simp at hq
 | k :: ks,a :: as,q,hq => by
  have other:ZbJ tbl (k :: ks) (a :: as) = ZbJ tbl ks as → ∃ r cs,tbl r = .live (.box cs) ∧ q ∈ Zk cs:=fun e => by
   rw [e] at hq
   exact ZbK hres ks as q hq
  cases k with
  | box l0 =>
   cases a with
   | bx r kk =>
    cases kk with
    | succ kk => exact other rfl
    | zero =>
     simp only [ZbJ,List.flatten_cons,Js] at hq
     rcases hq with hq | hq
     ·cases hh:K1 l0 with
      | false => rw [hh] at hq; simp at hq
      | true =>
       rw [hh] at hq
       simp only [cond_true] at hq
       cases hr:tbl r with
       | fresh => rw [hr] at hq; simp at hq
       | gone => rw [hr] at hq; simp at hq
       | live y =>
        rw [hr] at hq
        cases y with
        | arr => simp at hq
        | nest => simp at hq
        | box as0 =>
         simp only at hq
         cases hn:Zy l0 as0 with
         | none => rw [hn] at hq; simp at hq
         | some q' => rw [hn] at hq; exact ⟨r,as0,hr,Zad l0 as0 hn q hq⟩
     ·exact ZbK hres ks as q hq
   | _ => exact other rfl
  | _ => exact other rfl
theorem ZMS : {a b:List Nat} → nEq a b = true → a = b
 | [],[],_ => rfl
 | x :: a,y :: b,h => by
  simp only [nEq,Jh] at h
  rw [ZW h.1,ZMS h.2]
 | [],_ :: _,h => by simp [nEq] at h
 | _ :: _,[],h => by simp [nEq] at h
theorem ZE2 : {a b:List (List Nat)} → ZHK a b = true → a = b
 | [],[],_ => rfl
 | x :: a,y :: b,h => by
  simp only [ZHK,Jh] at h
  rw [ZMS h.1,ZE2 h.2]
 | [],_ :: _,h => by simp [ZHK] at h
 | _ :: _,[],h => by simp [ZHK] at h
theorem Zgt {w0:World}:(ks:List Kd) → (vs:List Value) → YD w0 w (XY ks) (XZ ks vs) → YD w0 w ks vs
 | [],vs,_ => by cases vs <;> simp [YD]
 | k :: ks,[],_ => by cases k <;> simp [YD]
 | k :: ks,v :: vs,h => by
  cases k with
  | box l =>
   simp only [XY,XZ,YD] at h ⊢
   exact ⟨h.1,Zgt ks vs h.2⟩
  | bld T =>
   simp only [XY,XZ,YD] at h ⊢
   exact Zgt ks vs h
  | _ => simp only [XY,XZ] at h; simp only [YD]; exact Zgt ks vs h
theorem ZtT {rvs:List RV} {vs:List Value} {bs:List Nat} {pk:List Kd} {n:Nat} (hlz:∀ b,w.heap.size ≤ b → lim b = 0) (hgl:ZhL w lim) (hT:TTs w lim rvs vs bs) (hnd:bs.Nodup) (hbs:∀ b ∈ bs,b < w.heap.size)
    (hn:rvs.length ≤ n) (hin:(ZN 0 rvs).2.2 ≤ Z6) (hco:Xk pk (ZN 0 rvs).1 = true) (hb:YF (QE (ZJ pk) (Qh pk (ZN 0 rvs).1)) = true) :
    ∃ σ,WU ⟨w,lim,bs,Ki (QE (ZJ pk) (Qh pk (ZN 0 rvs).1)) (XZ (ZJ pk) (Wv pk vs)) ++ (ZbV pk rvs).flatten.map (fun q => (q,σ q))⟩ n (enter (ZN 0 rvs).1 (ZN 0 rvs).2.1) { tmps:=vs.toArray ++ UB (n - vs.toArray.size) undef,defers:=[] } w ∧
      Z3 σ w lim (QE (ZJ pk) (Qh pk (ZN 0 rvs).1)) (XZ (ZJ pk) (Wv pk vs)) ∧ vs.length = rvs.length ∧ (Wv pk vs).length = (ZJ pk).length ∧ W6 σ w (ZbV pk rvs) (XY (ZJ pk)) (XZ (ZJ pk) (Wv pk vs)):=by
  have h0:RelW ⟨w,lim,bs,[]⟩ (fun _ => undef) lim ⟨fun _ => .dead,fun _ => .fresh⟩ (vs.toArray ++ UB (n - vs.toArray.size) undef) w :=
    { env:=by intro s; simp [RA]
      known:=by intro s; simp [Zc,Zm]
      res:=by intro r x h; simp at h
      inj:=by intro r r' b h; simp [ZU] at h
      own:=by intro r b h; simp [ZU] at h
      ext:=Ext.refl _ _
      keep:=fun _ _ _ => rfl
      same:=⟨rfl,rfl,rfl⟩
      lz:=hlz
      limk:=fun _ _ _ => rfl
      glob:=hgl
      pin:=by intro p hp; simp at hp }
  obtain ⟨σ,hP,hA,hK⟩:=Xv rvs 0 h0 hT (fun _ _ _ => rfl) ⟨hnd,fun b hb => ⟨.inr hb,by intro r h; simp [ZU] at h⟩⟩
  have hlen:vs.length = rvs.length:=by rw [← Zfp rvs 0]; exact (ZgU hA).symm
  have hfA:=ZnK pk hco hA
  have hL:=ZEY (ZJ pk) hfA
  have hfl:(Wv pk vs).length = (ZJ pk).length:=by rw [← ZgU hfA]; exact Zp2 pk _ hco
  have hrv:W6 σ w (ZbV pk rvs) (XY (ZJ pk)) (XZ (ZJ pk) (Wv pk vs)):=by
    have:=Zti hP.rel (XY (ZJ pk)) hb hL
    simp only at this
    rw [← ZcY] at this
    exact this
  refine ⟨σ,⟨σ,lim,?_,by simp; omega,rfl⟩,hL,hlen,hfl,hrv⟩
  have hR:=hP.rel
  simp only at hR hK
  rw [← ZcY] at hR hK
  have hpin:=ZSY hb hL
  obtain ⟨lw1,lw2⟩:=ZcP rvs 0
  refine ZRo ?_ (fun p hp => ⟨V0 (lw2 p hp).1 hin,(lw2 p hp).2.1,fun cs hc q hq => V0 ((lw2 p hp).2.2 cs hc q hq) hin⟩) (fun r hr => V0 (lw1 r hr) hin)
    (fun p hp => by
      rcases Js.1 hp with hp | hp
      · exact V0 (lw1 p.1 (Ze7 pk _ _ (Yi (ZJ pk) _ _ (ZjF _ _ p hp)))) hin
      · obtain ⟨q,hq,rfl⟩:=VG.1 hp
        obtain ⟨r,cs,hr,hqc⟩:=ZbK hR.res (XY (ZJ pk)) (QE (ZJ pk) (Qh pk (ZN 0 rvs).1)) q hq
        simp only [ZcY,Qa.put] at hr
        cases hl:Zz (ZN 0 rvs).2.1 r with
        | none => rw [hl] at hr; cases hr
        | some z => rw [hl] at hr; simp only at hr; exact V0 ((lw2 _ (Ww hl)).2.2 cs hr q hqc) hin)
  exact
    { env:=by
        intro s
        rcases Zbn (ZN 0 rvs).1 0 s with h | ⟨j,h1,h2⟩
        · simp only [enter,h,RA]
        · have hs:s = j:=by omega
          subst hs
          have hjl:s < vs.length:=by
            rw [← ZgU hA]
            grind
          have hv:vs[s]? = some vs[s]:=by simp [hjl]
          have:=Zz4 hA h2 hv
          simp only [enter]
          rw [Array.getD_eq_getD_getElem?,Array.getElem?_append_left (by simpa using hjl)]
          simpa [hv] using this
      known:=by
        intro s
        rcases Zbn (ZN 0 rvs).1 0 s with h | ⟨j,h1,h2⟩
        · simp [enter,h,Zc,Zm]
        · intro r hr
          exact hK r (Zs0 h2 r hr)
      res:=hR.res,inj:=hR.inj,own:=hR.own,ext:=hR.ext,keep:=hR.keep,same:=hR.same,lz:=hR.lz,limk:=hR.limk,glob:=hR.glob
      pin:=by
        intro p hp
        rcases Js.1 hp with hp | hp
        · refine ⟨hpin p hp,?_⟩
          exact hK p.1 (Ze7 pk _ _ (Yi (ZJ pk) _ _ (ZjF _ _ p hp)))
        · obtain ⟨q,hq,rfl⟩:=VG.1 hp
          obtain ⟨r,cs,hr,hqc⟩:=ZbK hR.res (XY (ZJ pk)) (QE (ZJ pk) (Qh pk (ZN 0 rvs).1)) q hq
          exact ⟨rfl,(hR.res r _ hr).2 q hqc⟩ }
def Zre (w:World) (lim:Nat → Nat) (vs:List Value) (bs:List Nat) (pk:List Kd) (r:RV × List RV):Ending → World → Prop:=fun e w' => ∃ v lim' b1 b2,e = .returned v ∧ Ext w lim w' lim' ∧ (∀ b,w'.heap.size ≤ b → lim' b = 0) ∧
   (w'.os = w.os ∧ w'.tape = w.tape ∧ w'.output = w.output) ∧ (∀ b,b < w.heap.size → b ∉ bs → w'.heap[b]? = w.heap[b]? ∧ lim' b = lim b) ∧
   TT w' lim' r.1 v b1 ∧ TL w' lim' (ZJ pk) (Wv pk vs) r.2 b2 ∧ YD w w' (ZJ pk) (Wv pk vs) ∧ (b1 ++ b2).Nodup ∧ ∀ b ∈ b1 ++ b2,b ∈ bs ∨ w.heap.size ≤ b
theorem ZsY {f:Nat} {fn:Func} {code:Code} {pk:List Kd} {rk:Kd} {rvs:List RV} {r:RV × List RV} {vs:List Value} {bs:List Nat} (hf:C.P.funcs[f]? = some fn) (hb:fn.body = some code)
  (hlz:∀ b,w.heap.size ≤ b → lim b = 0) (hgl:ZhL w lim) (hT:TTs w lim rvs vs bs) (hnd:bs.Nodup) (hbs:∀ b ∈ bs,b < w.heap.size) (hbx:YF (QE (ZJ pk) (Qh pk (ZN 0 rvs).1)) = true) (hn:rvs.length ≤ fn.ntmps) (hin:(ZN 0 rvs).2.2 ≤ Z6) (hco:Xk pk (ZN 0 rvs).1 = true)
  (hwp:∀ (G:Glob),(∀ p ∈ G.pins,p.1 ∈ WR (QE (ZJ pk) (Qh pk (ZN 0 rvs).1)) ++ (ZbV pk rvs).flatten) → WU G fn.ntmps (enter (ZN 0 rvs).1 (ZN 0 rvs).2.1) { tmps:=vs.toArray ++ UB (fn.ntmps - vs.toArray.size) undef,defers:=[] } w →
   code.wp C.P (fun e a w => ∃ e' st',e = Ex.out e' ∧ Kf C fn.results.toList pk (QE (ZJ pk) (Qh pk (ZN 0 rvs).1)) (ZbV pk rvs) rk some e' st' = some r ∧ WU G fn.ntmps st' a w) { tmps:=vs.toArray ++ UB (fn.ntmps - vs.toArray.size) undef,defers:=[] } w) :
  Calls C.P f vs.toArray w (Zre w lim vs bs pk r):=by
 obtain ⟨σ0,hS,hL,hlen,hfl,hRV⟩:=ZtT (pk:=pk) hlz hgl hT hnd hbs hn hin hco hbx
 refine calls_of_wp hf hb (wp_mono (hwp _ (fun p hp => by
  rcases Js.1 hp with hp | hp
  ·exact JG _ (ZjF _ _ p hp)
  grind) hS) ?_)
 rintro e a' w' ⟨e',st',rfl,hK,hs⟩
 obtain ⟨σ,lim',⟨hR,_⟩,_,hd⟩:=hs
 have leave:(Zqe C fn.results.toList pk (QE (ZJ pk) (Qh pk (ZN 0 rvs).1)) (ZbV pk rvs) rk st').runK st'.tbl [] (fun x l => bif Zgw l then some x else none) = some r →
   a'.defers = [] ∧ ∃ v,(results fn a'.tmps).run C.P w' = .ok v w' ∧ Zre w lim vs bs pk r (.returned v) w':=by
  intro hl
  rw [M.runK_eq] at hl
  cases hr:(Zqe C fn.results.toList pk (QE (ZJ pk) (Qh pk (ZN 0 rvs).1)) (ZbV pk rvs) rk st').run st'.tbl [] with
  | none => rw [hr] at hl; simp at hl
  | some p =>
   obtain ⟨q,lg⟩:=p
   rw [hr] at hl
   simp only [VK] at hl
   have hlow:Zgw lg = true:=by
    grind
   rw [hlow] at hl
   simp only [cond_true,VF.injEq] at hl
   subst hl
   have hr:=Zwg hr hlow
   unfold Zqe at hr
   rw [ZgN (st:=st') (st2:=⟨st'.env,Xz st'.tbl⟩) rfl] at hr
   obtain ⟨as,l1,h1,hr⟩:=M.run_bind_some hr
   obtain ⟨⟨y,u⟩,l2,h2,hr⟩:=M.run_bind_some hr
   obtain ⟨⟨ys,v⟩,l3,h3,hr⟩:=M.run_bind_some hr
   obtain ⟨nm',l4,h4,hr⟩:=M.run_bind_some hr
   obtain ⟨hok,hr2⟩:=M.run_guard hr
   simp only [Jh] at hok
   obtain ⟨hok,hnm⟩:=hok
   have hnm:=ZE2 hnm
   obtain ⟨hq,_⟩:=M.run_ret hr2
   subst hnm
   obtain ⟨rv,r1,r2⟩:=Zrz hR h1
   obtain ⟨g1,k1⟩:=Zts (st:=⟨st'.env,Xz st'.tbl⟩) (σ:=σ) (w:=w') (lim:=lim') rk _ h2
   obtain ⟨g2,k2⟩:=W5 (st:=⟨st'.env,Xz st'.tbl⟩) (σ:=σ) (w:=w') (lim:=lim') (XY (ZJ pk)) _ h3
   obtain ⟨lim2,hR2,hE,hSh,hN,hB⟩:=hR.takes (g1.append g2) hok
   have hLf:Z3 σ w' lim' (QE (ZJ pk) (Qh pk (ZN 0 rvs).1)) (XZ (ZJ pk) (Wv pk vs)):=ZCr hbx hL fun p hp => (hR.pin p (JG _ hp)).1
   have hStay:YD w w' (ZJ pk) (Wv pk vs):=Zgt _ _ (ZlE hR (XY (ZJ pk)) h4 hLf hRV fun q hq => (hR.pin (q,σ0 q) (List.mem_append_right _ (VG.2 ⟨q,hq,rfl⟩))).1)
   refine ⟨hd,rv,r1,rv,lim2,QH σ (ZZ u),QH σ (ZZ v),rfl,hR2.ext,hR2.lz,hR2.same,fun b hb1 hb2 => ⟨hR2.keep b hb1 hb2,hR2.limk b hb1 hb2⟩,?_,?_,hStay,?_,?_⟩
   ·rw [hq]; exact k1 rv r2 (fun r y hy => (hR.res r y hy).1) lim2 hE hSh.left
   ·rw [hq]; exact ZFm (ZJ pk) hfl (k2 _ hLf (fun r y hy => (hR.res r y hy).1) lim2 hE hSh.right)
   ·rw [← ZbR,← YM]; exact hN
   ·intro b hb; rw [← ZbR,← YM] at hb; exact (hB b hb).1.symm
 cases e' with
 | normal => exact leave hK
 | ret => exact leave hK
 | exit i => simp [Kf] at hK
theorem ZHv (hC:∀ f cal,C.Φ f = some cal → Ctr C.P C.k f cal) (hm:C.P.follows .mixedOrders = true) {A:Nat → Ann} {f k:Nat} {fn:Func} {code:Code} {cal:Callee} {rk:Kd}
  (hf:C.P.funcs[f]? = some fn) (hb:fn.body = some code) (hname:(fn.name == "runtime.NumGoroutine") = false) (hfit:XW C.P fn.ntmps code = true)
  (hlent:∀ rvs x,cal.run k rvs = some x → YF (QE (ZJ cal.pk) (Qh cal.pk (ZN 0 rvs).1)) = true)
  (hrun:∀ rvs x,cal.run k rvs = some x → ZCu C A fn.ntmps code fn.results.toList cal.pk rk rvs some = some (cal.enc x)):Ctr C.P k f cal where
 enters:=⟨fn,hf,hname,by rw [hb]; rfl⟩
 calls:=by
  intro rvs x hx w lim vs bs hlz hgl hT hnd hbs
  have h:=hrun rvs x hx
  have hbx:=hlent rvs x hx
  unfold ZCu at h
  cases hg:ZPN cal.pk rvs fn.ntmps with
  | false => rw [hg] at h; simp at h
  | true =>
   rw [hg] at h
   simp only [cond_true] at h
   simp only [ZPN,Jh] at hg
   exact ZsY (rk:=rk) hf hb hlz hgl hT hnd hbs hbx (Jt hg.1.1) (Jt hg.1.2) hg.2 fun G hp hS => WE hC hm hp code h hfit hS fun e st' a' w' hK hs => ⟨e,st',rfl,hK,hs⟩
end Go.Sh
namespace Go.Sh
open Go
variable [Gl]
def ZE5:Ex → St → Option (Ex × St):=fun e s => some (e,s)
def Zhq {R:Type} (K:Ex → St → Option R):Ex × St → Option R:=fun x => K x.1 x.2
theorem Zqk {R:Type} {nm:St → Option St} {b1:St → (Ex → St → Option (Ex × St)) → Option (Ex × St)} {bR:St → (Ex → St → Option R) → Option R}
  (h1:∀ st K,b1 st K = (b1 st ZE5).bind (Zhq K)) (hb:∀ st K,bR st K = (b1 st ZE5).bind (Zhq K)):∀ (n:Nat) (st:St) (K:Ex → St → Option R),
  ZgH bR nm n st K = (ZgH b1 nm n st ZE5).bind (Zhq K)
 | 0,st,K => rfl
 | n + 1,st,K => by
  simp only [ZgH]
  rw [hb]
  conv => rhs; rw [h1]
  rw [Uz]
  congr 1
  funext x
  obtain ⟨e,s⟩:=x
  cases e with
  | exit i => rfl
  | ret => rfl
  | normal =>
   simp only [Zhq]
   cases nm s with
   | none => rfl
   | some s' => exact Zqk h1 hb n s' K
theorem Wp {C:Ctx} {A:Nat → Ann} {kp:List Nat}:(c:Code) → {R:Type} → (st:St) → (K:Ex → St → Option R) → Xn C A kp c st K = (Xn C A kp c st ZE5).bind (Zhq K)
 | .skip,R,st,K => rfl
 | .label _,R,st,K => rfl
 | .ret,R,st,K => rfl
 | .exit _,R,st,K => rfl
 | .goto _,R,st,K => rfl
 | .refuse _,R,st,K => rfl
 | .rangeFunc _ _ _ _,R,st,K => rfl
 | .region id ops d,R,st,K => by
  simp only [Xn]
  cases d with
  | false => simp only [cond_false,Zv3,Uz]; rfl
  | true =>
   simp only [cond_true,Zki,Uz]
   congr 1
   funext x
   cases ZaZ ops.toList (Y1 ops.toList []) ([] ++ x.2) <;> rfl
 | .seq a b,R,st,K => by
  simp only [Xn]
  rw [Wp a]
  conv => rhs; rw [Wp a]
  rw [Uz]
  congr 1
  funext x
  obtain ⟨e,s⟩:=x
  cases e with
  | normal => exact Wp b s K
  | exit i => rfl
  | ret => rfl
 | .cond c a b,R,st,K => by
  simp only [Xn]
  split
  ·rename_i t _
   cases t with
   | true => simp only [cond_true]; exact Wp a _ K
   | false => simp only [cond_false]; exact Wp b _ K
  ·rfl
 | .block id c,R,st,K => by
  simp only [Xn]
  rw [Wp c]
  conv => rhs; rw [Wp c]
  rw [Uz]
  congr 1
  funext x
  obtain ⟨e,s⟩:=x
  cases e with
  | normal => rfl
  | ret => rfl
  | exit i => simp only [Zhq,ZtL]; cases Ja i id <;> rfl
 | .loop c,R,st,K => by
  simp only [Xn,Uz]
  congr 1
  funext s
  exact Zqk (fun st K => Wp c st K) (fun st K => Wp c st K) C.k s K
 | .scope c,R,st,K => by simp only [Xn]; exact Wp c st K
theorem ZHY {C:Ctx} {A:Nat → Ann} {n:Nat} {body:Code} {rs:List ResultVar} {pk:List Kd} {rk:Kd} {rvs:List RV} {R:Type} (K:RV × List RV → Option R) :
  ZCu C A n body rs pk rk rvs K = (ZCu C A n body rs pk rk rvs some).bind K:=by
 unfold ZCu
 cases ZPN pk rvs n with
 | false => rfl
 | true =>
  simp only [cond_true]
  rw [Wp]
  conv => rhs; rw [Wp]
  rw [Uz]
  congr 1
  funext x
  obtain ⟨e,s⟩:=x
  simp only [Zhq]
  cases e <;> simp only [Kf,M.runK_eq,Uz,VK,Option.bind_none]
  all_goals grind
mutual
def Kd.den:Kd → Type
 | .view t => t.den
 | .own t _ => List t.den
 | .box ks => Kd.dens ks
 | .agg ks => Kd.dens ks
 | .tup ks => Kd.dens ks
 | .fn _ => Unit
 | .bld _ => List Int
 | .use _ => List Int
 | .clo _ ks => Kd.dens ks
 | .ref ks => Kd.dens ks
 | .ns t => List t.den
 | .vp t => List t.den
def Kd.dens:List Kd → Type
 | [] => Unit
 | k :: ks => k.den × Kd.dens ks
end
mutual
def enc:(k:Kd) → k.den → RV
 | .view t,x => .view t x
 | .own t sh,xs => .own t sh xs
 | .box ks,x => .box (Wf ks x)
 | .agg ks,x => .agg (Wf ks x)
 | .tup ks,x => .tup (Wf ks x)
 | .fn f,_ => .fn f
 | .bld T,xs => .bld T xs
 | .use T,xs => .bld T xs
 | .clo f ks,x => .clo f (Wf ks x)
 | .ref ks,x => .box (Wf ks x)
 | .ns t,xs => .ns t xs
 | .vp t,xs => .vp t xs
def Wf:(ks:List Kd) → Kd.dens ks → List RV
 | [],_ => []
 | k :: ks,x => enc k x.1 :: Wf ks x.2
end
def Zj5 (t:Ty):RV → Option t.den
 | .view t' x => if h:t' = t then some (h ▸ x:t.den) else none
 | _ => none
def ZIu (t:Ty) (sh:Bool):RV → Option (List t.den)
 | .own t' sh' xs => if h:t' = t then (bif sh == sh' then some (h ▸ xs:List t.den) else none) else none
 | _ => none
def ZCT:RV → Option (List RV)
 | .box cs => some cs
 | _ => none
def asAgg:RV → Option (List RV)
 | .agg cs => some cs
 | _ => none
def ZIw:RV → Option (List RV)
 | .tup cs => some cs
 | _ => none
def ZRg (f:Nat):RV → Option Unit
 | .fn g => bif Ja f g then some () else none
 | _ => none
def ZIs (f:Nat):RV → Option (List RV)
 | .clo g cs => bif Ja f g then some cs else none
 | _ => none
def ZRh (t:Ty):RV → Option (List t.den)
 | .ns t' xs => if h:t' = t then some (h ▸ xs:List t.den) else none
 | _ => none
def ZRi (t:Ty):RV → Option (List t.den)
 | .vp t' xs => if h:t' = t then some (h ▸ xs:List t.den) else none
 | _ => none
def ZCS (T:TypeId):RV → Option (List Int)
 | .bld U xs => bif Ja T U then some xs else none
 | _ => none
mutual
def dec:(k:Kd) → RV → Option k.den
 | .view t,r => Zj5 t r
 | .own t sh,r => ZIu t sh r
 | .box ks,r => (ZCT r).bind (Zb1 ks)
 | .agg ks,r => (asAgg r).bind (Zb1 ks)
 | .tup ks,r => (ZIw r).bind (Zb1 ks)
 | .fn f,r => ZRg f r
 | .bld T,r => ZCS T r
 | .use T,r => ZCS T r
 | .clo f ks,r => (ZIs f r).bind (Zb1 ks)
 | .ref ks,r => (ZCT r).bind (Zb1 ks)
 | .ns t,r => ZRh t r
 | .vp t,r => ZRi t r
def Zb1:(ks:List Kd) → List RV → Option (Kd.dens ks)
 | [],[] => some ()
 | [],_ :: _ => none
 | _ :: _,[] => none
 | k :: ks,x :: xs => (dec k x).bind fun y => (Zb1 ks xs).bind fun ys => some (y,ys)
end
theorem ZFu {t:Ty} {r:RV} {x:t.den} (h:Zj5 t r = some x):r = .view t x:=by
 unfold Zj5 at h
 grind
theorem ZIv {t:Ty} {sh:Bool} {r:RV} {x:List t.den} (h:ZIu t sh r = some x):r = .own t sh x:=by
 unfold ZIu at h
 grind
theorem ZwG {r:RV} {cs:List RV} (h:ZCT r = some cs):r = .box cs:=by unfold ZCT at h; split at h <;> simp at h; rw [h]
theorem ZIr {r:RV} {cs:List RV} (h:asAgg r = some cs):r = .agg cs:=by unfold asAgg at h; split at h <;> simp at h; rw [h]
theorem ZIx {r:RV} {cs:List RV} (h:ZIw r = some cs):r = .tup cs:=by unfold ZIw at h; split at h <;> simp at h; rw [h]
theorem ZNS {f:Nat} {r:RV} {x:Unit} (h:ZRg f r = some x):r = .fn f:=by
 unfold ZRg at h
 split at h
 ·rename_i g
  cases hb:Ja f g with
  | false => rw [hb] at h; simp at h
  | true => rw [ZW hb]
 ·cases h
theorem ZIt {f:Nat} {r:RV} {cs:List RV} (h:ZIs f r = some cs):r = .clo f cs:=by
 unfold ZIs at h
 split at h
 ·rename_i g l
  cases hb:Ja f g with
  | false => rw [hb] at h; simp at h
  | true => simp_all
 ·cases h
theorem ZNT {t:Ty} {r:RV} {x:List t.den} (h:ZRh t r = some x):r = .ns t x:=by
 unfold ZRh at h
 grind
theorem ZNU {t:Ty} {r:RV} {x:List t.den} (h:ZRi t r = some x):r = .vp t x:=by
 unfold ZRi at h
 split at h
 ·split at h
  ·rename_i e; subst e; simp at h; rw [h]
  ·cases h
 ·cases h
theorem ZwF {T:TypeId} {r:RV} {x:List Int} (h:ZCS T r = some x):r = .bld T x:=by
 unfold ZCS at h
 split at h
 ·rename_i U xs
  cases hb:Ja T U with
  | false => rw [hb] at h; simp at h
  | true => simp_all
 ·cases h
mutual
theorem ZC0:(k:Kd) → (r:RV) → (x:k.den) → dec k r = some x → r = enc k x
 | .view t,r,x,h => by simp only [dec] at h; simp only [enc]; exact ZFu h
 | .own t sh,r,x,h => by simp only [dec] at h; simp only [enc]; exact ZIv h
 | .box ks,r,x,h => by
  simp only [dec] at h
  obtain ⟨cs,h1,h2⟩:=Uy.1 h
  simp only [enc,ZwG h1,QD ks cs x h2]
 | .agg ks,r,x,h => by
  simp only [dec] at h
  obtain ⟨cs,h1,h2⟩:=Uy.1 h
  simp only [enc,ZIr h1,QD ks cs x h2]
 | .tup ks,r,x,h => by
  simp only [dec] at h
  obtain ⟨cs,h1,h2⟩:=Uy.1 h
  simp only [enc,ZIx h1,QD ks cs x h2]
 | .fn f,r,x,h => by simp only [dec] at h; simp only [enc]; exact ZNS h
 | .bld T,r,x,h => by simp only [dec] at h; simp only [enc]; exact ZwF h
 | .use T,r,x,h => by simp only [dec] at h; simp only [enc]; exact ZwF h
 | .clo f ks,r,x,h => by
  simp only [dec] at h
  obtain ⟨cs,h1,h2⟩:=Uy.1 h
  simp only [enc,ZIt h1,QD ks cs x h2]
 | .ns t,r,x,h => by simp only [dec] at h; simp only [enc]; exact ZNT h
 | .vp t,r,x,h => by simp only [dec] at h; simp only [enc]; exact ZNU h
 | .ref ks,r,x,h => by
  simp only [dec] at h
  obtain ⟨cs,h1,h2⟩:=Uy.1 h
  simp only [enc,ZwG h1,QD ks cs x h2]
theorem QD:(ks:List Kd) → (rs:List RV) → (x:Kd.dens ks) → Zb1 ks rs = some x → rs = Wf ks x
 | [],[],x,h => rfl
 | k :: ks,r :: rs,x,h => by
  simp only [Zb1] at h
  obtain ⟨y,h1,h⟩:=Uy.1 h
  obtain ⟨ys,h2,h⟩:=Uy.1 h
  cases h
  simp only [Wf,← ZC0 k r y h1,← QD ks rs ys h2]
 | [],_ :: _,x,h => by simp [Zb1] at h
 | _ :: _,[],x,h => by simp [Zb1] at h
end
theorem Zl4:(ks:List Kd) → (x:Kd.dens ks) → (Wf ks x).length = ks.length
 | [],_ => rfl
 | k :: ks,x => by simp only [Wf,JF,Zl4 ks]
theorem ZvW {ks ls:List Kd} {as bs:List AV} (h:ks.length = as.length):QE (ks ++ ls) (as ++ bs) = QE ks as ++ QE ls bs:=by
 induction ks generalizing as with
 | nil =>
  grind [QE]
 | cons k ks ih =>
  cases as with
  | nil => simp at h
  | cons a as =>
   have ih:=ih (as:=as) (by simpa using h)
   cases k <;> simp [QE,ih]
theorem ZtO (a b:List AV):YF (a ++ b) = (YF a && YF b):=by simp [YF]
theorem ZlV:(ks:List Kd) → (x:Kd.dens ks) → (n:Nat) → YF (QE ks (ZN n (Wf ks x)).1) = true
 | [],_,n => rfl
 | k :: ks,x,n => by
  have ih:=ZlV ks x.2
  cases k with
  | box l =>
   simp only [Wf,enc,ZN,put,QE,YF,UA,UC] at ih ⊢
   exact ih _
  | bld T =>
   simp only [Wf,enc,ZN,put,QE,YF,UA,UC] at ih ⊢
   exact ih _
  | _ => grind [Wf,enc,ZN,QE]
theorem Zoc:(ks:List Kd) → (x:Kd.dens ks) → (n:Nat) → YF (QE (ZJ ks) (Qh ks (ZN n (Wf ks x)).1)) = true
 | [],_,n => rfl
 | k :: ks,x,n => by
  have ih:=Zoc ks x.2
  cases k with
  | box l =>
   simp only [Wf,enc,ZN,put,ZJ,Qh,QE,YF,UA,UC] at ih ⊢
   exact ih _
  | bld T =>
   simp only [Wf,enc,ZN,put,ZJ,Qh,QE,YF,UA,UC] at ih ⊢
   exact ih _
  | clo f l =>
   simp only [Wf,enc,ZN,put,ZJ,Qh]
   rw [ZvW (by rw [Zfp]; exact (Zl4 l x.1).symm),ZtO,Jh]
   exact ⟨ZlV l x.1 n,ih _⟩
  | _ => grind [Wf,enc,ZN,ZJ,Qh,QE]
abbrev Ans (pk:List Kd) (rk:Kd):Type:=rk.den × Kd.dens (XY (ZJ pk))
def ZII (pk:List Kd) (rk:Kd) (r:RV × List RV):Option (Ans pk rk):=(dec rk r.1).bind fun x => (Zb1 (XY (ZJ pk)) r.2).bind fun l => some (x,l)
def ZRn (pk:List Kd) (rk:Kd) (x:Ans pk rk):RV × List RV:=(enc rk x.1,Wf (XY (ZJ pk)) x.2)
theorem ZFL {pk:List Kd} {rk:Kd} {r:RV × List RV} {x:Ans pk rk} (h:ZII pk rk r = some x):r = ZRn pk rk x:=by
 unfold ZII at h
 obtain ⟨y,h1,h⟩:=Uy.1 h
 obtain ⟨ys,h2,h⟩:=Uy.1 h
 cases h
 obtain ⟨a,b⟩:=r
 simp only [ZRn,← ZC0 rk a y h1,← QD (XY (ZJ pk)) b ys h2]
def mk (pk:List Kd) (rk:Kd) (F:Nat → Kd.dens pk → Option (Ans pk rk)):Callee :=
 { ρ:=Ans pk rk,pk:=pk,run:=fun k rvs => (Zb1 pk rvs).bind (F k),enc:=ZRn pk rk }
theorem ZPy {C:Ctx} (hC:∀ f cal,C.Φ f = some cal → Ctr C.P C.k f cal) (hm:C.P.follows .mixedOrders = true) {A:Nat → Ann} {f k:Nat} {fn:Func} {code:Code} {pk:List Kd} {rk:Kd} {F:Nat → Kd.dens pk → Option (Ans pk rk)}
  (hf:C.P.funcs[f]? = some fn) (hb:fn.body = some code) (hname:(fn.name == "runtime.NumGoroutine") = false) (hfit:XW C.P fn.ntmps code = true)
  (h:∀ x y,F k x = some y → ZCu C A fn.ntmps code fn.results.toList pk rk (Wf pk x) (ZII pk rk) = some y):Ctr C.P k f (mk pk rk F):=by
 refine ZHv (A:=A) (rk:=rk) hC hm hf hb hname hfit (fun rvs x hx => ?_) (fun rvs x hx => ?_)
 ·simp only [mk] at hx ⊢
  obtain ⟨y,h1,h2⟩:=Uy.1 hx
  rw [QD pk rvs y h1]
  exact Zoc pk y 0
 ·simp only [mk] at hx ⊢
  obtain ⟨y,h1,h2⟩:=Uy.1 hx
  have h3:=h y x h2
  rw [← QD pk rvs y h1,ZHY] at h3
  obtain ⟨r,h4,h5⟩:=Uy.1 h3
  rw [h4,ZFL h5]
def phi:List (Nat × Callee) → Nat → Option Callee
 | [],_ => none
 | (f,c) :: l,g => bif Ja g f then some c else phi l g
theorem Zv6 {P:Program} {k:Nat}:∀ {l:List (Nat × Callee)},(∀ p ∈ l,Ctr P k p.1 p.2) → ∀ f cal,phi l f = some cal → Ctr P k f cal
 | [],_,f,cal,h => by simp [phi] at h
 | (g,c) :: l,hl,f,cal,h => by
  simp only [phi] at h
  cases hb:Ja f g with
  | true => simp_all
  | false => rw [hb] at h; exact Zv6 (fun p hp => hl p (by simp [hp])) f cal h
theorem ZCY {P:Program} {k:Nat}:∀ p ∈ ([]:List (Nat × Callee)),Ctr P k p.1 p.2:=by intro p hp; simp at hp
theorem ZTB {P:Program} {k f:Nat} {c:Callee} {l:List (Nat × Callee)} (h:Ctr P k f c) (hl:∀ p ∈ l,Ctr P k p.1 p.2):∀ p ∈ (f,c) :: l,Ctr P k p.1 p.2:=by
 simp_all
def Zh {V R:Type} (step:(V → Option R) → V → Option R):Nat → V → Option R
 | 0,_ => none
 | n + 1,v => step (Zh step n) v
theorem Zy4 {V R:Type} {L:Nat → V → Option R} {step:(V → Option R) → V → Option R} (h0:∀ v,L 0 v = none) (h:∀ n v,L (n + 1) v = step (L n) v):∀ n,L n = Zh step n
 | 0 => funext h0
 | n + 1 => funext fun v => by rw [h,Zy4 h0 h n]; rfl
section
variable {R:Type}
def place (C:Ctx) (A:Nat → Ann) (kp:List Nat):List Nat → List Nat → Code → (Ex → St → Option R) → Code × (Ex → St → Option R)
 | 0 :: p,ns,.seq a b,K => place C A kp p ns a (ZNk (fun s => Xn C A kp b s K) K)
 | _ :: p,ns,.seq _ b,K => place C A kp p ns b K
 | 0 :: p,ns,.cond _ a _,K => place C A kp p ns a K
 | _ :: p,ns,.cond _ _ b,K => place C A kp p ns b K
 | _ :: p,ns,.block id c,K => place C A kp p ns c (ZtL id K)
 | _ :: p,ns,.scope c,K => place C A kp p ns c K
 | _ :: p,n :: ns,.loop c,K => place C A kp p ns c fun e s => match e with
  | .normal => (Zru kp (A (Qs c)) s).bind fun s => ZgH (Xn C A kp c) (Zru kp (A (Qs c))) n s K
  | .exit i => K (.exit i) s
  | .ret => K .ret s
 | _,_,c,K => (c,K)
def ZSQ (C:Ctx) (A:Nat → Ann) (kp:List Nat) (p ns:List Nat) (code:Code) (K:Ex → St → Option R) (n:Nat) (st:St):Option R :=
 match place C A kp p ns code K with
 | (.loop c,K) => ZgH (Xn C A kp c) (Zru kp (A (Qs c))) n st K
 | _ => none
end
end Go.Sh
