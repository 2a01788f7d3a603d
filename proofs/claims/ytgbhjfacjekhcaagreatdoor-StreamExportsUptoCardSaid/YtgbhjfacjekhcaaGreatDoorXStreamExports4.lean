/-
  What the row needs, part 4.
-/
import Derived.Test.YtgbhjfacjekhcaaGreatDoorXStreamExports3
import Derived.Scope
import Derived.LoopN
set_option linter.unusedSimpArgs false
set_option linter.unusedVariables false
set_option linter.unusedSectionVars false
open Array renaming replicate→UB
open Bool renaming and_eq_true→Jh,true_and→UC
open Go.Instr renaming loadAt→JY
open List renaming mem_append→Js,all_cons→UA,mem_cons→VL,length_cons→JF,mem_map→VF,mem_append_left→JG
open Nat renaming beq→Ja,lt_of_lt_of_le→VZ,le_of_ble_eq_true→Jt
open Option renaming bind_eq_some_iff→Uy,bind_assoc→Uz,bind_some→VJ,some→VE
namespace Go.Sh
open Go
variable [Gl]
variable {C:Ctx} {G:Glob} {σ:W6} {w:World} {lim:Nat → Nat} {st:St} {a:Act}
def Ex.out:Ex → Exit
 | .normal => .normal
 | .exit i => .exit i
 | .ret => .ret
def XR (P:Program) (n:Nat):Code → Bool
 | .region _ ops _ => Zt8 P n ops.toList
 | .seq a b => XR P n a && XR P n b
 | .cond _ a b => XR P n a && XR P n b
 | .block _ c => XR P n c
 | .loop c => XR P n c
 | .scope c => XR P n c
 | _ => true
def WS (G:Glob) (n:Nat) (st:St) (a:Act) (w:World):Prop := ∃ σ lim,Ww G σ lim st a.tmps w ∧ a.tmps.size = n ∧ a.defers = []
theorem ZRj {n:Nat} (h:WS G n st a w) {c:Operand} {t:Bool} (hc:KZ st.env c = .val (.v (.bool t))):a.eval c = .bool t:=by
 obtain ⟨σ,lim,h,_,_⟩:=h
 have:=(Zy h.1 c).1
 grind [RA,RP]
theorem Zm4 {n:Nat} (h:WS G n st a w) {q:Nat} (hq:q < Z4):WS G n (ZGR st q) a w:=by
 obtain ⟨σ,lim,h,h2,h3⟩:=h
 unfold ZGR
 split
 ·rename_i t xss hT
  obtain ⟨lim',h4⟩:=RelW.melt h.1 h.2 hq hT
  exact ⟨σ,lim',h4,h2,h3⟩
 ·exact ⟨σ,lim,h,h2,h3⟩
theorem Zxv {n:Nat} (h:WS G n st a w) (id:Nat):WS G n (Zh5 C id st) a w:=by
 have hL:Low G st:=by obtain ⟨_,_,⟨_,hL⟩,_,_⟩:=h; exact hL
 unfold Zh5
 split
 ·split
  ·rename_i s _ _ q hs
   exact Zm4 h (hL.env s q (by rw [hs]; simp [Zf]))
  ·exact h
 ·split
  ·rename_i s k _ _ r hs
   unfold ZUT
   split
   ·rename_i cs hr
    split
    ·rename_i q hq
     exact Zm4 h (hL.box r cs hr q (Y1 (List.mem_of_getElem? hq) (by simp [Zf])))
    ·exact h
   ·exact h
  ·exact h
 ·exact h
theorem Wx (hC:∀ f cal,C.Φ f = some cal → Ctr C.P C.k f cal) (hm:C.P.follows .mixedOrders = true) {A:Nat → Ann} {kp:List Nat} (hk:∀ p ∈ G.pins,p.1 ∈ kp) {n:Nat} {R:Type} {r:R} :
  (c:Code) → {st:St} → {K:Ex → St → Option R} → Xp C A kp c st K = some r → XR C.P n c = true → {a:Act} → {w:World} → WS G n st a w → {Q:Exit → Act → World → Prop} →
  (∀ e st' a' w',K e st' = some r → WS G n st' a' w' → Q e.out a' w') → c.wp C.P Q a w
 | .skip,st,K,h,hf,a,w,hs,Q,hQ => wp_skip (hQ .normal st a w h hs)
 | .label _,st,K,h,hf,a,w,hs,Q,hQ => wp_label (hQ .normal st a w h hs)
 | .ret,st,K,h,hf,a,w,hs,Q,hQ => wp_ret (hQ .ret st a w h hs)
 | .exit i,st,K,h,hf,a,w,hs,Q,hQ => wp_exit (hQ (.exit i) st a w h hs)
 | .region id ops d,st,K,h,hf,a,w,hs,Q,hQ => by
  simp only [Xp] at h
  simp only [XR] at hf
  obtain ⟨σ,lim,hR,hn,hd⟩:=Zxv (C:=C) hs id
  have hb:∃ stf lgs,Zmn C id ops.toList ops.toList 0 (Zh5 C id st) = some (stf,lgs) ∧ (d = true → ZaQ ops.toList (YJ ops.toList []) lgs = true) ∧ K .normal stf = some r:=by
   cases d with
   | false =>
    simp only [cond_false,ZxB] at h
    cases ho:Zmn C id ops.toList ops.toList 0 (Zh5 C id st) with
    | none => rw [ho] at h; simp at h
    | some x => grind
   | true =>
    simp only [cond_true,Zk9,List.nil_append] at h
    cases ho:Zmn C id ops.toList ops.toList 0 (Zh5 C id st) with
    | none => rw [ho] at h; simp at h
    | some x =>
     grind
  obtain ⟨stf,lgs,h1,h2,h3⟩:=hb
  exact ZxH hC hm hf hR hn hd h1 h2 fun a' w' σ' lim' hR' hn' hd' => hQ .normal stf a' w' h3 ⟨σ',lim',hR',hn',hd'⟩
 | .seq x y,st,K,h,hf,a,w,hs,Q,hQ => by
  simp only [Xp] at h
  simp only [XR,Jh] at hf
  refine wp_seq (Wx hC hm hk x h hf.1 hs fun e st' a' w' hK hs' => ?_)
  cases e with
  | normal => exact Wx hC hm hk y hK hf.2 hs' hQ
  | exit i => exact hQ (.exit i) st' a' w' hK hs'
  | ret => exact hQ .ret st' a' w' hK hs'
 | .cond c x y,st,K,h,hf,a,w,hs,Q,hQ => by
  simp only [Xp] at h
  simp only [XR,Jh] at hf
  split at h
  ·rename_i t hc
   have e1:=ZRj hs hc
   cases t with
   | true =>
    refine wp_cond_true e1 (Wx hC hm (A:=A) hk x (K:=K) ?_ hf.1 hs hQ)
    cases c with
    | tmp d => simp_all [KZ,cond_true,Zmz hc]
    | _ => exact h
   | false =>
    refine wp_cond_false e1 (Wx hC hm (A:=A) hk y (K:=K) ?_ hf.2 hs hQ)
    cases c with
    | tmp d => simp_all [KZ,cond_false,Zmz hc]
    | _ => exact h
  ·simp at h
 | .block id c,st,K,h,hf,a,w,hs,Q,hQ => by
  simp only [Xp] at h
  simp only [XR] at hf
  refine wp_block (Wx hC hm hk c h hf hs fun e st' a' w' hK hs' => ?_)
  cases e with
  | normal => exact hQ .normal st' a' w' hK hs'
  | ret => exact hQ .ret st' a' w' hK hs'
  | exit i =>
   simp only [ZuS] at hK
   simp only [Ex.out,Exit.inBlock]
   cases hb:Ja i id with
   | true => rw [hb] at hK; rw [if_pos (beq_eq hb)]; exact hQ .normal st' a' w' hK hs'
   | false =>
    rw [hb] at hK
    rw [if_neg (by rintro rfl; rw [Yl] at hb; cases hb)]
    exact hQ (.exit i) st' a' w' hK hs'
 | .loop c,st,K,h,hf,a,w,hs,Q,hQ => by
  simp only [Xp] at h
  simp only [XR] at hf
  have key:∀ (m:Nat) (st:St) (a:Act) (w:World),Zhi (Xp C A kp c) (Zsq kp (A (Qs c))) m st K = some r → WS G n st a w → Code.rounds C.P c Q m a w:=by
   intro m
   induction m with
   | zero => intro st a w h; simp [Zhi] at h
   | succ m ih =>
    intro st a w h hs
    rw [rounds_succ]
    simp only [Zhi] at h
    refine Wx hC hm hk c h hf hs fun e st' a' w' hK hs' => ?_
    cases e with
    | ret => exact hQ .ret st' a' w' hK hs'
    | exit i => exact hQ (.exit i) st' a' w' hK hs'
    | normal =>
     cases hn:Zsq kp (A (Qs c)) st' with
     | none => rw [hn] at hK; simp at hK
     | some s =>
      rw [hn] at hK
      obtain ⟨σ,lim,hR,q1,q2⟩:=hs'
      obtain ⟨σ2,lim2,hR2⟩:=Zru hR hk hn
      exact ih s a' w' hK ⟨σ2,lim2,hR2,q1,q2⟩
  cases hn:Zsq kp (A (Qs c)) st with
  | none => rw [hn] at h; simp at h
  | some s =>
   rw [hn] at h
   obtain ⟨σ,lim,hR,q1,q2⟩:=hs
   obtain ⟨σ2,lim2,hR2⟩:=Zru hR hk hn
   exact wp_loop_rounds C.k (key C.k s a w h ⟨σ2,lim2,hR2,q1,q2⟩)
 | .scope c,st,K,h,hf,a,w,hs,Q,hQ => by
  simp only [Xp] at h
  simp only [XR] at hf
  refine wp_scope_straight (Wx hC hm hk c h hf hs fun e st' a' w' hK hs' => ?_)
  cases e <;> exact hQ _ st' a' w' hK hs'
 | .rangeFunc _ _ _ _,st,K,h,hf,a,w,hs,Q,hQ => by simp [Xp] at h
 | .goto _,st,K,h,hf,a,w,hs,Q,hQ => by simp [Xp] at h
end Go.Sh
namespace Go.Sh
open Go
variable [Gl]
variable {C:Ctx} {G:Glob} {σ:W6} {w:World} {lim:Nat → Nat} {st:St} {tmps:Array Value}
theorem ZDF {P:Program} {T:TypeId} {v x:Value} (h:(JY T v).run P w = .ok x w):(asAddr v >>= fun p => loadVar T p:Sem Value).run P w = .ok x w:=by
 unfold JY at h
 unfold Instr.sureAddr at h
 split at h
 ·simpa [asAddr] using h
 ·simp [stuck,Sem.run_bind] at h
def ZrQ (tmps:Array Value):ResultVar → Sem Value
 | .tmp t => pure (tmps.getD t undef)
 | .cell a t => do loadVar t (← asAddr (tmps.getD a undef))
theorem ZrP (h:RelW G σ lim st tmps w) {r:ResultVar} {l l':List Nat} {x:AV} (hm:(Zc6 C st r).run st.tbl l = some (x,l')) :
  ∃ v,(ZrQ tmps r).run C.P w = .ok v w ∧ RA σ w lim x v ∧ Zr st.tbl (Zf x):=by
 cases r with
 | tmp t =>
  obtain ⟨rfl,_⟩:=M.run_ret hm
  exact ⟨_,rfl,h.env t,h.known t⟩
 | cell a T =>
  simp only [Zc6] at hm
  obtain ⟨e,l1,h1,h2⟩:=M.run_bind_some hm
  obtain ⟨rfl,_⟩:=M.run_ret h2
  obtain ⟨v,e1,e2,e3,e4⟩:=Zrl h1 (h.env a) h.res
  exact ⟨v,ZDF e1,e2,e3⟩
theorem Zer (h:RelW G σ lim st tmps w):(rs:List ResultVar) → {l l':List Nat} → {xs:List AV} → (Yc C st rs).run st.tbl l = some (xs,l') →
  ∃ vs,(rs.mapM (ZrQ tmps)).run C.P w = .ok vs w ∧ Z0 σ w lim xs vs ∧ Zr st.tbl (Zq xs)
 | [],l,l',xs,hm => by
  obtain ⟨rfl,_⟩:=M.run_ret hm
  simp_all [Z0,Zq,Zr]
 | r :: rs,l,l',xs,hm => by
  simp only [Yc] at hm
  obtain ⟨x,l1,h1,h2⟩:=M.run_bind_some hm
  obtain ⟨ys,l2,h3,h4⟩:=M.run_bind_some h2
  obtain ⟨rfl,_⟩:=M.run_ret h4
  obtain ⟨v,e1,e2,e3⟩:=ZrP h h1
  obtain ⟨vs,f1,f2,f3⟩:=Zer h rs h3
  refine ⟨v :: vs,?_,by simp only [Z0]; exact ⟨e2,f2⟩,?_⟩
  ·simp_all
  ·intro i hi; simp only [Zq,Js] at hi; rcases hi with hi | hi; exact e3 i hi; exact f3 i hi
theorem Zhm {st st2:St} (he:st2.env = st.env):∀ (rs:List ResultVar),Yc C st rs = Yc C st2 rs
 | [] => rfl
 | r :: rs => by
  have h1:Zc6 C st r = Zc6 C st2 r:=by cases r <;> simp only [Zc6,he]
  simp only [Yc,h1,Zhm he rs]
theorem Zst (h:RelW G σ lim st tmps w) {fn:Func} {l l':List Nat} {xs:List AV} (hm:(Yc C st fn.results.toList).run st.tbl l = some (xs,l')) :
  ∃ v,(results fn tmps).run C.P w = .ok v w ∧ RA σ w lim (match (generalizing:=false) xs with | [a] => a | as => .tup as) v:=by
 obtain ⟨vs,e1,e2,e3⟩:=Zer h _ hm
 have e0:results fn tmps = (do let vs ← fn.results.mapM (ZrQ tmps); pure (if h:vs.size = 1 then vs[0] else .tuple vs)):=by
  unfold results
  congr 1
 rw [e0,Array.mapM_eq_mapM_toList]
 match xs,vs,e2 with
 | [x],[v],e2 =>
  simp_all [Z0,Sem.run_bind,Sem.run_map,e1]
 | [],[],e2 =>
  simp_all [RA,Z0,Sem.run_bind,Sem.run_map,e1]
 | x :: y :: xs,v :: u :: vs,e2 =>
  simp_all [RA,Sem.run_bind,Sem.run_map,e1]
 | [],_ :: _,e2 => simp [Z0] at e2
 | _ :: _,[],e2 => simp [Z0] at e2
 | [_],_ :: _ :: _,e2 => simp [Z0] at e2
 | _ :: _ :: _,[_],e2 => simp [Z0] at e2
def XT:List Kd → List Value → List Value
 | .box _ :: l,a :: as => a :: XT l as
 | .bld _ :: l,a :: as => a :: XT l as
 | _ :: l,_ :: as => XT l as
 | _,_ => []
def Y8:List AV → List Value → List (Nat × Value)
 | .bx r _ :: l,v :: vs => (r,v) :: Y8 l vs
 | _ :: l,_ :: vs => Y8 l vs
 | _,_ => []
theorem ZkC:(as:List AV) → (vs:List Value) → ∀ p ∈ Y8 as vs,p.1 ∈ WN as
 | [],vs,p,hp => by cases vs <;> simp [Y8] at hp
 | x :: as,[],p,hp => by cases x <;> simp [Y8] at hp
 | x :: as,v :: vs,p,hp => by
  cases x with
  | bx r k =>
   simp only [Y8,VL] at hp
   simp only [WN,VL]
   rcases hp with rfl | hp
   ·exact .inl rfl
   ·exact .inr (ZkC as vs p hp)
  | _ => simp only [Y8] at hp; simp only [WN]; exact ZkC as vs p hp
theorem ZGP:(pk:List Kd) → {as:List AV} → {vs:List Value} → Z0 σ w lim as vs → Z0 σ w lim (Qz pk as) (XT pk vs)
 | [],as,vs,h => by grind [Qz,XT,Z0]
 | k :: pk,as,vs,h => by
  match as,vs,h with
  | [],[],h => cases k <;> simp [Qz,XT,Z0]
  | x :: as,v :: vs,h =>
   simp only [Z0] at h
   have ih:=ZGP pk h.2
   cases k <;> simp only [Qz,XT,Z0] <;> first | exact ih | exact ⟨h.1,ih⟩
  | [],_ :: _,h => simp [Z0] at h
  | _ :: _,[],h => simp [Z0] at h
def Yn (as:List AV):Bool:=as.all fun | .bx _ 0 => true | _ => false
theorem ZXp {as:List AV} {vs:List Value} (hb:Yn as = true) (h:Z0 σ w lim as vs):∀ p ∈ Y8 as vs,σ p.1 = p.2:=by
 induction as generalizing vs with
 | nil => grind [Y8]
 | cons x as ih =>
  cases vs with
  | nil => simp [Z0] at h
  | cons v vs =>
   simp only [Z0] at h
   simp only [Yn,UA,Jh] at hb
   intro p hp
   obtain ⟨hb1,hb2⟩:=hb
   split at hb1
   ·rename_i r
    simp only [Y8,VL] at hp
    rcases hp with rfl | hp
    ·grind [RA]
    ·exact ih hb2 h.2 p hp
   ·cases hb1
theorem ZDS {σ':W6} {w':World} {lim':Nat → Nat} {as:List AV} {vs:List Value} (hb:Yn as = true) (h:Z0 σ w lim as vs) (hp:∀ p ∈ Y8 as vs,σ' p.1 = p.2):Z0 σ' w' lim' as vs:=by
 induction as generalizing vs with
 | nil => cases vs <;> simp [Z0] at h ⊢
 | cons x as ih =>
  cases vs with
  | nil => simp [Z0] at h
  | cons v vs =>
   simp only [Z0] at h ⊢
   simp only [Yn,UA,Jh] at hb
   obtain ⟨hb1,hb2⟩:=hb
   split at hb1
   ·rename_i r
    simp only [Y8,VL] at hp
    refine ⟨?_,ih hb2 h.2 fun p hm => hp p (.inr hm)⟩
    have h1:=h.1
    simp only [RA] at h1 ⊢
    obtain ⟨b,e1,e2⟩:=h1
    simp_all
   ·cases hb1
theorem ZHd:(pk:List Kd) → {vs:List Value} → {rs:List RV} → {bs:List Nat} → vs.length = pk.length → TTs w lim rs (XT pk vs) bs → TL w lim pk vs rs bs
 | [],[],rs,bs,_,h => by
  grind [XT,TL,TTs]
 | k :: pk,v :: vs,rs,bs,hl,h => by
  have hl':vs.length = pk.length:=by simpa using hl
  cases k with
  | box l =>
   simp only [XT] at h
   cases rs with
   | nil => simp [TTs] at h
   | cons x rs =>
    simp only [TTs] at h
    simp only [TL]
    obtain ⟨b1,b2,e,h1,h2⟩:=h
    exact ⟨b1,b2,e,h1,ZHd pk hl' h2⟩
  | bld T =>
   simp only [XT] at h
   cases rs with
   | nil => simp [TTs] at h
   | cons x rs =>
    simp only [TTs] at h
    simp only [TL]
    obtain ⟨b1,b2,e,h1,h2⟩:=h
    exact ⟨b1,b2,e,h1,ZHd pk hl' h2⟩
  | _ => simp only [XT] at h; simp only [TL]; exact ZHd pk hl' h
 | [],_ :: _,rs,bs,hl,_ => by simp at hl
 | _ :: _,[],rs,bs,hl,_ => by simp at hl
theorem Zdc:∀ (u:Wb),Zj u = Z8.put (fun _ => .fresh) u
 | [] => rfl
 | (a,x) :: u => by
  funext r
  simp only [Zj,Z8.put,ZI,Zdc u]
  grind
theorem Zbe:∀ (as:List AV) (i s:Nat),Zk (index i as) s = .dead ∨ ∃ j,s = i + j ∧ as[j]? = some (Zk (index i as) s)
 | [],i,s => .inl rfl
 | x :: as,i,s => by
  simp only [index,Zk]
  cases h:Ja s i with
  | true => simp_all
  | false =>
   simp only [cond_false]
   rcases Zbe as (i + 1) s with h | ⟨j,h1,h2⟩
   ·exact .inl h
   ·exact .inr ⟨j + 1,by omega,by simpa using h2⟩
theorem Zuf {as:List AV} {j:Nat} {x:AV} (h:as[j]? = some x):∀ r ∈ Zf x,r ∈ Zq as:=by
 induction as generalizing j with
 | nil => simp at h
 | cons y as ih =>
  grind [Zq]
theorem Zhs {as:List AV} {vs:List Value} (h:Z0 σ w lim as vs):as.length = vs.length:=by
 induction as generalizing vs with
 | nil => cases vs <;> simp [Z0] at h ⊢
 | cons x as ih =>
  cases vs with
  | nil => simp [Z0] at h
  | cons v vs => simp only [Z0] at h; simp [ih h.2]
theorem Zf1:(xs:List RV) → (n:Nat) → (ZO n xs).1.length = xs.length
 | [],n => rfl
 | x :: xs,n => by simp only [ZO,JF,Zf1 xs]
theorem X0:(pk:List Kd) → (as:List AV) → ∀ r ∈ WN (Qz pk as),r ∈ Zq as
 | [],as,r,hr => by contradiction
 | k :: pk,[],r,hr => by grind [Qz,WN]
 | k :: pk,x :: as,r,hr => by
  simp only [Zq,Js]
  cases k with
  | box l =>
   simp only [Qz] at hr
   cases x with
   | bx b j =>
    simp only [WN,VL] at hr
    rcases hr with rfl | hr
    ·exact .inl (by simp [Zf])
    ·exact .inr (X0 pk as r hr)
   | _ => simp only [WN] at hr; exact .inr (X0 pk as r hr)
  | bld T =>
   simp only [Qz] at hr
   cases x with
   | bx b j =>
    simp only [WN,VL] at hr
    rcases hr with rfl | hr
    ·exact .inl (by simp [Zf])
    ·exact .inr (X0 pk as r hr)
   | _ => simp only [WN] at hr; exact .inr (X0 pk as r hr)
  | _ => simp only [Qz] at hr; exact .inr (X0 pk as r hr)
mutual
theorem ZTU:(x:RV) → (n:Nat) → (∀ r ∈ Zf (put n x).1,r < (put n x).2.2) ∧ ∀ p ∈ (put n x).2.1,p.1 < (put n x).2.2 ∧ ZaS p.2 = true ∧ ∀ cs,p.2 = .live (.box cs) → ∀ q ∈ Zq cs,q < (put n x).2.2
 | .view t x,n => by simp only [put]; rw [Zpa]; simp
 | .own t sh xs,n => by simp [put,Zf,ZaS]
 | .box cs,n => by
  obtain ⟨h1,h2⟩:=Zc3 cs (n + 1)
  have hle:=Xk cs (n + 1)
  simp only [put]
  refine ⟨by intro r hr; simp [Zf] at hr; omega,fun p hp => ?_⟩
  cases hp with
  | head => exact ⟨by simp only; omega,rfl,fun ds hd => by simp only [RS.live.injEq,Res.box.injEq] at hd; subst hd; exact h1⟩
  | tail _ hp => exact h2 p hp
 | .agg cs,n => by
  obtain ⟨h1,h2⟩:=Zc3 cs n
  simp only [put]
  exact ⟨by simpa [Zf] using h1,h2⟩
 | .tup cs,n => by
  obtain ⟨h1,h2⟩:=Zc3 cs n
  simp only [put]
  exact ⟨by simpa [Zf] using h1,h2⟩
 | .fn f,n => by simp [put,Zf]
 | .ns t xs,n => by simp [put,Zf]
 | .vp t xs,n => by simp [put,Zf]
 | .clo f cs,n => by
  obtain ⟨h1,h2⟩:=Zc3 cs n
  simp only [put]
  exact ⟨by simpa [Zf] using h1,h2⟩
 | .bld T xs,n => by
  simp only [put]
  refine ⟨by intro r hr; simp [Zf] at hr; omega,fun p hp => ?_⟩
  simp only [VL,List.not_mem_nil,or_false] at hp
  rcases hp with rfl | rfl
  ·refine ⟨by simp only; omega,rfl,fun cs hc q hq => ?_⟩
   simp only [RS.live.injEq,Res.box.injEq] at hc
   subst hc
   simp [Zq,Zf] at hq
   omega
  ·exact ⟨by simp only; omega,rfl,fun cs hc => by cases hc⟩
theorem Zc3:(xs:List RV) → (n:Nat) → (∀ r ∈ Zq (ZO n xs).1,r < (ZO n xs).2.2) ∧ ∀ p ∈ (ZO n xs).2.1,p.1 < (ZO n xs).2.2 ∧ ZaS p.2 = true ∧ ∀ cs,p.2 = .live (.box cs) → ∀ q ∈ Zq cs,q < (ZO n xs).2.2
 | [],n => by simp [ZO,Zq]
 | x :: xs,n => by
  obtain ⟨h1,h2⟩:=ZTU x n
  obtain ⟨h3,h4⟩:=Zc3 xs (put n x).2.2
  have hle:=Xk xs (put n x).2.2
  simp only [ZO]
  refine ⟨fun r hr => ?_,fun p hp => ?_⟩
  ·simp only [Zq,Js] at hr
   rcases hr with hr | hr
   ·have:=h1 r hr; omega
   ·exact h3 r hr
  ·rcases Js.1 hp with hp | hp
   ·exact h4 p hp
   ·obtain ⟨a,b,c⟩:=h2 p hp
    exact ⟨by omega,b,fun cs hc q hq => by have:=c cs hc q hq; omega⟩
end
theorem ZHz:XB (fun _ => .fresh) = fun _ => .fresh:=by
 funext n
 simp only [XB,Zg6,ite_self]
theorem ZVc {avs:List AV} {u:Wb} (h:RelW G σ lim (enter avs u) tmps w) (hu:∀ p ∈ u,p.1 < Z4 ∧ ZaS p.2 = true ∧ ∀ cs,p.2 = .live (.box cs) → ∀ q ∈ Zq cs,q < Z4)
  (hids:∀ r ∈ Zq avs,r < Z4) (hp:∀ p ∈ G.pins,p.1 < Z4):Ww G σ lim (enter avs u) tmps w:=by
 have e:Zj u = Z8.put (fun _ => .fresh) u:=Zdc u
 unfold enter at h ⊢
 rw [e] at h ⊢
 refine Ww.of_put (T:=fun _ => .fresh) (by rw [ZHz]; exact h) (fun p hp => ⟨(hu p hp).1,(hu p hp).2.1⟩) ⟨fun s r hr => ?_,fun r cs hr => ?_,hp⟩
 ·simp only at hr
  rcases Zbe avs 0 s with h | ⟨j,h1,h2⟩
  ·rw [h] at hr; simp [Zf] at hr
  ·exact hids r (Zuf h2 r hr)
 ·simp only [Z8.put] at hr
  cases hl:ZI u r with
  | none => rw [hl] at hr; cases hr
  | some z => rw [hl] at hr; simp only at hr; exact (hu _ (Wq hl)).2.2 cs hr
theorem Zq8:(ks:List Kd) → (as:List AV) → Xo ks as = true → (Qd ks as).length = (ZM ks).length
 | [],[],_ => rfl
 | [],_ :: _,h => by simp [Xo] at h
 | k :: ks,[],h => by cases k <;> simp [Xo] at h
 | k :: ks,a :: as,h => by
  cases k with
  | clo f l =>
   cases a with
   | clo g cs =>
    simp only [Xo,Jh] at h
    have:=beq_eq h.1
    simp only [Qd,ZM,List.length_append,Zq8 ks as h.2,this]
   | _ => simp [Xo] at h
  | _ => grind [Xo,Qd,ZM,JF,Zq8 ks as h]
def Zky:List Kd → Nat
 | [] => 0
 | .ref _ :: l => Zky l + 1
 | _ :: l => Zky l
theorem Zm0:(ks:List Kd) → KN ks = false → Zky ks = 0
 | [],_ => rfl
 | k :: ks,h => by
  cases k with
  | ref l => simp [KN] at h
  | _ => simp only [KN] at h; simp only [Zky]; exact Zm0 ks h
theorem Zec:(ks:List Kd) → (cs:List AV) → {q:List Nat} → ZH ks cs = some q → q.length = Zky ks
 | [],[],q,h => by simp [ZH] at h; subst h; rfl
 | k :: ks,a :: as,q,h => by
  have other:(∀ l,k ≠ .ref l) → q.length = Zky (k :: ks):=by
   intro hk
   have e:ZH (k :: ks) (a :: as) = ZH ks as:=by cases k <;> first | rfl | exact absurd rfl (hk _)
   have e2:Zky (k :: ks) = Zky ks:=by cases k <;> first | rfl | exact absurd rfl (hk _)
   rw [e] at h
   rw [e2]; exact Zec ks as h
  cases k with
  | ref l =>
   cases a with
   | bx s kk =>
    cases kk with
    | succ kk => simp [ZH] at h
    | zero =>
     simp only [ZH] at h
     cases hq2:ZH ks as with
     | none => rw [hq2] at h; simp at h
     | some q2 =>
      grind [VE.injEq,JF,Zky,Zec ks as hq2]
   | _ => simp [ZH] at h
  | _ => exact other (by intro l; simp)
 | [],_ :: _,q,h => by simp [ZH] at h
 | k :: _,[],q,h => by cases k <;> simp [ZH] at h
theorem ZkL {σ:W6}:(ks:List Kd) → (q:List Nat) → (vs vs':List Value) → q.length = Zky ks → Qb σ q ks vs → Qb σ q ks vs' → YE ks vs vs'
 | [],q,vs,vs',_,_,_ => by simp [YE]
 | k :: ks,q,[],vs',_,_,_ => by cases k <;> simp [YE]
 | k :: ks,q,v :: vs,[],_,_,_ => by cases k <;> simp [YE]
 | k :: ks,q,v :: vs,v' :: vs',hl,h,h' => by
  have other:(∀ l,k ≠ .ref l) → YE (k :: ks) (v :: vs) (v' :: vs'):=by
   intro hk
   have e2:Zky (k :: ks) = Zky ks:=by cases k <;> first | rfl | exact absurd rfl (hk _)
   have e3:YE (k :: ks) (v :: vs) (v' :: vs') = YE ks vs vs':=by cases k <;> first | rfl | exact absurd rfl (hk _)
   rw [e3]
   rw [e2] at hl
   cases q with
   | nil => exact ZkL (σ:=σ) ks [] vs vs' hl Q9 Q9
   | cons q0 q =>
    have e4:∀ (u:Value) (us:List Value),Qb σ (q0 :: q) (k :: ks) (u :: us) = Qb σ (q0 :: q) ks us:=by intro u us; cases k <;> first | rfl | exact absurd rfl (hk _)
    rw [e4] at h h'
    exact ZkL ks (q0 :: q) vs vs' hl h h'
  cases k with
  | ref l =>
   cases q with
   | nil => simp [Zky] at hl
   | cons q0 q =>
    simp only [Qb] at h h'
    simp only [YE]
    exact ⟨h'.1.trans h.1.symm,ZkL ks q vs vs' (by simpa [Zky] using hl) h.2 h'.2⟩
  | _ => exact other (by intro l; simp)
theorem Zmt {σ1:W6} {w0:World} (h:RelW G σ lim st tmps w):(ks:List Kd) → {as:List AV} → {vs:List Value} → {l l':List Nat} → {nm:List (List Nat)} → (KR ks as).run st.tbl l = some (nm,l') → Z0 σ w lim as vs → W5 σ1 w0 nm ks vs → (∀ q ∈ nm.flatten,σ q = σ1 q) → YK w0 w ks vs
 | [],as,vs,l,l',nm,hm,hv,hr,hq => by cases vs <;> simp [YK]
 | k :: ks,[],vs,l,l',nm,hm,hv,hr,hq => by
  match vs,hv with
  | [],_ => cases k <;> simp [YK]
 | k :: ks,a :: as,vs,l,l',nm,hm,hv,hr,hq => by
  match vs,hv with
  | v :: vs,hv =>
   simp only [Z0] at hv
   have other:(∀ l,k ≠ .box l) → YK w0 w (k :: ks) (v :: vs):=fun hk => by
    rw [ZaX hk] at hm
    have e:YK w0 w (k :: ks) (v :: vs) = YK w0 w ks vs:=by cases k <;> first | rfl | exact absurd rfl (hk _)
    have e2:W5 σ1 w0 nm (k :: ks) (v :: vs) = W5 σ1 w0 nm ks vs:=by cases k <;> first | (cases nm <;> rfl) | exact absurd rfl (hk _)
    rw [e]
    rw [e2] at hr
    exact Zmt h ks hm hv.2 hr hq
   cases k with
   | box l0 =>
    cases a with
    | bx r kk =>
     cases kk with
     | succ kk => exact (M.run_fail hm).elim
     | zero =>
      simp only [KR] at hm
      obtain ⟨q0,l5,h5,h6⟩:=M.run_bind_some hm
      obtain ⟨qs,l6,h7,h8⟩:=M.run_bind_some h6
      obtain ⟨h9,_⟩:=M.run_ret h8
      subst h9
      simp only [W5] at hr
      simp only [YK]
      refine ⟨fun b cs T fz cs' T' fz' e1 e2 e3 => ?_,Zmt h ks h7 hv.2 hr.2 (fun q' hq' => hq q' (by simp_all))⟩
      have hold:=hr.1 b cs T fz e1 e2
      cases hh:KN l0 with
      | false =>
       have hz:=Zm0 l0 hh
       exact ZkL (σ:=σ) l0 [] _ _ (by simp [hz]) Q9 Q9
      | true =>
       unfold Zdk at h5
       rw [hh] at h5
       simp only [cond_true,M.run] at h5
       cases hrr:st.tbl r with
       | fresh => simp [hrr,M.run] at h5
       | gone => simp [hrr,M.run] at h5
       | live y =>
        cases y with
        | arr => simp [hrr,M.run] at h5
        | nest => simp [hrr,M.run] at h5
        | box as0 =>
         simp only [hrr] at h5
         have hn:=M.run_ofOpt h5
         obtain ⟨hR,_⟩:=h.res r _ hrr
         obtain ⟨b0,ws,U,f1,f2,f3,f4,_⟩:=X8 hv.1 hR
         rw [e1] at f2
         obtain rfl:b = b0:=by simpa using f2
         rw [e3] at f3
         obtain ⟨rfl,_⟩:cs' = ws ∧ _:=by simpa using f3
         have hnew:=YB l0 as0 hn f4 (Zil l0 cs'.toList)
         exact ZkL (σ:=σ1) l0 q0 _ _ (Zec l0 as0 hn) hold (XF _ _ _ (fun q' hq' => (hq q' (by simp_all)).symm) hnew)
    | _ => exact (M.run_fail hm).elim
   | _ => exact other (by intro l; simp)
  | [],hv => simp [Z0] at hv
theorem Zus (h : RelW G σ lim st tmps w) : (ks : List Kd) → {as : List AV} → {vs : List Value} → Yn as = true → Z0 σ w lim as vs → W5 σ w (ZbE st.tbl ks as) ks vs
  | [], as, vs, hb, hv => by
    grind [W5]
  | k :: ks, [], vs, hb, hv => by
    match vs, hv with
    | [], _ => cases k <;> simp [ZbE, W5]
  | k :: ks, a :: as, vs, hb, hv => by
    match vs, hv with
    | v :: vs, hv =>
      simp only [Z0] at hv
      simp only [Yn, UA, Jh] at hb
      have ih := Zus h ks hb.2 hv.2
      have other : (∀ l, k ≠ .box l) → W5 σ w (ZbE st.tbl (k :: ks) (a :: as)) (k :: ks) (v :: vs) := fun hk => by
        have e : ZbE st.tbl (k :: ks) (a :: as) = ZbE st.tbl ks as := by cases k <;> first | rfl | exact absurd rfl (hk _)
        rw [e]
        have e2 : ∀ nm, W5 σ w nm (k :: ks) (v :: vs) = W5 σ w nm ks vs := by intro nm; cases k <;> first | (cases nm <;> rfl) | exact absurd rfl (hk _)
        rw [e2]; exact ih
      cases k with
      | box l0 =>
        cases a with
        | bx r kk =>
         cases kk with
         | succ kk => simp at hb
         | zero =>
          simp only [ZbE, W5]
          refine ⟨fun b cs T fz e1 e2 => ?_, ih⟩
          cases hh : KN l0 with
          | false => exact Q9
          | true =>
            simp only [cond_true]
            cases hr : st.tbl r with
            | fresh => exact Q9
            | gone => exact Q9
            | live y =>
              cases y with
              | arr => exact Q9
              | nest => exact Q9
              | box as0 =>
                simp only
                cases hn : ZH l0 as0 with
                | none => exact Q9
                | some q =>
                  obtain ⟨hR, _⟩ := h.res r _ hr
                  obtain ⟨b0, ws, U, f1, f2, f3, f4, _⟩ := X8 hv.1 hR
                  rw [e1] at f2
                  obtain rfl : b = b0 := by simpa using f2
                  rw [e2] at f3
                  obtain ⟨rfl, _⟩ : cs = ws ∧ _ := by simpa using f3
                  exact YB l0 as0 hn f4 (Zil l0 cs.toList)
        | _ => simp at hb
      | _ => exact other (by intro l; simp)
    | [], hv => simp [Z0] at hv
theorem ZbF {tbl:Z8} {lim:Nat → Nat} (hres:∀ r x,tbl r = .live x → RR σ w lim r x ∧ Zr tbl (Qf r x)):(ks:List Kd) → (as:List AV) → ∀ q ∈ (ZbE tbl ks as).flatten,∃ r cs,tbl r = .live (.box cs) ∧ q ∈ Zq cs
 | [],as,q,hq => by
  contradiction
 | k :: ks,[],q,hq => by
  have:ZbE tbl (k :: ks) [] = []:=by cases k <;> rfl
  rw [this] at hq; simp at hq
 | k :: ks,a :: as,q,hq => by
  have other:ZbE tbl (k :: ks) (a :: as) = ZbE tbl ks as → ∃ r cs,tbl r = .live (.box cs) ∧ q ∈ Zq cs:=fun e => by
   rw [e] at hq
   exact ZbF hres ks as q hq
  cases k with
  | box l0 =>
   cases a with
   | bx r kk =>
    cases kk with
    | succ kk => exact other rfl
    | zero =>
     simp only [ZbE,List.flatten_cons,Js] at hq
     rcases hq with hq | hq
     ·cases hh:KN l0 with
      | false => rw [hh] at hq; simp at hq
      | true =>
       rw [hh] at hq
       simp only [cond_true] at hq
       cases hr:tbl r with
       | fresh => rw [hr] at hq; simp at hq
       | gone => rw [hr] at hq; simp at hq
       | live y =>
        rw [hr] at hq
        cases y with
        | arr => simp at hq
        | nest => simp at hq
        | box as0 =>
         simp only at hq
         cases hn:ZH l0 as0 with
         | none => rw [hn] at hq; simp at hq
         | some q' => rw [hn] at hq; exact ⟨r,as0,hr,K0 l0 as0 hn q hq⟩
     ·exact ZbF hres ks as q hq
   | _ => exact other rfl
  | _ => exact other rfl
theorem ZQo : {a b:List Nat} → nEq a b = true → a = b
 | [],[],_ => rfl
 | x :: a,y :: b,h => by
  simp only [nEq,Jh] at h
  rw [beq_eq h.1,ZQo h.2]
 | [],_ :: _,h => by simp [nEq] at h
 | _ :: _,[],h => by simp [nEq] at h
theorem ZGV : {a b:List (List Nat)} → ZJQ a b = true → a = b
 | [],[],_ => rfl
 | x :: a,y :: b,h => by
  simp only [ZJQ,Jh] at h
  rw [ZQo h.1,ZGV h.2]
 | [],_ :: _,h => by simp [ZJQ] at h
 | _ :: _,[],h => by simp [ZJQ] at h
theorem Zg5 {w0:World}:(ks:List Kd) → (vs:List Value) → YK w0 w (XS ks) (XT ks vs) → YK w0 w ks vs
 | [],vs,_ => by cases vs <;> simp [YK]
 | k :: ks,[],_ => by cases k <;> simp [YK]
 | k :: ks,v :: vs,h => by
  cases k with
  | box l =>
   simp only [XS,XT,YK] at h ⊢
   exact ⟨h.1,Zg5 ks vs h.2⟩
  | bld T =>
   simp only [XS,XT,YK] at h ⊢
   exact Zg5 ks vs h
  | _ => simp only [XS,XT] at h; simp only [YK]; exact Zg5 ks vs h
theorem Zu0 {rvs:List RV} {vs:List Value} {bs:List Nat} {pk:List Kd} {n:Nat} (hlz:∀ b,w.heap.size ≤ b → lim b = 0) (hgl:ZuG w lim) (hT:TTs w lim rvs vs bs) (hnd:bs.Nodup) (hbs:∀ b ∈ bs,b < w.heap.size)
    (hn:rvs.length ≤ n) (hin:(ZO 0 rvs).2.2 ≤ Z4) (hco:Xo pk (ZO 0 rvs).1 = true) (hb:Yn (Qz (ZM pk) (Qd pk (ZO 0 rvs).1)) = true) :
    ∃ σ,WS ⟨w,lim,bs,Y8 (Qz (ZM pk) (Qd pk (ZO 0 rvs).1)) (XT (ZM pk) (Wp pk vs)) ++ (ZbW pk rvs).flatten.map (fun q => (q,σ q))⟩ n (enter (ZO 0 rvs).1 (ZO 0 rvs).2.1) { tmps:=vs.toArray ++ UB (n - vs.toArray.size) undef,defers:=[] } w ∧
      Z0 σ w lim (Qz (ZM pk) (Qd pk (ZO 0 rvs).1)) (XT (ZM pk) (Wp pk vs)) ∧ vs.length = rvs.length ∧ (Wp pk vs).length = (ZM pk).length ∧ W5 σ w (ZbW pk rvs) (XS (ZM pk)) (XT (ZM pk) (Wp pk vs)):=by
  have h0:RelW ⟨w,lim,bs,[]⟩ (fun _ => undef) lim ⟨fun _ => .dead,fun _ => .fresh⟩ (vs.toArray ++ UB (n - vs.toArray.size) undef) w :=
    { env:=by intro s; simp [RA]
      known:=by intro s; simp [Zf,Zr]
      res:=by intro r x h; simp at h
      inj:=by intro r r' b h; simp [ZS] at h
      own:=by intro r b h; simp [ZS] at h
      ext:=Ext.refl _ _
      keep:=fun _ _ _ => rfl
      same:=⟨rfl,rfl,rfl⟩
      lz:=hlz
      limk:=fun _ _ _ => rfl
      glob:=hgl
      pin:=by intro p hp; simp at hp }
  obtain ⟨σ,hP,hA,hK⟩:=Xx rvs 0 h0 hT (fun _ _ _ => rfl) ⟨hnd,fun b hb => ⟨.inr hb,by intro r h; simp [ZS] at h⟩⟩
  have hlen:vs.length = rvs.length:=by rw [← Zf1 rvs 0]; exact (Zhs hA).symm
  have hfA:=ZoT pk hco hA
  have hL:=ZGP (ZM pk) hfA
  have hfl:(Wp pk vs).length = (ZM pk).length:=by rw [← Zhs hfA]; exact Zq8 pk _ hco
  have hrv:W5 σ w (ZbW pk rvs) (XS (ZM pk)) (XT (ZM pk) (Wp pk vs)):=by
    have:=Zus hP.rel (XS (ZM pk)) hb hL
    simp only at this
    rw [← Zdc] at this
    exact this
  refine ⟨σ,⟨σ,lim,?_,by simp; omega,rfl⟩,hL,hlen,hfl,hrv⟩
  have hR:=hP.rel
  simp only at hR hK
  rw [← Zdc] at hR hK
  have hpin:=ZXp hb hL
  obtain ⟨lw1,lw2⟩:=Zc3 rvs 0
  refine ZVc ?_ (fun p hp => ⟨VZ (lw2 p hp).1 hin,(lw2 p hp).2.1,fun cs hc q hq => VZ ((lw2 p hp).2.2 cs hc q hq) hin⟩) (fun r hr => VZ (lw1 r hr) hin)
    (fun p hp => by
      rcases Js.1 hp with hp | hp
      · exact VZ (lw1 p.1 (ZfN pk _ _ (X0 (ZM pk) _ _ (ZkC _ _ p hp)))) hin
      · obtain ⟨q,hq,rfl⟩:=VF.1 hp
        obtain ⟨r,cs,hr,hqc⟩:=ZbF hR.res (XS (ZM pk)) (Qz (ZM pk) (Qd pk (ZO 0 rvs).1)) q hq
        simp only [Zdc,Z8.put] at hr
        cases hl:ZI (ZO 0 rvs).2.1 r with
        | none => rw [hl] at hr; cases hr
        | some z => rw [hl] at hr; simp only at hr; exact VZ ((lw2 _ (Wq hl)).2.2 cs hr q hqc) hin)
  exact
    { env:=by
        intro s
        rcases Zbe (ZO 0 rvs).1 0 s with h | ⟨j,h1,h2⟩
        · simp only [enter,h,RA]
        · have hs:s = j:=by omega
          subst hs
          have hjl:s < vs.length:=by
            rw [← Zhs hA]
            grind
          have hv:vs[s]? = some vs[s]:=by simp [hjl]
          have:=ZA5 hA h2 hv
          simp only [enter]
          rw [Array.getD_eq_getD_getElem?,Array.getElem?_append_left (by simpa using hjl)]
          simpa [hv] using this
      known:=by
        intro s
        rcases Zbe (ZO 0 rvs).1 0 s with h | ⟨j,h1,h2⟩
        · simp [enter,h,Zf,Zr]
        · intro r hr
          exact hK r (Zuf h2 r hr)
      res:=hR.res,inj:=hR.inj,own:=hR.own,ext:=hR.ext,keep:=hR.keep,same:=hR.same,lz:=hR.lz,limk:=hR.limk,glob:=hR.glob
      pin:=by
        intro p hp
        rcases Js.1 hp with hp | hp
        · refine ⟨hpin p hp,?_⟩
          exact hK p.1 (ZfN pk _ _ (X0 (ZM pk) _ _ (ZkC _ _ p hp)))
        · obtain ⟨q,hq,rfl⟩:=VF.1 hp
          obtain ⟨r,cs,hr,hqc⟩:=ZbF hR.res (XS (ZM pk)) (Qz (ZM pk) (Qd pk (ZO 0 rvs).1)) q hq
          exact ⟨rfl,(hR.res r _ hr).2 q hqc⟩ }
def Zr9 (w:World) (lim:Nat → Nat) (vs:List Value) (bs:List Nat) (pk:List Kd) (r:RV × List RV):Ending → World → Prop:=fun e w' => ∃ v lim' b1 b2,e = .returned v ∧ Ext w lim w' lim' ∧ (∀ b,w'.heap.size ≤ b → lim' b = 0) ∧
   (w'.os = w.os ∧ w'.tape = w.tape ∧ w'.output = w.output) ∧ (∀ b,b < w.heap.size → b ∉ bs → w'.heap[b]? = w.heap[b]? ∧ lim' b = lim b) ∧
   TT w' lim' r.1 v b1 ∧ TL w' lim' (ZM pk) (Wp pk vs) r.2 b2 ∧ YK w w' (ZM pk) (Wp pk vs) ∧ (b1 ++ b2).Nodup ∧ ∀ b ∈ b1 ++ b2,b ∈ bs ∨ w.heap.size ≤ b
theorem Zud {f:Nat} {fn:Func} {code:Code} {pk:List Kd} {rk:Kd} {rvs:List RV} {r:RV × List RV} {vs:List Value} {bs:List Nat} (hf:C.P.funcs[f]? = some fn) (hb:fn.body = some code)
  (hlz:∀ b,w.heap.size ≤ b → lim b = 0) (hgl:ZuG w lim) (hT:TTs w lim rvs vs bs) (hnd:bs.Nodup) (hbs:∀ b ∈ bs,b < w.heap.size) (hbx:Yn (Qz (ZM pk) (Qd pk (ZO 0 rvs).1)) = true) (hn:rvs.length ≤ fn.ntmps) (hin:(ZO 0 rvs).2.2 ≤ Z4) (hco:Xo pk (ZO 0 rvs).1 = true)
  (hwp:∀ (G:Glob),(∀ p ∈ G.pins,p.1 ∈ WN (Qz (ZM pk) (Qd pk (ZO 0 rvs).1)) ++ (ZbW pk rvs).flatten) → WS G fn.ntmps (enter (ZO 0 rvs).1 (ZO 0 rvs).2.1) { tmps:=vs.toArray ++ UB (fn.ntmps - vs.toArray.size) undef,defers:=[] } w →
   code.wp C.P (fun e a w => ∃ e' st',e = Ex.out e' ∧ Y2 C fn.results.toList pk (Qz (ZM pk) (Qd pk (ZO 0 rvs).1)) (ZbW pk rvs) rk some e' st' = some r ∧ WS G fn.ntmps st' a w) { tmps:=vs.toArray ++ UB (fn.ntmps - vs.toArray.size) undef,defers:=[] } w) :
  Calls C.P f vs.toArray w (Zr9 w lim vs bs pk r):=by
 obtain ⟨σ0,hS,hL,hlen,hfl,hRV⟩:=Zu0 (pk:=pk) hlz hgl hT hnd hbs hn hin hco hbx
 refine calls_of_wp hf hb (wp_mono (hwp _ (fun p hp => by
  rcases Js.1 hp with hp | hp
  ·exact JG _ (ZkC _ _ p hp)
  grind) hS) ?_)
 rintro e a' w' ⟨e',st',rfl,hK,hs⟩
 obtain ⟨σ,lim',⟨hR,_⟩,_,hd⟩:=hs
 have leave:(Zri C fn.results.toList pk (Qz (ZM pk) (Qd pk (ZO 0 rvs).1)) (ZbW pk rvs) rk st').runK st'.tbl [] (fun x l => bif Zg7 l then some x else none) = some r →
   a'.defers = [] ∧ ∃ v,(results fn a'.tmps).run C.P w' = .ok v w' ∧ Zr9 w lim vs bs pk r (.returned v) w':=by
  intro hl
  rw [M.runK_eq] at hl
  cases hr:(Zri C fn.results.toList pk (Qz (ZM pk) (Qd pk (ZO 0 rvs).1)) (ZbW pk rvs) rk st').run st'.tbl [] with
  | none => rw [hr] at hl; simp at hl
  | some p =>
   obtain ⟨q,lg⟩:=p
   rw [hr] at hl
   simp only [VJ] at hl
   have hlow:Zg7 lg = true:=by
    grind
   rw [hlow] at hl
   simp only [cond_true,VE.injEq] at hl
   subst hl
   have hr:=ZxN hr hlow
   unfold Zri at hr
   rw [Zhm (st:=st') (st2:=⟨st'.env,XB st'.tbl⟩) rfl] at hr
   obtain ⟨as,l1,h1,hr⟩:=M.run_bind_some hr
   obtain ⟨⟨y,u⟩,l2,h2,hr⟩:=M.run_bind_some hr
   obtain ⟨⟨ys,v⟩,l3,h3,hr⟩:=M.run_bind_some hr
   obtain ⟨nm',l4,h4,hr⟩:=M.run_bind_some hr
   obtain ⟨hok,hr2⟩:=M.run_guard hr
   simp only [Jh] at hok
   obtain ⟨hok,hnm⟩:=hok
   have hnm:=ZGV hnm
   obtain ⟨hq,_⟩:=M.run_ret hr2
   subst hnm
   obtain ⟨rv,r1,r2⟩:=Zst hR h1
   obtain ⟨g1,k1⟩:=ZuB (st:=⟨st'.env,XB st'.tbl⟩) (σ:=σ) (w:=w') (lim:=lim') rk _ h2
   obtain ⟨g2,k2⟩:=W3 (st:=⟨st'.env,XB st'.tbl⟩) (σ:=σ) (w:=w') (lim:=lim') (XS (ZM pk)) _ h3
   obtain ⟨lim2,hR2,hE,hSh,hN,hB⟩:=hR.takes (g1.append g2) hok
   have hLf:Z0 σ w' lim' (Qz (ZM pk) (Qd pk (ZO 0 rvs).1)) (XT (ZM pk) (Wp pk vs)):=ZDS hbx hL fun p hp => (hR.pin p (JG _ hp)).1
   have hStay:YK w w' (ZM pk) (Wp pk vs):=Zg5 _ _ (Zmt hR (XS (ZM pk)) h4 hLf hRV fun q hq => (hR.pin (q,σ0 q) (List.mem_append_right _ (VF.2 ⟨q,hq,rfl⟩))).1)
   refine ⟨hd,rv,r1,rv,lim2,QB σ (ZV u),QB σ (ZV v),rfl,hR2.ext,hR2.lz,hR2.same,fun b hb1 hb2 => ⟨hR2.keep b hb1 hb2,hR2.limk b hb1 hb2⟩,?_,?_,hStay,?_,?_⟩
   ·rw [hq]; exact k1 rv r2 (fun r y hy => (hR.res r y hy).1) lim2 hE hSh.left
   ·rw [hq]; exact ZHd (ZM pk) hfl (k2 _ hLf (fun r y hy => (hR.res r y hy).1) lim2 hE hSh.right)
   ·rw [← ZbQ,← Yv]; exact hN
   ·intro b hb; rw [← ZbQ,← Yv] at hb; exact (hB b hb).1.symm
 cases e' with
 | normal => exact leave hK
 | ret => exact leave hK
 | exit i => simp [Y2] at hK
theorem ZJD (hC:∀ f cal,C.Φ f = some cal → Ctr C.P C.k f cal) (hm:C.P.follows .mixedOrders = true) {A:Nat → Ann} {f k:Nat} {fn:Func} {code:Code} {cal:Callee} {rk:Kd}
  (hf:C.P.funcs[f]? = some fn) (hb:fn.body = some code) (hname:(fn.name == "runtime.NumGoroutine") = false) (hfit:XR C.P fn.ntmps code = true)
  (hlent:∀ rvs x,cal.run k rvs = some x → Yn (Qz (ZM cal.pk) (Qd cal.pk (ZO 0 rvs).1)) = true)
  (hrun:∀ rvs x,cal.run k rvs = some x → ZDV C A fn.ntmps code fn.results.toList cal.pk rk rvs some = some (cal.enc x)):Ctr C.P k f cal where
 enters:=⟨fn,hf,hname,by rw [hb]; rfl⟩
 calls:=by
  intro rvs x hx w lim vs bs hlz hgl hT hnd hbs
  have h:=hrun rvs x hx
  have hbx:=hlent rvs x hx
  unfold ZDV at h
  cases hg:ZTM cal.pk rvs fn.ntmps with
  | false => rw [hg] at h; simp at h
  | true =>
   rw [hg] at h
   simp only [cond_true] at h
   simp only [ZTM,Jh] at hg
   exact Zud (rk:=rk) hf hb hlz hgl hT hnd hbs hbx (Jt hg.1.1) (Jt hg.1.2) hg.2 fun G hp hS => Wx hC hm hp code h hfit hS fun e st' a' w' hK hs => ⟨e,st',rfl,hK,hs⟩
end Go.Sh
namespace Go.Sh
open Go
variable [Gl]
def ZGY:Ex → St → Option (Ex × St):=fun e s => some (e,s)
def Zh9 {R:Type} (K:Ex → St → Option R):Ex × St → Option R:=fun x => K x.1 x.2
theorem Zrn {R:Type} {nm:St → Option St} {b1:St → (Ex → St → Option (Ex × St)) → Option (Ex × St)} {bR:St → (Ex → St → Option R) → Option R}
  (h1:∀ st K,b1 st K = (b1 st ZGY).bind (Zh9 K)) (hb:∀ st K,bR st K = (b1 st ZGY).bind (Zh9 K)):∀ (n:Nat) (st:St) (K:Ex → St → Option R),
  Zhi bR nm n st K = (Zhi b1 nm n st ZGY).bind (Zh9 K)
 | 0,st,K => rfl
 | n + 1,st,K => by
  simp only [Zhi]
  rw [hb]
  conv => rhs; rw [h1]
  rw [Uz]
  congr 1
  funext x
  obtain ⟨e,s⟩:=x
  cases e with
  | exit i => rfl
  | ret => rfl
  | normal =>
   simp only [Zh9]
   cases nm s with
   | none => rfl
   | some s' => exact Zrn h1 hb n s' K
theorem Wi {C:Ctx} {A:Nat → Ann} {kp:List Nat}:(c:Code) → {R:Type} → (st:St) → (K:Ex → St → Option R) → Xp C A kp c st K = (Xp C A kp c st ZGY).bind (Zh9 K)
 | .skip,R,st,K => rfl
 | .label _,R,st,K => rfl
 | .ret,R,st,K => rfl
 | .exit _,R,st,K => rfl
 | .goto _,R,st,K => rfl
 | .refuse _,R,st,K => rfl
 | .rangeFunc _ _ _ _,R,st,K => rfl
 | .region id ops d,R,st,K => by
  simp only [Xp]
  cases d with
  | false => simp only [cond_false,ZxB,Uz]; rfl
  | true =>
   simp only [cond_true,Zk9,Uz]
   congr 1
   funext x
   cases ZaQ ops.toList (YJ ops.toList []) ([] ++ x.2) <;> rfl
 | .seq a b,R,st,K => by
  simp only [Xp]
  rw [Wi a]
  conv => rhs; rw [Wi a]
  rw [Uz]
  congr 1
  funext x
  obtain ⟨e,s⟩:=x
  cases e with
  | normal => exact Wi b s K
  | exit i => rfl
  | ret => rfl
 | .cond c a b,R,st,K => by
  simp only [Xp]
  split
  ·rename_i t _
   cases t with
   | true => simp only [cond_true]; exact Wi a _ K
   | false => simp only [cond_false]; exact Wi b _ K
  ·rfl
 | .block id c,R,st,K => by
  simp only [Xp]
  rw [Wi c]
  conv => rhs; rw [Wi c]
  rw [Uz]
  congr 1
  funext x
  obtain ⟨e,s⟩:=x
  cases e with
  | normal => rfl
  | ret => rfl
  | exit i => simp only [Zh9,ZuS]; cases Ja i id <;> rfl
 | .loop c,R,st,K => by
  simp only [Xp,Uz]
  congr 1
  funext s
  exact Zrn (fun st K => Wi c st K) (fun st K => Wi c st K) C.k s K
 | .scope c,R,st,K => by simp only [Xp]; exact Wi c st K
theorem ZJZ {C:Ctx} {A:Nat → Ann} {n:Nat} {body:Code} {rs:List ResultVar} {pk:List Kd} {rk:Kd} {rvs:List RV} {R:Type} (K:RV × List RV → Option R) :
  ZDV C A n body rs pk rk rvs K = (ZDV C A n body rs pk rk rvs some).bind K:=by
 unfold ZDV
 cases ZTM pk rvs n with
 | false => rfl
 | true =>
  simp only [cond_true]
  rw [Wi]
  conv => rhs; rw [Wi]
  rw [Uz]
  congr 1
  funext x
  obtain ⟨e,s⟩:=x
  simp only [Zh9]
  cases e <;> simp only [Y2,M.runK_eq,Uz,VJ,Option.bind_none]
  all_goals grind
mutual
def Kd.den:Kd → Type
 | .view t => t.den
 | .own t _ => List t.den
 | .box ks => Kd.dens ks
 | .agg ks => Kd.dens ks
 | .tup ks => Kd.dens ks
 | .fn _ => Unit
 | .bld _ => List Int
 | .use _ => List Int
 | .clo _ ks => Kd.dens ks
 | .ref ks => Kd.dens ks
 | .ns t => List t.den
 | .vp t => List t.den
def Kd.dens:List Kd → Type
 | [] => Unit
 | k :: ks => k.den × Kd.dens ks
end
mutual
def enc:(k:Kd) → k.den → RV
 | .view t,x => .view t x
 | .own t sh,xs => .own t sh xs
 | .box ks,x => .box (Wn ks x)
 | .agg ks,x => .agg (Wn ks x)
 | .tup ks,x => .tup (Wn ks x)
 | .fn f,_ => .fn f
 | .bld T,xs => .bld T xs
 | .use T,xs => .bld T xs
 | .clo f ks,x => .clo f (Wn ks x)
 | .ref ks,x => .box (Wn ks x)
 | .ns t,xs => .ns t xs
 | .vp t,xs => .vp t xs
def Wn:(ks:List Kd) → Kd.dens ks → List RV
 | [],_ => []
 | k :: ks,x => enc k x.1 :: Wn ks x.2
end
def ZkX (t:Ty):RV → Option t.den
 | .view t' x => if h:t' = t then some (h ▸ x:t.den) else none
 | _ => none
def ZKy (t:Ty) (sh:Bool):RV → Option (List t.den)
 | .own t' sh' xs => if h:t' = t then (bif sh == sh' then some (h ▸ xs:List t.den) else none) else none
 | _ => none
def ZEf:RV → Option (List RV)
 | .box cs => some cs
 | _ => none
def asAgg:RV → Option (List RV)
 | .agg cs => some cs
 | _ => none
def ZKA:RV → Option (List RV)
 | .tup cs => some cs
 | _ => none
def ZU2 (f:Nat):RV → Option Unit
 | .fn g => bif Ja f g then some () else none
 | _ => none
def ZKw (f:Nat):RV → Option (List RV)
 | .clo g cs => bif Ja f g then some cs else none
 | _ => none
def ZU3 (t:Ty):RV → Option (List t.den)
 | .ns t' xs => if h:t' = t then some (h ▸ xs:List t.den) else none
 | _ => none
def ZU4 (t:Ty):RV → Option (List t.den)
 | .vp t' xs => if h:t' = t then some (h ▸ xs:List t.den) else none
 | _ => none
def ZEe (T:TypeId):RV → Option (List Int)
 | .bld U xs => bif Ja T U then some xs else none
 | _ => none
mutual
def dec:(k:Kd) → RV → Option k.den
 | .view t,r => ZkX t r
 | .own t sh,r => ZKy t sh r
 | .box ks,r => (ZEf r).bind (Zdn ks)
 | .agg ks,r => (asAgg r).bind (Zdn ks)
 | .tup ks,r => (ZKA r).bind (Zdn ks)
 | .fn f,r => ZU2 f r
 | .bld T,r => ZEe T r
 | .use T,r => ZEe T r
 | .clo f ks,r => (ZKw f r).bind (Zdn ks)
 | .ref ks,r => (ZEf r).bind (Zdn ks)
 | .ns t,r => ZU3 t r
 | .vp t,r => ZU4 t r
def Zdn:(ks:List Kd) → List RV → Option (Kd.dens ks)
 | [],[] => some ()
 | [],_ :: _ => none
 | _ :: _,[] => none
 | k :: ks,x :: xs => (dec k x).bind fun y => (Zdn ks xs).bind fun ys => some (y,ys)
end
theorem ZHl {t:Ty} {r:RV} {x:t.den} (h:ZkX t r = some x):r = .view t x:=by
 unfold ZkX at h
 grind
theorem ZKz {t:Ty} {sh:Bool} {r:RV} {x:List t.den} (h:ZKy t sh r = some x):r = .own t sh x:=by
 unfold ZKy at h
 grind
theorem Zx8 {r:RV} {cs:List RV} (h:ZEf r = some cs):r = .box cs:=by unfold ZEf at h; split at h <;> simp at h; rw [h]
theorem ZKv {r:RV} {cs:List RV} (h:asAgg r = some cs):r = .agg cs:=by unfold asAgg at h; split at h <;> simp at h; rw [h]
theorem ZKB {r:RV} {cs:List RV} (h:ZKA r = some cs):r = .tup cs:=by unfold ZKA at h; split at h <;> simp at h; rw [h]
theorem ZRe {f:Nat} {r:RV} {x:Unit} (h:ZU2 f r = some x):r = .fn f:=by
 unfold ZU2 at h
 split at h
 ·rename_i g
  cases hb:Ja f g with
  | false => rw [hb] at h; simp at h
  | true => rw [beq_eq hb]
 ·cases h
theorem ZKx {f:Nat} {r:RV} {cs:List RV} (h:ZKw f r = some cs):r = .clo f cs:=by
 unfold ZKw at h
 split at h
 ·rename_i g l
  cases hb:Ja f g with
  | false => rw [hb] at h; simp at h
  | true => simp_all
 ·cases h
theorem ZRf {t:Ty} {r:RV} {x:List t.den} (h:ZU3 t r = some x):r = .ns t x:=by
 unfold ZU3 at h
 grind
theorem ZRg {t:Ty} {r:RV} {x:List t.den} (h:ZU4 t r = some x):r = .vp t x:=by
 unfold ZU4 at h
 split at h
 ·split at h
  ·rename_i e; subst e; simp at h; rw [h]
  ·cases h
 ·cases h
theorem Zx7 {T:TypeId} {r:RV} {x:List Int} (h:ZEe T r = some x):r = .bld T x:=by
 unfold ZEe at h
 split at h
 ·rename_i U xs
  cases hb:Ja T U with
  | false => rw [hb] at h; simp at h
  | true => simp_all
 ·cases h
mutual
theorem ZEl:(k:Kd) → (r:RV) → (x:k.den) → dec k r = some x → r = enc k x
 | .view t,r,x,h => by simp only [dec] at h; simp only [enc]; exact ZHl h
 | .own t sh,r,x,h => by simp only [dec] at h; simp only [enc]; exact ZKz h
 | .box ks,r,x,h => by
  simp only [dec] at h
  obtain ⟨cs,h1,h2⟩:=Uy.1 h
  simp only [enc,Zx8 h1,QF ks cs x h2]
 | .agg ks,r,x,h => by
  simp only [dec] at h
  obtain ⟨cs,h1,h2⟩:=Uy.1 h
  simp only [enc,ZKv h1,QF ks cs x h2]
 | .tup ks,r,x,h => by
  simp only [dec] at h
  obtain ⟨cs,h1,h2⟩:=Uy.1 h
  simp only [enc,ZKB h1,QF ks cs x h2]
 | .fn f,r,x,h => by simp only [dec] at h; simp only [enc]; exact ZRe h
 | .bld T,r,x,h => by simp only [dec] at h; simp only [enc]; exact Zx7 h
 | .use T,r,x,h => by simp only [dec] at h; simp only [enc]; exact Zx7 h
 | .clo f ks,r,x,h => by
  simp only [dec] at h
  obtain ⟨cs,h1,h2⟩:=Uy.1 h
  simp only [enc,ZKx h1,QF ks cs x h2]
 | .ns t,r,x,h => by simp only [dec] at h; simp only [enc]; exact ZRf h
 | .vp t,r,x,h => by simp only [dec] at h; simp only [enc]; exact ZRg h
 | .ref ks,r,x,h => by
  simp only [dec] at h
  obtain ⟨cs,h1,h2⟩:=Uy.1 h
  simp only [enc,Zx8 h1,QF ks cs x h2]
theorem QF:(ks:List Kd) → (rs:List RV) → (x:Kd.dens ks) → Zdn ks rs = some x → rs = Wn ks x
 | [],[],x,h => rfl
 | k :: ks,r :: rs,x,h => by
  simp only [Zdn] at h
  obtain ⟨y,h1,h⟩:=Uy.1 h
  obtain ⟨ys,h2,h⟩:=Uy.1 h
  cases h
  simp only [Wn,← ZEl k r y h1,← QF ks rs ys h2]
 | [],_ :: _,x,h => by simp [Zdn] at h
 | _ :: _,[],x,h => by simp [Zdn] at h
end
theorem ZmL:(ks:List Kd) → (x:Kd.dens ks) → (Wn ks x).length = ks.length
 | [],_ => rfl
 | k :: ks,x => by simp only [Wn,JF,ZmL ks]
theorem Zxs {ks ls:List Kd} {as bs:List AV} (h:ks.length = as.length):Qz (ks ++ ls) (as ++ bs) = Qz ks as ++ Qz ls bs:=by
 induction ks generalizing as with
 | nil =>
  grind [Qz]
 | cons k ks ih =>
  cases as with
  | nil => simp at h
  | cons a as =>
   have ih:=ih (as:=as) (by simpa using h)
   cases k <;> simp [Qz,ih]
theorem ZuU (a b:List AV):Yn (a ++ b) = (Yn a && Yn b):=by simp [Yn]
theorem ZmF:(ks:List Kd) → (x:Kd.dens ks) → (n:Nat) → Yn (Qz ks (ZO n (Wn ks x)).1) = true
 | [],_,n => rfl
 | k :: ks,x,n => by
  have ih:=ZmF ks x.2
  cases k with
  | box l =>
   simp only [Wn,enc,ZO,put,Qz,Yn,UA,UC] at ih ⊢
   exact ih _
  | bld T =>
   simp only [Wn,enc,ZO,put,Qz,Yn,UA,UC] at ih ⊢
   exact ih _
  | _ => grind [Wn,enc,ZO,Qz]
theorem Zpg:(ks:List Kd) → (x:Kd.dens ks) → (n:Nat) → Yn (Qz (ZM ks) (Qd ks (ZO n (Wn ks x)).1)) = true
 | [],_,n => rfl
 | k :: ks,x,n => by
  have ih:=Zpg ks x.2
  cases k with
  | box l =>
   simp only [Wn,enc,ZO,put,ZM,Qd,Qz,Yn,UA,UC] at ih ⊢
   exact ih _
  | bld T =>
   simp only [Wn,enc,ZO,put,ZM,Qd,Qz,Yn,UA,UC] at ih ⊢
   exact ih _
  | clo f l =>
   simp only [Wn,enc,ZO,put,ZM,Qd]
   rw [Zxs (by rw [Zf1]; exact (ZmL l x.1).symm),ZuU,Jh]
   exact ⟨ZmF l x.1 n,ih _⟩
  | _ => grind [Wn,enc,ZO,ZM,Qd,Qz]
abbrev Ans (pk:List Kd) (rk:Kd):Type:=rk.den × Kd.dens (XS (ZM pk))
def ZKN (pk:List Kd) (rk:Kd) (r:RV × List RV):Option (Ans pk rk):=(dec rk r.1).bind fun x => (Zdn (XS (ZM pk)) r.2).bind fun l => some (x,l)
def ZVb (pk:List Kd) (rk:Kd) (x:Ans pk rk):RV × List RV:=(enc rk x.1,Wn (XS (ZM pk)) x.2)
theorem ZHy {pk:List Kd} {rk:Kd} {r:RV × List RV} {x:Ans pk rk} (h:ZKN pk rk r = some x):r = ZVb pk rk x:=by
 unfold ZKN at h
 obtain ⟨y,h1,h⟩:=Uy.1 h
 obtain ⟨ys,h2,h⟩:=Uy.1 h
 cases h
 obtain ⟨a,b⟩:=r
 simp only [ZVb,← ZEl rk a y h1,← QF (XS (ZM pk)) b ys h2]
def mk (pk:List Kd) (rk:Kd) (F:Nat → Kd.dens pk → Option (Ans pk rk)):Callee :=
 { ρ:=Ans pk rk,pk:=pk,run:=fun k rvs => (Zdn pk rvs).bind (F k),enc:=ZVb pk rk }
theorem ZTz {C:Ctx} (hC:∀ f cal,C.Φ f = some cal → Ctr C.P C.k f cal) (hm:C.P.follows .mixedOrders = true) {A:Nat → Ann} {f k:Nat} {fn:Func} {code:Code} {pk:List Kd} {rk:Kd} {F:Nat → Kd.dens pk → Option (Ans pk rk)}
  (hf:C.P.funcs[f]? = some fn) (hb:fn.body = some code) (hname:(fn.name == "runtime.NumGoroutine") = false) (hfit:XR C.P fn.ntmps code = true)
  (h:∀ x y,F k x = some y → ZDV C A fn.ntmps code fn.results.toList pk rk (Wn pk x) (ZKN pk rk) = some y):Ctr C.P k f (mk pk rk F):=by
 refine ZJD (A:=A) (rk:=rk) hC hm hf hb hname hfit (fun rvs x hx => ?_) (fun rvs x hx => ?_)
 ·simp only [mk] at hx ⊢
  obtain ⟨y,h1,h2⟩:=Uy.1 hx
  rw [QF pk rvs y h1]
  exact Zpg pk y 0
 ·simp only [mk] at hx ⊢
  obtain ⟨y,h1,h2⟩:=Uy.1 hx
  have h3:=h y x h2
  rw [← QF pk rvs y h1,ZJZ] at h3
  obtain ⟨r,h4,h5⟩:=Uy.1 h3
  rw [h4,ZHy h5]
def phi:List (Nat × Callee) → Nat → Option Callee
 | [],_ => none
 | (f,c) :: l,g => bif Ja g f then some c else phi l g
theorem ZxE {P:Program} {k:Nat}:∀ {l:List (Nat × Callee)},(∀ p ∈ l,Ctr P k p.1 p.2) → ∀ f cal,phi l f = some cal → Ctr P k f cal
 | [],_,f,cal,h => by simp [phi] at h
 | (g,c) :: l,hl,f,cal,h => by
  simp only [phi] at h
  cases hb:Ja f g with
  | true => simp_all
  | false => rw [hb] at h; exact ZxE (fun p hp => hl p (by simp [hp])) f cal h
theorem ZEi {P:Program} {k:Nat}:∀ p ∈ ([]:List (Nat × Callee)),Ctr P k p.1 p.2:=by intro p hp; simp at hp
theorem ZXP {P:Program} {k f:Nat} {c:Callee} {l:List (Nat × Callee)} (h:Ctr P k f c) (hl:∀ p ∈ l,Ctr P k p.1 p.2):∀ p ∈ (f,c) :: l,Ctr P k p.1 p.2:=by
 simp_all
def Ze {V R:Type} (step:(V → Option R) → V → Option R):Nat → V → Option R
 | 0,_ => none
 | n + 1,v => step (Ze step n) v
theorem ZAz {V R:Type} {L:Nat → V → Option R} {step:(V → Option R) → V → Option R} (h0:∀ v,L 0 v = none) (h:∀ n v,L (n + 1) v = step (L n) v):∀ n,L n = Ze step n
 | 0 => funext h0
 | n + 1 => funext fun v => by rw [h,ZAz h0 h n]; rfl
section
variable {R:Type}
def place (C:Ctx) (A:Nat → Ann) (kp:List Nat):List Nat → List Nat → Code → (Ex → St → Option R) → Code × (Ex → St → Option R)
 | 0 :: p,ns,.seq a b,K => place C A kp p ns a (ZQG (fun s => Xp C A kp b s K) K)
 | _ :: p,ns,.seq _ b,K => place C A kp p ns b K
 | 0 :: p,ns,.cond _ a _,K => place C A kp p ns a K
 | _ :: p,ns,.cond _ _ b,K => place C A kp p ns b K
 | _ :: p,ns,.block id c,K => place C A kp p ns c (ZuS id K)
 | _ :: p,ns,.scope c,K => place C A kp p ns c K
 | _ :: p,n :: ns,.loop c,K => place C A kp p ns c fun e s => match e with
  | .normal => (Zsq kp (A (Qs c)) s).bind fun s => Zhi (Xp C A kp c) (Zsq kp (A (Qs c))) n s K
  | .exit i => K (.exit i) s
  | .ret => K .ret s
 | _,_,c,K => (c,K)
def ZXh (C:Ctx) (A:Nat → Ann) (kp:List Nat) (p ns:List Nat) (code:Code) (K:Ex → St → Option R) (n:Nat) (st:St):Option R :=
 match place C A kp p ns code K with
 | (.loop c,K) => Zhi (Xp C A kp c) (Zsq kp (A (Qs c))) n st K
 | _ => none
end
end Go.Sh
