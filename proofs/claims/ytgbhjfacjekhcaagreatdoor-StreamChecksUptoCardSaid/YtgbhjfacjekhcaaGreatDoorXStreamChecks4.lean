/-
  What the row needs, part 4.
-/
import Derived.Test.YtgbhjfacjekhcaaGreatDoorXStreamChecks3
import Derived.Scope
import Derived.LoopN
set_option linter.unusedSimpArgs false
set_option linter.unusedVariables false
set_option linter.unusedSectionVars false
namespace Go.Sh
open Go
variable [Gl]
variable {C:Ctx} {G:Glob} {σ:Wc} {w:World} {lim:Nat → Nat} {st:St} {a:Act}
def Ex.out:Ex → Exit
 | .normal => .normal
 | .exit i => .exit i
 | .ret => .ret
def WR (P:Program) (n:Nat):Code → Bool
 | .region _ ops _ => Zof P n ops.toList
 | .seq a b => WR P n a && WR P n b
 | .cond _ a b => WR P n a && WR P n b
 | .block _ c => WR P n c
 | .loop c => WR P n c
 | .scope c => WR P n c
 | _ => true
def QZ (G:Glob) (n:Nat) (st:St) (a:Act) (w:World):Prop := ∃ σ lim,QM G σ lim st a.tmps w ∧ a.tmps.size = n ∧ a.defers = []
theorem ZGy {n:Nat} (h:QZ G n st a w) {c:Operand} {t:Bool} (hc:Yr st.env c = .val (.v (.bool t))):a.eval c = .bool t:=by
 obtain ⟨σ,lim,h,_,_⟩:=h
 have:=(Zr h.1 c).1
 grind [RA,RP]
theorem ZgQ {n:Nat} (h:QZ G n st a w) {q:Nat} (hq:q < ZS):QZ G n (Zy6 st q) a w:=by
 obtain ⟨σ,lim,h,h2,h3⟩:=h
 unfold Zy6
 split
 ·rename_i t xss hT
  obtain ⟨lim',h4⟩:=RelW.melt h.1 h.2 hq hT
  exact ⟨σ,lim',h4,h2,h3⟩
 ·exact ⟨σ,lim,h,h2,h3⟩
theorem Zrd {n:Nat} (h:QZ G n st a w) (id:Nat):QZ G n (Zdj C id st) a w:=by
 have hL:Low G st:=by obtain ⟨_,_,⟨_,hL⟩,_,_⟩:=h; exact hL
 unfold Zdj
 split
 ·split
  ·rename_i s _ _ q hs
   exact ZgQ h (hL.env s q (by rw [hs]; simp [Ze]))
  ·exact h
 ·split
  ·rename_i s k _ _ r hs
   unfold ZKq
   split
   ·rename_i cs hr
    split
    ·rename_i q hq
     exact ZgQ h (hL.box r cs hr q (XK (List.mem_of_getElem? hq) (by simp [Ze])))
    ·exact h
   ·exact h
  ·exact h
 ·exact h
theorem QN (hC:∀ f cal,C.Φ f = some cal → Ctr C.P C.k f cal) (hm:C.P.follows .mixedOrders = true) {A:Nat → Ann} {kp:List Nat} (hk:∀ p ∈ G.pins,p.1 ∈ kp) {n:Nat} {R:Type} {r:R} :
  (c:Code) → {st:St} → {K:Ex → St → Option R} → Ws C A kp c st K = some r → WR C.P n c = true → {a:Act} → {w:World} → QZ G n st a w → {Q:Exit → Act → World → Prop} →
  (∀ e st' a' w',K e st' = some r → QZ G n st' a' w' → Q e.out a' w') → c.wp C.P Q a w
 | .skip,st,K,h,hf,a,w,hs,Q,hQ => wp_skip (hQ .normal st a w h hs)
 | .label _,st,K,h,hf,a,w,hs,Q,hQ => wp_label (hQ .normal st a w h hs)
 | .ret,st,K,h,hf,a,w,hs,Q,hQ => wp_ret (hQ .ret st a w h hs)
 | .exit i,st,K,h,hf,a,w,hs,Q,hQ => wp_exit (hQ (.exit i) st a w h hs)
 | .region id ops d,st,K,h,hf,a,w,hs,Q,hQ => by
  simp only [Ws] at h
  simp only [WR] at hf
  obtain ⟨σ,lim,hR,hn,hd⟩:=Zrd (C:=C) hs id
  have hb:∃ stf lgs,Zgd C id ops.toList ops.toList 0 (Zdj C id st) = some (stf,lgs) ∧ (d = true → YM ops.toList (Xv ops.toList []) lgs = true) ∧ K .normal stf = some r:=by
   cases d with
   | false =>
    simp only [cond_false,Zrj] at h
    cases ho:Zgd C id ops.toList ops.toList 0 (Zdj C id st) with
    | none => rw [ho] at h; simp at h
    | some x => grind
   | true =>
    simp only [cond_true,Zfx,List.nil_append] at h
    cases ho:Zgd C id ops.toList ops.toList 0 (Zdj C id st) with
    | none => rw [ho] at h; simp at h
    | some x =>
     grind
  obtain ⟨stf,lgs,h1,h2,h3⟩:=hb
  exact Zrn hC hm hf hR hn hd h1 h2 fun a' w' σ' lim' hR' hn' hd' => hQ .normal stf a' w' h3 ⟨σ',lim',hR',hn',hd'⟩
 | .seq x y,st,K,h,hf,a,w,hs,Q,hQ => by
  simp only [Ws] at h
  simp only [WR,Bool.and_eq_true] at hf
  refine wp_seq (QN hC hm hk x h hf.1 hs fun e st' a' w' hK hs' => ?_)
  cases e with
  | normal => exact QN hC hm hk y hK hf.2 hs' hQ
  | exit i => exact hQ (.exit i) st' a' w' hK hs'
  | ret => exact hQ .ret st' a' w' hK hs'
 | .cond c x y,st,K,h,hf,a,w,hs,Q,hQ => by
  simp only [Ws] at h
  simp only [WR,Bool.and_eq_true] at hf
  split at h
  ·rename_i t hc
   have e1:=ZGy hs hc
   cases t with
   | true =>
    refine wp_cond_true e1 (QN hC hm (A:=A) hk x (K:=K) ?_ hf.1 hs hQ)
    cases c with
    | tmp d => simp_all [Yr,cond_true,Zgm hc]
    | _ => exact h
   | false =>
    refine wp_cond_false e1 (QN hC hm (A:=A) hk y (K:=K) ?_ hf.2 hs hQ)
    cases c with
    | tmp d => simp_all [Yr,cond_false,Zgm hc]
    | _ => exact h
  ·simp at h
 | .block id c,st,K,h,hf,a,w,hs,Q,hQ => by
  simp only [Ws] at h
  simp only [WR] at hf
  refine wp_block (QN hC hm hk c h hf hs fun e st' a' w' hK hs' => ?_)
  cases e with
  | normal => exact hQ .normal st' a' w' hK hs'
  | ret => exact hQ .ret st' a' w' hK hs'
  | exit i =>
   simp only [ZoL] at hK
   simp only [Ex.out,Exit.inBlock]
   cases hb:Nat.beq i id with
   | true => rw [hb] at hK; rw [if_pos (beq_eq hb)]; exact hQ .normal st' a' w' hK hs'
   | false =>
    rw [hb] at hK
    rw [if_neg (by rintro rfl; rw [Xg] at hb; cases hb)]
    exact hQ (.exit i) st' a' w' hK hs'
 | .loop c,st,K,h,hf,a,w,hs,Q,hQ => by
  simp only [Ws] at h
  simp only [WR] at hf
  have key:∀ (m:Nat) (st:St) (a:Act) (w:World),ZcP (Ws C A kp c) (ZlZ kp (A (Z8 c))) m st K = some r → QZ G n st a w → Code.rounds C.P c Q m a w:=by
   intro m
   induction m with
   | zero => intro st a w h; simp [ZcP] at h
   | succ m ih =>
    intro st a w h hs
    rw [rounds_succ]
    simp only [ZcP] at h
    refine QN hC hm hk c h hf hs fun e st' a' w' hK hs' => ?_
    cases e with
    | ret => exact hQ .ret st' a' w' hK hs'
    | exit i => exact hQ (.exit i) st' a' w' hK hs'
    | normal =>
     cases hn:ZlZ kp (A (Z8 c)) st' with
     | none => rw [hn] at hK; simp at hK
     | some s =>
      rw [hn] at hK
      obtain ⟨σ,lim,hR,q1,q2⟩:=hs'
      obtain ⟨σ2,lim2,hR2⟩:=Zlj hR hk hn
      exact ih s a' w' hK ⟨σ2,lim2,hR2,q1,q2⟩
  cases hn:ZlZ kp (A (Z8 c)) st with
  | none => rw [hn] at h; simp at h
  | some s =>
   rw [hn] at h
   obtain ⟨σ,lim,hR,q1,q2⟩:=hs
   obtain ⟨σ2,lim2,hR2⟩:=Zlj hR hk hn
   exact wp_loop_rounds C.k (key C.k s a w h ⟨σ2,lim2,hR2,q1,q2⟩)
 | .scope c,st,K,h,hf,a,w,hs,Q,hQ => by
  simp only [Ws] at h
  simp only [WR] at hf
  refine wp_scope_straight (QN hC hm hk c h hf hs fun e st' a' w' hK hs' => ?_)
  cases e <;> exact hQ _ st' a' w' hK hs'
 | .rangeFunc _ _ _ _,st,K,h,hf,a,w,hs,Q,hQ => by simp [Ws] at h
 | .goto _,st,K,h,hf,a,w,hs,Q,hQ => by simp [Ws] at h
end Go.Sh
namespace Go.Sh
open Go
variable [Gl]
variable {C:Ctx} {G:Glob} {σ:Wc} {w:World} {lim:Nat → Nat} {st:St} {tmps:Array Value}
theorem Zxd {P:Program} {T:TypeId} {v x:Value} (h:(Instr.loadAt T v).run P w = .ok x w):(asAddr v >>= fun p => loadVar T p:Sem Value).run P w = .ok x w:=by
 unfold Instr.loadAt at h
 unfold Instr.sureAddr at h
 split at h
 ·simpa [asAddr] using h
 ·simp [stuck,Sem.run_bind] at h
def Zlw (tmps:Array Value):ResultVar → Sem Value
 | .tmp t => pure (tmps.getD t undef)
 | .cell a t => do loadVar t (← asAddr (tmps.getD a undef))
theorem Zlv (h:RelW G σ lim st tmps w) {r:ResultVar} {l l':List Nat} {x:AV} (hm:(KV C st r).run st.tbl l = some (x,l')) :
  ∃ v,(Zlw tmps r).run C.P w = .ok v w ∧ RA σ w lim x v ∧ Zp st.tbl (Ze x):=by
 cases r with
 | tmp t =>
  obtain ⟨rfl,_⟩:=M.run_ret hm
  exact ⟨_,rfl,h.env t,h.known t⟩
 | cell a T =>
  simp only [KV] at hm
  obtain ⟨e,l1,h1,h2⟩:=M.run_bind_some hm
  obtain ⟨rfl,_⟩:=M.run_ret h2
  obtain ⟨v,e1,e2,e3,e4⟩:=Zla h1 (h.env a) h.res
  exact ⟨v,Zxd e1,e2,e3⟩
theorem ZaX (h:RelW G σ lim st tmps w):(rs:List ResultVar) → {l l':List Nat} → {xs:List AV} → (Xf C st rs).run st.tbl l = some (xs,l') →
  ∃ vs,(rs.mapM (Zlw tmps)).run C.P w = .ok vs w ∧ ZQ σ w lim xs vs ∧ Zp st.tbl (Zl xs)
 | [],l,l',xs,hm => by
  obtain ⟨rfl,_⟩:=M.run_ret hm
  simp_all [ZQ,Zl,Zp]
 | r :: rs,l,l',xs,hm => by
  simp only [Xf] at hm
  obtain ⟨x,l1,h1,h2⟩:=M.run_bind_some hm
  obtain ⟨ys,l2,h3,h4⟩:=M.run_bind_some h2
  obtain ⟨rfl,_⟩:=M.run_ret h4
  obtain ⟨v,e1,e2,e3⟩:=Zlv h h1
  obtain ⟨vs,f1,f2,f3⟩:=ZaX h rs h3
  refine ⟨v :: vs,?_,by simp only [ZQ]; exact ⟨e2,f2⟩,?_⟩
  ·simp_all
  ·intro i hi; simp only [Zl,List.mem_append] at hi; rcases hi with hi | hi; exact e3 i hi; exact f3 i hi
theorem ZcS {st st2:St} (he:st2.env = st.env):∀ (rs:List ResultVar),Xf C st rs = Xf C st2 rs
 | [] => rfl
 | r :: rs => by
  have h1:KV C st r = KV C st2 r:=by cases r <;> simp only [KV,he]
  simp only [Xf,h1,ZcS he rs]
theorem Zl0 (h:RelW G σ lim st tmps w) {fn:Func} {l l':List Nat} {xs:List AV} (hm:(Xf C st fn.results.toList).run st.tbl l = some (xs,l')) :
  ∃ v,(results fn tmps).run C.P w = .ok v w ∧ RA σ w lim (match (generalizing:=false) xs with | [a] => a | as => .tup as) v:=by
 obtain ⟨vs,e1,e2,e3⟩:=ZaX h _ hm
 have e0:results fn tmps = (do let vs ← fn.results.mapM (Zlw tmps); pure (if h:vs.size = 1 then vs[0] else .tuple vs)):=by
  unfold results
  congr 1
 rw [e0,Array.mapM_eq_mapM_toList]
 match xs,vs,e2 with
 | [x],[v],e2 =>
  simp_all [ZQ,Sem.run_bind,Sem.run_map,e1]
 | [],[],e2 =>
  simp_all [RA,ZQ,Sem.run_bind,Sem.run_map,e1]
 | x :: y :: xs,v :: u :: vs,e2 =>
  simp_all [RA,Sem.run_bind,Sem.run_map,e1]
 | [],_ :: _,e2 => simp [ZQ] at e2
 | _ :: _,[],e2 => simp [ZQ] at e2
 | [_],_ :: _ :: _,e2 => simp [ZQ] at e2
 | _ :: _ :: _,[_],e2 => simp [ZQ] at e2
def WU:List Kd → List Value → List Value
 | .box _ :: l,a :: as => a :: WU l as
 | .bld _ :: l,a :: as => a :: WU l as
 | _ :: l,_ :: as => WU l as
 | _,_ => []
def XP:List AV → List Value → List (Nat × Value)
 | .bx r _ :: l,v :: vs => (r,v) :: XP l vs
 | _ :: l,_ :: vs => XP l vs
 | _,_ => []
theorem Ze9:(as:List AV) → (vs:List Value) → ∀ p ∈ XP as vs,p.1 ∈ QX as
 | [],vs,p,hp => by cases vs <;> simp [XP] at hp
 | x :: as,[],p,hp => by cases x <;> simp [XP] at hp
 | x :: as,v :: vs,p,hp => by
  cases x with
  | bx r k =>
   simp only [XP,List.mem_cons] at hp
   simp only [QX,List.mem_cons]
   rcases hp with rfl | hp
   ·exact .inl rfl
   ·exact .inr (Ze9 as vs p hp)
  | _ => simp only [XP] at hp; simp only [QX]; exact Ze9 as vs p hp
theorem Zy5:(pk:List Kd) → {as:List AV} → {vs:List Value} → ZQ σ w lim as vs → ZQ σ w lim (Qd pk as) (WU pk vs)
 | [],as,vs,h => by grind [Qd,WU,ZQ]
 | k :: pk,as,vs,h => by
  match as,vs,h with
  | [],[],h => cases k <;> simp [Qd,WU,ZQ]
  | x :: as,v :: vs,h =>
   simp only [ZQ] at h
   have ih:=Zy5 pk h.2
   cases k <;> simp only [Qd,WU,ZQ] <;> first | exact ih | exact ⟨h.1,ih⟩
  | [],_ :: _,h => simp [ZQ] at h
  | _ :: _,[],h => simp [ZQ] at h
def Xh (as:List AV):Bool:=as.all fun | .bx _ 0 => true | _ => false
theorem ZMX {as:List AV} {vs:List Value} (hb:Xh as = true) (h:ZQ σ w lim as vs):∀ p ∈ XP as vs,σ p.1 = p.2:=by
 induction as generalizing vs with
 | nil => grind [XP]
 | cons x as ih =>
  cases vs with
  | nil => simp [ZQ] at h
  | cons v vs =>
   simp only [ZQ] at h
   simp only [Xh,List.all_cons,Bool.and_eq_true] at hb
   intro p hp
   obtain ⟨hb1,hb2⟩:=hb
   split at hb1
   ·rename_i r
    simp only [XP,List.mem_cons] at hp
    rcases hp with rfl | hp
    ·grind [RA]
    ·exact ih hb2 h.2 p hp
   ·cases hb1
theorem Zxp {σ':Wc} {w':World} {lim':Nat → Nat} {as:List AV} {vs:List Value} (hb:Xh as = true) (h:ZQ σ w lim as vs) (hp:∀ p ∈ XP as vs,σ' p.1 = p.2):ZQ σ' w' lim' as vs:=by
 induction as generalizing vs with
 | nil => cases vs <;> simp [ZQ] at h ⊢
 | cons x as ih =>
  cases vs with
  | nil => simp [ZQ] at h
  | cons v vs =>
   simp only [ZQ] at h ⊢
   simp only [Xh,List.all_cons,Bool.and_eq_true] at hb
   obtain ⟨hb1,hb2⟩:=hb
   split at hb1
   ·rename_i r
    simp only [XP,List.mem_cons] at hp
    refine ⟨?_,ih hb2 h.2 fun p hm => hp p (.inr hm)⟩
    have h1:=h.1
    simp only [RA] at h1 ⊢
    obtain ⟨b,e1,e2⟩:=h1
    simp_all
   ·cases hb1
theorem Zzm:(pk:List Kd) → {vs:List Value} → {rs:List RV} → {bs:List Nat} → vs.length = pk.length → TTs w lim rs (WU pk vs) bs → TL w lim pk vs rs bs
 | [],[],rs,bs,_,h => by
  grind [WU,TL,TTs]
 | k :: pk,v :: vs,rs,bs,hl,h => by
  have hl':vs.length = pk.length:=by simpa using hl
  cases k with
  | box l =>
   simp only [WU] at h
   cases rs with
   | nil => simp [TTs] at h
   | cons x rs =>
    simp only [TTs] at h
    simp only [TL]
    obtain ⟨b1,b2,e,h1,h2⟩:=h
    exact ⟨b1,b2,e,h1,Zzm pk hl' h2⟩
  | bld T =>
   simp only [WU] at h
   cases rs with
   | nil => simp [TTs] at h
   | cons x rs =>
    simp only [TTs] at h
    simp only [TL]
    obtain ⟨b1,b2,e,h1,h2⟩:=h
    exact ⟨b1,b2,e,h1,Zzm pk hl' h2⟩
  | _ => simp only [WU] at h; simp only [TL]; exact Zzm pk hl' h
 | [],_ :: _,rs,bs,hl,_ => by simp at hl
 | _ :: _,[],rs,bs,hl,_ => by simp at hl
theorem KZ:∀ (u:Qw),Zm u = ZU.put (fun _ => .fresh) u
 | [] => rfl
 | (a,x) :: u => by
  funext r
  simp only [Zm,ZU.put,ZB,KZ u]
  grind
theorem YX:∀ (as:List AV) (i s:Nat),Zo (index i as) s = .dead ∨ ∃ j,s = i + j ∧ as[j]? = some (Zo (index i as) s)
 | [],i,s => .inl rfl
 | x :: as,i,s => by
  simp only [index,Zo]
  cases h:Nat.beq s i with
  | true => simp_all
  | false =>
   simp only [cond_false]
   rcases YX as (i + 1) s with h | ⟨j,h1,h2⟩
   ·exact .inl h
   ·exact .inr ⟨j + 1,by omega,by simpa using h2⟩
theorem Zok {as:List AV} {j:Nat} {x:AV} (h:as[j]? = some x):∀ r ∈ Ze x,r ∈ Zl as:=by
 induction as generalizing j with
 | nil => simp at h
 | cons y as ih =>
  grind [Zl]
theorem ZcX {as:List AV} {vs:List Value} (h:ZQ σ w lim as vs):as.length = vs.length:=by
 induction as generalizing vs with
 | nil => cases vs <;> simp [ZQ] at h ⊢
 | cons x as ih =>
  cases vs with
  | nil => simp [ZQ] at h
  | cons v vs => simp only [ZQ] at h; simp [ih h.2]
theorem ZbU:(xs:List RV) → (n:Nat) → (ZG n xs).1.length = xs.length
 | [],n => rfl
 | x :: xs,n => by simp only [ZG,List.length_cons,ZbU xs]
theorem W3:(pk:List Kd) → (as:List AV) → ∀ r ∈ QX (Qd pk as),r ∈ Zl as
 | [],as,r,hr => by contradiction
 | k :: pk,[],r,hr => by grind [Qd,QX]
 | k :: pk,x :: as,r,hr => by
  simp only [Zl,List.mem_append]
  cases k with
  | box l =>
   simp only [Qd] at hr
   cases x with
   | bx b j =>
    simp only [QX,List.mem_cons] at hr
    rcases hr with rfl | hr
    ·exact .inl (by simp [Ze])
    ·exact .inr (W3 pk as r hr)
   | _ => simp only [QX] at hr; exact .inr (W3 pk as r hr)
  | bld T =>
   simp only [Qd] at hr
   cases x with
   | bx b j =>
    simp only [QX,List.mem_cons] at hr
    rcases hr with rfl | hr
    ·exact .inl (by simp [Ze])
    ·exact .inr (W3 pk as r hr)
   | _ => simp only [QX] at hr; exact .inr (W3 pk as r hr)
  | _ => simp only [Qd] at hr; exact .inr (W3 pk as r hr)
mutual
theorem ZJK:(x:RV) → (n:Nat) → (∀ r ∈ Ze (put n x).1,r < (put n x).2.2) ∧ ∀ p ∈ (put n x).2.1,p.1 < (put n x).2.2 ∧ YN p.2 = true ∧ ∀ cs,p.2 = .live (.box cs) → ∀ q ∈ Zl cs,q < (put n x).2.2
 | .view t x,n => by simp only [put]; rw [Zih]; simp
 | .own t sh xs,n => by simp [put,Ze,YN]
 | .box cs,n => by
  obtain ⟨h1,h2⟩:=KT cs (n + 1)
  have hle:=Wm cs (n + 1)
  simp only [put]
  refine ⟨by intro r hr; simp [Ze] at hr; omega,fun p hp => ?_⟩
  cases hp with
  | head => exact ⟨by simp only; omega,rfl,fun ds hd => by simp only [RS.live.injEq,Res.box.injEq] at hd; subst hd; exact h1⟩
  | tail _ hp => exact h2 p hp
 | .agg cs,n => by
  obtain ⟨h1,h2⟩:=KT cs n
  simp only [put]
  exact ⟨by simpa [Ze] using h1,h2⟩
 | .tup cs,n => by
  obtain ⟨h1,h2⟩:=KT cs n
  simp only [put]
  exact ⟨by simpa [Ze] using h1,h2⟩
 | .fn f,n => by simp [put,Ze]
 | .ns t xs,n => by simp [put,Ze]
 | .vp t xs,n => by simp [put,Ze]
 | .clo f cs,n => by
  obtain ⟨h1,h2⟩:=KT cs n
  simp only [put]
  exact ⟨by simpa [Ze] using h1,h2⟩
 | .bld T xs,n => by
  simp only [put]
  refine ⟨by intro r hr; simp [Ze] at hr; omega,fun p hp => ?_⟩
  simp only [List.mem_cons,List.not_mem_nil,or_false] at hp
  rcases hp with rfl | rfl
  ·refine ⟨by simp only; omega,rfl,fun cs hc q hq => ?_⟩
   simp only [RS.live.injEq,Res.box.injEq] at hc
   subst hc
   simp [Zl,Ze] at hq
   omega
  ·exact ⟨by simp only; omega,rfl,fun cs hc => by cases hc⟩
theorem KT:(xs:List RV) → (n:Nat) → (∀ r ∈ Zl (ZG n xs).1,r < (ZG n xs).2.2) ∧ ∀ p ∈ (ZG n xs).2.1,p.1 < (ZG n xs).2.2 ∧ YN p.2 = true ∧ ∀ cs,p.2 = .live (.box cs) → ∀ q ∈ Zl cs,q < (ZG n xs).2.2
 | [],n => by simp [ZG,Zl]
 | x :: xs,n => by
  obtain ⟨h1,h2⟩:=ZJK x n
  obtain ⟨h3,h4⟩:=KT xs (put n x).2.2
  have hle:=Wm xs (put n x).2.2
  simp only [ZG]
  refine ⟨fun r hr => ?_,fun p hp => ?_⟩
  ·simp only [Zl,List.mem_append] at hr
   rcases hr with hr | hr
   ·have:=h1 r hr; omega
   ·exact h3 r hr
  ·rcases List.mem_append.1 hp with hp | hp
   ·exact h4 p hp
   ·obtain ⟨a,b,c⟩:=h2 p hp
    exact ⟨by omega,b,fun cs hc q hq => by have:=c cs hc q hq; omega⟩
end
theorem ZzC:WA (fun _ => .fresh) = fun _ => .fresh:=by
 funext n
 simp only [WA,ZcG,ite_self]
theorem ZKC {avs:List AV} {u:Qw} (h:RelW G σ lim (enter avs u) tmps w) (hu:∀ p ∈ u,p.1 < ZS ∧ YN p.2 = true ∧ ∀ cs,p.2 = .live (.box cs) → ∀ q ∈ Zl cs,q < ZS)
  (hids:∀ r ∈ Zl avs,r < ZS) (hp:∀ p ∈ G.pins,p.1 < ZS):QM G σ lim (enter avs u) tmps w:=by
 have e:Zm u = ZU.put (fun _ => .fresh) u:=KZ u
 unfold enter at h ⊢
 rw [e] at h ⊢
 refine QM.of_put (T:=fun _ => .fresh) (by rw [ZzC]; exact h) (fun p hp => ⟨(hu p hp).1,(hu p hp).2.1⟩) ⟨fun s r hr => ?_,fun r cs hr => ?_,hp⟩
 ·simp only at hr
  rcases YX avs 0 s with h | ⟨j,h1,h2⟩
  ·rw [h] at hr; simp [Ze] at hr
  ·exact hids r (Zok h2 r hr)
 ·simp only [ZU.put] at hr
  cases hl:ZB u r with
  | none => rw [hl] at hr; cases hr
  | some z => rw [hl] at hr; simp only at hr; exact (hu _ (QH hl)).2.2 cs hr
theorem Zk3:(ks:List Kd) → (as:List AV) → Wr ks as = true → (Z0 ks as).length = (ZE ks).length
 | [],[],_ => rfl
 | [],_ :: _,h => by simp [Wr] at h
 | k :: ks,[],h => by cases k <;> simp [Wr] at h
 | k :: ks,a :: as,h => by
  cases k with
  | clo f l =>
   cases a with
   | clo g cs =>
    simp only [Wr,Bool.and_eq_true] at h
    have:=beq_eq h.1
    simp only [Z0,ZE,List.length_append,Zk3 ks as h.2,this]
   | _ => simp [Wr] at h
  | _ => grind [Wr,Z0,ZE,List.length_cons,Zk3 ks as h]
def Ze8:List Kd → Nat
 | [] => 0
 | .ref _ :: l => Ze8 l + 1
 | _ :: l => Ze8 l
theorem ZgN:(ks:List Kd) → Yh ks = false → Ze8 ks = 0
 | [],_ => rfl
 | k :: ks,h => by
  cases k with
  | ref l => simp [Yh] at h
  | _ => simp only [Yh] at h; simp only [Ze8]; exact ZgN ks h
theorem ZaL:(ks:List Kd) → (cs:List AV) → {q:List Nat} → Zz ks cs = some q → q.length = Ze8 ks
 | [],[],q,h => by simp [Zz] at h; subst h; rfl
 | k :: ks,a :: as,q,h => by
  have other:(∀ l,k ≠ .ref l) → q.length = Ze8 (k :: ks):=by
   intro hk
   have e:Zz (k :: ks) (a :: as) = Zz ks as:=by cases k <;> first | rfl | exact absurd rfl (hk _)
   have e2:Ze8 (k :: ks) = Ze8 ks:=by cases k <;> first | rfl | exact absurd rfl (hk _)
   rw [e] at h
   rw [e2]; exact ZaL ks as h
  cases k with
  | ref l =>
   cases a with
   | bx s kk =>
    cases kk with
    | succ kk => simp [Zz] at h
    | zero =>
     simp only [Zz] at h
     cases hq2:Zz ks as with
     | none => rw [hq2] at h; simp at h
     | some q2 =>
      grind [Option.some.injEq,List.length_cons,Ze8,ZaL ks as hq2]
   | _ => simp [Zz] at h
  | _ => exact other (by intro l; simp)
 | [],_ :: _,q,h => by simp [Zz] at h
 | k :: _,[],q,h => by cases k <;> simp [Zz] at h
theorem Zfg {σ:Wc}:(ks:List Kd) → (q:List Nat) → (vs vs':List Value) → q.length = Ze8 ks → ZZ σ q ks vs → ZZ σ q ks vs' → Xt ks vs vs'
 | [],q,vs,vs',_,_,_ => by simp [Xt]
 | k :: ks,q,[],vs',_,_,_ => by cases k <;> simp [Xt]
 | k :: ks,q,v :: vs,[],_,_,_ => by cases k <;> simp [Xt]
 | k :: ks,q,v :: vs,v' :: vs',hl,h,h' => by
  have other:(∀ l,k ≠ .ref l) → Xt (k :: ks) (v :: vs) (v' :: vs'):=by
   intro hk
   have e2:Ze8 (k :: ks) = Ze8 ks:=by cases k <;> first | rfl | exact absurd rfl (hk _)
   have e3:Xt (k :: ks) (v :: vs) (v' :: vs') = Xt ks vs vs':=by cases k <;> first | rfl | exact absurd rfl (hk _)
   rw [e3]
   rw [e2] at hl
   cases q with
   | nil => exact Zfg (σ:=σ) ks [] vs vs' hl Qu Qu
   | cons q0 q =>
    have e4:∀ (u:Value) (us:List Value),ZZ σ (q0 :: q) (k :: ks) (u :: us) = ZZ σ (q0 :: q) ks us:=by intro u us; cases k <;> first | rfl | exact absurd rfl (hk _)
    rw [e4] at h h'
    exact Zfg ks (q0 :: q) vs vs' hl h h'
  cases k with
  | ref l =>
   cases q with
   | nil => simp [Ze8] at hl
   | cons q0 q =>
    simp only [ZZ] at h h'
    simp only [Xt]
    exact ⟨h'.1.trans h.1.symm,Zfg ks q vs vs' (by simpa [Ze8] using hl) h.2 h'.2⟩
  | _ => exact other (by intro l; simp)
theorem Zgg {σ1:Wc} {w0:World} (h:RelW G σ lim st tmps w):(ks:List Kd) → {as:List AV} → {vs:List Value} → {l l':List Nat} → {nm:List (List Nat)} → (Yi ks as).run st.tbl l = some (nm,l') → ZQ σ w lim as vs → Wb σ1 w0 nm ks vs → (∀ q ∈ nm.flatten,σ q = σ1 q) → Xw w0 w ks vs
 | [],as,vs,l,l',nm,hm,hv,hr,hq => by cases vs <;> simp [Xw]
 | k :: ks,[],vs,l,l',nm,hm,hv,hr,hq => by
  match vs,hv with
  | [],_ => cases k <;> simp [Xw]
 | k :: ks,a :: as,vs,l,l',nm,hm,hv,hr,hq => by
  match vs,hv with
  | v :: vs,hv =>
   simp only [ZQ] at hv
   have other:(∀ l,k ≠ .box l) → Xw w0 w (k :: ks) (v :: vs):=fun hk => by
    rw [YQ hk] at hm
    have e:Xw w0 w (k :: ks) (v :: vs) = Xw w0 w ks vs:=by cases k <;> first | rfl | exact absurd rfl (hk _)
    have e2:Wb σ1 w0 nm (k :: ks) (v :: vs) = Wb σ1 w0 nm ks vs:=by cases k <;> first | (cases nm <;> rfl) | exact absurd rfl (hk _)
    rw [e]
    rw [e2] at hr
    exact Zgg h ks hm hv.2 hr hq
   cases k with
   | box l0 =>
    cases a with
    | bx r kk =>
     cases kk with
     | succ kk => exact (M.run_fail hm).elim
     | zero =>
      simp only [Yi] at hm
      obtain ⟨q0,l5,h5,h6⟩:=M.run_bind_some hm
      obtain ⟨qs,l6,h7,h8⟩:=M.run_bind_some h6
      obtain ⟨h9,_⟩:=M.run_ret h8
      subst h9
      simp only [Wb] at hr
      simp only [Xw]
      refine ⟨fun b cs T fz cs' T' fz' e1 e2 e3 => ?_,Zgg h ks h7 hv.2 hr.2 (fun q' hq' => hq q' (by simp_all))⟩
      have hold:=hr.1 b cs T fz e1 e2
      cases hh:Yh l0 with
      | false =>
       have hz:=ZgN l0 hh
       exact Zfg (σ:=σ) l0 [] _ _ (by simp [hz]) Qu Qu
      | true =>
       unfold K3 at h5
       rw [hh] at h5
       simp only [cond_true,M.run] at h5
       cases hrr:st.tbl r with
       | fresh => simp [hrr,M.run] at h5
       | gone => simp [hrr,M.run] at h5
       | live y =>
        cases y with
        | arr => simp [hrr,M.run] at h5
        | nest => simp [hrr,M.run] at h5
        | box as0 =>
         simp only [hrr] at h5
         have hn:=M.run_ofOpt h5
         obtain ⟨hR,_⟩:=h.res r _ hrr
         obtain ⟨b0,ws,U,f1,f2,f3,f4,_⟩:=Xb hv.1 hR
         rw [e1] at f2
         obtain rfl:b = b0:=by simpa using f2
         rw [e3] at f3
         obtain ⟨rfl,_⟩:cs' = ws ∧ _:=by simpa using f3
         have hnew:=Xr l0 as0 hn f4 (Zdu l0 cs'.toList)
         exact Zfg (σ:=σ1) l0 q0 _ _ (ZaL l0 as0 hn) hold (WH _ _ _ (fun q' hq' => (hq q' (by simp_all)).symm) hnew)
    | _ => exact (M.run_fail hm).elim
   | _ => exact other (by intro l; simp)
  | [],hv => simp [ZQ] at hv
theorem Zos (h : RelW G σ lim st tmps w) : (ks : List Kd) → {as : List AV} → {vs : List Value} → Xh as = true → ZQ σ w lim as vs → Wb σ w (Kf st.tbl ks as) ks vs
  | [], as, vs, hb, hv => by
    grind [Wb]
  | k :: ks, [], vs, hb, hv => by
    match vs, hv with
    | [], _ => cases k <;> simp [Kf, Wb]
  | k :: ks, a :: as, vs, hb, hv => by
    match vs, hv with
    | v :: vs, hv =>
      simp only [ZQ] at hv
      simp only [Xh, List.all_cons, Bool.and_eq_true] at hb
      have ih := Zos h ks hb.2 hv.2
      have other : (∀ l, k ≠ .box l) → Wb σ w (Kf st.tbl (k :: ks) (a :: as)) (k :: ks) (v :: vs) := fun hk => by
        have e : Kf st.tbl (k :: ks) (a :: as) = Kf st.tbl ks as := by cases k <;> first | rfl | exact absurd rfl (hk _)
        rw [e]
        have e2 : ∀ nm, Wb σ w nm (k :: ks) (v :: vs) = Wb σ w nm ks vs := by intro nm; cases k <;> first | (cases nm <;> rfl) | exact absurd rfl (hk _)
        rw [e2]; exact ih
      cases k with
      | box l0 =>
        cases a with
        | bx r kk =>
         cases kk with
         | succ kk => simp at hb
         | zero =>
          simp only [Kf, Wb]
          refine ⟨fun b cs T fz e1 e2 => ?_, ih⟩
          cases hh : Yh l0 with
          | false => exact Qu
          | true =>
            simp only [cond_true]
            cases hr : st.tbl r with
            | fresh => exact Qu
            | gone => exact Qu
            | live y =>
              cases y with
              | arr => exact Qu
              | nest => exact Qu
              | box as0 =>
                simp only
                cases hn : Zz l0 as0 with
                | none => exact Qu
                | some q =>
                  obtain ⟨hR, _⟩ := h.res r _ hr
                  obtain ⟨b0, ws, U, f1, f2, f3, f4, _⟩ := Xb hv.1 hR
                  rw [e1] at f2
                  obtain rfl : b = b0 := by simpa using f2
                  rw [e2] at f3
                  obtain ⟨rfl, _⟩ : cs = ws ∧ _ := by simpa using f3
                  exact Xr l0 as0 hn f4 (Zdu l0 cs.toList)
        | _ => simp at hb
      | _ => exact other (by intro l; simp)
    | [], hv => simp [ZQ] at hv
theorem Kg {tbl:ZU} {lim:Nat → Nat} (hres:∀ r x,tbl r = .live x → RR σ w lim r x ∧ Zp tbl (Z2 r x)):(ks:List Kd) → (as:List AV) → ∀ q ∈ (Kf tbl ks as).flatten,∃ r cs,tbl r = .live (.box cs) ∧ q ∈ Zl cs
 | [],as,q,hq => by
  contradiction
 | k :: ks,[],q,hq => by
  have:Kf tbl (k :: ks) [] = []:=by cases k <;> rfl
  rw [this] at hq; simp at hq
 | k :: ks,a :: as,q,hq => by
  have other:Kf tbl (k :: ks) (a :: as) = Kf tbl ks as → ∃ r cs,tbl r = .live (.box cs) ∧ q ∈ Zl cs:=fun e => by
   rw [e] at hq
   exact Kg hres ks as q hq
  cases k with
  | box l0 =>
   cases a with
   | bx r kk =>
    cases kk with
    | succ kk => exact other rfl
    | zero =>
     simp only [Kf,List.flatten_cons,List.mem_append] at hq
     rcases hq with hq | hq
     ·cases hh:Yh l0 with
      | false => rw [hh] at hq; simp at hq
      | true =>
       rw [hh] at hq
       simp only [cond_true] at hq
       cases hr:tbl r with
       | fresh => rw [hr] at hq; simp at hq
       | gone => rw [hr] at hq; simp at hq
       | live y =>
        rw [hr] at hq
        cases y with
        | arr => simp at hq
        | nest => simp at hq
        | box as0 =>
         simp only at hq
         cases hn:Zz l0 as0 with
         | none => rw [hn] at hq; simp at hq
         | some q' => rw [hn] at hq; exact ⟨r,as0,hr,Ys l0 as0 hn q hq⟩
     ·exact Kg hres ks as q hq
   | _ => exact other rfl
  | _ => exact other rfl
theorem ZFT : {a b:List Nat} → nEq a b = true → a = b
 | [],[],_ => rfl
 | x :: a,y :: b,h => by
  simp only [nEq,Bool.and_eq_true] at h
  rw [beq_eq h.1,ZFT h.2]
 | [],_ :: _,h => by simp [nEq] at h
 | _ :: _,[],h => by simp [nEq] at h
theorem Zy8 : {a b:List (List Nat)} → ZBq a b = true → a = b
 | [],[],_ => rfl
 | x :: a,y :: b,h => by
  simp only [ZBq,Bool.and_eq_true] at h
  rw [ZFT h.1,Zy8 h.2]
 | [],_ :: _,h => by simp [ZBq] at h
 | _ :: _,[],h => by simp [ZBq] at h
theorem ZcF {w0:World}:(ks:List Kd) → (vs:List Value) → Xw w0 w (WT ks) (WU ks vs) → Xw w0 w ks vs
 | [],vs,_ => by cases vs <;> simp [Xw]
 | k :: ks,[],_ => by cases k <;> simp [Xw]
 | k :: ks,v :: vs,h => by
  cases k with
  | box l =>
   simp only [WT,WU,Xw] at h ⊢
   exact ⟨h.1,ZcF ks vs h.2⟩
  | bld T =>
   simp only [WT,WU,Xw] at h ⊢
   exact ZcF ks vs h
  | _ => simp only [WT,WU] at h; simp only [Xw]; exact ZcF ks vs h
theorem ZoQ {rvs:List RV} {vs:List Value} {bs:List Nat} {pk:List Kd} {n:Nat} (hlz:∀ b,w.heap.size ≤ b → lim b = 0) (hgl:ZoD w lim) (hT:TTs w lim rvs vs bs) (hnd:bs.Nodup) (hbs:∀ b ∈ bs,b < w.heap.size)
    (hn:rvs.length ≤ n) (hin:(ZG 0 rvs).2.2 ≤ ZS) (hco:Wr pk (ZG 0 rvs).1 = true) (hb:Xh (Qd (ZE pk) (Z0 pk (ZG 0 rvs).1)) = true) :
    ∃ σ,QZ ⟨w,lim,bs,XP (Qd (ZE pk) (Z0 pk (ZG 0 rvs).1)) (WU (ZE pk) (QG pk vs)) ++ (Kq pk rvs).flatten.map (fun q => (q,σ q))⟩ n (enter (ZG 0 rvs).1 (ZG 0 rvs).2.1) { tmps:=vs.toArray ++ Array.replicate (n - vs.toArray.size) undef,defers:=[] } w ∧
      ZQ σ w lim (Qd (ZE pk) (Z0 pk (ZG 0 rvs).1)) (WU (ZE pk) (QG pk vs)) ∧ vs.length = rvs.length ∧ (QG pk vs).length = (ZE pk).length ∧ Wb σ w (Kq pk rvs) (WT (ZE pk)) (WU (ZE pk) (QG pk vs)):=by
  have h0:RelW ⟨w,lim,bs,[]⟩ (fun _ => undef) lim ⟨fun _ => .dead,fun _ => .fresh⟩ (vs.toArray ++ Array.replicate (n - vs.toArray.size) undef) w :=
    { env:=by intro s; simp [RA]
      known:=by intro s; simp [Ze,Zp]
      res:=by intro r x h; simp at h
      inj:=by intro r r' b h; simp [ZJ] at h
      own:=by intro r b h; simp [ZJ] at h
      ext:=Ext.refl _ _
      keep:=fun _ _ _ => rfl
      same:=⟨rfl,rfl,rfl⟩
      lz:=hlz
      limk:=fun _ _ _ => rfl
      glob:=hgl
      pin:=by intro p hp; simp at hp }
  obtain ⟨σ,hP,hA,hK⟩:=Wx rvs 0 h0 hT (fun _ _ _ => rfl) ⟨hnd,fun b hb => ⟨.inr hb,by intro r h; simp [ZJ] at h⟩⟩
  have hlen:vs.length = rvs.length:=by rw [← ZbU rvs 0]; exact (ZcX hA).symm
  have hfA:=Zh2 pk hco hA
  have hL:=Zy5 (ZE pk) hfA
  have hfl:(QG pk vs).length = (ZE pk).length:=by rw [← ZcX hfA]; exact Zk3 pk _ hco
  have hrv:Wb σ w (Kq pk rvs) (WT (ZE pk)) (WU (ZE pk) (QG pk vs)):=by
    have:=Zos hP.rel (WT (ZE pk)) hb hL
    simp only at this
    rw [← KZ] at this
    exact this
  refine ⟨σ,⟨σ,lim,?_,by simp; omega,rfl⟩,hL,hlen,hfl,hrv⟩
  have hR:=hP.rel
  simp only at hR hK
  rw [← KZ] at hR hK
  have hpin:=ZMX hb hL
  obtain ⟨lw1,lw2⟩:=KT rvs 0
  refine ZKC ?_ (fun p hp => ⟨Nat.lt_of_lt_of_le (lw2 p hp).1 hin,(lw2 p hp).2.1,fun cs hc q hq => Nat.lt_of_lt_of_le ((lw2 p hp).2.2 cs hc q hq) hin⟩) (fun r hr => Nat.lt_of_lt_of_le (lw1 r hr) hin)
    (fun p hp => by
      rcases List.mem_append.1 hp with hp | hp
      · exact Nat.lt_of_lt_of_le (lw1 p.1 (ZbI pk _ _ (W3 (ZE pk) _ _ (Ze9 _ _ p hp)))) hin
      · obtain ⟨q,hq,rfl⟩:=List.mem_map.1 hp
        obtain ⟨r,cs,hr,hqc⟩:=Kg hR.res (WT (ZE pk)) (Qd (ZE pk) (Z0 pk (ZG 0 rvs).1)) q hq
        simp only [KZ,ZU.put] at hr
        cases hl:ZB (ZG 0 rvs).2.1 r with
        | none => rw [hl] at hr; cases hr
        | some z => rw [hl] at hr; simp only at hr; exact Nat.lt_of_lt_of_le ((lw2 _ (QH hl)).2.2 cs hr q hqc) hin)
  exact
    { env:=by
        intro s
        rcases YX (ZG 0 rvs).1 0 s with h | ⟨j,h1,h2⟩
        · simp only [enter,h,RA]
        · have hs:s = j:=by omega
          subst hs
          have hjl:s < vs.length:=by
            rw [← ZcX hA]
            grind
          have hv:vs[s]? = some vs[s]:=by simp [hjl]
          have:=ZuE hA h2 hv
          simp only [enter]
          rw [Array.getD_eq_getD_getElem?,Array.getElem?_append_left (by simpa using hjl)]
          simpa [hv] using this
      known:=by
        intro s
        rcases YX (ZG 0 rvs).1 0 s with h | ⟨j,h1,h2⟩
        · simp [enter,h,Ze,Zp]
        · intro r hr
          exact hK r (Zok h2 r hr)
      res:=hR.res,inj:=hR.inj,own:=hR.own,ext:=hR.ext,keep:=hR.keep,same:=hR.same,lz:=hR.lz,limk:=hR.limk,glob:=hR.glob
      pin:=by
        intro p hp
        rcases List.mem_append.1 hp with hp | hp
        · refine ⟨hpin p hp,?_⟩
          exact hK p.1 (ZbI pk _ _ (W3 (ZE pk) _ _ (Ze9 _ _ p hp)))
        · obtain ⟨q,hq,rfl⟩:=List.mem_map.1 hp
          obtain ⟨r,cs,hr,hqc⟩:=Kg hR.res (WT (ZE pk)) (Qd (ZE pk) (Z0 pk (ZG 0 rvs).1)) q hq
          exact ⟨rfl,(hR.res r _ hr).2 q hqc⟩ }
def ZlK (w:World) (lim:Nat → Nat) (vs:List Value) (bs:List Nat) (pk:List Kd) (r:RV × List RV):Ending → World → Prop:=fun e w' => ∃ v lim' b1 b2,e = .returned v ∧ Ext w lim w' lim' ∧ (∀ b,w'.heap.size ≤ b → lim' b = 0) ∧
   (w'.os = w.os ∧ w'.tape = w.tape ∧ w'.output = w.output) ∧ (∀ b,b < w.heap.size → b ∉ bs → w'.heap[b]? = w.heap[b]? ∧ lim' b = lim b) ∧
   TT w' lim' r.1 v b1 ∧ TL w' lim' (ZE pk) (QG pk vs) r.2 b2 ∧ Xw w w' (ZE pk) (QG pk vs) ∧ (b1 ++ b2).Nodup ∧ ∀ b ∈ b1 ++ b2,b ∈ bs ∨ w.heap.size ≤ b
theorem Zoj {f:Nat} {fn:Func} {code:Code} {pk:List Kd} {rk:Kd} {rvs:List RV} {r:RV × List RV} {vs:List Value} {bs:List Nat} (hf:C.P.funcs[f]? = some fn) (hb:fn.body = some code)
  (hlz:∀ b,w.heap.size ≤ b → lim b = 0) (hgl:ZoD w lim) (hT:TTs w lim rvs vs bs) (hnd:bs.Nodup) (hbs:∀ b ∈ bs,b < w.heap.size) (hbx:Xh (Qd (ZE pk) (Z0 pk (ZG 0 rvs).1)) = true) (hn:rvs.length ≤ fn.ntmps) (hin:(ZG 0 rvs).2.2 ≤ ZS) (hco:Wr pk (ZG 0 rvs).1 = true)
  (hwp:∀ (G:Glob),(∀ p ∈ G.pins,p.1 ∈ QX (Qd (ZE pk) (Z0 pk (ZG 0 rvs).1)) ++ (Kq pk rvs).flatten) → QZ G fn.ntmps (enter (ZG 0 rvs).1 (ZG 0 rvs).2.1) { tmps:=vs.toArray ++ Array.replicate (fn.ntmps - vs.toArray.size) undef,defers:=[] } w →
   code.wp C.P (fun e a w => ∃ e' st',e = Ex.out e' ∧ XN C fn.results.toList pk (Qd (ZE pk) (Z0 pk (ZG 0 rvs).1)) (Kq pk rvs) rk some e' st' = some r ∧ QZ G fn.ntmps st' a w) { tmps:=vs.toArray ++ Array.replicate (fn.ntmps - vs.toArray.size) undef,defers:=[] } w) :
  Calls C.P f vs.toArray w (ZlK w lim vs bs pk r):=by
 obtain ⟨σ0,hS,hL,hlen,hfl,hRV⟩:=ZoQ (pk:=pk) hlz hgl hT hnd hbs hn hin hco hbx
 refine calls_of_wp hf hb (wp_mono (hwp _ (fun p hp => by
  rcases List.mem_append.1 hp with hp | hp
  ·exact List.mem_append_left _ (Ze9 _ _ p hp)
  grind) hS) ?_)
 rintro e a' w' ⟨e',st',rfl,hK,hs⟩
 obtain ⟨σ,lim',⟨hR,_⟩,_,hd⟩:=hs
 have leave:(Zk8 C fn.results.toList pk (Qd (ZE pk) (Z0 pk (ZG 0 rvs).1)) (Kq pk rvs) rk st').runK st'.tbl [] (fun x l => bif ZcH l then some x else none) = some r →
   a'.defers = [] ∧ ∃ v,(results fn a'.tmps).run C.P w' = .ok v w' ∧ ZlK w lim vs bs pk r (.returned v) w':=by
  intro hl
  rw [M.runK_eq] at hl
  cases hr:(Zk8 C fn.results.toList pk (Qd (ZE pk) (Z0 pk (ZG 0 rvs).1)) (Kq pk rvs) rk st').run st'.tbl [] with
  | none => rw [hr] at hl; simp at hl
  | some p =>
   obtain ⟨q,lg⟩:=p
   rw [hr] at hl
   simp only [Option.bind_some] at hl
   have hlow:ZcH lg = true:=by
    grind
   rw [hlow] at hl
   simp only [cond_true,Option.some.injEq] at hl
   subst hl
   have hr:=Zrs hr hlow
   unfold Zk8 at hr
   rw [ZcS (st:=st') (st2:=⟨st'.env,WA st'.tbl⟩) rfl] at hr
   obtain ⟨as,l1,h1,hr⟩:=M.run_bind_some hr
   obtain ⟨⟨y,u⟩,l2,h2,hr⟩:=M.run_bind_some hr
   obtain ⟨⟨ys,v⟩,l3,h3,hr⟩:=M.run_bind_some hr
   obtain ⟨nm',l4,h4,hr⟩:=M.run_bind_some hr
   obtain ⟨hok,hr2⟩:=M.run_guard hr
   simp only [Bool.and_eq_true] at hok
   obtain ⟨hok,hnm⟩:=hok
   have hnm:=Zy8 hnm
   obtain ⟨hq,_⟩:=M.run_ret hr2
   subst hnm
   obtain ⟨rv,r1,r2⟩:=Zl0 hR h1
   obtain ⟨g1,k1⟩:=ZoA (st:=⟨st'.env,WA st'.tbl⟩) (σ:=σ) (w:=w') (lim:=lim') rk _ h2
   obtain ⟨g2,k2⟩:=Q9 (st:=⟨st'.env,WA st'.tbl⟩) (σ:=σ) (w:=w') (lim:=lim') (WT (ZE pk)) _ h3
   obtain ⟨lim2,hR2,hE,hSh,hN,hB⟩:=hR.takes (g1.append g2) hok
   have hLf:ZQ σ w' lim' (Qd (ZE pk) (Z0 pk (ZG 0 rvs).1)) (WU (ZE pk) (QG pk vs)):=Zxp hbx hL fun p hp => (hR.pin p (List.mem_append_left _ hp)).1
   have hStay:Xw w w' (ZE pk) (QG pk vs):=ZcF _ _ (Zgg hR (WT (ZE pk)) h4 hLf hRV fun q hq => (hR.pin (q,σ0 q) (List.mem_append_right _ (List.mem_map.2 ⟨q,hq,rfl⟩))).1)
   refine ⟨hd,rv,r1,rv,lim2,Qf σ (ZO u),Qf σ (ZO v),rfl,hR2.ext,hR2.lz,hR2.same,fun b hb1 hb2 => ⟨hR2.keep b hb1 hb2,hR2.limk b hb1 hb2⟩,?_,?_,hStay,?_,?_⟩
   ·rw [hq]; exact k1 rv r2 (fun r y hy => (hR.res r y hy).1) lim2 hE hSh.left
   ·rw [hq]; exact Zzm (ZE pk) hfl (k2 _ hLf (fun r y hy => (hR.res r y hy).1) lim2 hE hSh.right)
   ·rw [← Kk,← Xm]; exact hN
   ·intro b hb; rw [← Kk,← Xm] at hb; exact (hB b hb).1.symm
 cases e' with
 | normal => exact leave hK
 | ret => exact leave hK
 | exit i => simp [XN] at hK
theorem ZBe (hC:∀ f cal,C.Φ f = some cal → Ctr C.P C.k f cal) (hm:C.P.follows .mixedOrders = true) {A:Nat → Ann} {f k:Nat} {fn:Func} {code:Code} {cal:Callee} {rk:Kd}
  (hf:C.P.funcs[f]? = some fn) (hb:fn.body = some code) (hname:(fn.name == "runtime.NumGoroutine") = false) (hfit:WR C.P fn.ntmps code = true)
  (hlent:∀ rvs x,cal.run k rvs = some x → Xh (Qd (ZE cal.pk) (Z0 cal.pk (ZG 0 rvs).1)) = true)
  (hrun:∀ rvs x,cal.run k rvs = some x → Zxs C A fn.ntmps code fn.results.toList cal.pk rk rvs some = some (cal.enc x)):Ctr C.P k f cal where
 enters:=⟨fn,hf,hname,by rw [hb]; rfl⟩
 calls:=by
  intro rvs x hx w lim vs bs hlz hgl hT hnd hbs
  have h:=hrun rvs x hx
  have hbx:=hlent rvs x hx
  unfold Zxs at h
  cases hg:ZJF cal.pk rvs fn.ntmps with
  | false => rw [hg] at h; simp at h
  | true =>
   rw [hg] at h
   simp only [cond_true] at h
   simp only [ZJF,Bool.and_eq_true] at hg
   exact Zoj (rk:=rk) hf hb hlz hgl hT hnd hbs hbx (Nat.le_of_ble_eq_true hg.1.1) (Nat.le_of_ble_eq_true hg.1.2) hg.2 fun G hp hS => QN hC hm hp code h hfit hS fun e st' a' w' hK hs => ⟨e,st',rfl,hK,hs⟩
end Go.Sh
namespace Go.Sh
open Go
variable [Gl]
def Zza:Ex → St → Option (Ex × St):=fun e s => some (e,s)
def Zdn {R:Type} (K:Ex → St → Option R):Ex × St → Option R:=fun x => K x.1 x.2
theorem Zlc {R:Type} {nm:St → Option St} {b1:St → (Ex → St → Option (Ex × St)) → Option (Ex × St)} {bR:St → (Ex → St → Option R) → Option R}
  (h1:∀ st K,b1 st K = (b1 st Zza).bind (Zdn K)) (hb:∀ st K,bR st K = (b1 st Zza).bind (Zdn K)):∀ (n:Nat) (st:St) (K:Ex → St → Option R),
  ZcP bR nm n st K = (ZcP b1 nm n st Zza).bind (Zdn K)
 | 0,st,K => rfl
 | n + 1,st,K => by
  simp only [ZcP]
  rw [hb]
  conv => rhs; rw [h1]
  rw [Option.bind_assoc]
  congr 1
  funext x
  obtain ⟨e,s⟩:=x
  cases e with
  | exit i => rfl
  | ret => rfl
  | normal =>
   simp only [Zdn]
   cases nm s with
   | none => rfl
   | some s' => exact Zlc h1 hb n s' K
theorem Qx {C:Ctx} {A:Nat → Ann} {kp:List Nat}:(c:Code) → {R:Type} → (st:St) → (K:Ex → St → Option R) → Ws C A kp c st K = (Ws C A kp c st Zza).bind (Zdn K)
 | .skip,R,st,K => rfl
 | .label _,R,st,K => rfl
 | .ret,R,st,K => rfl
 | .exit _,R,st,K => rfl
 | .goto _,R,st,K => rfl
 | .refuse _,R,st,K => rfl
 | .rangeFunc _ _ _ _,R,st,K => rfl
 | .region id ops d,R,st,K => by
  simp only [Ws]
  cases d with
  | false => simp only [cond_false,Zrj,Option.bind_assoc]; rfl
  | true =>
   simp only [cond_true,Zfx,Option.bind_assoc]
   congr 1
   funext x
   cases YM ops.toList (Xv ops.toList []) ([] ++ x.2) <;> rfl
 | .seq a b,R,st,K => by
  simp only [Ws]
  rw [Qx a]
  conv => rhs; rw [Qx a]
  rw [Option.bind_assoc]
  congr 1
  funext x
  obtain ⟨e,s⟩:=x
  cases e with
  | normal => exact Qx b s K
  | exit i => rfl
  | ret => rfl
 | .cond c a b,R,st,K => by
  simp only [Ws]
  split
  ·rename_i t _
   cases t with
   | true => simp only [cond_true]; exact Qx a _ K
   | false => simp only [cond_false]; exact Qx b _ K
  ·rfl
 | .block id c,R,st,K => by
  simp only [Ws]
  rw [Qx c]
  conv => rhs; rw [Qx c]
  rw [Option.bind_assoc]
  congr 1
  funext x
  obtain ⟨e,s⟩:=x
  cases e with
  | normal => rfl
  | ret => rfl
  | exit i => simp only [Zdn,ZoL]; cases Nat.beq i id <;> rfl
 | .loop c,R,st,K => by
  simp only [Ws,Option.bind_assoc]
  congr 1
  funext s
  exact Zlc (fun st K => Qx c st K) (fun st K => Qx c st K) C.k s K
 | .scope c,R,st,K => by simp only [Ws]; exact Qx c st K
theorem ZBw {C:Ctx} {A:Nat → Ann} {n:Nat} {body:Code} {rs:List ResultVar} {pk:List Kd} {rk:Kd} {rvs:List RV} {R:Type} (K:RV × List RV → Option R) :
  Zxs C A n body rs pk rk rvs K = (Zxs C A n body rs pk rk rvs some).bind K:=by
 unfold Zxs
 cases ZJF pk rvs n with
 | false => rfl
 | true =>
  simp only [cond_true]
  rw [Qx]
  conv => rhs; rw [Qx]
  rw [Option.bind_assoc]
  congr 1
  funext x
  obtain ⟨e,s⟩:=x
  simp only [Zdn]
  cases e <;> simp only [XN,M.runK_eq,Option.bind_assoc,Option.bind_some,Option.bind_none]
  all_goals grind
mutual
def Kd.den:Kd → Type
 | .view t => t.den
 | .own t _ => List t.den
 | .box ks => Kd.dens ks
 | .agg ks => Kd.dens ks
 | .tup ks => Kd.dens ks
 | .fn _ => Unit
 | .bld _ => List Int
 | .use _ => List Int
 | .clo _ ks => Kd.dens ks
 | .ref ks => Kd.dens ks
 | .ns t => List t.den
 | .vp t => List t.den
def Kd.dens:List Kd → Type
 | [] => Unit
 | k :: ks => k.den × Kd.dens ks
end
mutual
def enc:(k:Kd) → k.den → RV
 | .view t,x => .view t x
 | .own t sh,xs => .own t sh xs
 | .box ks,x => .box (QC ks x)
 | .agg ks,x => .agg (QC ks x)
 | .tup ks,x => .tup (QC ks x)
 | .fn f,_ => .fn f
 | .bld T,xs => .bld T xs
 | .use T,xs => .bld T xs
 | .clo f ks,x => .clo f (QC ks x)
 | .ref ks,x => .box (QC ks x)
 | .ns t,xs => .ns t xs
 | .vp t,xs => .vp t xs
def QC:(ks:List Kd) → Kd.dens ks → List RV
 | [],_ => []
 | k :: ks,x => enc k x.1 :: QC ks x.2
end
def Zfq (t:Ty):RV → Option t.den
 | .view t' x => if h:t' = t then some (h ▸ x:t.den) else none
 | _ => none
def ZBU (t:Ty) (sh:Bool):RV → Option (List t.den)
 | .own t' sh' xs => if h:t' = t then (bif sh == sh' then some (h ▸ xs:List t.den) else none) else none
 | _ => none
def ZxG:RV → Option (List RV)
 | .box cs => some cs
 | _ => none
def asAgg:RV → Option (List RV)
 | .agg cs => some cs
 | _ => none
def ZBW:RV → Option (List RV)
 | .tup cs => some cs
 | _ => none
def ZKx (f:Nat):RV → Option Unit
 | .fn g => bif Nat.beq f g then some () else none
 | _ => none
def ZBS (f:Nat):RV → Option (List RV)
 | .clo g cs => bif Nat.beq f g then some cs else none
 | _ => none
def ZKy (t:Ty):RV → Option (List t.den)
 | .ns t' xs => if h:t' = t then some (h ▸ xs:List t.den) else none
 | _ => none
def ZKz (t:Ty):RV → Option (List t.den)
 | .vp t' xs => if h:t' = t then some (h ▸ xs:List t.den) else none
 | _ => none
def ZxF (T:TypeId):RV → Option (List Int)
 | .bld U xs => bif Nat.beq T U then some xs else none
 | _ => none
mutual
def dec:(k:Kd) → RV → Option k.den
 | .view t,r => Zfq t r
 | .own t sh,r => ZBU t sh r
 | .box ks,r => (ZxG r).bind (K4 ks)
 | .agg ks,r => (asAgg r).bind (K4 ks)
 | .tup ks,r => (ZBW r).bind (K4 ks)
 | .fn f,r => ZKx f r
 | .bld T,r => ZxF T r
 | .use T,r => ZxF T r
 | .clo f ks,r => (ZBS f r).bind (K4 ks)
 | .ref ks,r => (ZxG r).bind (K4 ks)
 | .ns t,r => ZKy t r
 | .vp t,r => ZKz t r
def K4:(ks:List Kd) → List RV → Option (Kd.dens ks)
 | [],[] => some ()
 | [],_ :: _ => none
 | _ :: _,[] => none
 | k :: ks,x :: xs => (dec k x).bind fun y => (K4 ks xs).bind fun ys => some (y,ys)
end
theorem Zzs {t:Ty} {r:RV} {x:t.den} (h:Zfq t r = some x):r = .view t x:=by
 unfold Zfq at h
 grind
theorem ZBV {t:Ty} {sh:Bool} {r:RV} {x:List t.den} (h:ZBU t sh r = some x):r = .own t sh x:=by
 unfold ZBU at h
 grind
theorem ZrI {r:RV} {cs:List RV} (h:ZxG r = some cs):r = .box cs:=by unfold ZxG at h; split at h <;> simp at h; rw [h]
theorem ZBR {r:RV} {cs:List RV} (h:asAgg r = some cs):r = .agg cs:=by unfold asAgg at h; split at h <;> simp at h; rw [h]
theorem ZBX {r:RV} {cs:List RV} (h:ZBW r = some cs):r = .tup cs:=by unfold ZBW at h; split at h <;> simp at h; rw [h]
theorem ZGv {f:Nat} {r:RV} {x:Unit} (h:ZKx f r = some x):r = .fn f:=by
 unfold ZKx at h
 split at h
 ·rename_i g
  cases hb:Nat.beq f g with
  | false => rw [hb] at h; simp at h
  | true => rw [beq_eq hb]
 ·cases h
theorem ZBT {f:Nat} {r:RV} {cs:List RV} (h:ZBS f r = some cs):r = .clo f cs:=by
 unfold ZBS at h
 split at h
 ·rename_i g l
  cases hb:Nat.beq f g with
  | false => rw [hb] at h; simp at h
  | true => simp_all
 ·cases h
theorem ZGw {t:Ty} {r:RV} {x:List t.den} (h:ZKy t r = some x):r = .ns t x:=by
 unfold ZKy at h
 grind
theorem ZGx {t:Ty} {r:RV} {x:List t.den} (h:ZKz t r = some x):r = .vp t x:=by
 unfold ZKz at h
 split at h
 ·split at h
  ·rename_i e; subst e; simp at h; rw [h]
  ·cases h
 ·cases h
theorem ZrH {T:TypeId} {r:RV} {x:List Int} (h:ZxF T r = some x):r = .bld T x:=by
 unfold ZxF at h
 split at h
 ·rename_i U xs
  cases hb:Nat.beq T U with
  | false => rw [hb] at h; simp at h
  | true => simp_all
 ·cases h
mutual
theorem ZxJ:(k:Kd) → (r:RV) → (x:k.den) → dec k r = some x → r = enc k x
 | .view t,r,x,h => by simp only [dec] at h; simp only [enc]; exact Zzs h
 | .own t sh,r,x,h => by simp only [dec] at h; simp only [enc]; exact ZBV h
 | .box ks,r,x,h => by
  simp only [dec] at h
  obtain ⟨cs,h1,h2⟩:=Option.bind_eq_some_iff.1 h
  simp only [enc,ZrI h1,Qg ks cs x h2]
 | .agg ks,r,x,h => by
  simp only [dec] at h
  obtain ⟨cs,h1,h2⟩:=Option.bind_eq_some_iff.1 h
  simp only [enc,ZBR h1,Qg ks cs x h2]
 | .tup ks,r,x,h => by
  simp only [dec] at h
  obtain ⟨cs,h1,h2⟩:=Option.bind_eq_some_iff.1 h
  simp only [enc,ZBX h1,Qg ks cs x h2]
 | .fn f,r,x,h => by simp only [dec] at h; simp only [enc]; exact ZGv h
 | .bld T,r,x,h => by simp only [dec] at h; simp only [enc]; exact ZrH h
 | .use T,r,x,h => by simp only [dec] at h; simp only [enc]; exact ZrH h
 | .clo f ks,r,x,h => by
  simp only [dec] at h
  obtain ⟨cs,h1,h2⟩:=Option.bind_eq_some_iff.1 h
  simp only [enc,ZBT h1,Qg ks cs x h2]
 | .ns t,r,x,h => by simp only [dec] at h; simp only [enc]; exact ZGw h
 | .vp t,r,x,h => by simp only [dec] at h; simp only [enc]; exact ZGx h
 | .ref ks,r,x,h => by
  simp only [dec] at h
  obtain ⟨cs,h1,h2⟩:=Option.bind_eq_some_iff.1 h
  simp only [enc,ZrI h1,Qg ks cs x h2]
theorem Qg:(ks:List Kd) → (rs:List RV) → (x:Kd.dens ks) → K4 ks rs = some x → rs = QC ks x
 | [],[],x,h => rfl
 | k :: ks,r :: rs,x,h => by
  simp only [K4] at h
  obtain ⟨y,h1,h⟩:=Option.bind_eq_some_iff.1 h
  obtain ⟨ys,h2,h⟩:=Option.bind_eq_some_iff.1 h
  cases h
  simp only [QC,← ZxJ k r y h1,← Qg ks rs ys h2]
 | [],_ :: _,x,h => by simp [K4] at h
 | _ :: _,[],x,h => by simp [K4] at h
end
theorem Zgu:(ks:List Kd) → (x:Kd.dens ks) → (QC ks x).length = ks.length
 | [],_ => rfl
 | k :: ks,x => by simp only [QC,List.length_cons,Zgu ks]
theorem Zrc {ks ls:List Kd} {as bs:List AV} (h:ks.length = as.length):Qd (ks ++ ls) (as ++ bs) = Qd ks as ++ Qd ls bs:=by
 induction ks generalizing as with
 | nil =>
  grind [Qd]
 | cons k ks ih =>
  cases as with
  | nil => simp at h
  | cons a as =>
   have ih:=ih (as:=as) (by simpa using h)
   cases k <;> simp [Qd,ih]
theorem ZoN (a b:List AV):Xh (a ++ b) = (Xh a && Xh b):=by simp [Xh]
theorem Zgp:(ks:List Kd) → (x:Kd.dens ks) → (n:Nat) → Xh (Qd ks (ZG n (QC ks x)).1) = true
 | [],_,n => rfl
 | k :: ks,x,n => by
  have ih:=Zgp ks x.2
  cases k with
  | box l =>
   simp only [QC,enc,ZG,put,Qd,Xh,List.all_cons,Bool.true_and] at ih ⊢
   exact ih _
  | bld T =>
   simp only [QC,enc,ZG,put,Qd,Xh,List.all_cons,Bool.true_and] at ih ⊢
   exact ih _
  | _ => grind [QC,enc,ZG,Qd]
theorem Zij:(ks:List Kd) → (x:Kd.dens ks) → (n:Nat) → Xh (Qd (ZE ks) (Z0 ks (ZG n (QC ks x)).1)) = true
 | [],_,n => rfl
 | k :: ks,x,n => by
  have ih:=Zij ks x.2
  cases k with
  | box l =>
   simp only [QC,enc,ZG,put,ZE,Z0,Qd,Xh,List.all_cons,Bool.true_and] at ih ⊢
   exact ih _
  | bld T =>
   simp only [QC,enc,ZG,put,ZE,Z0,Qd,Xh,List.all_cons,Bool.true_and] at ih ⊢
   exact ih _
  | clo f l =>
   simp only [QC,enc,ZG,put,ZE,Z0]
   rw [Zrc (by rw [ZbU]; exact (Zgu l x.1).symm),ZoN,Bool.and_eq_true]
   exact ⟨Zgp l x.1 n,ih _⟩
  | _ => grind [QC,enc,ZG,ZE,Z0,Qd]
abbrev Ans (pk:List Kd) (rk:Kd):Type:=rk.den × Kd.dens (WT (ZE pk))
def ZB4 (pk:List Kd) (rk:Kd) (r:RV × List RV):Option (Ans pk rk):=(dec rk r.1).bind fun x => (K4 (WT (ZE pk)) r.2).bind fun l => some (x,l)
def ZKB (pk:List Kd) (rk:Kd) (x:Ans pk rk):RV × List RV:=(enc rk x.1,QC (WT (ZE pk)) x.2)
theorem ZzB {pk:List Kd} {rk:Kd} {r:RV × List RV} {x:Ans pk rk} (h:ZB4 pk rk r = some x):r = ZKB pk rk x:=by
 unfold ZB4 at h
 obtain ⟨y,h1,h⟩:=Option.bind_eq_some_iff.1 h
 obtain ⟨ys,h2,h⟩:=Option.bind_eq_some_iff.1 h
 cases h
 obtain ⟨a,b⟩:=r
 simp only [ZKB,← ZxJ rk a y h1,← Qg (WT (ZE pk)) b ys h2]
def mk (pk:List Kd) (rk:Kd) (F:Nat → Kd.dens pk → Option (Ans pk rk)):Callee :=
 { ρ:=Ans pk rk,pk:=pk,run:=fun k rvs => (K4 pk rvs).bind (F k),enc:=ZKB pk rk }
theorem ZJw {C:Ctx} (hC:∀ f cal,C.Φ f = some cal → Ctr C.P C.k f cal) (hm:C.P.follows .mixedOrders = true) {A:Nat → Ann} {f k:Nat} {fn:Func} {code:Code} {pk:List Kd} {rk:Kd} {F:Nat → Kd.dens pk → Option (Ans pk rk)}
  (hf:C.P.funcs[f]? = some fn) (hb:fn.body = some code) (hname:(fn.name == "runtime.NumGoroutine") = false) (hfit:WR C.P fn.ntmps code = true)
  (h:∀ x y,F k x = some y → Zxs C A fn.ntmps code fn.results.toList pk rk (QC pk x) (ZB4 pk rk) = some y):Ctr C.P k f (mk pk rk F):=by
 refine ZBe (A:=A) (rk:=rk) hC hm hf hb hname hfit (fun rvs x hx => ?_) (fun rvs x hx => ?_)
 ·simp only [mk] at hx ⊢
  obtain ⟨y,h1,h2⟩:=Option.bind_eq_some_iff.1 hx
  rw [Qg pk rvs y h1]
  exact Zij pk y 0
 ·simp only [mk] at hx ⊢
  obtain ⟨y,h1,h2⟩:=Option.bind_eq_some_iff.1 hx
  have h3:=h y x h2
  rw [← Qg pk rvs y h1,ZBw] at h3
  obtain ⟨r,h4,h5⟩:=Option.bind_eq_some_iff.1 h3
  rw [h4,ZzB h5]
def phi:List (Nat × Callee) → Nat → Option Callee
 | [],_ => none
 | (f,c) :: l,g => bif Nat.beq g f then some c else phi l g
theorem Zd {P:Program} {k:Nat}:∀ {l:List (Nat × Callee)},(∀ p ∈ l,Ctr P k p.1 p.2) → ∀ f cal,phi l f = some cal → Ctr P k f cal
 | [],_,f,cal,h => by simp [phi] at h
 | (g,c) :: l,hl,f,cal,h => by
  simp only [phi] at h
  cases hb:Nat.beq f g with
  | true => simp_all
  | false => rw [hb] at h; exact Zd (fun p hp => hl p (by simp [hp])) f cal h
theorem Zb {P:Program} {k:Nat}:∀ p ∈ ([]:List (Nat × Callee)),Ctr P k p.1 p.2:=by intro p hp; simp at hp
theorem Za {P:Program} {k f:Nat} {c:Callee} {l:List (Nat × Callee)} (h:Ctr P k f c) (hl:∀ p ∈ l,Ctr P k p.1 p.2):∀ p ∈ (f,c) :: l,Ctr P k p.1 p.2:=by
 simp_all
def Zh {V R:Type} (step:(V → Option R) → V → Option R):Nat → V → Option R
 | 0,_ => none
 | n + 1,v => step (Zh step n) v
theorem Zc {V R:Type} {L:Nat → V → Option R} {step:(V → Option R) → V → Option R} (h0:∀ v,L 0 v = none) (h:∀ n v,L (n + 1) v = step (L n) v):∀ n,L n = Zh step n
 | 0 => funext h0
 | n + 1 => funext fun v => by rw [h,Zc h0 h n]; rfl
section
variable {R:Type}
def place (C:Ctx) (A:Nat → Ann) (kp:List Nat):List Nat → List Nat → Code → (Ex → St → Option R) → Code × (Ex → St → Option R)
 | 0 :: p,ns,.seq a b,K => place C A kp p ns a (ZF6 (fun s => Ws C A kp b s K) K)
 | _ :: p,ns,.seq _ b,K => place C A kp p ns b K
 | 0 :: p,ns,.cond _ a _,K => place C A kp p ns a K
 | _ :: p,ns,.cond _ _ b,K => place C A kp p ns b K
 | _ :: p,ns,.block id c,K => place C A kp p ns c (ZoL id K)
 | _ :: p,ns,.scope c,K => place C A kp p ns c K
 | _ :: p,n :: ns,.loop c,K => place C A kp p ns c fun e s => match e with
  | .normal => (ZlZ kp (A (Z8 c)) s).bind fun s => ZcP (Ws C A kp c) (ZlZ kp (A (Z8 c))) n s K
  | .exit i => K (.exit i) s
  | .ret => K .ret s
 | _,_,c,K => (c,K)
def Zi (C:Ctx) (A:Nat → Ann) (kp:List Nat) (p ns:List Nat) (code:Code) (K:Ex → St → Option R) (n:Nat) (st:St):Option R :=
 match place C A kp p ns code K with
 | (.loop c,K) => ZcP (Ws C A kp c) (ZlZ kp (A (Z8 c))) n st K
 | _ => none
end
end Go.Sh
