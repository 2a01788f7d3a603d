/-
  What the row needs, part 5.
-/
import Derived.Test.YtfljgkbgnfbhlaaXLeafKeeps4
import Derived.Lib.SliceRun
import Derived.Shelf.Strings.Builder1
set_option linter.unusedSimpArgs false
set_option linter.unusedVariables false
set_option linter.unusedSectionVars false
open Nat renaming beq→Ja
open Option renaming bind_eq_some_iff→Uy,some→VF
namespace Go.Sh
open Go
variable [Gl]
variable {C:Ctx} {G:Glob} {σ:Qt} {w:World} {lim:Nat → Nat} {st:St} {a:Act}
theorem Qn.forget {n:Nat} (h:Qn G n st a w) {e:Nat → AV} (he:∀ s,e s = .dead ∨ e s = st.env s):Qn G n ⟨e,st.tbl⟩ a w:=by
 obtain ⟨σ,lim,h,h2⟩:=h
 refine ⟨σ,lim,⟨{ h.1 with env:=fun s => ?_,known:=fun s => ?_ },⟨fun s r hr => ?_,h.2.box,h.2.pins⟩⟩,h2⟩
 ·rcases he s with e1 | e1
  ·simp only [e1,RA]
  ·simp only [e1]; exact h.1.env s
 ·rcases he s with e1 | e1
  ·simp [e1,Za,Zd]
  ·simp only [e1]; exact h.1.known s
 ·rcases he s with e1 | e1
  ·simp [e1,Za] at hr
  ·simp only [e1] at hr; exact h.2.env s r hr
theorem Qd.quiet (h:Qd G σ lim st a.tmps w) {v:AV} {x:Value} (hv:RA σ w lim v x) (hk:Za v = []) (d:Option Nat) (hd:∀ x,d = some x → x < a.tmps.size):Qd G σ lim ⟨QD st.env d v,st.tbl⟩ (a.put d x).tmps w:=by
 have:=RelW.step h.1 (Upd.quiet (v:=v) (x:=x) h.1 hv (by rw [hk]; exact Zh)) d hd
 simp only [ZJ] at this
 exact ⟨this,h.2.set (by rw [hk]; simp)⟩
theorem KD {P:Program} {ops:Array Oper} {Q:Exit → Act → World → Prop} {i:Nat} {o:Oper} {K:Act → World → Prop} {a:Act} {w:World} {v:Value}
  (ho:ops[i]? = some o) (hg:o.guard = none) (hx:(execOp a.eval o).run P w = .ok (.value v) w) (hK:K (a.put o.dst v) w):wpOp P ops Q i K a w:=by
 unfold wpOp
 simp only [ho,Region.wanted,hg,if_true]
 exact .inl (by unfold Oper.wp; rw [hx]; exact hK)
def Zbk {α:Type} (x:List α × Unit):Option (List α × Unit):=bif decide (x.1.length < 2147483648) then some (x.1,()) else none
theorem ZgC {C:Ctx} (hC:∀ f cal,C.Φ f = some cal → Ctr C.P C.k f cal) (hm:C.P.follows .mixedOrders = true) {f k:Nat} {fn:Func} {A:Nat → Ann} {o0 o1 o2:Oper} {r0 r1:Nat} {X Y:Code} {T E U:TypeId} {t:Ty}
  (hf:C.P.funcs[f]? = some fn) (hb:fn.body = some (.seq (.region r0 #[o0] false) (.seq (.seq (.region r1 #[o1,o2] false) (.cond (.tmp 4) X .skip)) Y))) (hname:(fn.name == "runtime.NumGoroutine") = false)
  (hX:QU C.P fn.ntmps X = true) (hY:QU C.P fn.ntmps Y = true) (hn:5 ≤ fn.ntmps) (hT:C.P.underlying T = some (.slice E))
  (h0:o0.op = .assign (.const (.slice none 0 0)) ∧ o0.dst = some 2 ∧ o0.guard = none)
  (h1:o1.op = .move (.tmp 0) ∧ o1.dst = some 3 ∧ o1.guard = none)
  (h2:o2.op = .binOp .eql T (.tmp 3) (.const (.slice none 0 0)) U ∧ o2.dst = some 4 ∧ o2.guard = none)
  (hrun:∀ (xs:List t.den),QH C A [] (.cond (.tmp 4) X .skip) ⟨Qm [(0,.val (.sl t xs)),(4,.val (.v (.bool false)))],fun _ => .fresh⟩
   (Ziv (fun s => QH C A [] Y s (Wu C fn.results.toList [.view (.sl t)] [] [] (.own t false) some)) (Wu C fn.results.toList [.view (.sl t)] [] [] (.own t false) some)) = bif decide (0 + xs.length < 2147483648) then some (.own t false ([] ++ xs),[]) else none)
  (hnil:QH C A [] (.cond (.tmp 4) X .skip) ⟨Qm [(0,.val (.sl t [])),(4,.val (.v (.bool true)))],fun _ => .fresh⟩
   (Ziv (fun s => QH C A [] Y s (Wu C fn.results.toList [.view (.sl t)] [] [] (.own t false) some)) (Wu C fn.results.toList [.view (.sl t)] [] [] (.own t false) some)) = some (.own t false [],[])) :
  Ctr C.P k f (mk [.view (.sl t)] (.own t false) fun _ x => Zbk x) where
 enters:=⟨fn,hf,hname,by rw [hb]; rfl⟩
 calls:=by
  intro rvs x hx w lim vs bs hlz hgl hT0 hnd hbs
  simp only [mk] at hx
  obtain ⟨y,hy1,hy2⟩:=Uy.1 hx
  have hrv:=ZZ [.view (.sl t)] rvs y hy1
  obtain ⟨xs,u⟩:=y
  simp only [Zbk] at hy2
  have hlen:xs.length < 2147483648:=by
   by_cases h:xs.length < 2147483648
   ·exact h
   ·rw [decide_eq_false h] at hy2; simp at hy2
  rw [decide_eq_true hlen] at hy2
  obtain rfl:x = (xs,()):=(VF.inj hy2).symm
  subst hrv
  show Calls C.P f vs.toArray w (ZeP w lim vs bs [.view (.sl t)] (.own t false xs,[]))
  refine ZcK (C:=C) (rk:=.own t false) hf hb hlz hgl hT0 hnd hbs rfl (by simp [Qu]; omega) (Nat.zero_le _) rfl fun G hp hS => ?_
  generalize hq:(fun (e:Exit) (a:Act) (w:World) => ∃ e' st',e = Ex.out e' ∧ Wu C fn.results.toList [.view (.sl t)] (ZM (Zp [.view (.sl t)]) (ZD [.view (.sl t)] (Zo 0 (Qu [.view (.sl t)] (xs,u))).1)) (Xy [.view (.sl t)] (Qu [.view (.sl t)] (xs,u))) (.own t false) some e' st' = some (RV.own t false xs,[]) ∧ Qn G fn.ntmps st' a w) = Q
  have hQ:∀ e st' a' w',Wu C fn.results.toList [.view (.sl t)] [] [] (.own t false) some e st' = some (RV.own t false xs,[]) → Qn G fn.ntmps st' a' w' → Q e.out a' w':=by
   intro e st' a' w' hK hs
   rw [← hq]
   exact ⟨e,st',rfl,hK,hs⟩
  clear hq
  generalize ha0:({ tmps:=vs.toArray ++ Array.replicate (fn.ntmps - vs.toArray.size) undef,defers:=[] }:Act) = a0 at hS ⊢
  -- what stands there at first
  have hS0:Qn G fn.ntmps ⟨Qm [(0,.val (.sl t xs))],fun _ => .fresh⟩ a0 w:=by
   have e0:enter (Zo 0 (Qu [.view (.sl t)] (xs,u))).1 (Zo 0 (Qu [.view (.sl t)] (xs,u))).2.1 = ⟨Qm [(0,.val (.sl t xs))],fun _ => .fresh⟩:=rfl
   rw [e0] at hS; exact hS
  clear hS
  refine wp_seq (wp_region ?_)
  obtain ⟨σ,lim1,hR,hz,hd⟩:=hS0
  have hk0:Zd (fun _ => RS.fresh) (Za (.val (.v (.slice none 0 0)))):=Zh
  show wpOps C.P #[o0] _ [0] a0 w
  rw [wpOps_cons]
  refine KD (o:=o0) rfl h0.2.2 (v:=.slice none 0 0) (by obtain ⟨d,op,ty,p,af,g⟩:=o0; simp only at h0; obtain ⟨rfl,rfl,rfl⟩:=h0; rfl) ?_
  have R1:=Qd.quiet hR (v:=.dead) (x:=.slice none 0 0) (by simp [RA]) (by simp [Za]) o0.dst (by rw [h0.2.1]; intro d hdd; cases hdd; omega)
  show (Exit.then _ Q) .normal (a0.put o0.dst (.slice none 0 0)) w
  simp only [Exit.then]
  refine wp_seq (wp_seq (wp_region ?_))
  show wpOps C.P #[o1,o2] _ [0,1] _ w
  rw [wpOps_cons]
  generalize ha1:a0.put o0.dst (.slice none 0 0) = a1 at R1 ⊢
  have hz1:a1.tmps.size = fn.ntmps:=by rw [← ha1,YL,hz]
  have hd1:a1.defers = []:=by rw [← ha1,WK,hd]
  have he0:=R1.1.env 0
  have hs0:QD (Qm [(0,AV.val (PV.sl t xs))]) o0.dst .dead 0 = .val (.sl t xs):=by rw [h0.2.1]; rfl
  simp only at he0
  rw [hs0] at he0
  simp only [RA,RP] at he0
  obtain ⟨A',l',c',hv,hnone⟩:∃ A l c,a1.tmps.getD 0 undef = .slice A l c ∧ (A = none → xs = []):=by
   simp only [Rt] at he0
   obtain ⟨A,len,cap,h,h'⟩:=he0
   refine ⟨A,len,cap,by simpa using h,?_⟩
   rintro rfl
   rcases h'.2.2 with e | ⟨b,off,e,_⟩
   ·exact e
   ·cases e
  refine KD (o:=o1) rfl h1.2.2 (v:=.slice A' l' c') (by obtain ⟨d,op,ty,p,af,g⟩:=o1; simp only at h1; obtain ⟨rfl,rfl,rfl⟩:=h1; rw [← hv]; rfl) ?_
  have R2:=Qd.quiet R1 (v:=.dead) (x:=.slice A' l' c') (by simp [RA]) (by simp [Za]) o1.dst (by rw [h1.2.1]; intro d hdd; cases hdd; omega)
  rw [wpOps_cons]
  have hv3:(a1.put o1.dst (.slice A' l' c')).eval (.tmp 3) = .slice A' l' c':=by
   show (a1.put o1.dst (.slice A' l' c')).tmps.getD 3 undef = _
   rw [ZcV,if_pos ⟨h1.2.1,by omega⟩]
  generalize ha2:a1.put o1.dst (.slice A' l' c') = a2 at R2 hv3 ⊢
  have hz2:a2.tmps.size = fn.ntmps:=by rw [← ha2,YL,hz1]
  have hd2:a2.defers = []:=by rw [← ha2,WK,hd1]
  have hx2:(execOp a2.eval o2).run C.P w = .ok (.value (.bool A'.isNone)) w:=by
   obtain ⟨d,op,ty,p,af,g⟩:=o2
   simp only at h2
   obtain ⟨rfl,rfl,rfl⟩:=h2
   have:=Lib.run_eql_slice_nil (P:=C.P) w T E A' l' c' 0 0 hT
   simp only [execOp,hv3]
   simp [this,Sem.run_map,Act.eval,eqGuard]
  refine KD (o:=o2) rfl h2.2.2 (v:=.bool A'.isNone) hx2 ?_
  have R3:=Qd.quiet R2 (v:=.val (.v (.bool A'.isNone))) (x:=.bool A'.isNone) (by simp [RA,RP]) (by simp [Za]) o2.dst (by rw [h2.2.1]; intro d hdd; cases hdd; omega)
  have hS3:Qn G fn.ntmps ⟨Qm [(0,.val (.sl t xs)),(4,.val (.v (.bool A'.isNone)))],fun _ => .fresh⟩ (a2.put o2.dst (.bool A'.isNone)) w:=by
   refine Qn.forget ⟨_,_,R3,by rw [YL,hz2],by rw [WK,hd2]⟩ fun s => ?_
   rw [h2.2.1,h1.2.1,h0.2.1]
   simp only [QD,Xi,Qm]
   cases h4:Ja s 4 with
   | true =>
    have h5:Ja s 0 = false:=by rw [Zu h4]; rfl
    simp [h5]
   | false =>
    cases h5:Ja s 0 with
    | true =>
     have h6:Ja s 3 = false:=by rw [Zu h5]; rfl
     have h7:Ja s 2 = false:=by rw [Zu h5]; rfl
     simp [h6,h7]
    | false => exact .inl rfl
  show (Exit.then _ _) .normal _ w
  simp only [Exit.then]
  have hfin:QH C A [] (.cond (.tmp 4) X .skip) ⟨Qm [(0,.val (.sl t xs)),(4,.val (.v (.bool A'.isNone)))],fun _ => .fresh⟩
    (Ziv (fun s => QH C A [] Y s (Wu C fn.results.toList [.view (.sl t)] [] [] (.own t false) some)) (Wu C fn.results.toList [.view (.sl t)] [] [] (.own t false) some)) = some (.own t false xs,[]):=by
   cases A' with
   | none =>
    obtain rfl:=hnone rfl
    exact hnil
   | some p =>
    have:=hrun xs
    rw [decide_eq_true (by omega)] at this
    exact this
  refine Qe hC hm (A:=A) (kp:=[]) hp (.cond (.tmp 4) X .skip) hfin (by simp [QU,hX]) hS3 fun e st' a' w' hK hs' => ?_
  cases e with
  | normal => exact Qe hC hm (A:=A) (kp:=[]) hp Y hK hY hs' hQ
  | exit i => exact hQ (.exit i) st' a' w' hK hs'
  | ret => exact hQ .ret st' a' w' hK hs'
def KS:List Nat → Code → Code
 | 0 :: p,.seq a _ => KS p a
 | _ :: p,.seq _ b => KS p b
 | 0 :: p,.cond _ a _ => KS p a
 | _ :: p,.cond _ _ b => KS p b
 | _,c => c
def Zfr (c:Code) (i:Nat):Oper:=match c with
 | .region _ ops _ => (ops.toList[i]?).getD default
 | _ => default
def ZjS (fn:Func):Code:=fn.body.getD .skip
theorem ZgU {t:Ty} {sh:Bool} {xs:List t.den} {v:Value} {bs:List Nat} {w w':World} {lim lim':Nat → Nat} (e:Ext w lim w' lim') (hb:∀ b ∈ bs,w'.heap[b]? = w.heap[b]? ∧ lim' b = lim b) (h:Zcq w lim t sh xs v bs):Zcq w' lim' t sh xs v bs:=by
 refine ⟨h.1,?_⟩
 rcases h.2 with h | ⟨b,off,cap,vs,T,fz,h1,h2,h3,h4,h5,h6,h7,rfl⟩
 ·exact .inl h
 ·obtain ⟨e1,e2⟩:=hb b (by simp)
  exact .inr ⟨b,off,cap,vs,T,fz,h1,h2,by rw [e1]; exact h3,h4,h5,fun i hi => (h6 i hi).mono e,by rw [e2]; exact h7,rfl⟩
theorem Zci {P:Program} {ρ:Shelf.Ren} (L:Go.Proofs.Lays.n240 P ρ) (X:Go.Proofs.Builder.X72 P ρ) {k f:Nat} {fn:Func} (hf:ρ.f 240 = f) (hfn:P.funcs[f]? = some fn) (hname:(fn.name == "runtime.NumGoroutine") = false) (hbody:fn.body.isNone = false) :
  Ctr P k f (mk [.bld (ρ.t 72)] (.tup []) fun _ x => some ((),x.1,())) where
 enters:=⟨fn,hfn,hname,hbody⟩
 calls:=by
  intro rvs x hx w lim vs bs hlz hgl hT0 hnd hbs
  simp only [mk] at hx
  obtain ⟨y,hy1,hy2⟩:=Uy.1 hx
  have hrv:=ZZ [.bld (ρ.t 72)] rvs y hy1
  obtain ⟨xs,u⟩:=y
  obtain rfl:x = ((),xs,()):=(VF.inj hy2).symm
  subst hrv
  show Calls P f vs.toArray w (ZeP w lim vs bs [.bld (ρ.t 72)] (.tup [],[.bld (ρ.t 72) xs]))
  simp only [Qu,enc] at hT0
  match vs,hT0 with
  | [v],hT0 =>
   simp only [Y4] at hT0
   obtain ⟨b1,b2,rfl,hT,rfl⟩:=hT0
   simp only [TT] at hT
   obtain ⟨b,p,q,bs1,rfl,h2,h3,h4,h5,rfl⟩:=hT
   simp only [List.append_nil] at hnd hbs ⊢
   rw [List.nodup_cons] at hnd
   have done:∀ w':World,w'.heap[b]? = some (.cells #[.pointer (some ⟨b,0,none⟩),q] (ρ.t 72) (0,0)) → w'.heap.size = w.heap.size → (∀ b',b' ≠ b → w'.heap[b']? = w.heap[b']?) → (w'.os = w.os ∧ w'.tape = w.tape ∧ w'.output = w.output) →
     ZeP w lim [.pointer (some ⟨b,0,none⟩)] (b :: bs1) [.bld (ρ.t 72)] (.tup [],[.bld (ρ.t 72) xs]) (.returned (.tuple #[])) w':=by
    intro w' g1 g2 g3 g4
    have hE:Ext w lim w' lim:=⟨by omega,fun b' o ho => by
     by_cases e:b' = b
     ·subst e; omega
     ·simp [World.cell?,g3 b' e],fun _ _ h => h,fun b' T hT => by
     by_cases e:b' = b
     ·subst e
      simp only [ZS,h2] at hT
      simpa [ZS,g1] using hT
     ·simpa [ZS,g3 b' e] using hT⟩
    refine ⟨_,lim,[],b :: bs1,rfl,hE,fun b' hb' => hlz b' (by omega),g4,fun b' hb' hn => ⟨g3 b' (fun e => hn (by simp [e])),rfl⟩,?_,?_,by simp [Wo,Zp,Qy],?_,?_⟩
    ·simp only [TT]; exact ⟨[],rfl,by simp [Y4]⟩
    ·simp only [TL]
     refine ⟨b :: bs1,[],by simp,?_,rfl⟩
     simp only [TT]
     exact ⟨b,_,q,bs1,rfl,g1,.inr rfl,ZgU hE (fun b' hb' => ⟨g3 b' (fun e => hnd.1 (e ▸ hb')),rfl⟩) h4,h5,rfl⟩
    ·simpa using hnd
    ·intro b' hb'; exact .inl (by simpa using hb')
   subst hf
   have c0:w.cell? ⟨b,0,none⟩ = some p:=by simp [World.cell?,h2]
   rcases h3 with rfl | rfl
   ·refine (Go.Proofs.Any.Builder_copyCheck_fresh L X b w c0 (by simp [World.shape?,h2]) (by simp [World.frozen?,h2])).mono ?_
    rintro e w' ⟨rfl,rfl⟩
    have hset:=setCell_eq_setRow w b 0 #[.pointer none,q] (ρ.t 72) (0,0) (.pointer (some ⟨b,0,none⟩)) h2
    rw [hset]
    exact done _ (by simpa using setRow_heap w b _ _ _ _ h2) (by simp) (fun b' hb' => setRow_other w b b' _ hb') ⟨rfl,rfl,rfl⟩
   ·refine (Go.Proofs.Any.Builder_copyCheck_used L X b w c0).mono ?_
    rintro e w' ⟨rfl,rfl⟩
    exact done w' h2 rfl (fun _ _ => rfl) ⟨rfl,rfl,rfl⟩
end Go.Sh
