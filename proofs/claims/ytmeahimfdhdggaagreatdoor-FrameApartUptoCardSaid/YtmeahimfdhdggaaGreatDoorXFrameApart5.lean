/-
  What the row needs, part 5.
-/
import Derived.Test.YtmeahimfdhdggaaGreatDoorXFrameApart4
import Derived.Lib.SliceRun
import Derived.Shelf.Strings.Builder1
set_option linter.unusedSimpArgs false
set_option linter.unusedVariables false
set_option linter.unusedSectionVars false
open Nat renaming beq→Ja
namespace Go.Sh
open Go
variable [Gl]
variable {C:Ctx} {G:Glob} {σ:WM} {w:World} {lim:Nat → Nat} {st:St} {a:Act}
theorem WC.forget {n:Nat} (h:WC G n st a w) {e:Nat → AV} (he:∀ s,e s = .dead ∨ e s = st.env s):WC G n ⟨e,st.tbl⟩ a w:=by
 obtain ⟨σ,lim,h,h2⟩:=h
 refine ⟨σ,lim,⟨{ h.1 with env:=fun s => ?_,known:=fun s => ?_ },⟨fun s r hr => ?_,h.2.box,h.2.pins⟩⟩,h2⟩
 ·rcases he s with e1 | e1
  ·simp only [e1,RA]
  ·simp only [e1]; exact h.1.env s
 ·rcases he s with e1 | e1
  ·simp [e1,Zb,Zi]
  ·simp only [e1]; exact h.1.known s
 ·rcases he s with e1 | e1
  ·simp [e1,Zb] at hr
  ·simp only [e1] at hr; exact h.2.env s r hr
theorem Wj.quiet (h:Wj G σ lim st a.tmps w) {v:AV} {x:Value} (hv:RA σ w lim v x) (hk:Zb v = []) (d:Option Nat) (hd:∀ x,d = some x → x < a.tmps.size):Wj G σ lim ⟨WY st.env d v,st.tbl⟩ (a.put d x).tmps w:=by
 have:=RelW.step h.1 (Upd.quiet (v:=v) (x:=x) h.1 hv (by rw [hk]; exact Zo)) d hd
 simp only [Qo] at this
 exact ⟨this,h.2.set (by rw [hk]; simp)⟩
theorem Ze4 {P:Program} {ops:Array Oper} {Q:Exit → Act → World → Prop} {i:Nat} {o:Oper} {K:Act → World → Prop} {a:Act} {w:World} {v:Value}
  (ho:ops[i]? = some o) (hg:o.guard = none) (hx:(execOp a.eval o).run P w = .ok (.value v) w) (hK:K (a.put o.dst v) w):wpOp P ops Q i K a w:=by
 unfold wpOp
 simp only [ho,Region.wanted,hg,if_true]
 exact .inl (by unfold Oper.wp; rw [hx]; exact hK)
def Y2 {α:Type} (x:List α × Unit):Option (List α × Unit):=bif decide (x.1.length < 2147483648) then some (x.1,()) else none
theorem ZmR {C:Ctx} (hC:∀ f cal,C.Φ f = some cal → Ctr C.P C.k f cal) (hm:C.P.follows .mixedOrders = true) {f k:Nat} {fn:Func} {A:Nat → Ann} {o0 o1 o2:Oper} {r0 r1:Nat} {X Y:Code} {T E U:TypeId} {t:Ty}
  (hf:C.P.funcs[f]? = some fn) (hb:fn.body = some (.seq (.region r0 #[o0] false) (.seq (.seq (.region r1 #[o1,o2] false) (.cond (.tmp 4) X .skip)) Y))) (hname:(fn.name == "runtime.NumGoroutine") = false)
  (hX:Xv C.P fn.ntmps X = true) (hY:Xv C.P fn.ntmps Y = true) (hn:5 ≤ fn.ntmps) (hT:C.P.underlying T = some (.slice E))
  (h0:o0.op = .assign (.const (.slice none 0 0)) ∧ o0.dst = some 2 ∧ o0.guard = none)
  (h1:o1.op = .move (.tmp 0) ∧ o1.dst = some 3 ∧ o1.guard = none)
  (h2:o2.op = .binOp .eql T (.tmp 3) (.const (.slice none 0 0)) U ∧ o2.dst = some 4 ∧ o2.guard = none)
  (hrun:∀ (xs:List t.den),W3 C A [] (.cond (.tmp 4) X .skip) ⟨Zz [(0,.val (.sl t xs)),(4,.val (.v (.bool false)))],fun _ => .fresh⟩
   (ZDT (fun s => W3 C A [] Y s (Yt C fn.results.toList [.view (.sl t)] [] [] (.own t false) some)) (Yt C fn.results.toList [.view (.sl t)] [] [] (.own t false) some)) = bif decide (0 + xs.length < 2147483648) then some (.own t false ([] ++ xs),[]) else none)
  (hnil:W3 C A [] (.cond (.tmp 4) X .skip) ⟨Zz [(0,.val (.sl t [])),(4,.val (.v (.bool true)))],fun _ => .fresh⟩
   (ZDT (fun s => W3 C A [] Y s (Yt C fn.results.toList [.view (.sl t)] [] [] (.own t false) some)) (Yt C fn.results.toList [.view (.sl t)] [] [] (.own t false) some)) = some (.own t false [],[])) :
  Ctr C.P k f (mk [.view (.sl t)] (.own t false) fun _ x => Y2 x) where
 enters:=⟨fn,hf,hname,by rw [hb]; rfl⟩
 calls:=by
  intro rvs x hx w lim vs bs hlz hgl hT0 hnd hbs
  simp only [mk] at hx
  obtain ⟨y,hy1,hy2⟩:=Option.bind_eq_some_iff.1 hx
  have hrv:=QU [.view (.sl t)] rvs y hy1
  obtain ⟨xs,u⟩:=y
  simp only [Y2] at hy2
  have hlen:xs.length < 2147483648:=by
   by_cases h:xs.length < 2147483648
   ·exact h
   ·rw [decide_eq_false h] at hy2; simp at hy2
  rw [decide_eq_true hlen] at hy2
  obtain rfl:x = (xs,()):=(Option.some.inj hy2).symm
  subst hrv
  show Calls C.P f vs.toArray w (Zw9 w lim vs bs [.view (.sl t)] (.own t false xs,[]))
  refine Znx (C:=C) (rk:=.own t false) hf hb hlz hgl hT0 hnd hbs rfl (by simp [WO]; omega) (Nat.zero_le _) rfl fun G hp hS => ?_
  generalize hq:(fun (e:Exit) (a:Act) (w:World) => ∃ e' st',e = Ex.out e' ∧ Yt C fn.results.toList [.view (.sl t)] (Qw (ZI [.view (.sl t)]) (Z7 [.view (.sl t)] (ZG 0 (WO [.view (.sl t)] (xs,u))).1)) (Zat [.view (.sl t)] (WO [.view (.sl t)] (xs,u))) (.own t false) some e' st' = some (RV.own t false xs,[]) ∧ WC G fn.ntmps st' a w) = Q
  have hQ:∀ e st' a' w',Yt C fn.results.toList [.view (.sl t)] [] [] (.own t false) some e st' = some (RV.own t false xs,[]) → WC G fn.ntmps st' a' w' → Q e.out a' w':=by
   intro e st' a' w' hK hs
   rw [← hq]
   exact ⟨e,st',rfl,hK,hs⟩
  clear hq
  generalize ha0:({ tmps:=vs.toArray ++ Array.replicate (fn.ntmps - vs.toArray.size) undef,defers:=[] }:Act) = a0 at hS ⊢
  -- what stands there at first
  have hS0:WC G fn.ntmps ⟨Zz [(0,.val (.sl t xs))],fun _ => .fresh⟩ a0 w:=by
   have e0:enter (ZG 0 (WO [.view (.sl t)] (xs,u))).1 (ZG 0 (WO [.view (.sl t)] (xs,u))).2.1 = ⟨Zz [(0,.val (.sl t xs))],fun _ => .fresh⟩:=rfl
   rw [e0] at hS; exact hS
  clear hS
  refine wp_seq (wp_region ?_)
  obtain ⟨σ,lim1,hR,hz,hd⟩:=hS0
  have hk0:Zi (fun _ => RS.fresh) (Zb (.val (.v (.slice none 0 0)))):=Zo
  show wpOps C.P #[o0] _ [0] a0 w
  rw [wpOps_cons]
  refine Ze4 (o:=o0) rfl h0.2.2 (v:=.slice none 0 0) (by obtain ⟨d,op,ty,p,af,g⟩:=o0; simp only at h0; obtain ⟨rfl,rfl,rfl⟩:=h0; rfl) ?_
  have R1:=Wj.quiet hR (v:=.dead) (x:=.slice none 0 0) (by simp [RA]) (by simp [Zb]) o0.dst (by rw [h0.2.1]; intro d hdd; cases hdd; omega)
  show (Exit.then _ Q) .normal (a0.put o0.dst (.slice none 0 0)) w
  simp only [Exit.then]
  refine wp_seq (wp_seq (wp_region ?_))
  show wpOps C.P #[o1,o2] _ [0,1] _ w
  rw [wpOps_cons]
  generalize ha1:a0.put o0.dst (.slice none 0 0) = a1 at R1 ⊢
  have hz1:a1.tmps.size = fn.ntmps:=by rw [← ha1,Zda,hz]
  have hd1:a1.defers = []:=by rw [← ha1,YV,hd]
  have he0:=R1.1.env 0
  have hs0:WY (Zz [(0,AV.val (PV.sl t xs))]) o0.dst .dead 0 = .val (.sl t xs):=by rw [h0.2.1]; rfl
  simp only at he0
  rw [hs0] at he0
  simp only [RA,RP] at he0
  obtain ⟨A',l',c',hv,hnone⟩:∃ A l c,a1.tmps.getD 0 undef = .slice A l c ∧ (A = none → xs = []):=by
   simp only [Rt] at he0
   obtain ⟨A,len,cap,h,h'⟩:=he0
   refine ⟨A,len,cap,by simpa using h,?_⟩
   rintro rfl
   rcases h'.2.2 with e | ⟨b,off,e,_⟩
   ·exact e
   ·cases e
  refine Ze4 (o:=o1) rfl h1.2.2 (v:=.slice A' l' c') (by obtain ⟨d,op,ty,p,af,g⟩:=o1; simp only at h1; obtain ⟨rfl,rfl,rfl⟩:=h1; rw [← hv]; rfl) ?_
  have R2:=Wj.quiet R1 (v:=.dead) (x:=.slice A' l' c') (by simp [RA]) (by simp [Zb]) o1.dst (by rw [h1.2.1]; intro d hdd; cases hdd; omega)
  rw [wpOps_cons]
  have hv3:(a1.put o1.dst (.slice A' l' c')).eval (.tmp 3) = .slice A' l' c':=by
   show (a1.put o1.dst (.slice A' l' c')).tmps.getD 3 undef = _
   rw [ZnV,if_pos ⟨h1.2.1,by omega⟩]
  generalize ha2:a1.put o1.dst (.slice A' l' c') = a2 at R2 hv3 ⊢
  have hz2:a2.tmps.size = fn.ntmps:=by rw [← ha2,Zda,hz1]
  have hd2:a2.defers = []:=by rw [← ha2,YV,hd1]
  have hx2:(execOp a2.eval o2).run C.P w = .ok (.value (.bool A'.isNone)) w:=by
   obtain ⟨d,op,ty,p,af,g⟩:=o2
   simp only at h2
   obtain ⟨rfl,rfl,rfl⟩:=h2
   have:=Lib.run_eql_slice_nil (P:=C.P) w T E A' l' c' 0 0 hT
   simp only [execOp,hv3]
   simp [this,Sem.run_map,Act.eval,eqGuard]
  refine Ze4 (o:=o2) rfl h2.2.2 (v:=.bool A'.isNone) hx2 ?_
  have R3:=Wj.quiet R2 (v:=.val (.v (.bool A'.isNone))) (x:=.bool A'.isNone) (by simp [RA,RP]) (by simp [Zb]) o2.dst (by rw [h2.2.1]; intro d hdd; cases hdd; omega)
  have hS3:WC G fn.ntmps ⟨Zz [(0,.val (.sl t xs)),(4,.val (.v (.bool A'.isNone)))],fun _ => .fresh⟩ (a2.put o2.dst (.bool A'.isNone)) w:=by
   refine WC.forget ⟨_,_,R3,by rw [Zda,hz2],by rw [YV,hd2]⟩ fun s => ?_
   rw [h2.2.1,h1.2.1,h0.2.1]
   simp only [WY,KL,Zz]
   cases h4:Ja s 4 with
   | true =>
    have h5:Ja s 0 = false:=by rw [ZS h4]; rfl
    simp [h5]
   | false =>
    cases h5:Ja s 0 with
    | true =>
     have h6:Ja s 3 = false:=by rw [ZS h5]; rfl
     have h7:Ja s 2 = false:=by rw [ZS h5]; rfl
     simp [h6,h7]
    | false => exact .inl rfl
  show (Exit.then _ _) .normal _ w
  simp only [Exit.then]
  have hfin:W3 C A [] (.cond (.tmp 4) X .skip) ⟨Zz [(0,.val (.sl t xs)),(4,.val (.v (.bool A'.isNone)))],fun _ => .fresh⟩
    (ZDT (fun s => W3 C A [] Y s (Yt C fn.results.toList [.view (.sl t)] [] [] (.own t false) some)) (Yt C fn.results.toList [.view (.sl t)] [] [] (.own t false) some)) = some (.own t false xs,[]):=by
   cases A' with
   | none =>
    obtain rfl:=hnone rfl
    exact hnil
   | some p =>
    have:=hrun xs
    rw [decide_eq_true (by omega)] at this
    exact this
  refine Wk hC hm (A:=A) (kp:=[]) hp (.cond (.tmp 4) X .skip) hfin (by simp [Xv,hX]) hS3 fun e st' a' w' hK hs' => ?_
  cases e with
  | normal => exact Wk hC hm (A:=A) (kp:=[]) hp Y hK hY hs' hQ
  | exit i => exact hQ (.exit i) st' a' w' hK hs'
  | ret => exact hQ .ret st' a' w' hK hs'
def Zae:List Nat → Code → Code
 | 0 :: p,.seq a _ => Zae p a
 | _ :: p,.seq _ b => Zae p b
 | 0 :: p,.cond _ a _ => Zae p a
 | _ :: p,.cond _ _ b => Zae p b
 | _,c => c
def ZhQ (c:Code) (i:Nat):Oper:=match c with
 | .region _ ops _ => (ops.toList[i]?).getD default
 | _ => default
def ZzW (fn:Func):Code:=fn.body.getD .skip
end Go.Sh
