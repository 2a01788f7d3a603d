/-
  What the row needs, part 1.
-/
import Derived.Test.YtlbgcegonmbddaaDoorXWavKeeps0
import Derived.Below
set_option linter.unusedSimpArgs false
set_option linter.unusedVariables false
set_option linter.unusedSectionVars false
open Nat renaming beq→Ja
namespace Go.Sh
open Go
namespace M
variable {α β R:Type}
theorem runK_eq (T:ZF) (m:M α):∀ (l:List Nat) (K:α → List Nat → Option R),m.runK T l K = (m.run T l).bind fun x => K x.1 x.2:=by
 induction m with
 | ret a => intro l K; rfl
 | fail => intro l K; rfl
 | get r k ih => intro l K; exact ih _ _ _
 | need b k ih => intro l K; cases b <;> simp [runK,run,ih]
 | br b k ih => intro l K; cases b <;> simp [runK,run,ih]
 | opt o k ih => intro l K; cases o <;> simp [runK,run,ih]
theorem run_bind (T:ZF) (m:M α) (f:α → M β):∀ l,(m.bind f).run T l = (m.run T l).bind fun x => (f x.1).run T x.2:=by
 induction m with
 | ret a => intro l; rfl
 | fail => intro l; rfl
 | get r k ih => intro l; exact ih _ _
 | need b k ih => intro l; cases b <;> simp [bind,run,ih]
 | br b k ih => intro l; cases b <;> simp [bind,run,ih]
 | opt o k ih => intro l; cases o <;> simp [bind,run,ih]
theorem run_ret {T:ZF} {a x:α} {l l':List Nat} (h:(M.ret a).run T l = some (x,l')):x = a ∧ l' = l:=by
 grind [run]
theorem run_bind_some {T:ZF} {m:M α} {f:α → M β} {l:List Nat} {x:β} {l':List Nat} (h:(m.bind f).run T l = some (x,l')) :
  ∃ a l1,m.run T l = some (a,l1) ∧ (f a).run T l1 = some (x,l'):=by
 rw [run_bind] at h
 cases hm:m.run T l with
 | none => simp [hm] at h
 | some p => grind
theorem run_need {T:ZF} {b:Bool} {m:M α} {l:List Nat} {x:α} {l':List Nat} (h:(M.need b m).run T l = some (x,l')):b = true ∧ m.run T l = some (x,l'):=by
 grind [run]
theorem run_guard {T:ZF} {b:Bool} {m:M α} {l:List Nat} {x:α} {l':List Nat} (h:(bif b then m else M.fail).run T l = some (x,l')):b = true ∧ m.run T l = some (x,l'):=by
 grind [run]
theorem run_opt {ρ:Type} {T:ZF} {o:Option ρ} {k:ρ → M α} {l:List Nat} {x:α} {l':List Nat} (h:(M.opt o k).run T l = some (x,l')):∃ y,o = some y ∧ (k y).run T l = some (x,l'):=by
 cases o with
 | none => simp [run] at h
 | some y => exact ⟨y,rfl,h⟩
theorem run_fail {T:ZF} {l:List Nat} {x:α} {l':List Nat} (h:(M.fail:M α).run T l = some (x,l')):False:=by simp [run] at h
theorem run_ofOpt {T:ZF} {o:Option α} {l:List Nat} {x:α} {l':List Nat} (h:(M.ofOpt o).run T l = some (x,l')):o = some x:=by
 cases o <;> simp [ofOpt,run] at h ⊢; exact h.1
end M
theorem Zc {a b:Nat} (h:a ≠ b):Ja a b = false:=by
 cases hb:Ja a b with
 | false => rfl
 | true => simp_all
theorem WJ (a:Nat):Ja a a = true:=Nat.beq_refl a
theorem ZC {a b:Nat} (h:Ja a b = true):a = b:=Nat.eq_of_beq_eq_true h
abbrev QM:=Nat → Value
mutual
def RA (σ:QM) (w:World) (lim:Nat → Nat):AV → Value → Prop
 | .dead,_ => True
 | .val p,v => RP w lim p v
 | .own r,v => v = σ r ∧ ∃ A l c,v = .slice A l c
 | .bx r k,v => ∃ b,σ r = .pointer (some ⟨b,0,none⟩) ∧ v = .pointer (some ⟨b,k,none⟩)
 | .el r t i k,v => ∃ b off len cap,σ r = .slice (some ⟨b,off,none⟩) len cap ∧ v = .pointer (some ⟨b,off + i * t.size + k,none⟩)
 | .sub r t i j,v => ∃ A len cap,σ r = .slice A len cap ∧ v = .slice (if cap = i then A else A.map (·.add (i * t.size))) (j - i) (cap - i)
 | .sp ps,v => ∃ b off,v = .pointer (some ⟨b,off,none⟩) ∧ ∀ j p,ps[j]? = some p → ∃ c,w.cell? ⟨b,off + j,none⟩ = some c ∧ off + j < lim b ∧ RP w lim p c
 | .agg cs,v => ∃ vs:List Value,v = .agg vs.toArray ∧ ZA σ w lim cs vs
 | .tup cs,v => ∃ vs:List Value,v = .tuple vs.toArray ∧ ZA σ w lim cs vs
 | .fn f,v => v = .func (.func f) #[] #[]
 | .ns t xs,v => Rt w lim (.sl t) xs [v] ∧ (xs = [] → v = .slice none 0 0)
 | .vp t xs,v => ∃ a n m,v = .pointer (some a) ∧ Rt w lim (.sl t) xs [.slice (some a) n m]
 | .clo f cs,v => ∃ vs:List Value,v = .func (.func f) #[] vs.toArray ∧ ZA σ w lim cs vs
 | .me r T,v => ∃ p,v = .pointer p ∧ (p = none ∨ v = σ r) ∧ ∃ b,σ r = .pointer (some ⟨b,0,none⟩) ∧ Z8 w b = some T
def ZA (σ:QM) (w:World) (lim:Nat → Nat):List AV → List Value → Prop
 | [],[] => True
 | a :: l,v :: m => RA σ w lim a v ∧ ZA σ w lim l m
 | _,_ => False
end
theorem ZB {σ:QM} {w:World} {lim:Nat → Nat} : {cs:List AV} → {vs:List Value} → (ZA σ w lim cs vs ↔ Zv (RA σ w lim) cs vs)
 | [],[] => by simp [ZA,Zv]
 | [],_ :: _ => by simp [ZA,Zv]
 | _ :: _,[] => by simp [ZA,Zv]
 | _ :: _,_ :: _ => by simp [ZA,Zv,ZB]
def Ze (T:ZF) (ids:List Nat):Prop := ∀ r ∈ ids,T r ≠ .fresh
mutual
theorem RA.mono {σ σ':QM} {w w':World} {l l':Nat → Nat} {T:ZF} (e:Ext w l w' l') (hσ:∀ r,T r ≠ .fresh → σ' r = σ r) :
  (a:AV) → (v:Value) → Ze T (Za a) → RA σ w l a v → RA σ' w' l' a v
 | .dead,_,_,_ => by simp [RA]
 | .val p,v,_,h => by simp only [RA] at h ⊢; exact h.mono e
 | .own r,v,k,h => by simp only [RA] at h ⊢; rw [hσ r (k r (by simp [Za]))]; exact h
 | .bx r j,v,k,h => by simp only [RA] at h ⊢; rw [hσ r (k r (by simp [Za]))]; exact h
 | .el r t i j,v,k,h => by simp only [RA] at h ⊢; rw [hσ r (k r (by simp [Za]))]; exact h
 | .sub r t i j,v,k,h => by simp only [RA] at h ⊢; rw [hσ r (k r (by simp [Za]))]; exact h
 | .sp ps,v,_,h => by
  simp only [RA] at h ⊢
  obtain ⟨b,off,hv,h⟩:=h
  refine ⟨b,off,hv,fun j p hp => ?_⟩
  obtain ⟨c,h1,h2,h3⟩:=h j p hp
  exact ⟨c,(e.cell _ _ h2).trans h1,e.lim _ _ h2,h3.mono e⟩
 | .agg cs,v,k,h => by
  simp only [RA] at h ⊢; obtain ⟨vs,hv,h⟩:=h
  exact ⟨vs,hv,ZA.mono e hσ cs vs (by simpa [Za] using k) h⟩
 | .tup cs,v,k,h => by
  simp only [RA] at h ⊢; obtain ⟨vs,hv,h⟩:=h
  exact ⟨vs,hv,ZA.mono e hσ cs vs (by simpa [Za] using k) h⟩
 | .fn f,_,_,h => by simp only [RA] at h ⊢; exact h
 | .ns t xs,_,_,h => by simp only [RA] at h ⊢; exact ⟨h.1.mono e,h.2⟩
 | .vp t xs,_,_,h => by simp only [RA] at h ⊢; obtain ⟨a,n,m,h1,h2⟩:=h; exact ⟨a,n,m,h1,h2.mono e⟩
 | .clo f cs,v,k,h => by
  simp only [RA] at h ⊢; obtain ⟨vs,hv,h⟩:=h
  exact ⟨vs,hv,ZA.mono e hσ cs vs (by simpa [Za] using k) h⟩
 | .me r T,v,k,h => by
  simp only [RA] at h ⊢; rw [hσ r (k r (by simp [Za]))]
  obtain ⟨p,h1,h2,b,h3,h4⟩:=h
  exact ⟨p,h1,h2,b,h3,e.typ b T h4⟩
theorem ZA.mono {σ σ':QM} {w w':World} {l l':Nat → Nat} {T:ZF} (e:Ext w l w' l') (hσ:∀ r,T r ≠ .fresh → σ' r = σ r) :
  (cs:List AV) → (vs:List Value) → Ze T (Zd cs) → ZA σ w l cs vs → ZA σ' w' l' cs vs
 | [],[],_,_ => by simp [ZA]
 | a :: cs,v :: vs,k,h => by
  simp only [ZA] at h ⊢
  exact ⟨RA.mono e hσ a v (fun r hr => k r (by simp [Zd,hr])) h.1,ZA.mono e hσ cs vs (fun r hr => k r (by simp [Zd,hr])) h.2⟩
 | [],_ :: _,_,h => by simp [ZA] at h
 | _ :: _,[],_,h => by simp [ZA] at h
end
def blk:Value → Option Nat
 | .pointer (some a) => some a.block
 | .slice (some a) _ _ => some a.block
 | _ => none
def RR (σ:QM) (w:World) (lim:Nat → Nat) (r:Nat):Res → Prop
 | .box cs => ∃ b vs T,σ r = .pointer (some ⟨b,0,none⟩) ∧ w.heap[b]? = some (.cells vs T (0,0)) ∧ ZA σ w lim cs vs.toList ∧ lim b = 0
 | .arr t xs shown => 0 < t.size ∧ ((xs = [] ∧ σ r = .slice none 0 0) ∨ ∃ b off cap vs T fz,σ r = .slice (some ⟨b,off,none⟩) xs.length cap ∧ xs.length ≤ cap ∧
   w.heap[b]? = some (.cells vs T fz) ∧ off + cap * t.size ≤ vs.size ∧ Fit t T vs.size fz ∧
   (∀ i (h:i < xs.length),Rt w lim t xs[i] ((vs.toList.drop (off + i * t.size)).take t.size)) ∧ (bif shown then lim b ≤ off + xs.length * t.size else lim b = 0))
 | .nest t xss h => 0 < t.size ∧ ∃ b off cap vs T fz,σ r = .slice (some ⟨b,off,none⟩) xss.length cap ∧ xss.length ≤ cap ∧
   w.heap[b]? = some (.cells vs T fz) ∧ off + cap * (Ty.sl t).size ≤ vs.size ∧ Fit (.sl t) T vs.size fz ∧
   (∀ i,i < xss.length → h ≠ some i → vs.toList[off + i]? = some (σ (Wa r i))) ∧ lim b = 0
def ZL (r:Nat):Res → List Nat
 | .box cs => Zd cs
 | .nest _ xss h => ((List.range xss.length).filter fun i => decide (h ≠ some i)).map (Wa r)
 | .arr _ _ _ => []
theorem Qo {r n:Nat} {t:Ty} {xss:List (List t.den)} {h:Option Nat}:n ∈ ZL r (.nest t xss h) ↔ ∃ i,i < xss.length ∧ h ≠ some i ∧ n = Wa r i:=by
 simp only [ZL,List.mem_map,List.mem_filter,List.mem_range,decide_eq_true_eq]
 grind
theorem RR.mono {σ σ':QM} {w w':World} {l l':Nat → Nat} {T:ZF} (e:Ext w l w' l') (hσ:∀ r,T r ≠ .fresh → σ' r = σ r) {r:Nat} {x:Res}
  (hr:T r ≠ .fresh) (k:Ze T (ZL r x)) (hb:∀ b,blk (σ r) = some b → w'.heap[b]? = w.heap[b]? ∧ l' b = l b) (h:RR σ w l r x):RR σ' w' l' r x:=by
 cases x with
 | box cs =>
  simp only [RR] at h ⊢
  obtain ⟨b,vs,U,h1,h2,h3,h4⟩:=h
  obtain ⟨e1,e2⟩:=hb b (by rw [h1]; rfl)
  exact ⟨b,vs,U,by rw [hσ r hr,h1],by rw [e1,h2],ZA.mono e hσ _ _ k h3,by rw [e2,h4]⟩
 | arr t xs shown =>
  simp only [RR] at h ⊢
  refine ⟨h.1,?_⟩
  rcases h.2 with ⟨h1,h2⟩ | ⟨b,off,cap,vs,U,fz,h1,h2,h3,h4,h5,h6,h7⟩
  ·simp_all
  ·obtain ⟨e1,e2⟩:=hb b (by rw [h1]; rfl)
   exact .inr ⟨b,off,cap,vs,U,fz,by rw [hσ r hr,h1],h2,by rw [e1,h3],h4,h5,fun i hi => (h6 i hi).mono e,by rw [e2]; exact h7⟩
 | nest t xss o =>
  simp only [RR] at h ⊢
  obtain ⟨h0,b,off,cap,vs,U,fz,h1,h2,h3,h4,h5,h6,h7⟩:=h
  obtain ⟨e1,e2⟩:=hb b (by rw [h1]; rfl)
  exact ⟨h0,b,off,cap,vs,U,fz,by rw [hσ r hr,h1],h2,by rw [e1,h3],h4,h5,fun i hi ho => by rw [hσ _ (k _ (Qo.2 ⟨i,hi,ho,rfl⟩))]; exact h6 i hi ho,by rw [e2]; exact h7⟩
structure Glob where
 w0:World
 lim0:Nat → Nat
 lent:List Nat
 pins:List (Nat × Value)                 -- names that stay
def Zw:RS → Bool
 | .live _ => true
 | _ => false
def Zbn [Gl] (w:World) (lim:Nat → Nat):Prop := ∀ g j n,(Gl.tab g).2[j]? = some n → w.cell? ⟨g,j,none⟩ = some (.int (Gl.tab g).1 n) ∧ j < lim g
theorem Zbn.mono [Gl] {w w':World} {l l':Nat → Nat} (h:Zbn w l) (e:Ext w l w' l'):Zbn w' l':=fun g j n hj => by
 obtain ⟨h1,h2⟩:=h g j n hj
 exact ⟨(e.cell _ _ h2).trans h1,e.lim _ _ h2⟩
variable [Gl]
structure RelW (G:Glob) (σ:QM) (lim:Nat → Nat) (st:St) (tmps:Array Value) (w:World):Prop where
 env:∀ s,RA σ w lim (st.env s) (tmps.getD s undef)
 known:∀ s,Ze st.tbl (Za (st.env s))
 res:∀ r x,st.tbl r = .live x → RR σ w lim r x ∧ Ze st.tbl (ZL r x)
 inj:∀ r r' b,Zw (st.tbl r) = true → Zw (st.tbl r') = true → blk (σ r) = some b → blk (σ r') = some b → r = r'
 own:∀ r b,Zw (st.tbl r) = true → blk (σ r) = some b → (G.w0.heap.size ≤ b ∨ b ∈ G.lent)
 ext:Ext G.w0 G.lim0 w lim
 keep:∀ b,b < G.w0.heap.size → b ∉ G.lent → w.heap[b]? = G.w0.heap[b]?
 same:w.os = G.w0.os ∧ w.tape = G.w0.tape ∧ w.output = G.w0.output
 lz:∀ b,w.heap.size ≤ b → lim b = 0
 limk:∀ b,b < G.w0.heap.size → b ∉ G.lent → lim b = G.lim0 b
 pin:∀ p ∈ G.pins,σ p.1 = p.2 ∧ st.tbl p.1 ≠ .fresh
 glob:Zbn G.w0 G.lim0
structure Upd (G:Glob) (σ:QM) (lim:Nat → Nat) (st:St) (w:World) (σ':QM) (lim':Nat → Nat) (w':World) (v:AV) (x:Value) (ups:Qh):Prop where
 ext:Ext w lim w' lim'
 lz:∀ b,w'.heap.size ≤ b → lim' b = 0
 same:w'.os = w.os ∧ w'.tape = w.tape ∧ w'.output = w.output
 sig:∀ r,st.tbl r ≠ .fresh → σ' r = σ r
 rest:∀ r,Zw (st.tbl r) = true → Zm ups r = none → ∀ b,blk (σ r) = some b → w'.heap[b]? = w.heap[b]? ∧ lim' b = lim b
 new:∀ r y,Zm ups r = some (.live y) → RR σ' w' lim' r y ∧ Ze (st.tbl.put ups) (ZL r y)
 inj:∀ r r' y b,Zm ups r = some (.live y) → Zw (st.tbl.put ups r') = true → blk (σ' r) = some b → blk (σ' r') = some b → r' = r
 own:∀ r y b,Zm ups r = some (.live y) → blk (σ' r) = some b → (G.w0.heap.size ≤ b ∨ b ∈ G.lent)
 keep:∀ b,b < G.w0.heap.size → b ∉ G.lent → w'.heap[b]? = w.heap[b]?
 limk:∀ b,b < G.w0.heap.size → b ∉ G.lent → lim' b = lim b
 nofresh:∀ r,Zm ups r ≠ some .fresh
 val:RA σ' w' lim' v x
 known:Ze (st.tbl.put ups) (Za v)
theorem Ze.put {T:ZF} {ups:Qh} (h:∀ r,Zm ups r ≠ some .fresh) {ids:List Nat} (k:Ze T ids):Ze (T.put ups) ids:=by
 intro r hr
 simp only [ZF.put]
 cases hl:Zm ups r with
 | none => exact k r hr
 | some x => grind
theorem Zkk (a:Act) (o:Option Nat) (x:Value) (s:Nat):(a.put o x).tmps.getD s undef = (if o = some s ∧ s < a.tmps.size then x else a.tmps.getD s undef):=by
 cases o with
 | none => simp [Act.put]
 | some d =>
  simp only [Act.put,Array.getD_eq_getD_getElem?,Array.getElem?_setIfInBounds]
  grind
theorem RelW.step {G:Glob} {σ:QM} {lim:Nat → Nat} {st:St} {a:Act} {w:World} {σ':QM} {lim':Nat → Nat} {w':World} {v:AV} {x:Value} {ups:Qh}
  (h:RelW G σ lim st a.tmps w) (u:Upd G σ lim st w σ' lim' w' v x ups) (o:Option Nat) (ho:∀ d,o = some d → d < a.tmps.size) :
  RelW G σ' lim' ⟨Q9 st.env o v,st.tbl.put ups⟩ (a.put o x).tmps w' where
 env s:=by
  rw [Zkk]
  have old:=RA.mono u.ext u.sig _ _ (h.known s) (h.env s)
  cases o with
  | none => simpa [Q9] using old
  | some d =>
   by_cases e:d = s
   ·subst e; simp [Q9,XP,ho d rfl]; exact u.val
   ·have e':Ja s d = false:=Zc fun h => e h.symm
    simp only [Q9,XP,e',cond_false,Option.some.injEq,e,false_and,if_false]; exact old
 known s:=by
  have old:=(h.known s).put u.nofresh
  cases o with
  | none => simpa [Q9] using old
  | some d =>
   by_cases e:d = s
   ·subst e; simp [Q9,XP]; exact u.known
   ·have e':Ja s d = false:=Zc fun h => e h.symm
    simp [Q9,XP,e']; exact old
 res r y hy:=by
  simp only [ZF.put] at hy
  cases hl:Zm ups r with
  | some z => rw [hl] at hy; simp only at hy; subst hy; exact u.new r y hl
  | none =>
   rw [hl] at hy; simp only at hy
   obtain ⟨h1,h2⟩:=h.res r y hy
   exact ⟨RR.mono u.ext u.sig (by rw [hy]; simp) h2 (u.rest r (by rw [hy]; rfl) hl) h1,h2.put u.nofresh⟩
 inj r r' b l1 l2 b1 b2:=by
  cases hl:Zm ups r with
  | some z =>
   cases z with
   | live y => exact (u.inj r r' y b hl l2 b1 b2).symm
   | fresh => exact absurd hl (u.nofresh r)
   | gone => simp [ZF.put,hl,Zw] at l1
  | none =>
   cases hl':Zm ups r' with
   | some z =>
    cases z with
    | live y => exact u.inj r' r y b hl' l1 b2 b1
    | fresh => exact absurd hl' (u.nofresh r')
    | gone => simp [ZF.put,hl',Zw] at l2
   | none =>
    simp only [ZF.put,hl] at l1
    simp only [ZF.put,hl'] at l2
    have n1:st.tbl r ≠ .fresh:=by grind [Zw]
    have n2:st.tbl r' ≠ .fresh:=by grind [Zw]
    exact h.inj r r' b l1 l2 (by rw [← u.sig r n1]; exact b1) (by rw [← u.sig r' n2]; exact b2)
 own r b l1 b1:=by
  cases hl:Zm ups r with
  | some z =>
   cases z with
   | live y => exact u.own r y b hl b1
   | fresh => exact absurd hl (u.nofresh r)
   | gone => simp [ZF.put,hl,Zw] at l1
  | none =>
   simp only [ZF.put,hl] at l1
   have n1:st.tbl r ≠ .fresh:=by grind [Zw]
   exact h.own r b l1 (by rw [← u.sig r n1]; exact b1)
 ext:=h.ext.trans u.ext
 keep b hb hl:=(u.keep b hb hl).trans (h.keep b hb hl)
 same:=⟨u.same.1.trans h.same.1,u.same.2.1.trans h.same.2.1,u.same.2.2.trans h.same.2.2⟩
 lz:=u.lz
 limk b hb hl:=(u.limk b hb hl).trans (h.limk b hb hl)
 glob:=h.glob
 pin p hp:=by
  obtain ⟨h1,h2⟩:=h.pin p hp
  exact ⟨(u.sig _ h2).trans h1,Ze.put u.nofresh (ids:=[p.1]) (by intro r hr; simp at hr; subst hr; exact h2) p.1 (by simp)⟩
theorem Upd.quiet {G:Glob} {σ:QM} {lim:Nat → Nat} {st:St} {tmps:Array Value} {w:World} {v:AV} {x:Value} (h:RelW G σ lim st tmps w)
  (hv:RA σ w lim v x) (hk:Ze st.tbl (Za v)):Upd G σ lim st w σ lim w v x [] where
 ext:=Ext.refl _ _
 lz:=h.lz
 same:=⟨rfl,rfl,rfl⟩
 sig _ _:=rfl
 rest _ _ _ _ _:=⟨rfl,rfl⟩
 new r y hl:=by simp [Zm] at hl
 inj r r' y b hl:=by simp [Zm] at hl
 own r y b hl:=by simp [Zm] at hl
 keep _ _ _:=rfl
 limk _ _ _:=rfl
 nofresh r:=by simp [Zm]
 val:=hv
 known:=by intro r hr; simpa [ZF.put,Zm] using hk r hr
end Go.Sh
