/-
  What the row needs, part 6.
-/
import Derived.Test.YtmeahimfdhdggaaGreatDoorXFrameApart5
import Derived.Tactics
set_option linter.unusedSimpArgs false
set_option linter.unusedVariables false
set_option linter.unusedSectionVars false
open Array renaming getD_eq_getD_getElem?→VL,range→JW,ext'→JI,getElem?_setIfInBounds→UD,toList_map→JX,getElem?_eq_getElem→UE,getElem?_eq_none→VW,getElem?_eq_some_iff→UF
open Bool renaming and_eq_true→Jh,or_eq_true→V6
open Go.Builtin renaming firstCells→Ji,lenOf→Jq
open Go.Instr renaming sureAddr→JL,storeAt→Ve,loadAt→JZ,fieldAt→Vb,sliceBounds→Vd
open Go.IntKind renaming i64→Jx
open List renaming map_cons→JR,mem_cons→VM,all_eq_true→Vf,getElem?_eq_getElem→VO,getElem?_eq_some_iff→Up,mem_cons_of_mem→Jn,mem_cons_self→Jm,nodup_cons→J3,mem_map→VG,range→Jc,getElem?_take→Jy,map_nil→VE,map_toArray→UG,mem_iff_getElem→UH,mem_of_getElem?→Vw,mem_range→VH,replicate→Jd
open Nat renaming zero_add→Ub,lt_or_ge→VN,beq→Ja,le_refl→Jj,le_trans→VI,lt_of_lt_of_le→V0
namespace Go.Sh
open Go
abbrev En:=Nat → Value
def slots (a:Act):En:=fun s => a.tmps.getD s undef
structure X (n:Nat) (e:En) (a:Act):Prop where
 sz:a.tmps.size = n
 df:a.defers = []
 eq:slots a = e
def upd (e:En) (d:Nat) (v:Value):En:=fun s => bif Ja s d then v else e s
def ev (e:En):Operand → Value
 | .tmp t => e t
 | .const v => v
 | .global g => .pointer (some ⟨g,0,none⟩)
 | .func f => .func (.func f) #[] #[]
theorem X.eval {n:Nat} {e:En} {a:Act} (h:X n e a):a.eval = ev e:=by
 funext x; cases x <;> simp [Act.eval,ev,← h.eq,slots]
theorem X.put {n:Nat} {e:En} {a:Act} (h:X n e a) {d:Nat} (hd:d < n) (v:Value):X n (upd e d v) (a.put (some d) v) where
 sz:=by simp [Act.put,h.sz]
 df:=by simp [Act.put,h.df]
 eq:=by
  funext s
  have hz:=h.sz
  by_cases hs:s = d
  ·subst hs; simp [slots,upd,Act.put,VL,UD,hz,hd]
  ·have:¬ d = s:=fun h => hs h.symm
   simp [slots,upd,Act.put,VL,UD,this,Zp hs,← h.eq]
theorem Wz (e:En) (d:Nat) (v:Value):upd e d v d = v:=by simp [upd]
theorem Zx (e:En) {d s:Nat} (v:Value) (h:s ≠ d):upd e d v s = e s:=by simp [upd,Zp h]
section
variable {P:Program} {n:Nat} {Q:Exit → En → World → Prop} {e:En} {w:World}
def Zuv (n:Nat) (Q:Exit → En → World → Prop):Exit → Act → World → Prop:=fun x a w => ∃ e,X n e a ∧ Q x e w
def T (P:Program) (n:Nat) (c:Code) (Q:Exit → En → World → Prop) (e:En) (w:World):Prop := ∀ a,X n e a → c.wp P (Zuv n Q) a w
def nx (R:En → World → Prop) (Q:Exit → En → World → Prop):Exit → En → World → Prop:=fun x e w => match x with
 | .normal => R e w
 | x => Q x e w
def bk (id:Nat) (Q:Exit → En → World → Prop):Exit → En → World → Prop:=fun x e w => match x with
 | .exit j => if j = id then Q .normal e w else Q (.exit j) e w
 | x => Q x e w
theorem T.mono {c:Code} {Q':Exit → En → World → Prop} (h:T P n c Q' e w) (hq:∀ x e w,Q' x e w → Q x e w):T P n c Q e w :=
 fun a ha => wp_mono (h a ha) fun x a w ⟨e,hx,q⟩ => ⟨e,hx,hq _ _ _ q⟩
theorem T.seq {x y:Code} (h:T P n x (nx (T P n y Q) Q) e w):T P n (.seq x y) Q e w:=fun a ha => wp_seq (wp_mono (h a ha) (by
 rintro ex a' w' ⟨e',hx,hq⟩
 cases ex with
 | normal => exact hq a' hx
 | _ => exact ⟨e',hx,hq⟩))
theorem T.skip (h:Q .normal e w):T P n .skip Q e w:=fun a ha => wp_skip ⟨e,ha,h⟩
theorem T.ret (h:Q .ret e w):T P n .ret Q e w:=fun a ha => wp_ret ⟨e,ha,h⟩
theorem T.exit {i:Nat} (h:Q (.exit i) e w):T P n (.exit i) Q e w:=fun a ha => wp_exit ⟨e,ha,h⟩
theorem T.condT {c:Operand} {x y:Code} (hc:ev e c = .bool true) (h:T P n x Q e w):T P n (.cond c x y) Q e w:=fun a ha => wp_cond_true (by rw [ha.eval]; exact hc) (h a ha)
theorem T.condF {c:Operand} {x y:Code} (hc:ev e c = .bool false) (h:T P n y Q e w):T P n (.cond c x y) Q e w:=fun a ha => wp_cond_false (by rw [ha.eval]; exact hc) (h a ha)
theorem T.block {id:Nat} {c:Code} (h:T P n c (bk id Q) e w):T P n (.block id c) Q e w:=fun a ha => wp_block (wp_mono (h a ha) (by
 rintro ex a' w' ⟨e',hx,hq⟩
 cases ex with
 | exit j =>
  simp only [Exit.inBlock,bk] at hq ⊢
  by_cases hj:j = id
  ·simp only [hj,if_true] at hq ⊢; exact ⟨e',hx,hq⟩
  ·simp only [hj,if_false] at hq ⊢; exact ⟨e',hx,hq⟩
 | _ => exact ⟨e',hx,hq⟩))
theorem T.loop {c:Code} (I:En → World → Prop) (μ:En → World → Nat) (h0:I e w) (h:∀ e w,I e w → T P n c (nx (fun e' w' => I e' w' ∧ μ e' w' < μ e w) Q) e w):T P n (.loop c) Q e w:=fun a ha =>
 wp_loop (fun a w => ∃ e,X n e a ∧ I e w) (fun a w => μ (slots a) w) ⟨e,ha,h0⟩ (by
  rintro a w ⟨e,hx,hI⟩
  refine wp_mono (h e w hI a hx) ?_
  rintro ex a' w' ⟨e',hx',hq⟩
  cases ex with
  | normal =>
   obtain ⟨h1,h2⟩:=hq
   exact ⟨⟨e',hx',h1⟩,by rw [hx'.eq,hx.eq]; exact h2⟩
  | _ => exact ⟨e',hx',hq⟩)
def L (P:Program) (n:Nat) (ops:Array Oper) (Q:Exit → En → World → Prop) (l:List Oper) (e:En) (w:World):Prop := ∀ a,X n e a → wpList P ops (Zuv n Q) l a w
variable {ops:Array Oper} {rest:List Oper} {o:Oper}
theorem L.nil (h:Q .normal e w):L P n ops Q [] e w:=fun a ha => wpList_nil ⟨e,ha,h⟩
theorem T.region {id:Nat} {l:List Oper} (h:L P n l.toArray Q l e w):T P n (.region id l.toArray false) Q e w:=fun a ha => wp_region_lit (h a ha)
def X4 (ops:Array Oper) (o:Oper) (e:En):Prop:=match o.guard with
 | none => True
 | some (p,want) => ∃ d,(ops[p]?).bind (·.dst) = some d ∧ e d = .bool want
theorem Zlp {tmps:Array Value} {d:Nat} {g:Bool} (h:tmps.getD d undef = .bool g):tmps[d]? = some (.bool g):=by
 rw [VL] at h
 cases hd:tmps[d]? with
 | none => rw [hd] at h; cases h
 | some v => rw [hd] at h; simp at h; rw [h]
theorem X4.wanted {a:Act} (h:X4 ops o e) (ha:X n e a):Region.wanted o (yielded ops a.tmps) = true:=by
 unfold X4 at h
 split at h
 ·rename_i hg; simp [Region.wanted,hg]
 ·rename_i p want hg
  obtain ⟨d,h1,h2⟩:=h
  rw [← ha.eq] at h2
  have:=Zlp h2
  simp [Region.wanted,hg,yielded,h1,this]
theorem ZD6 {a:Act} {p d:Nat} {want:Bool} (hg:o.guard = some (p,want)) (h1:(ops[p]?).bind (·.dst) = some d) (h2:e d = .bool (!want)) (ha:X n e a):Region.wanted o (yielded ops a.tmps) = false:=by
 rw [← ha.eq] at h2
 have:=Zlp h2
 simp [Region.wanted,hg,yielded,h1,this]
theorem L.of_wp (hg:X4 ops o e) (h:∀ a,X n e a → o.wp P a w (fun a' w' => wpList P ops (Zuv n Q) rest a' w') (Zuv n Q)):L P n ops Q (o :: rest) e w:=fun a ha => by
 unfold wpList
 rw [if_pos (hg.wanted ha)]
 exact .inl (h a ha)
theorem L.skip {p d0:Nat} {want:Bool} (d:Nat) (hg:o.guard = some (p,want)) (h1:(ops[p]?).bind (·.dst) = some d0) (h2:e d0 = .bool (!want)) (k:L P n ops Q rest (upd e d undef) w) (hd:o.dst = some d:=by rfl) (hn:d < n:=by decide):L P n ops Q (o :: rest) e w:=fun a ha => by
 unfold wpList
 rw [if_neg (by rw [ZD6 hg h1 h2 ha]; simp)]
 rw [hd]
 exact k _ (ha.put hn undef)
theorem L.val (d:Nat) {v:Value} {w':World} (hr:(execOp (ev e) o).run P w = .ok (.value v) w') (k:L P n ops Q rest (upd e d v) w') (hg:X4 ops o e:=by exact trivial) (hd:o.dst = some d:=by rfl) (hn:d < n:=by decide):L P n ops Q (o :: rest) e w :=
 L.of_wp hg fun a ha => by
  unfold Oper.wp
  rw [ha.eval,hr,Oper.upon_value,hd]
  exact k _ (ha.put hn v)
theorem L.unit {w':World} (hr:(execOp (ev e) o).run P w = .ok .skip w') (k:L P n ops Q rest e w') (hg:X4 ops o e:=by exact trivial) (hd:o.dst = none:=by rfl):L P n ops Q (o :: rest) e w :=
 L.of_wp hg fun a ha => by
  unfold Oper.wp
  rw [ha.eval,hr,Oper.upon_skip,hd]
  exact k _ ha
theorem L.call (d:Nat) {f:Nat} {args:Array Value} (hr:(execOp (ev e) o).run P w = .ok (.enter f args) w) {R:Value → World → Prop} (hc:Calls P f args w fun x w' => ∃ v,x = .returned v ∧ R v w')
  (k:∀ v w',R v w' → L P n ops Q rest (upd e d v) w') (hg:X4 ops o e:=by exact trivial) (hd:o.dst = some d:=by rfl) (hn:d < n:=by decide):L P n ops Q (o :: rest) e w :=
 L.of_wp hg fun a ha => by
  unfold Oper.wp
  rw [ha.eval,hr,Oper.upon_enter]
  refine hc.mono ?_
  rintro x w' ⟨v,rfl,hR⟩
  rw [hd]
  exact k v w' hR _ (ha.put hn v)
theorem Xj {args:Array Operand} {ats:Array TypeId} {f:Nat} (ho:o.op = .call { callee:=.value (.func f),args:=args,argTypes:=ats }) (hE:Ztd P f) :
  (execOp (ev e) o).run P w = .ok (.enter f (args.toList.map (ev e)).toArray) w:=by
 obtain ⟨fn,e1,e2,e3⟩:=hE
 have hmap:Array.map (ev e) args = (args.toList.map (ev e)).toArray:=by apply JI; simp
 have e2':¬ fn.name = "runtime.NumGoroutine" := by simpa using e2
 have e3':¬ fn.body = none:=by intro h0; rw [h0] at e3; cases e3
 simp only [execOp,ho]
 simp [resolve,ev,Deferred.ofValue,invoke,callFunc,e1,hmap]
 rw [if_neg e2',if_neg e3']
end
structure Keep (w w':World):Prop where
 size:w.heap.size ≤ w'.heap.size
 old:∀ b,b < w.heap.size → w'.heap[b]? = w.heap[b]?
 same:w'.os = w.os ∧ w'.tape = w.tape ∧ w'.output = w.output
theorem Keep.refl (w:World):Keep w w:=⟨Jj _,fun _ _ => rfl,rfl,rfl,rfl⟩
theorem Keep.trans {a b c:World} (h:Keep a b) (k:Keep b c):Keep a c :=
 ⟨VI h.size k.size,fun i hi => (k.old i (V0 hi h.size)).trans (h.old i hi),k.same.1.trans h.same.1,k.same.2.1.trans h.same.2.1,k.same.2.2.trans h.same.2.2⟩
theorem QD {w:World} {b:Nat} {o:Obj} (h:w.heap[b]? = some o):b < w.heap.size:=by
 by_cases hb:b < w.heap.size
 ·exact hb
 ·rw [VW (by omega)] at h; cases h
structure H (w0 w:World) (B:List (Nat × Obj)):Prop where
 keep:Keep w0 w
 nd:(B.map (·.1)).Nodup
 at':∀ p ∈ B,w.heap[p.1]? = some p.2
 new:∀ p ∈ B,w0.heap.size ≤ p.1
theorem H.nil (w:World):H w w []:=⟨Keep.refl w,by simp,by simp,by simp⟩
theorem H.next {w0 w w':World} {B:List (Nat × Obj)} (h:H w0 w B) (k:Keep w w'):H w0 w' B :=
 ⟨h.keep.trans k,h.nd,fun p hp => (k.old _ (QD (h.at' p hp))).trans (h.at' p hp),h.new⟩
theorem Keep.alloc (w:World) (o:Obj):Keep w (w.alloc o) :=
 ⟨by show _ ≤ (w.heap.push o).size; simp,fun b hb => heap_alloc_old w o hb,rfl,rfl,rfl⟩
theorem H.alloc {w0 w:World} {B:List (Nat × Obj)} (h:H w0 w B) (o:Obj):H w0 (w.alloc o) ((w.heap.size,o) :: B) where
 keep:=h.keep.trans (Keep.alloc w o)
 nd:=by
  simp only [JR,J3]
  refine ⟨fun hm => ?_,h.nd⟩
  obtain ⟨p,hp,he⟩:=VG.1 hm
  have:=QD (h.at' p hp); omega
 at' p hp:=by
  rcases VM.1 hp with rfl | hp
  ·exact heap_alloc_new w o
  ·exact (heap_alloc_old w o (QD (h.at' p hp))).trans (h.at' p hp)
 new p hp:=by
  rcases VM.1 hp with rfl | hp
  ·exact h.keep.size
  ·exact h.new p hp
theorem H.add {w0 w w':World} {B:List (Nat × Obj)} (h:H w0 w B) (k:Keep w w') {b:Nat} {o:Obj} (hb:w.heap.size ≤ b) (ho:w'.heap[b]? = some o):H w0 w' ((b,o) :: B) where
 keep:=h.keep.trans k
 nd:=by
  simp only [JR,J3]
  refine ⟨fun hm => ?_,h.nd⟩
  obtain ⟨p,hp,he⟩:=VG.1 hm
  have:=QD (h.at' p hp); omega
 at' p hp:=by
  rcases VM.1 hp with rfl | hp
  ·exact ho
  ·exact (k.old _ (QD (h.at' p hp))).trans (h.at' p hp)
 new p hp:=by
  rcases VM.1 hp with rfl | hp
  ·exact VI h.keep.size hb
  ·exact h.new p hp
theorem H.perm {w0 w:World} {B B':List (Nat × Obj)} (h:H w0 w B) (hp:List.Perm B B'):H w0 w B' where
 keep:=h.keep
 nd:=(hp.map (·.1)).nodup_iff.1 h.nd
 at' p hm:=h.at' p (hp.mem_iff.2 hm)
 new p hm:=h.new p (hp.mem_iff.2 hm)
theorem H.drop {w0 w:World} {B:List (Nat × Obj)} {p:Nat × Obj} (h:H w0 w (p :: B)):H w0 w B where
 keep:=h.keep
 nd:=by have:=h.nd; simp only [JR,J3] at this; exact this.2
 at' q hm:=h.at' q (Jn _ hm)
 new q hm:=h.new q (Jn _ hm)
theorem H.set {w0 w w':World} {B:List (Nat × Obj)} {b:Nat} {o o':Obj} (h:H w0 w ((b,o) :: B)) (hs:w'.heap.size = w.heap.size) (hb:w'.heap[b]? = some o') (hr:∀ b',b' ≠ b → w'.heap[b']? = w.heap[b']?)
  (hm:w'.os = w.os ∧ w'.tape = w.tape ∧ w'.output = w.output):H w0 w' ((b,o') :: B) where
 keep:=⟨by rw [hs]; exact h.keep.size,fun i hi => by
   have:=h.new (b,o) (Jm ..)
   rw [hr i (by simp at this; omega)]; exact h.keep.old i hi,hm.1.trans h.keep.same.1,hm.2.1.trans h.keep.same.2.1,hm.2.2.trans h.keep.same.2.2⟩
 nd:=by have:=h.nd; simpa using this
 at' p hp:=by
  have hn:=h.nd
  simp only [JR,J3] at hn
  rcases VM.1 hp with rfl | hp
  ·exact hb
  ·rw [hr p.1 (fun he => hn.1 (VG.2 ⟨p,hp,he⟩))]; exact h.at' p (Jn _ hp)
 new p hp:=by
  rcases VM.1 hp with rfl | hp
  ·exact h.new (b,o) (Jm ..)
  ·exact h.new p (Jn _ hp)
theorem H.row {w0 w:World} {B:List (Nat × Obj)} {b:Nat} {cs cs':Array Value} {T:TypeId} {fz:Nat × Nat} (h:H w0 w ((b,.cells cs T fz) :: B)):H w0 (w.setRow b cs') ((b,.cells cs' T fz) :: B):=by
 have hb:=h.at' _ (Jm ..)
 simp only at hb
 exact h.set (by simp [World.setRow]) (setRow_heap w b cs _ T _ hb) (fun b' hb' => setRow_other w b b' _ hb') (by simp [World.setRow])
variable [Gl]
theorem Ext.of_keep {w w':World} {lim lim':Nat → Nat} (k:Keep w w') (hlz:∀ b,w.heap.size ≤ b → lim b = 0) (hl:∀ b,b < w.heap.size → lim' b = lim b) (hz:∀ b,w.heap.size ≤ b → lim' b = 0):Ext w lim w' lim' where
 size:=k.size
 cell b o ho:=by
  have hb:b < w.heap.size:=by
   rcases VN b w.heap.size with h | h
   ·exact h
   ·rw [hlz b h] at ho; omega
  simp only [World.cell?,k.old b hb]
 lim b o ho:=by
  rcases VN b w.heap.size with h | h
  ·rw [hl b h]; exact ho
  ·rw [hlz b h] at ho; omega
 typ b T h:=by
  unfold Q0 at h ⊢
  split at h
  ·rename_i c U fz hc
   rw [k.old b (QD hc),hc]; exact h
  ·cases h
 nf b o ho hf:=by
  rcases VN b w.heap.size with h | h
  ·rw [WI (k.old b h)] at hf; exact ⟨by rw [← hl b h]; exact ho,hf⟩
  ·rw [hz b h] at ho; omega
theorem Zaz {P:Program} {k f:Nat} {pk:List Kd} {rk:Kd} {F:Nat → Kd.dens pk → Option (Ans pk rk)} (hC:Ctr P k f (mk pk rk F)) {x:Kd.dens pk} {r:Ans pk rk} (hF:F k x = some r)
  (hL:Zcj pk (WO pk x) = some x) {w:World} {lim:Nat → Nat} (hlz:∀ b,w.heap.size ≤ b → lim b = 0) (hgl:Ze6 w lim) {vs:List Value} (hT:TTs w lim (WO pk x) vs []) :
  Calls P f vs.toArray w fun en w' => ∃ v,en = .returned v ∧ Keep w w' ∧ ∃ lim' b1,Ext w lim w' lim' ∧ (∀ b,w'.heap.size ≤ b → lim' b = 0) ∧ (∀ b,b < w.heap.size → lim' b = lim b) ∧ TT w' lim' (enc rk r.1) v b1 ∧ b1.Nodup ∧ ∀ b ∈ b1,w.heap.size ≤ b:=by
 refine (hC.calls (WO pk x) r (by simp only [mk,hL,Option.bind_some]; exact hF) w lim vs [] hlz hgl hT (by simp) (by simp)).mono ?_
 rintro en w' ⟨v,lim',b1,b2,rfl,hE,hlz',hsame,hkeep,hT1,hT2,hS,hnd,hb⟩
 exact ⟨v,rfl,⟨hE.size,fun b hb => (hkeep b hb (by simp)).1,hsame⟩,lim',b1,hE,hlz',fun b hb => (hkeep b hb (by simp)).2,hT1,(List.nodup_append.1 hnd).1,fun b hb1 => by
  rcases hb b (List.mem_append_left _ hb1) with h | h
  ·cases h
  ·exact h⟩
end Go.Sh
namespace Go.Sh
open Go
section
variable [Gl]
variable {P:Program} {n:Nat} {Q:Exit → En → World → Prop} {e:En} {w:World} {ops:Array Oper} {rest:List Oper} {o:Oper} {d:Nat}
theorem ZsM {T:TypeId} {dd:TypeDesc} (hT:P.underlying T = some dd) {vx:Value} {vs:List Value} (hv:vx.cells = vs.toArray) (hc:P.cellsOf T = vs.length) (h1:∀ v ∈ vs,v.oneCell' = true)
  {b off:Nat} {cur:Array Value} {U:TypeId} {fz:Nat × Nat} (hb:w.heap[b]? = some (.cells cur U fz)) (hfz:∀ x,x < cur.size → ¬ (fz.1 ≤ x ∧ x < fz.2)) (hfit:off + vs.length ≤ cur.size) :
  (Ve T (.pointer (some ⟨b,off,none⟩)) vx).run P w = .ok () (w.setRow b (cur.toList.take off ++ vs ++ cur.toList.drop (off + vs.length)).toArray):=by
 have:=QK (P:=P) b off U fz vs 0 cur w hb (by simpa using hfit) hfz h1
 simp_all [Nat.add_zero,Ve,JL,Sem.run_bind,Sem.run_pure,Result.andThen_ok,storeVar,QO hT]
theorem Zzf {c:Array Value}:∀ x,x < c.size → ¬ (((0,0):Nat × Nat).1 ≤ x ∧ x < ((0,0):Nat × Nat).2):=fun x _ => by simp
theorem ZE {v:Value} {x:Operand} (ho:o.op = .move x ∨ o.op = .assign x) (hv:ev e x = v):(execOp (ev e) o).run P w = .ok (.value v) w:=by
 subst hv; rcases ho with ho | ho <;> simp [execOp,ho]
theorem ZDF {T:TypeId} {x:Operand} {vs:List Value} (ho:o.op = .box T x) (hv:(ev e x).cells = vs.toArray):(execOp (ev e) o).run P w = .ok (.value (.pointer (some ⟨w.heap.size,0,none⟩))) (w.alloc (.cells vs.toArray T)) :=
 by simp [execOp,ho,Instr.box,newVar,newRow,hv]
theorem Zga {T:TypeId} {zs:List Value} (ho:o.op = .alloc T) (hz:zeroCells P T = some zs):(execOp (ev e) o).run P w = .ok (.value (.pointer (some ⟨w.heap.size,0,none⟩))) (w.alloc (.cells zs.toArray T)):=by
 obtain ⟨z,hz1,hz2⟩:=Xa hz w
 simp [execOp,ho,Instr.alloc,hz1,newVar,newRow,← hz2]
theorem Zas {T:TypeId} {x:Operand} {b off:Nat} {vs:Array Value} {U:TypeId} {fz:Nat × Nat} {dd:TypeDesc} {cs:List Value} (ho:o.op = .load T x) (hx:ev e x = .pointer (some ⟨b,off,none⟩))
  (hb:w.heap[b]? = some (.cells vs U fz)) (hu:P.underlying T = some dd) (ha:Zaw dd = true) (hl:cs.length = P.cellsOf T) (hc:(vs.toList.drop off).take cs.length = cs):(execOp (ev e) o).run P w = .ok (.value (.agg cs.toArray)) w:=by
 have h1:=Y6 (P:=P) (w:=w) (b:=b) (off:=off) hu ha hl (fun j v hj => by
  rw [QQ hb]
  rw [← hc,Jy] at hj
  split at hj
  ·rw [List.getElem?_drop] at hj; exact hj
  ·cases hj)
 simp [execOp,ho,hx,JZ,JL,h1]
theorem Xh {T:TypeId} {x:Operand} {b off:Nat} {vs:Array Value} {U:TypeId} {fz:Nat × Nat} {dd:TypeDesc} {v:Value} (ho:o.op = .load T x) (hx:ev e x = .pointer (some ⟨b,off,none⟩))
  (hb:w.heap[b]? = some (.cells vs U fz)) (hu:P.underlying T = some dd) (ha:Zaw dd = false) (hc:vs.toList[off]? = some v):(execOp (ev e) o).run P w = .ok (.value v) w:=by
 have h1:=XJ (P:=P) (w:=w) (b:=b) (off:=off) (v:=v) hu ha (by rw [QQ hb]; exact hc)
 simp [execOp,ho,hx,JZ,JL,h1]
theorem ZwW {T:TypeId} {x y:Operand} {b off:Nat} {cur:Array Value} {U:TypeId} {fz:Nat × Nat} {dd:TypeDesc} {vs:List Value} (ho:o.op = .store T x y) (hx:ev e x = .pointer (some ⟨b,off,none⟩)) (hv:(ev e y).cells = vs.toArray)
  (hb:w.heap[b]? = some (.cells cur U fz)) (hfz:∀ x,x < cur.size → ¬ (fz.1 ≤ x ∧ x < fz.2)) (hT:P.underlying T = some dd) (hc:P.cellsOf T = vs.length) (h1:∀ v ∈ vs,v.oneCell' = true) (hfit:off + vs.length ≤ cur.size)
  : (execOp (ev e) o).run P w = .ok .skip (w.setRow b (cur.toList.take off ++ vs ++ cur.toList.drop (off + vs.length)).toArray):=by
 have h1:=ZsM (P:=P) (w:=w) hT hv hc h1 hb hfz hfit
 simp only [execOp,ho,hx]; simp [h1]
theorem Qx {T:TypeId} {x:Operand} {f b off:Nat} {fs:Array Field} {fd:Field} (ho:o.op = .fieldAddr T x f) (hx:ev e x = .pointer (some ⟨b,off,none⟩))
  (hu:P.underlying T = some (.struct fs)) (hf:fs[f]? = some fd) (hz:Ja (P.cellsOf fd.type) 0 = false) {off':Nat} (ho':off' = off + fd.offset):(execOp (ev e) o).run P w = .ok (.value (.pointer (some ⟨b,off',none⟩))) w:=by
 have hz':P.cellsOf fd.type ≠ 0:=fun h => by rw [h] at hz; simp at hz
 obtain ⟨i,hi⟩:∃ i,P.info? fd.type = some i:=by
  cases h:P.info? fd.type with
  | none => simp [Program.cellsOf,h] at hz'
  | some i => exact ⟨i,rfl⟩
 have hsz:i.size ≠ 0:=by simpa [Program.cellsOf,hi] using hz'
 subst ho'
 have run:(Vb T (.pointer (some ⟨b,off,none⟩)) f).run P w = .ok (.pointer (some ⟨b,off + fd.offset,none⟩)) w:=by
  simp_all [Vb,run_underlying hu,hf,JL,fieldPlace,sizeOf,typeInfo,hi,hsz,Qh]
 simp only [execOp,ho,hx]; simp [run]
theorem Wg {T e':TypeId} {t:Ty} {x y:Operand} {b off len cap:Nat} {kk:IntKind} {i:Int} (ho:o.op = .indexAddr T x y) (he:WN P T = some (e',t)) (hx:ev e x = .slice (some ⟨b,off,none⟩) len cap) (hy:ev e y = .int kk i)
  (h0:0 ≤ i) (h1:i < len) {off':Nat} (ho':off' = off + i.toNat * t.size):(execOp (ev e) o).run P w = .ok (.value (.pointer (some ⟨b,off',none⟩))) w:=by
 have run:=YY (P:=P) he (b:=b) (off:=off) (cap:=cap) (k:=kk) h0 h1 w
 subst ho'
 simp only [execOp,ho,hx,hy]; simp [run]
theorem Zix {T el:TypeId} {x:Operand} {A:Option Addr} {len cap:Nat} (ho:o.op = .call { callee:=.builtin .len,args := #[x],argTypes := #[T] }) (hx:ev e x = .slice A len cap) (hu:P.underlying T = some (.slice el))
  : (execOp (ev e) o).run P w = .ok (.value (.int .i64 (len:Int))) w:=by
 simp only [execOp,ho,resolve]
 simp [hx,invoke,builtin,Builtin.len_,run_underlying hu,goInt]
theorem ZJD {T el:TypeId} {x:Operand} {A:Option Addr} {len cap:Nat} (ho:o.op = .call { callee:=.builtin .cap,args := #[x],argTypes := #[T] }) (hx:ev e x = .slice A len cap) (hu:P.underlying T = some (.slice el))
  : (execOp (ev e) o).run P w = .ok (.value (.int .i64 (cap:Int))) w:=by
 simp only [execOp,ho,resolve]
 simp [hx,invoke,builtin,Builtin.cap_,run_underlying hu,goInt]
theorem Zzo {T el:TypeId} {dd:TypeDesc} {x y:Operand} {A:Option Addr} {len cap h:Nat} (ho:o.op = .slice T x none (some y) none) (hx:ev e x = .slice A len cap) (hy:ev e y = .int .i64 (h:Int)) (hh:h ≤ cap)
  (hu:P.underlying T = some (.slice el)) (hd0:P.underlying el = some dd):(execOp (ev e) o).run P w = .ok (.value (.slice A h cap)) w:=by
 have hb:(Vd true len cap none (some (.int .i64 (h:Int))) none).run P w = .ok (0,h,cap) w:=by
  have:=Zbn (P:=P) (kk:=.i64) (n:=(h:Int)) (y:=cap) (code:=.sliceAcap) (by omega) (by omega) w
  simp [Vd,this]
 have run:=Zh3 hu hd0 (A:=A) (n:=len) hb
 simp only [execOp,ho,Option.map_none,Option.map_some,hx,hy]
 simp only [bind_pure_comp,Sem.run_map,run,Result.andThen_ok]
 cases A with
 | none => simp
 | some a => simp [Addr.add]
theorem YW {op:BinOp} {T z:TypeId} {x y:Operand} {vx vy v:Value} (ho:o.op = .binOp op T x y z) (hx:ev e x = vx) (hy:ev e y = vy) (hpl:plain vx = true) (hp:XK P (binOp op T vx vy) = some v)
  : (execOp (ev e) o).run P w = .ok (.value v) w:=by
 simp only [execOp,ho,hx,hy]
 simp [Zec hpl,YZ hp]
theorem ZJE {op:UnOp} {T:TypeId} {x:Operand} {vx v:Value} (ho:o.op = .unOp op T x) (hx:ev e x = vx) (hp:XK P (Op.unary op vx) = some v)
  : (execOp (ev e) o).run P w = .ok (.value v) w:=by
 simp only [execOp,ho,hx]
 simp [YZ hp]
theorem ZFC {S D el:TypeId} {x:Operand} {b off len cap:Nat} {vs:Array Value} {U:TypeId} {fz:Nat × Nat} {xs:List Int} (ho:o.op = .convert S D x) (hx:ev e x = .slice (some ⟨b,off,none⟩) len cap) (hs:P.underlying S = some (.slice el)) (hd':P.underlying D = some .string) (hby:Zb1 P el = true)
  (hb:w.heap[b]? = some (.cells vs U fz)) (hlen:xs.length = len) (hcap:len ≤ cap) (hc:∀ i (h:i < xs.length),vs.toList[off + i]? = some (.int .u8 xs[i]))
  : (execOp (ev e) o).run P w = .ok (.value (.string (bytesOf xs))) w:=by
 have:=KN (C:=⟨P,fun _ => none,0,fun _ => []⟩) (w:=w) (lim:=fun _ => 0) (v:=.slice (some ⟨b,off,none⟩) len cap) (xs:=xs) hs hd' hby
  ⟨some ⟨b,off,none⟩,cap,by rw [hlen],by omega,.inr ⟨b,off,rfl,fun i hi => ⟨[.int .u8 xs[i]],by simp [Rt],fun j u hj => by
   cases j with
   | zero => simp at hj; subst hj; rw [QQ hb]; simpa [Ty.size] using hc i hi
   | succ j => simp at hj⟩⟩⟩
 simp only [execOp,ho,hx]
 simp [this]
theorem X1 {x:Operand} {i:Nat} {vs:List Value} {v:Value} (ho:o.op = .extract x i) (hx:ev e x = .tuple vs.toArray) (hv:vs[i]? = some v)
  : (execOp (ev e) o).run P w = .ok (.value v) w:=by
 simp only [execOp,ho,hx]
 simp [Instr.extract,hv]
theorem ZFB {T:TypeId} {ps:Array (Nat × Operand)} {zs us:List Value} {fs:Array Field} (ho:o.op = .build T ps) (hz:zeroCells P T = some zs) (hu:P.underlying T = some (.struct fs)) (hfi:(fs.toList.all fun f => (P.info? f.type).isSome) = true)
  (hf:Instr.fill (fun i => (fs.toList.map fun f => (f.offset,P.cellsOf f.type))[i]?) zs.toArray (ps.toList.map fun p => (p.1,ev e p.2)) = some us.toArray)
  : (execOp (ev e) o).run P w = .ok (.value (.agg us.toArray)) w:=by
 obtain ⟨z,hz1,hz2⟩:=Xa hz w
 have hpl:=ZeW (P:=P) fs.toList w (fun f hf => by
  have:=Vf.1 hfi f hf
  exact Option.isSome_iff_exists.1 this)
 have hzs:zs.toArray = z.cells:=by rw [← hz2]
 simp only [execOp,ho]
 simp_all [Instr.build,Sem.run_bind,hz1,Result.andThen_ok,run_underlying hu,bind_pure_comp,Array.mapM_eq_mapM_toList,Sem.run_map,List.getElem?_toArray,JX]
theorem Zqc {T ee:TypeId} {t:Ty} {len:Nat} {ps:Array (Nat × Operand)} {zs:List Value} {cs:List Value} (ho:o.op = .buildSlice T len ps) (he:WN P T = some (ee,t)) (hz:zeroCells P ee = some zs) (hsm:len * t.size ≤ 16777216)
  (hpos:0 < len * t.size)
  (hf:∀ zz:List Value,zz.length = len * t.size → Instr.fill (fun j => some (j * t.size,t.size)) zz.toArray (ps.toList.map fun p => (p.1,ev e p.2)) = some cs.toArray)
  : (execOp (ev e) o).run P w = .ok (.value (.slice (some ⟨w.heap.size,0,none⟩) len len)) (w.alloc (.cells cs.toArray ee)):=by
 obtain ⟨z,hz1,hz2⟩:=Xa hz w
 obtain ⟨i,hi,his,_⟩:=Yo he
 obtain ⟨hu,ht,hs⟩:=QF he
 have hlen0:¬ (2 ^ 24 < len * i.size):=by rw [his]; omega
 have h0:¬ len * t.size = 0:=by omega
 simp only [execOp,ho,Instr.buildSlice,Sem.run_bind,run_underlying hu,Result.andThen_ok,sizeOf,typeInfo,run_program,hi,Sem.run_pure,Sem.run_ite,gt_iff_lt]
 rw [if_neg hlen0]
 simp only [his,JX]
 rw [if_neg h0]
 have hh:=hf (((JW (len * t.size)).map fun x => z.cells[x % z.cells.size]!).toList) (by simp)
 simp only [Array.toArray_toList] at hh
 simp only [hz1,Result.andThen_ok]
 have e2:List.map (fun x:Nat × Operand => (x.1,ev e x.2)) ps.toList = ps.toList.map fun p => (p.1,ev e p.2):=rfl
 simp [hh,newRow]
end
end Go.Sh
namespace Go.Sh
open Go
section
variable [Gl]
variable {P:Program} {n:Nat} {Q:Exit → En → World → Prop} {e:En} {w:World} {ops:Array Oper} {rest:List Oper} {o:Oper} {d:Nat}
def drw (w:World):World:={ w with drawn:=w.drawn + 1 }
theorem Keep.drw (w:World):Keep w (drw w):=⟨Jj _,fun _ _ => rfl,rfl,rfl,rfl⟩
theorem H.drw {w0 w:World} {B:List (Nat × Obj)} (h:H w0 w B):H w0 (drw w) B:=h.next (Keep.drw w)
def Lo (P:Program) (n:Nat) (Q:Exit → En → World → Prop) (o:Oper) (e:En) (w:World) (R:En → World → Prop):Prop :=
 ∀ a,X n e a → o.wp P a w (fun a' w' => ∃ e',X n e' a' ∧ (∀ s,o.dst ≠ some s → e' s = e s) ∧ R e' w') (Zuv n Q)
theorem Lo.val (d:Nat) {R:En → World → Prop} {v:Value} {w':World} (hr:(execOp (ev e) o).run P w = .ok (.value v) w') (k:R (upd e d v) w') (hd:o.dst = some d:=by rfl) (hn:d < n:=by decide):Lo P n Q o e w R:=fun a ha => by
 unfold Oper.wp
 rw [ha.eval,hr,Oper.upon_value,hd]
 exact ⟨_,ha.put hn v,fun s hs => Zx e v (fun h => hs (by rw [h])),k⟩
theorem Lo.unit {R:En → World → Prop} {w':World} (hr:(execOp (ev e) o).run P w = .ok .skip w') (k:R e w') (hd:o.dst = none:=by rfl):Lo P n Q o e w R:=fun a ha => by
 unfold Oper.wp
 rw [ha.eval,hr,Oper.upon_skip,hd]
 exact ⟨_,ha,fun _ _ => rfl,k⟩
theorem Lo.call (d:Nat) {R:En → World → Prop} {f:Nat} {args:Array Value} (hr:(execOp (ev e) o).run P w = .ok (.enter f args) w) {R':Value → World → Prop} (hc:Calls P f args w fun x w' => ∃ v,x = .returned v ∧ R' v w')
  (k:∀ v w',R' v w' → R (upd e d v) w') (hd:o.dst = some d:=by rfl) (hn:d < n:=by decide):Lo P n Q o e w R:=fun a ha => by
 unfold Oper.wp
 rw [ha.eval,hr,Oper.upon_enter]
 refine hc.mono ?_
 rintro x w' ⟨v,rfl,hR⟩
 rw [hd]
 exact ⟨_,ha.put hn v,fun s hs => Zx e v (fun h => hs (by rw [h])),k v w' hR⟩
def QL (P:Program) (gs:Array Oper) (ld:List Nat) (D:Nat → Nat) (qv:Nat → Value) (Ph:Nat → En → World → Prop):Nat → List Oper → Prop
 | _,[] => True
 | i,o :: l => (ld.contains i = false → ∀ m e w,Ph m e w → (∀ j,(Wp o).contains j = true → ld.contains j = false → e (D j) = qv j) → (∀ j,(Wp o).contains j = true → ∀ p,ld[p]? = some j → p < m) → (∀ p j oj,ld[p]? = some j → gs[j]? = some oj → (Wp oj).contains i = true → m ≤ p) → X4 gs o e ∧ (execOp (ev e) o).run P w = .ok (.value (qv i)) w) ∧ QL P gs ld D qv Ph (i + 1) l
theorem QL.at {ld:List Nat} {D:Nat → Nat} {qv:Nat → Value} {Ph:Nat → En → World → Prop} {gs:Array Oper} : {l:List Oper} → {k:Nat} → QL P gs ld D qv Ph k l → ∀ {i:Nat} {o:Oper},l[i]? = some o →
  (ld.contains (k + i) = false → ∀ m e w,Ph m e w → (∀ j,(Wp o).contains j = true → ld.contains j = false → e (D j) = qv j) → (∀ j,(Wp o).contains j = true → ∀ p,ld[p]? = some j → p < m) → (∀ p j oj,ld[p]? = some j → gs[j]? = some oj → (Wp oj).contains (k + i) = true → m ≤ p) → X4 gs o e ∧ (execOp (ev e) o).run P w = .ok (.value (qv (k + i))) w)
 | [],k,_,i,o,h => by simp at h
 | o' :: l,k,hq,0,o,h => by simp at h; subst h; exact hq.1
 | o' :: l,k,hq,i + 1,o,h => by
  have:=QL.at (k:=k + 1) hq.2 (i:=i) (o:=o) (by simpa using h)
  rw [show k + (i + 1) = k + 1 + i by omega]; exact this
def LL (P:Program) (n:Nat) (Q:Exit → En → World → Prop) (l:List Oper) (ld:List Nat) (D:Nat → Nat) (qv:Nat → Value) (Ph:Nat → En → World → Prop):Nat → List Nat → Prop
 | _,[] => True
 | m,i :: is => (∀ o,l[i]? = some o → ∀ e w,Ph m e w → (∀ j,(Wp o).contains j = true → ld.contains j = false → e (D j) = qv j) → X4 l.toArray o e ∧ Lo P n Q o e w (Ph (m + 1))) ∧ LL P n Q l ld D qv Ph (m + 1) is
theorem LL.at {l:List Oper} {ld:List Nat} {D:Nat → Nat} {qv:Nat → Value} {Ph:Nat → En → World → Prop} : {is:List Nat} → {k:Nat} → LL P n Q l ld D qv Ph k is → ∀ {m i:Nat},is[m]? = some i →
  ∀ o,l[i]? = some o → ∀ e w,Ph (k + m) e w → (∀ j,(Wp o).contains j = true → ld.contains j = false → e (D j) = qv j) → X4 l.toArray o e ∧ Lo P n Q o e w (Ph (k + m + 1))
 | [],k,_,m,i,h => by simp at h
 | i' :: is,k,hl,0,i,h => by simp at h; subst h; exact hl.1
 | i' :: is,k,hl,m + 1,i,h => by
  have:=LL.at (k:=k + 1) hl.2 (m:=m) (i:=i) (by simpa using h)
  rw [show k + (m + 1) = k + 1 + m by omega]; exact this
def ZDr (n:Nat) (l:List Oper) (ld:List Nat) (D:Nat → Nat):Bool :=
 (Jc l.length).all (fun i => match l[i]? with
  | some o => (Wp o).all (fun p => Nat.blt p i) && (ld.contains i || (o.dst == some (D i) && Nat.blt (D i) n)) &&
    (Jc l.length).all (fun j => Ja i j || ld.contains j || (o.dst != some (D j)))
  | none => false) &&
 (Jc ld.length).all (fun m => match ld[m]? with
  | some i => Nat.blt i l.length && (Ja m 0 || (match ld[m - 1]?,l[i]? with | some p,some o => (Wp o).contains p | _,_ => false))
  | none => false) && Zc3 ld
structure MixOk (n:Nat) (l:List Oper) (ld:List Nat) (D:Nat → Nat):Prop where
 back:∀ (i:Nat) (o:Oper),l[i]? = some o → ∀ p ∈ Wp o,p < i
 dst:∀ (i:Nat) (o:Oper),l[i]? = some o → ld.contains i = false → o.dst = some (D i) ∧ D i < n
 apart:∀ (i:Nat) (o:Oper) (j:Nat),l[i]? = some o → j < l.length → i ≠ j → ld.contains j = false → o.dst ≠ some (D j)
 chain:∀ (m i p:Nat) (o:Oper),ld[m + 1]? = some i → ld[m]? = some p → l[i]? = some o → p ∈ Wp o
 inl:∀ i ∈ ld,i < l.length
 nd:ld.Nodup
theorem ZuA {l:List Oper} {ld:List Nat} {D:Nat → Nat} (h:ZDr n l ld D = true):MixOk n l ld D:=by
 unfold ZDr at h
 simp only [Jh,Vf,VH] at h
 obtain ⟨⟨h1,h2⟩,h3⟩:=h
 have lt:∀ {i:Nat} {o:Oper},l[i]? = some o → i < l.length:=fun h => (Up.1 h).1
 have k1:∀ i o,l[i]? = some o → _:=fun i o ho => by have:=h1 i (lt ho); simp only [ho,Jh] at this; exact this
 refine ⟨fun i o ho p hp => ?_,fun i o ho hi => ?_,fun i o j ho hj hij hc => ?_,fun m i p o hi hp ho => ?_,fun i hi => ?_,Zaa h3⟩
 ·have:=(k1 i o ho).1.1
  have:=Vf.1 this p hp
  simpa using this
 ·have:=(k1 i o ho).1.2
  rw [hi] at this
  simpa using this
 ·have:=(k1 i o ho).2
  have:=Vf.1 this j (VH.2 hj)
  rw [hc] at this
  simp only [Bool.or_false,V6] at this
  rcases this with h | h
  ·exact absurd (ZS h) hij
  ·simpa using h
 ·have hm:m + 1 < ld.length:=(Up.1 hi).1
  have:=h2 (m + 1) hm
  simp only [hi,Jh,V6] at this
  rcases this.2 with h | h
  ·have:=ZS h; omega
  ·simp only [Nat.add_sub_cancel,hp,ho] at h
   simpa using h
 ·obtain ⟨m,hm,hmi⟩:=UH.1 hi
  have:=h2 m hm
  simp only [VO hm,Jh] at this
  have:=this.1
  rw [hmi] at this
  simpa using this
theorem T.mixed {id:Nat} {l:List Oper} (ld:List Nat) (D:Nat → Nat) (qv:Nat → Value) (Ph:Nat → En → World → Prop) (hm:P.follows .mixedOrders = true) (chk:ZDr n l ld D = true)
  (h0:Ph 0 e (drw w)) (hs:∀ m e w i v,i < l.length → ld.contains i = false → Ph m e w → Ph m (upd e (D i) v) w)
  (hq:QL P l.toArray ld D qv Ph 0 l) (hl:LL P n Q l ld D qv Ph 0 ld)
  (hQ:∀ e w,Ph ld.length e w → (∀ i,i < l.length → ld.contains i = false → e (D i) = qv i) → Q .normal e w):T P n (.region id l.toArray true) Q e w:=by
 have K:=ZuA chk
 intro a ha
 refine wp_region_any hm ?_
 let I:Array Bool → Act → World → Prop:=fun listed a w => listed.size = l.length ∧ ∃ e m,X n e a ∧ m ≤ ld.length ∧ Ph m e w ∧ (∀ p i,ld[p]? = some i → (listed.getD i true = true ↔ p < m)) ∧ (∀ j oj,l[j]? = some oj → listed.getD j true = true → ∀ p ∈ Wp oj,listed.getD p true = true) ∧
  ∀ i,i < l.length → ld.contains i = false → listed.getD i true = true → e (D i) = qv i
 have fin:∀ listed a w,I listed a w → (∀ i,i < l.length → listed.getD i true = true) → Zuv n Q .normal a w:=by
  rintro listed a w ⟨hsz,e,m,hx,hm,hP,hld,hdn,hv⟩ hall
  have em:m = ld.length:=by
   rcases VN m ld.length with h | h
   ·have:=(hld m ld[m] (VO h)).1 (hall _ (K.inl _ (List.getElem_mem h)))
    omega
   ·omega
  subst em
  exact ⟨e,hx,hQ e w hP fun i hi hc => hv i hi hc (hall i hi)⟩
 have main:∀ fuel listed a w,I listed a w → (left l.length listed).length ≤ fuel → wpAny P .any l.toArray (Zuv n Q) fuel listed a w:=by
  intro fuel
  induction fuel with
  | zero =>
   intro listed a w hI hf
   have hl0:left l.length listed = []:=List.eq_nil_of_length_eq_zero (by omega)
   have hall:∀ i,i < l.length → listed.getD i true = true:=by
    intro i hi
    have:i ∉ left l.length listed:=by rw [hl0]; simp
    simpa [left,hi] using this
   refine ⟨?_,fin listed a w hI hall⟩
   cases hr:Region.ready .any l.toArray listed with
   | nil => rfl
   | cons i r =>
    obtain ⟨o,ho,hli,_⟩:=ZdW (i:=i) (by rw [hr]; exact Jm ..)
    have hi:i < l.length:=by
     have:=(UF.1 ho).1; simpa using this
    rw [hall i hi] at hli; cases hli
  | succ fuel ih =>
   intro listed a w hI hf
   refine ⟨fun hr => fin listed a w hI ?_,?_⟩
   ·intro i
    induction i using Nat.strongRecOn with
    | _ i ihi =>
     intro hi
     cases hli:listed.getD i true with
     | true => rfl
     | false =>
      have ho:l.toArray[i]? = some l[i]:=by simp [hi]
      have:=ZsD (listed:=listed) ho hli (fun p hp => by
       have hpi:=K.back i l[i] (by simp [hi]) p hp
       have:=ihi p hpi (by omega)
       rw [VL] at this ⊢
       have hsz:=hI.1
       rw [UE (by omega)] at this ⊢
       exact this)
      rw [hr] at this; cases this
   ·intro i hi
    obtain ⟨o,ho,hli,hpr⟩:=ZdW hi
    have ho':l[i]? = some o:=by simpa using ho
    have hil:i < l.length:=(Up.1 ho').1
    obtain ⟨hsz,e,m,hx,hm,hP,hld,hdn,hv⟩:=hI
    have hT:∀ p ∈ Wp o,listed.getD p true = true:=fun p hp => by
     have hpi:=K.back i o ho' p hp
     have:=hpr p hp
     rw [VL] at this ⊢
     rw [UE (by omega)] at this ⊢
     exact this
    have hpq:∀ j,(Wp o).contains j = true → ld.contains j = false → e (D j) = qv j:=fun j hj hc => hv j (Nat.lt_trans (K.back i o ho' j (by simpa using hj)) hil) hc (hT j (by simpa using hj))
    have hlen:(left l.length (listed.setIfInBounds i true)).length ≤ fuel:=by
     obtain ⟨pre,post,e1,e2,_⟩:=Zlx hil hli
     rw [e1] at hf; rw [e2]; simp at hf ⊢; omega
    have hdn':∀ j oj,l[j]? = some oj → (listed.setIfInBounds i true).getD j true = true → ∀ p ∈ Wp oj,(listed.setIfInBounds i true).getD p true = true:=fun j oj hj hlj p hp => by
     rw [Kz hli] at hlj ⊢
     by_cases hip:i = p
     ·simp [hip]
     ·simp only [hip,if_false]
      by_cases hij:i = j
      ·subst hij; rw [ho'] at hj; cases hj; exact hT p hp
      ·simp only [hij,if_false] at hlj; exact hdn j oj hj hlj p hp
    unfold wpOp
    simp only [ho]
    cases hc:ld.contains i with
    | false =>
     obtain ⟨hd,hn⟩:=K.dst i o ho' hc
     have hrun:=QL.at hq ho' (by rw [Ub]; exact hc) m e w hP hpq (fun j hj p hp => (hld p j hp).1 (hT j (by simpa using hj))) (fun p j oj hp hj hc => by
      rcases VN p m with h | h
      ·have:=hdn j oj (by simpa using hj) ((hld p j hp).2 h) i (by simpa using hc)
       rw [this] at hli; cases hli
      ·exact h)
     rw [Ub] at hrun
     obtain ⟨hgu,hrun⟩:=hrun
     rw [if_pos (hgu.wanted hx)]
     refine .inl ?_
     unfold Oper.wp
     rw [hx.eval,hrun,Oper.upon_value,hd]
     refine ih _ _ _ ⟨by simp [hsz],upd e (D i) (qv i),m,hx.put hn _,hm,hs m e w i _ hil hc hP,fun p j hp => ?_,hdn',fun j hj hcj hlj => ?_⟩ hlen
     ·rw [Kz hli]
      have:i ≠ j:=by
       intro h; subst h
       have:=Vw hp
       simp at hc; exact hc this
      simp only [this,if_false]
      exact hld p j hp
     ·by_cases hij:i = j
      ·subst hij; exact Wz ..
      ·rw [Kz hli] at hlj
       simp only [hij,if_false] at hlj
       rw [Zx _ _ (fun h => K.apart i o j ho' hj hij hcj (by rw [hd,h]))]
       exact hv j hj hcj hlj
    | true =>
     have hmem:i ∈ ld:=by simpa using hc
     obtain ⟨q,hq1,hq2⟩:=UH.1 hmem
     have hqi:ld[q]? = some i:=by rw [VO hq1,hq2]
     have hqm:q = m:=by
      have h1:¬ q < m:=fun h => by rw [(hld q i hqi).2 h] at hli; cases hli
      cases q with
      | zero => omega
      | succ q =>
       have hp:ld[q]? = some ld[q]:=VO (by omega)
       have:=(hld q _ hp).1 (hT _ (K.chain q i _ o hqi hp ho'))
       omega
     subst hqm
     have hLo:=LL.at hl hqi o ho' e w (by rw [Ub]; exact hP) hpq
     rw [Ub] at hLo
     obtain ⟨hgu,hLo⟩:=hLo
     rw [if_pos (hgu.wanted hx)]
     refine .inl ?_
     refine Oper.wp_mono ?_ (hLo a hx)
     rintro a' w' ⟨e',hx',hsame,hP'⟩
     refine ih _ _ _ ⟨by simp [hsz],e',q + 1,hx',by omega,hP',fun p j hp => ?_,hdn',fun j hj hcj hlj => ?_⟩ hlen
     ·rw [Kz hli]
      by_cases hij:i = j
      ·subst hij
       simp only [if_true,true_iff]
       have:p = q:=by
        exact ((List.getElem?_inj hq1 K.nd).1 (by rw [hqi,hp])).symm
       omega
      ·simp only [hij,if_false]
       rw [hld p j hp]
       have:p ≠ q:=fun h => by subst h; rw [hqi] at hp; cases hp; exact hij rfl
       omega
     ·have hij:i ≠ j:=fun h => by subst h; rw [hc] at hcj; cases hcj
      rw [Kz hli] at hlj
      simp only [hij,if_false] at hlj
      rw [hsame _ (K.apart i o j ho' hj hij hcj)]
      exact hv j hj hcj hlj
 refine main _ _ _ _ ⟨by simp,e,0,ha,Nat.zero_le _,h0,fun p i hp => ?_,fun j oj hj hlj => ?_,fun i hi hc hli => ?_⟩ ?_
 ·have:=K.inl i (Vw hp)
  simp [VL,this]
 ·have hj':=(Up.1 hj).1
  simp [VL,hj'] at hlj
 ·simp [VL,hi] at hli
 ·simp only [left,List.size_toArray]
  exact VI (List.length_filter_le _ _) (by simp)
end
end Go.Sh
namespace Go.Sh
open Go
section
variable [Gl]
variable {P:Program} {n:Nat} {Q:Exit → En → World → Prop} {e:En} {w:World} {ops:Array Oper} {rest:List Oper} {o:Oper} {d:Nat}
theorem ZDG {T ee:TypeId} {t:Ty} {x y:Operand} {N:Nat} {zs:List Value} (ho:o.op = .makeSlice T x y) (hx:ev e x = .int .i64 0) (hy:ev e y = .int .i64 (N:Int)) (he:WN P T = some (ee,t))
  (hz:zeroCells P ee = some zs) (hzl:zs.length = t.size) (hpos:1 ≤ t.size) (hby:P.bytesOf ee ≤ 65536) (hN:N < 4294967296) :
  (execOp (ev e) o).run P w = .ok (.value (.slice (some ⟨w.heap.size,0,none⟩) 0 N)) (w.alloc (.cells (Jd N zs).flatten.toArray ee)):=by
 obtain ⟨i,hi,his,hib⟩:=Yo he
 obtain ⟨hu,ht,hs⟩:=QF he
 obtain ⟨zv,hz1,hz2⟩:=Xa hz w
 have hcells:(JW (N * t.size)).map (fun x => zv.cells[x % zv.cells.size]!) = (Jd N zs).flatten.toArray:=by
  apply JI
  have hsz:zv.cells.size = zs.length:=by rw [← hz2]; simp
  have:=ZjE zs (by omega) N
  rw [← this,hzl]
  simp only [JX,Array.toList_range,hsz,hzl]
  rw [← hz2]
 have hmul:(i.bytes:Int) * (N:Int) ≤ 281474976710656:=by
  rw [← hib]
  have h3:P.bytesOf ee * N ≤ 65536 * 4294967295:=Nat.mul_le_mul hby (by omega)
  omega
 have w1:Jx.wrap (0:Int) = 0:=Q2 (by omega) (by omega)
 have w2:Jx.wrap (N:Int) = N:=Q2 (by omega) (by omega)
 have hc0:¬ ((N:Int) < 0):=by omega
 have hl0:¬ ((0:Int) < 0):=by omega
 have hbig:¬ (281474976710656 < (i.bytes:Int) * (N:Int)):=by omega
 simp only [execOp,ho,hx,hy,bind_pure_comp,Sem.run_map]
 simp only [Instr.makeSlice,Sem.run_bind,run_underlying hu,Result.andThen_ok,asInt,asIntOf,Sem.run_pure,typeInfo,run_program,hi,w1,w2]
 simp only [Int.reducePow,decide_eq_true_eq,V6,hc0,hl0,hbig,gt_iff_lt,or_self,decide_false,Bool.false_eq_true,if_false,Sem.run_bind,run_askRoom,Result.andThen_ok,sizeOf,typeInfo,run_program,hi,Sem.run_pure,Int.toNat_natCast,his,Sem.run_ite,hz1,hcells]
 by_cases hN0:N * t.size = 0
 ·have hr0:∀ f:Nat → Value,Array.map f (JW 0) = #[]:=fun f => by simp
  have hN1:N = 0:=by
   rcases Nat.mul_eq_zero.1 hN0 with h | h
   ·exact h
   ·omega
  subst hN1
  have hr1:JW 0 = #[]:=rfl
  simp [newRow,hr1]
 ·simp [hN0,newRow]
theorem ZsA {T U ee eU:TypeId} {t:Ty} {x y:Operand} {w1:World} {lim:Nat → Nat} {ys:List t.den} {css:List (List Value)} {A:Option Addr} {cap:Nat}
  (ho:o.op = .call { callee:=.builtin .append,args := #[x,y],argTypes := #[T,U] }) (he:WN P T = some (ee,t)) (hU:P.underlying U = some (.slice eU))
  {b off sLen sCap:Nat} {cur:Array Value} {V:TypeId} (hx:ev e x = .slice (some ⟨b,off,none⟩) sLen sCap) (hb:w.heap[b]? = some (.cells cur V (0,0)))
  (hy:ev e y = .slice A ys.length cap) (h3:ZN (Rt w1 lim t) ys css)
  (h4:ys = [] ∨ ∃ b off,A = some ⟨b,off,none⟩ ∧ ∀ j u,css.flatten[j]? = some u → w.cell? ⟨b,off + j,none⟩ = some u) (hroom:sLen + ys.length ≤ sCap) (hfit:off + sCap * t.size ≤ cur.size) :
  (execOp (ev e) o).run P w = .ok (.value (.slice (some ⟨b,off,none⟩) (sLen + ys.length) sCap)) (w.setRow b (cur.toList.take (off + sLen * t.size) ++ css.flatten ++ cur.toList.drop (off + sLen * t.size + css.flatten.length)).toArray):=by
 obtain ⟨i,hi,his,hib⟩:=Yo he
 obtain ⟨hu,ht,hs⟩:=QF he
 have hfl:=Qe h3
 have hfc:(Ji i.size ys.length (.slice A ys.length cap)).run P w = .ok css.flatten.toArray w:=by
  rw [his]
  rcases h4 with h4 | ⟨b,off,rfl,h4⟩
  ·subst h4
   have:css = []:=by match css,h3 with | [],_ => rfl
   subst this
   cases A with
   | none => simp [Ji]
   | some a => simp [Ji,loadCells,loadCellsFrom]
  ·exact run_firstCells_some w t.size ys.length _ _ _ css.flatten hfl (fun j u hj => by rw [Qh]; exact h4 j u hj)
 have hm:(sLen + ys.length) * t.size ≤ sCap * t.size:=Nat.mul_le_mul_right _ hroom
 rw [Nat.add_mul] at hm
 have hl2:off + sLen * i.size + css.flatten.length ≤ cur.size:=by rw [his,hfl]; omega
 have:=ZjN (w:=w) (ty:=o.type) (b:=b) (off:=off) (sLen:=sLen) (sCap:=sCap) (cur:=cur) hu hU (.inr ⟨eU,rfl⟩) hi (x:=.slice A ys.length cap) (n:=ys.length) (news:=css.flatten) (by simp [Jq]) hfc hb (fun o _ => by simp) hroom
  hl2 (Za8 h3)
 rw [his] at this
 simp only [execOp,ho,resolve]
 simp only [bind_pure_comp,Sem.run_map,invoke,builtin,Sem.run_bind,Sem.run_pure,Result.andThen_ok,UG,JR,VE,hx,hy]
 exact congrArg (fun r => r.andThen fun a w' => Result.ok (Next.value a) w') this
def Zu8 (vs:List Value):En:=fun s => vs.toArray.getD s undef
theorem X.args (vs:List Value) (hn:vs.length ≤ n):X n (Zu8 vs) { tmps:=vs.toArray ++ Array.replicate (n - vs.toArray.size) undef,defers:=[] } where
 sz:=by simp; omega
 df:=rfl
 eq:=by
  funext s
  simp only [slots,Zu8,VL,Array.getElem?_append,Array.getElem?_replicate]
  split
  ·rfl
  ·rename_i h
   rw [VW (by simpa using h)]
   split <;> rfl
theorem Zxo {f:Nat} {fn:Func} {code:Code} {t:Nat} {vs:List Value} {R:Value → World → Prop} (hf:P.funcs[f]? = some fn) (hb:fn.body = some code) (hr:fn.results = #[.tmp t]) (hn:vs.length ≤ fn.ntmps)
  (h:T P fn.ntmps code (fun x e w' => (x = .normal ∨ x = .ret) ∧ R (e t) w') (Zu8 vs) w):Calls P f vs.toArray w fun x w' => ∃ v,x = .returned v ∧ R v w':=by
 refine calls_of_wp hf hb (wp_mono (h _ (X.args vs hn)) ?_)
 rintro x a w' ⟨e,hx,hc,hR⟩
 have h1:(results fn a.tmps).run P w' = .ok (e t) w':=by rw [← hx.eq]; exact results_tmp hr _ _ _
 rcases hc with rfl | rfl
 ·exact ⟨hx.df,_,h1,_,rfl,hR⟩
 ·exact ⟨hx.df,_,h1,_,rfl,hR⟩
theorem Ztz {f:Nat} {fn:Func} {code:Code} {t T:Nat} {vs:List Value} {R:Value → World → Prop} {dd:TypeDesc} (hf:P.funcs[f]? = some fn) (hb:fn.body = some code) (hr:fn.results = #[.cell t T]) (hn:vs.length ≤ fn.ntmps)
  (hu:P.underlying T = some dd) (ha:Zaw dd = true)
  (h:Sh.T P fn.ntmps code (fun x e w' => (x = .normal ∨ x = .ret) ∧ ∃ b cs U fz,e t = .pointer (some ⟨b,0,none⟩) ∧ w'.heap[b]? = some (.cells cs U fz) ∧ cs.size = P.cellsOf T ∧ R (.agg cs) w') (Zu8 vs) w) :
  Calls P f vs.toArray w fun x w' => ∃ v,x = .returned v ∧ R v w':=by
 refine calls_of_wp hf hb (wp_mono (h _ (X.args vs hn)) ?_)
 rintro x a w' ⟨e,hx,hc,b,cs,U,fz,h1,h2,h3,hR⟩
 have h4:=Y6 (P:=P) (w:=w') (b:=b) (off:=0) (cs:=cs.toList) hu ha (by simpa using h3) (fun j v hj => by rw [QQ h2,Ub]; exact hj)
 have h5:(results fn a.tmps).run P w' = .ok (.agg cs) w':=by
  have e1:a.tmps.getD t undef = .pointer (some ⟨b,0,none⟩):=by
   have:=hx.eq
   rw [← h1,← this]; rfl
  have h4':(loadVar T ⟨b,0,none⟩).run P w' = .ok (.agg cs) w':=by rw [h4]
  have e2:a.tmps[t]?.getD undef = Value.pointer (some { block:=b,off:=0 }):=by rw [← VL]; exact e1
  simp [results,hr,e2,asAddr,h4']
 rcases hc with rfl | rfl
 ·exact ⟨hx.df,_,h5,_,rfl,hR⟩
 ·exact ⟨hx.df,_,h5,_,rfl,hR⟩
end
end Go.Sh
namespace Go.Sh
open Go
section
variable [Gl]
variable {P:Program} {n:Nat} {Q:Exit → En → World → Prop} {e:En} {w:World} {ops:Array Oper} {rest:List Oper} {o:Oper} {d:Nat}
theorem Zgy {b off:Nat} {v:Value} (h:w.cell? ⟨b,off,none⟩ = some v):∃ vs T fz,w.heap[b]? = some (.cells vs T fz) ∧ vs[off]? = some v:=by
 unfold World.cell? at h
 split at h
 ·rename_i vs T fz hb; exact ⟨vs,T,fz,hb,h⟩
 ·cases h
theorem ZbO {T:TypeId} {x:Operand} {b off:Nat} {dd:TypeDesc} {v:Value} (ho:o.op = .load T x) (hx:ev e x = .pointer (some ⟨b,off,none⟩))
  (hc:w.cell? ⟨b,off,none⟩ = some v) (hu:P.underlying T = some dd) (ha:Zaw dd = false):(execOp (ev e) o).run P w = .ok (.value v) w:=by
 have h1:=XJ (P:=P) (w:=w) (b:=b) (off:=off) (v:=v) hu ha hc
 simp [execOp,ho,hx,JZ,JL,h1]
theorem ZDH {T:TypeId} {x y:Operand} {b off:Nat} {cur:Array Value} {U:TypeId} {fz:Nat × Nat} {dd:TypeDesc} {v:Value} (ho:o.op = .store T x y) (hx:ev e x = .pointer (some ⟨b,off,none⟩)) (hy:ev e y = v) (hv:v.oneCell' = true)
  (hb:w.heap[b]? = some (.cells cur U fz)) (hoff:off < cur.size) (hf:w.frozen? ⟨b,off,none⟩ = false) (hT:P.underlying T = some dd) (hc:P.cellsOf T = 1) :
  (execOp (ev e) o).run P w = .ok .skip (w.setRow b (cur.setIfInBounds off v)):=by
 have hcell:w.cell? ⟨b,off,none⟩ = some cur[off]:=by simp [World.cell?,hb,hoff]
 have hcs:v.cells = #[v]:=Zdn hv
 have hst:(store ((⟨b,off,none⟩:Addr).add 0) v).run P w = .ok () (w.setRow b (cur.setIfInBounds off v)):=by
  rw [Qh,Nat.add_zero,run_store P w _ v _ hv,hcell]
  simp [hf,setCell_eq_setRow w b off cur U fz v hb]
 have hsc:(storeCells ⟨b,off,none⟩ [v] 0).run P w = .ok () (w.setRow b (cur.setIfInBounds off v)):=by
  simp only [storeCells,Sem.run_bind,hst,Result.andThen_ok,Sem.run_pure]
 have hsa:(Ve T (.pointer (some ⟨b,off,none⟩)) v).run P w = .ok () (w.setRow b (cur.setIfInBounds off v)):=by
  simp_all [Ve,JL,Sem.run_bind,Sem.run_pure,Result.andThen_ok,storeVar,QO hT]
 simp only [execOp,ho,hx,hy]; simp [hsa]
theorem ZuH {c a b:Operand} {g:Bool} {v:Value} (ho:o.op = .pick c a b) (hc:ev e c = .bool g) (hv:(if g then ev e a else ev e b) = v):(execOp (ev e) o).run P w = .ok (.value v) w:=by
 simp only [execOp,ho,hc]
 cases g <;> simp_all [asBool]
theorem ZDI {S D el:TypeId} {x:Operand} {v:Value} {lim:Nat → Nat} {xs:List Int} (ho:o.op = .convert S D x) (hx:ev e x = v) (hs:P.underlying S = some (.slice el)) (hd':P.underlying D = some .string) (hby:Zb1 P el = true)
  (hr:Rt w lim (.sl (.int .u8)) xs [v]):(execOp (ev e) o).run P w = .ok (.value (.string (bytesOf xs))) w:=by
 have:=KN (C:=⟨P,fun _ => none,0,fun _ => []⟩) (w:=w) (lim:=lim) hs hd' hby (Zbk hr)
 simp only [execOp,ho,hx]
 simp [this]
structure Loose (w1 w2 w:World):Prop where
 keep:Keep w1 w
 size:w2.heap.size ≤ w.heap.size
 int:∀ b o k m,w2.cell? ⟨b,o,none⟩ = some (.int k m) → ∃ m',w.cell? ⟨b,o,none⟩ = some (.int k m')
 str:∀ b o s,w2.cell? ⟨b,o,none⟩ = some (.string s) → ∃ s',w.cell? ⟨b,o,none⟩ = some (.string s')
 sl:∀ b o A l c,w2.cell? ⟨b,o,none⟩ = some (.slice A l c) → w.cell? ⟨b,o,none⟩ = some (.slice A l c)
 frz:∀ b o,b < w2.heap.size → w.frozen? ⟨b,o,none⟩ = w2.frozen? ⟨b,o,none⟩
theorem Loose.start {w1 w2:World} (h:Keep w1 w2):Loose w1 w2 w2:=⟨h,Jj _,fun b o k m h => ⟨m,h⟩,fun b o s h => ⟨s,h⟩,fun _ _ _ _ _ h => h,fun _ _ _ => rfl⟩
theorem QT {w w':World} (k:Keep w w') {b o:Nat} {v:Value} (h:w.cell? ⟨b,o,none⟩ = some v):w'.cell? ⟨b,o,none⟩ = some v:=by
 obtain ⟨vs,T,fz,h1,h2⟩:=Zgy h
 simp [World.cell?,k.old b (QD h1),h1,h2]
theorem Loose.next {w1 w2 w w':World} (h:Loose w1 w2 w) (k:Keep w w'):Loose w1 w2 w' where
 keep:=h.keep.trans k
 size:=VI h.size k.size
 int b o kk m hc:=let ⟨m',h'⟩:=h.int b o kk m hc; ⟨m',QT k h'⟩
 str b o s hc:=let ⟨m',h'⟩:=h.str b o s hc; ⟨m',QT k h'⟩
 sl b o A l c hc:=QT k (h.sl b o A l c hc)
 frz b o hb:=(WI (k.old b (V0 hb h.size)) o).trans (h.frz b o hb)
theorem Loose.set {w1 w2 w:World} (h:Loose w1 w2 w) {b off:Nat} {cur:Array Value} {U:TypeId} {fz:Nat × Nat} (hb:w.heap[b]? = some (.cells cur U fz)) (hb1:w1.heap.size ≤ b) {x:Value}
  (hx:(∃ k m m',cur[off]? = some (.int k m) ∧ x = .int k m') ∨ (∃ s s',cur[off]? = some (.string s) ∧ x = .string s')):Loose w1 w2 (w.setRow b (cur.setIfInBounds off x)):=by
 have hoff:off < cur.size:=by
  rcases hx with ⟨k,m,m',h,_⟩ | ⟨s,s',h,_⟩ <;> exact (UF.1 h).1
 have hrow:=setRow_heap w b cur (cur.setIfInBounds off x) U fz hb
 have hoth:∀ c,c ≠ b → (w.setRow b (cur.setIfInBounds off x)).heap[c]? = w.heap[c]? := fun c hc => setRow_other w b c _ hc
 have hcell:∀ c p,¬ (c = b ∧ p = off) → (w.setRow b (cur.setIfInBounds off x)).cell? ⟨c,p,none⟩ = w.cell? ⟨c,p,none⟩:=fun c p hcp => by
  by_cases e:c = b
  ·subst e
   have:¬ off = p:=fun h => hcp ⟨rfl,h.symm⟩
   simp [World.cell?,hrow,hb,UD,this]
  ·simp [World.cell?,hoth c e]
 have hat:(w.setRow b (cur.setIfInBounds off x)).cell? ⟨b,off,none⟩ = some x:=by simp [World.cell?,hrow,hoff]
 have hold:w.cell? ⟨b,off,none⟩ = cur[off]? := by simp [World.cell?,hb]
 refine ⟨⟨by simp [World.setRow]; exact h.keep.size,fun c hc => by rw [hoth c (by omega)]; exact h.keep.old c hc,by simp [World.setRow]; exact h.keep.same⟩,by simp [World.setRow]; exact h.size,fun c p k m hc => ?_,fun c p s hc => ?_,fun c p A l cc hc => ?_,fun c p hc => ?_⟩
 ·obtain ⟨m1,h1⟩:=h.int c p k m hc
  by_cases e:c = b ∧ p = off
  ·obtain ⟨rfl,rfl⟩:=e
   rw [hold] at h1
   rcases hx with ⟨k',m2,m3,h2,rfl⟩ | ⟨s,s',h2,rfl⟩
   ·rw [h2] at h1; cases h1; exact ⟨_,hat⟩
   ·rw [h2] at h1; cases h1
  ·exact ⟨m1,(hcell c p e).trans h1⟩
 ·obtain ⟨m1,h1⟩:=h.str c p s hc
  by_cases e:c = b ∧ p = off
  ·obtain ⟨rfl,rfl⟩:=e
   rw [hold] at h1
   rcases hx with ⟨k',m2,m3,h2,rfl⟩ | ⟨s1,s',h2,rfl⟩
   ·rw [h2] at h1; cases h1
   ·exact ⟨_,hat⟩
  ·exact ⟨m1,(hcell c p e).trans h1⟩
 ·have h1:=h.sl c p A l cc hc
  by_cases e:c = b ∧ p = off
  ·obtain ⟨rfl,rfl⟩:=e
   rw [hold] at h1
   rcases hx with ⟨k',m2,m3,h2,rfl⟩ | ⟨s1,s',h2,rfl⟩ <;> (rw [h2] at h1; cases h1)
  ·exact (hcell c p e).trans h1
 ·rw [← h.frz c p hc]
  by_cases e:c = b
  ·subst e; obtain ⟨lo,hi⟩:=fz; simp only [World.frozen?,hrow,hb]
  ·exact WI (hoth c e) p
theorem Loose.other {w1 w2 w:World} (h:Loose w1 w2 w) {b:Nat} {c:Nat} {cs:Array Value} (hbc:c ≠ b):(w.setRow b cs).heap[c]? = w.heap[c]? := setRow_other w b c _ hbc
def At (Fe:List (Nat × Value)) (e:En):Prop := ∀ p ∈ Fe,e p.1 = p.2
theorem At.same {Fe:List (Nat × Value)} {e e':En} (h:At Fe e) {m:Nat} (hm:∀ p ∈ Fe,p.1 < m) (hs:∀ s,s < m → e' s = e s):At Fe e':=fun p hp => (hs _ (hm p hp)).trans (h p hp)
def iv:Value → Nat
 | .int _ n => n.toNat
 | _ => 0
def cl:Code → Code
 | .seq a _ => a
 | c => c
def cr:Code → Code
 | .seq _ b => b
 | c => c
def cb:Code → Code
 | .block _ c => c
 | .loop c => c
 | c => c
theorem Zbw {k:Nat} (h:k < 9223372036854775807):Jx.wrap ((k:Int) + 1) = ((k + 1:Nat):Int):=by simp [IntKind.wrap,IntKind.bits,IntKind.signed]; omega
end
end Go.Sh
namespace Go.Sh
open Go
section
variable [Gl]
variable {P:Program} {n:Nat} {e:En} {w:World} {o:Oper}
theorem KI {T:TypeId} {x y:Operand} {b:Nat} {cur:Array Value} {U:TypeId} {fz:Nat × Nat} {dd:TypeDesc} {vs:List Value} (ho:o.op = .store T x y) (hx:ev e x = .pointer (some ⟨b,0,none⟩)) (hv:(ev e y).cells = vs.toArray)
  (hb:w.heap[b]? = some (.cells cur U fz)) (hfz:∀ x,x < cur.size → ¬ (fz.1 ≤ x ∧ x < fz.2)) (hT:P.underlying T = some dd) (hc:P.cellsOf T = vs.length) (h1:∀ v ∈ vs,v.oneCell' = true) (hfit:vs.length = cur.size) :
  (execOp (ev e) o).run P w = .ok .skip (w.setRow b vs.toArray):=by
 have:=ZwW (P:=P) ho hx hv hb hfz hT hc h1 (by omega)
 rw [this]
 congr 2
 simp [hfit]
theorem Keep.drew (w:World):Keep w w.drew:=⟨Jj _,fun _ _ => rfl,rfl,rfl,rfl⟩
end
end Go.Sh
namespace Go.Sh
open Go
section
variable [Gl]
variable {P:Program} {e:En} {w:World} {o:Oper}
def Zca (E:TypeId) (A:Option Addr) (vs:Array Value):List (Nat × Obj):=match A with
 | none => []
 | some a => [(a.block,.cells vs E (0,0))]
def Zc6 (A:Option Addr) (vs:Array Value) (n:Nat):List Value:=match A with
 | none => []
 | some _ => vs.toList.take n
theorem ZsB {T ee:TypeId} {t:Ty} {x y:Operand} {i:TypeInfo} {z v:Value} (ho:o.op = .call { callee:=.builtin .append,args := #[x,y],argTypes := #[T,T] }) (he:WN P T = some (ee,t)) (hi:P.info? ee = some i) (hz:i.zero = some z) (his:i.size = 1) (hzc:z.cells.size = 1) (hby:i.bytes ≤ 65536)
  {A:Option Addr} {n cap by_ cy:Nat} {vs:Array Value} (hx:ev e x = .slice A n cap) (hA:(A = none ∧ n = 0 ∧ cap = 0) ∨ ∃ b,A = some ⟨b,0,none⟩ ∧ w.heap[b]? = some (.cells vs ee (0,0)) ∧ n ≤ cap ∧ cap ≤ vs.size)
  (hy:ev e y = .slice (some ⟨by_,0,none⟩) 1 cy) (hv:w.cell? ⟨by_,0,none⟩ = some v) (h1:v.oneCell' = true) (hn:n < 1073741824) :
  (∃ b,A = some ⟨b,0,none⟩ ∧ n + 1 ≤ cap ∧ (execOp (ev e) o).run P w = .ok (.value (.slice A (n + 1) cap)) (w.setRow b (vs.toList.take n ++ [v] ++ vs.toList.drop (n + 1)).toArray)) ∨
  (∃ cap' zs,n + 1 ≤ cap' ∧ cap' ≤ n + 1 + zs.length ∧ (execOp (ev e) o).run P w = .ok (.value (.slice (some ⟨w.heap.size,0,none⟩) (n + 1) cap')) (w.drew.alloc (.cells (Zc6 A vs n ++ [v] ++ zs).toArray ee))):=by
 obtain ⟨hu,ht,hs⟩:=QF he
 have hlen:(Jq (.slice (some ⟨by_,0,none⟩) 1 cy)).run P w = .ok 1 w:=by simp [Jq]
 have hfc:∀ w':World,w'.heap = w.heap → (Ji i.size 1 (.slice (some ⟨by_,0,none⟩) 1 cy)).run P w' = .ok [v].toArray w':=fun w' hw => by
  refine run_firstCells_some w' i.size 1 _ _ _ [v] (by simp [his]) (fun j u hj => ?_)
  match j,hj with
  | 0,hj => simp at hj; subst hj; rw [Qh]; simpa [World.cell?,hw] using hv
  | j + 1,hj => simp at hj
 have wrap:∀ {r:Value} {w':World},(Builtin.append_ #[T,T] o.type #[.slice A n cap,.slice (some ⟨by_,0,none⟩) 1 cy]).run P w = .ok r w' → (execOp (ev e) o).run P w = .ok (.value r) w':=fun {r w'} h => by
  simp only [execOp,ho,resolve]
  simp only [bind_pure_comp,Sem.run_map,invoke,builtin,Sem.run_bind,Sem.run_pure,Result.andThen_ok,UG,JR,VE,hx,hy,h]
 by_cases hroom:n + 1 ≤ cap
 ·left
  rcases hA with ⟨rfl,rfl,rfl⟩ | ⟨b,rfl,hb,hnc,hcv⟩
  ·omega
  ·refine ⟨b,rfl,hroom,wrap ?_⟩
   have:=ZjN (ty:=o.type) (w:=w) (b:=b) (off:=0) (sLen:=n) (sCap:=cap) (cur:=vs) hu hu (.inr ⟨ee,rfl⟩) hi (x:=.slice (some ⟨by_,0,none⟩) 1 cy) (n:=1) (news:=[v]) hlen (hfc w rfl) hb (fun o _ => by simp) hroom (by rw [his]; simp; omega) (fun u hu' => by rw [List.mem_singleton] at hu'; rw [hu']; exact h1)
   rw [his] at this
   simp only [Ub,Nat.mul_one,List.length_singleton] at this
   exact this
 ·right
  have hold:(Ji i.size n (.slice A n cap)).run P w.drew = .ok (Zc6 A vs n).toArray w.drew:=by
   rcases hA with ⟨rfl,rfl,rfl⟩ | ⟨b,rfl,hb,hnc,hcv⟩
   ·simp [Ji,Zc6]
   ·show _ = Result.ok (vs.toList.take n).toArray w.drew
    refine run_firstCells_some w.drew i.size n _ _ _ (vs.toList.take n) (by rw [his]; simp; omega) (fun j u hj => ?_)
    rw [Qh,Ub]
    have hb':w.drew.heap[b]? = some (.cells vs ee (0,0)):=hb
    rw [QQ hb']
    rw [Jy] at hj
    split at hj
    ·exact hj
    ·cases hj
  have h48:Builtin.nextslicecap (n + 1) cap * i.bytes ≤ 281474976710656:=growslice_fits (by omega) (by have:=Nat.mul_le_mul_left (n + 1) hby; omega)
  have:=ZjM (ty:=o.type) (w:=w) (A:=A) (sLen:=n) (sCap:=cap) hu hu (.inr ⟨ee,rfl⟩) hi hz (x:=.slice (some ⟨by_,0,none⟩) 1 cy) (n:=1) (news:=[v]) hlen (hfc w.drew rfl) hold (by omega) (by omega) h48
  have hge:=grownCap_ge w (n + 1) cap ee
  refine ⟨grownCap w (n + 1) cap ee,(Builtin.zeroCells z.cells (grownCap w (n + 1) cap ee - (n + 1))).toList,hge,?_,wrap ?_⟩
  ·rw [Array.length_toList,size_zeroCells,hzc]; omega
  ·rw [this]
   congr 3
   apply JI
   simp
end
end Go.Sh
