/-
  What the row needs, part 6.
-/
import Derived.Test.YtlbgcegonmbddaaDoorXWavKeeps5
import Derived.Tactics
set_option linter.unusedSimpArgs false
set_option linter.unusedVariables false
set_option linter.unusedSectionVars false
open Array renaming getD_eq_getD_getElem?→VM,getElem?_setIfInBounds→UE,range→JX,getElem?_eq_getElem→UF,getElem?_eq_none→VX,getElem?_eq_some_iff→UG,toList_map→JY
open Bool renaming and_eq_true→Jh,or_eq_true→V7
open Go.Builtin renaming firstCells→Ji
open Go.Instr renaming sureAddr→JM,storeAt→Vf,loadAt→J0,fieldAt→Vc,sliceBounds→Ve
open Go.IntKind renaming i64→Jy
open List renaming mem_cons→VN,map_cons→JS,all_eq_true→Vg,getElem?_eq_getElem→VP,getElem?_eq_some_iff→Uq,mem_cons_of_mem→Jo,mem_cons_self→Jm,nodup_cons→J4,mem_map→VH,range→Jc,mem_iff_getElem→UH,mem_of_getElem?→Vx,mem_range→VI,replicate→Jd
open Nat renaming lt_or_ge→VO,beq→Ja,le_refl→Jj,le_trans→VJ,zero_add→Uc,lt_of_lt_of_le→V1
namespace Go.Sh
open Go
abbrev En:=Nat → Value
def slots (a:Act):En:=fun s => a.tmps.getD s undef
structure X (n:Nat) (e:En) (a:Act):Prop where
 sz:a.tmps.size = n
 df:a.defers = []
 eq:slots a = e
def upd (e:En) (d:Nat) (v:Value):En:=fun s => bif Ja s d then v else e s
def ev (e:En):Operand → Value
 | .tmp t => e t
 | .const v => v
 | .global g => .pointer (some ⟨g,0,none⟩)
 | .func f => .func (.func f) #[] #[]
theorem X.eval {n:Nat} {e:En} {a:Act} (h:X n e a):a.eval = ev e:=by
 funext x; cases x <;> simp [Act.eval,ev,← h.eq,slots]
theorem X.put {n:Nat} {e:En} {a:Act} (h:X n e a) {d:Nat} (hd:d < n) (v:Value):X n (upd e d v) (a.put (some d) v) where
 sz:=by simp [Act.put,h.sz]
 df:=by simp [Act.put,h.df]
 eq:=by
  funext s
  have hz:=h.sz
  by_cases hs:s = d
  ·subst hs; simp [slots,upd,Act.put,VM,UE,hz,hd]
  ·have:¬ d = s:=fun h => hs h.symm
   simp [slots,upd,Act.put,VM,UE,this,Zc hs,← h.eq]
theorem ZY (e:En) (d:Nat) (v:Value):upd e d v d = v:=by simp [upd]
theorem Zn (e:En) {d s:Nat} (v:Value) (h:s ≠ d):upd e d v s = e s:=by simp [upd,Zc h]
section
variable {P:Program} {n:Nat} {Q:Exit → En → World → Prop} {e:En} {w:World}
def Zef (n:Nat) (Q:Exit → En → World → Prop):Exit → Act → World → Prop:=fun x a w => ∃ e,X n e a ∧ Q x e w
def T (P:Program) (n:Nat) (c:Code) (Q:Exit → En → World → Prop) (e:En) (w:World):Prop := ∀ a,X n e a → c.wp P (Zef n Q) a w
def nx (R:En → World → Prop) (Q:Exit → En → World → Prop):Exit → En → World → Prop:=fun x e w => match x with
 | .normal => R e w
 | x => Q x e w
def bk (id:Nat) (Q:Exit → En → World → Prop):Exit → En → World → Prop:=fun x e w => match x with
 | .exit j => if j = id then Q .normal e w else Q (.exit j) e w
 | x => Q x e w
theorem T.mono {c:Code} {Q':Exit → En → World → Prop} (h:T P n c Q' e w) (hq:∀ x e w,Q' x e w → Q x e w):T P n c Q e w :=
 fun a ha => wp_mono (h a ha) fun x a w ⟨e,hx,q⟩ => ⟨e,hx,hq _ _ _ q⟩
theorem T.seq {x y:Code} (h:T P n x (nx (T P n y Q) Q) e w):T P n (.seq x y) Q e w:=fun a ha => wp_seq (wp_mono (h a ha) (by
 rintro ex a' w' ⟨e',hx,hq⟩
 cases ex with
 | normal => exact hq a' hx
 | _ => exact ⟨e',hx,hq⟩))
theorem T.skip (h:Q .normal e w):T P n .skip Q e w:=fun a ha => wp_skip ⟨e,ha,h⟩
theorem T.ret (h:Q .ret e w):T P n .ret Q e w:=fun a ha => wp_ret ⟨e,ha,h⟩
theorem T.exit {i:Nat} (h:Q (.exit i) e w):T P n (.exit i) Q e w:=fun a ha => wp_exit ⟨e,ha,h⟩
theorem T.condT {c:Operand} {x y:Code} (hc:ev e c = .bool true) (h:T P n x Q e w):T P n (.cond c x y) Q e w:=fun a ha => wp_cond_true (by rw [ha.eval]; exact hc) (h a ha)
theorem T.condF {c:Operand} {x y:Code} (hc:ev e c = .bool false) (h:T P n y Q e w):T P n (.cond c x y) Q e w:=fun a ha => wp_cond_false (by rw [ha.eval]; exact hc) (h a ha)
theorem T.block {id:Nat} {c:Code} (h:T P n c (bk id Q) e w):T P n (.block id c) Q e w:=fun a ha => wp_block (wp_mono (h a ha) (by
 rintro ex a' w' ⟨e',hx,hq⟩
 cases ex with
 | exit j =>
  simp only [Exit.inBlock,bk] at hq ⊢
  by_cases hj:j = id
  ·simp only [hj,if_true] at hq ⊢; exact ⟨e',hx,hq⟩
  ·simp only [hj,if_false] at hq ⊢; exact ⟨e',hx,hq⟩
 | _ => exact ⟨e',hx,hq⟩))
theorem T.loop {c:Code} (I:En → World → Prop) (μ:En → World → Nat) (h0:I e w) (h:∀ e w,I e w → T P n c (nx (fun e' w' => I e' w' ∧ μ e' w' < μ e w) Q) e w):T P n (.loop c) Q e w:=fun a ha =>
 wp_loop (fun a w => ∃ e,X n e a ∧ I e w) (fun a w => μ (slots a) w) ⟨e,ha,h0⟩ (by
  rintro a w ⟨e,hx,hI⟩
  refine wp_mono (h e w hI a hx) ?_
  rintro ex a' w' ⟨e',hx',hq⟩
  cases ex with
  | normal =>
   obtain ⟨h1,h2⟩:=hq
   exact ⟨⟨e',hx',h1⟩,by rw [hx'.eq,hx.eq]; exact h2⟩
  | _ => exact ⟨e',hx',hq⟩)
def L (P:Program) (n:Nat) (ops:Array Oper) (Q:Exit → En → World → Prop) (l:List Oper) (e:En) (w:World):Prop := ∀ a,X n e a → wpList P ops (Zef n Q) l a w
variable {ops:Array Oper} {rest:List Oper} {o:Oper}
theorem L.nil (h:Q .normal e w):L P n ops Q [] e w:=fun a ha => wpList_nil ⟨e,ha,h⟩
theorem T.region {id:Nat} {l:List Oper} (h:L P n l.toArray Q l e w):T P n (.region id l.toArray false) Q e w:=fun a ha => wp_region_lit (h a ha)
def Q4 (ops:Array Oper) (o:Oper) (e:En):Prop:=match o.guard with
 | none => True
 | some (p,want) => ∃ d,(ops[p]?).bind (·.dst) = some d ∧ e d = .bool want
theorem Zdo {tmps:Array Value} {d:Nat} {g:Bool} (h:tmps.getD d undef = .bool g):tmps[d]? = some (.bool g):=by
 rw [VM] at h
 cases hd:tmps[d]? with
 | none => rw [hd] at h; cases h
 | some v => rw [hd] at h; simp at h; rw [h]
theorem Q4.wanted {a:Act} (h:Q4 ops o e) (ha:X n e a):Region.wanted o (yielded ops a.tmps) = true:=by
 unfold Q4 at h
 split at h
 ·rename_i hg; simp [Region.wanted,hg]
 ·rename_i p want hg
  obtain ⟨d,h1,h2⟩:=h
  rw [← ha.eq] at h2
  have:=Zdo h2
  simp [Region.wanted,hg,yielded,h1,this]
theorem Zhk {a:Act} {p d:Nat} {want:Bool} (hg:o.guard = some (p,want)) (h1:(ops[p]?).bind (·.dst) = some d) (h2:e d = .bool (!want)) (ha:X n e a):Region.wanted o (yielded ops a.tmps) = false:=by
 rw [← ha.eq] at h2
 have:=Zdo h2
 simp [Region.wanted,hg,yielded,h1,this]
theorem L.of_wp (hg:Q4 ops o e) (h:∀ a,X n e a → o.wp P a w (fun a' w' => wpList P ops (Zef n Q) rest a' w') (Zef n Q)):L P n ops Q (o :: rest) e w:=fun a ha => by
 unfold wpList
 rw [if_pos (hg.wanted ha)]
 exact .inl (h a ha)
theorem L.skip {p d0:Nat} {want:Bool} (d:Nat) (hg:o.guard = some (p,want)) (h1:(ops[p]?).bind (·.dst) = some d0) (h2:e d0 = .bool (!want)) (k:L P n ops Q rest (upd e d undef) w) (hd:o.dst = some d:=by rfl) (hn:d < n:=by decide):L P n ops Q (o :: rest) e w:=fun a ha => by
 unfold wpList
 rw [if_neg (by rw [Zhk hg h1 h2 ha]; simp)]
 rw [hd]
 exact k _ (ha.put hn undef)
theorem L.val (d:Nat) {v:Value} {w':World} (hr:(execOp (ev e) o).run P w = .ok (.value v) w') (k:L P n ops Q rest (upd e d v) w') (hg:Q4 ops o e:=by exact trivial) (hd:o.dst = some d:=by rfl) (hn:d < n:=by decide):L P n ops Q (o :: rest) e w :=
 L.of_wp hg fun a ha => by
  unfold Oper.wp
  rw [ha.eval,hr,Oper.upon_value,hd]
  exact k _ (ha.put hn v)
theorem L.unit {w':World} (hr:(execOp (ev e) o).run P w = .ok .skip w') (k:L P n ops Q rest e w') (hg:Q4 ops o e:=by exact trivial) (hd:o.dst = none:=by rfl):L P n ops Q (o :: rest) e w :=
 L.of_wp hg fun a ha => by
  unfold Oper.wp
  rw [ha.eval,hr,Oper.upon_skip,hd]
  exact k _ ha
theorem L.call (d:Nat) {f:Nat} {args:Array Value} (hr:(execOp (ev e) o).run P w = .ok (.enter f args) w) {R:Value → World → Prop} (hc:Calls P f args w fun x w' => ∃ v,x = .returned v ∧ R v w')
  (k:∀ v w',R v w' → L P n ops Q rest (upd e d v) w') (hg:Q4 ops o e:=by exact trivial) (hd:o.dst = some d:=by rfl) (hn:d < n:=by decide):L P n ops Q (o :: rest) e w :=
 L.of_wp hg fun a ha => by
  unfold Oper.wp
  rw [ha.eval,hr,Oper.upon_enter]
  refine hc.mono ?_
  rintro x w' ⟨v,rfl,hR⟩
  rw [hd]
  exact k v w' hR _ (ha.put hn v)
theorem Z7 {args:Array Operand} {ats:Array TypeId} {f:Nat} (ho:o.op = .call { callee:=.value (.func f),args:=args,argTypes:=ats }) (hE:Zho P f) :
  (execOp (ev e) o).run P w = .ok (.enter f (args.toList.map (ev e)).toArray) w:=by
 obtain ⟨fn,e1,e2,e3⟩:=hE
 have hmap:Array.map (ev e) args = (args.toList.map (ev e)).toArray:=by apply Array.ext'; simp
 have e2':¬ fn.name = "runtime.NumGoroutine" := by simpa using e2
 have e3':¬ fn.body = none:=by intro h0; rw [h0] at e3; cases e3
 simp only [execOp,ho]
 simp [resolve,ev,Deferred.ofValue,invoke,callFunc,e1,hmap]
 rw [if_neg e2',if_neg e3']
end
structure Keep (w w':World):Prop where
 size:w.heap.size ≤ w'.heap.size
 old:∀ b,b < w.heap.size → w'.heap[b]? = w.heap[b]?
 same:w'.os = w.os ∧ w'.tape = w.tape ∧ w'.output = w.output
theorem Keep.refl (w:World):Keep w w:=⟨Jj _,fun _ _ => rfl,rfl,rfl,rfl⟩
theorem Keep.trans {a b c:World} (h:Keep a b) (k:Keep b c):Keep a c :=
 ⟨VJ h.size k.size,fun i hi => (k.old i (V1 hi h.size)).trans (h.old i hi),k.same.1.trans h.same.1,k.same.2.1.trans h.same.2.1,k.same.2.2.trans h.same.2.2⟩
theorem ZJ {w:World} {b:Nat} {o:Obj} (h:w.heap[b]? = some o):b < w.heap.size:=by
 by_cases hb:b < w.heap.size
 ·exact hb
 ·rw [VX (by omega)] at h; cases h
structure H (w0 w:World) (B:List (Nat × Obj)):Prop where
 keep:Keep w0 w
 nd:(B.map (·.1)).Nodup
 at':∀ p ∈ B,w.heap[p.1]? = some p.2
 new:∀ p ∈ B,w0.heap.size ≤ p.1
theorem H.nil (w:World):H w w []:=⟨Keep.refl w,by simp,by simp,by simp⟩
theorem H.next {w0 w w':World} {B:List (Nat × Obj)} (h:H w0 w B) (k:Keep w w'):H w0 w' B :=
 ⟨h.keep.trans k,h.nd,fun p hp => (k.old _ (ZJ (h.at' p hp))).trans (h.at' p hp),h.new⟩
theorem Keep.alloc (w:World) (o:Obj):Keep w (w.alloc o) :=
 ⟨by show _ ≤ (w.heap.push o).size; simp,fun b hb => heap_alloc_old w o hb,rfl,rfl,rfl⟩
theorem H.alloc {w0 w:World} {B:List (Nat × Obj)} (h:H w0 w B) (o:Obj):H w0 (w.alloc o) ((w.heap.size,o) :: B) where
 keep:=h.keep.trans (Keep.alloc w o)
 nd:=by
  simp only [JS,J4]
  refine ⟨fun hm => ?_,h.nd⟩
  obtain ⟨p,hp,he⟩:=VH.1 hm
  have:=ZJ (h.at' p hp); omega
 at' p hp:=by
  rcases VN.1 hp with rfl | hp
  ·exact heap_alloc_new w o
  ·exact (heap_alloc_old w o (ZJ (h.at' p hp))).trans (h.at' p hp)
 new p hp:=by
  rcases VN.1 hp with rfl | hp
  ·exact h.keep.size
  ·exact h.new p hp
theorem H.add {w0 w w':World} {B:List (Nat × Obj)} (h:H w0 w B) (k:Keep w w') {b:Nat} {o:Obj} (hb:w.heap.size ≤ b) (ho:w'.heap[b]? = some o):H w0 w' ((b,o) :: B) where
 keep:=h.keep.trans k
 nd:=by
  simp only [JS,J4]
  refine ⟨fun hm => ?_,h.nd⟩
  obtain ⟨p,hp,he⟩:=VH.1 hm
  have:=ZJ (h.at' p hp); omega
 at' p hp:=by
  rcases VN.1 hp with rfl | hp
  ·exact ho
  ·exact (k.old _ (ZJ (h.at' p hp))).trans (h.at' p hp)
 new p hp:=by
  rcases VN.1 hp with rfl | hp
  ·exact VJ h.keep.size hb
  ·exact h.new p hp
theorem H.drop {w0 w:World} {B:List (Nat × Obj)} {p:Nat × Obj} (h:H w0 w (p :: B)):H w0 w B where
 keep:=h.keep
 nd:=by have:=h.nd; simp only [JS,J4] at this; exact this.2
 at' q hm:=h.at' q (Jo _ hm)
 new q hm:=h.new q (Jo _ hm)
theorem H.set {w0 w w':World} {B:List (Nat × Obj)} {b:Nat} {o o':Obj} (h:H w0 w ((b,o) :: B)) (hs:w'.heap.size = w.heap.size) (hb:w'.heap[b]? = some o') (hr:∀ b',b' ≠ b → w'.heap[b']? = w.heap[b']?)
  (hm:w'.os = w.os ∧ w'.tape = w.tape ∧ w'.output = w.output):H w0 w' ((b,o') :: B) where
 keep:=⟨by rw [hs]; exact h.keep.size,fun i hi => by
   have:=h.new (b,o) (Jm ..)
   rw [hr i (by simp at this; omega)]; exact h.keep.old i hi,hm.1.trans h.keep.same.1,hm.2.1.trans h.keep.same.2.1,hm.2.2.trans h.keep.same.2.2⟩
 nd:=by have:=h.nd; simpa using this
 at' p hp:=by
  have hn:=h.nd
  simp only [JS,J4] at hn
  rcases VN.1 hp with rfl | hp
  ·exact hb
  ·rw [hr p.1 (fun he => hn.1 (VH.2 ⟨p,hp,he⟩))]; exact h.at' p (Jo _ hp)
 new p hp:=by
  rcases VN.1 hp with rfl | hp
  ·exact h.new (b,o) (Jm ..)
  ·exact h.new p (Jo _ hp)
theorem H.row {w0 w:World} {B:List (Nat × Obj)} {b:Nat} {cs cs':Array Value} {T:TypeId} {fz:Nat × Nat} (h:H w0 w ((b,.cells cs T fz) :: B)):H w0 (w.setRow b cs') ((b,.cells cs' T fz) :: B):=by
 have hb:=h.at' _ (Jm ..)
 simp only at hb
 exact h.set (by simp [World.setRow]) (setRow_heap w b cs _ T _ hb) (fun b' hb' => setRow_other w b b' _ hb') (by simp [World.setRow])
variable [Gl]
theorem Ext.of_keep {w w':World} {lim lim':Nat → Nat} (k:Keep w w') (hlz:∀ b,w.heap.size ≤ b → lim b = 0) (hl:∀ b,b < w.heap.size → lim' b = lim b) (hz:∀ b,w.heap.size ≤ b → lim' b = 0):Ext w lim w' lim' where
 size:=k.size
 cell b o ho:=by
  have hb:b < w.heap.size:=by
   rcases VO b w.heap.size with h | h
   ·exact h
   ·rw [hlz b h] at ho; omega
  simp only [World.cell?,k.old b hb]
 lim b o ho:=by
  rcases VO b w.heap.size with h | h
  ·rw [hl b h]; exact ho
  ·rw [hlz b h] at ho; omega
 typ b T h:=by
  unfold Z8 at h ⊢
  split at h
  ·rename_i c U fz hc
   rw [k.old b (ZJ hc),hc]; exact h
  ·cases h
 nf b o ho hf:=by
  rcases VO b w.heap.size with h | h
  ·rw [Qm (k.old b h)] at hf; exact ⟨by rw [← hl b h]; exact ho,hf⟩
  ·rw [hz b h] at ho; omega
theorem Wf {P:Program} {k f:Nat} {pk:List Kd} {rk:Kd} {F:Nat → Kd.dens pk → Option (Ans pk rk)} (hC:Ctr P k f (mk pk rk F)) {x:Kd.dens pk} {r:Ans pk rk} (hF:F k x = some r)
  (hL:Yd pk (QD pk x) = some x) {w:World} {lim:Nat → Nat} (hlz:∀ b,w.heap.size ≤ b → lim b = 0) (hgl:Zbn w lim) {vs:List Value} (hT:KL w lim (QD pk x) vs []) :
  Calls P f vs.toArray w fun en w' => ∃ v,en = .returned v ∧ Keep w w' ∧ ∃ lim' b1,Ext w lim w' lim' ∧ (∀ b,w'.heap.size ≤ b → lim' b = 0) ∧ (∀ b,b < w.heap.size → lim' b = lim b) ∧ TT w' lim' (enc rk r.1) v b1 ∧ b1.Nodup ∧ ∀ b ∈ b1,w.heap.size ≤ b:=by
 refine (hC.calls (QD pk x) r (by simp only [mk,hL,Option.bind_some]; exact hF) w lim vs [] hlz hgl hT (by simp) (by simp)).mono ?_
 rintro en w' ⟨v,lim',b1,b2,rfl,hE,hlz',hsame,hkeep,hT1,hT2,hS,hnd,hb⟩
 exact ⟨v,rfl,⟨hE.size,fun b hb => (hkeep b hb (by simp)).1,hsame⟩,lim',b1,hE,hlz',fun b hb => (hkeep b hb (by simp)).2,hT1,(List.nodup_append.1 hnd).1,fun b hb1 => by
  rcases hb b (List.mem_append_left _ hb1) with h | h
  ·cases h
  ·exact h⟩
end Go.Sh
namespace Go.Sh
open Go
section
variable [Gl]
variable {P:Program} {n:Nat} {Q:Exit → En → World → Prop} {e:En} {w:World} {ops:Array Oper} {rest:List Oper} {o:Oper} {d:Nat}
theorem Zg8 {T:TypeId} {dd:TypeDesc} (hT:P.underlying T = some dd) {vx:Value} {vs:List Value} (hv:vx.cells = vs.toArray) (hc:P.cellsOf T = vs.length) (h1:∀ v ∈ vs,v.oneCell' = true)
  {b off:Nat} {cur:Array Value} {U:TypeId} {fz:Nat × Nat} (hb:w.heap[b]? = some (.cells cur U fz)) (hfz:∀ x,x < cur.size → ¬ (fz.1 ≤ x ∧ x < fz.2)) (hfit:off + vs.length ≤ cur.size) :
  (Vf T (.pointer (some ⟨b,off,none⟩)) vx).run P w = .ok () (w.setRow b (cur.toList.take off ++ vs ++ cur.toList.drop (off + vs.length)).toArray):=by
 have:=Z5 (P:=P) b off U fz vs 0 cur w hb (by simpa using hfit) hfz h1
 simp_all [Nat.add_zero,Vf,JM,Sem.run_bind,Sem.run_pure,Result.andThen_ok,storeVar,Z2 hT]
theorem ZoU {c:Array Value}:∀ x,x < c.size → ¬ (((0,0):Nat × Nat).1 ≤ x ∧ x < ((0,0):Nat × Nat).2):=fun x _ => by simp
theorem Zi {v:Value} {x:Operand} (ho:o.op = .move x ∨ o.op = .assign x) (hv:ev e x = v):(execOp (ev e) o).run P w = .ok (.value v) w:=by
 subst hv; rcases ho with ho | ho <;> simp [execOp,ho]
theorem ZpY {T:TypeId} {x:Operand} {vs:List Value} (ho:o.op = .box T x) (hv:(ev e x).cells = vs.toArray):(execOp (ev e) o).run P w = .ok (.value (.pointer (some ⟨w.heap.size,0,none⟩))) (w.alloc (.cells vs.toArray T)) :=
 by simp [execOp,ho,Instr.box,newVar,newRow,hv]
theorem Zf1 {T:TypeId} {zs:List Value} (ho:o.op = .alloc T) (hz:zeroCells P T = some zs):(execOp (ev e) o).run P w = .ok (.value (.pointer (some ⟨w.heap.size,0,none⟩))) (w.alloc (.cells zs.toArray T)):=by
 obtain ⟨z,hz1,hz2⟩:=Wn hz w
 simp [execOp,ho,Instr.alloc,hz1,newVar,newRow,← hz2]
theorem KF {T:TypeId} {x:Operand} {b off:Nat} {vs:Array Value} {U:TypeId} {fz:Nat × Nat} {dd:TypeDesc} {cs:List Value} (ho:o.op = .load T x) (hx:ev e x = .pointer (some ⟨b,off,none⟩))
  (hb:w.heap[b]? = some (.cells vs U fz)) (hu:P.underlying T = some dd) (ha:Y7 dd = true) (hl:cs.length = P.cellsOf T) (hc:(vs.toList.drop off).take cs.length = cs):(execOp (ev e) o).run P w = .ok (.value (.agg cs.toArray)) w:=by
 have h1:=Y5 (P:=P) (w:=w) (b:=b) (off:=off) hu ha hl (fun j v hj => by
  rw [Wp hb]
  rw [← hc,List.getElem?_take] at hj
  split at hj
  ·rw [List.getElem?_drop] at hj; exact hj
  ·cases hj)
 simp [execOp,ho,hx,J0,JM,h1]
theorem KU {T:TypeId} {x:Operand} {b off:Nat} {vs:Array Value} {U:TypeId} {fz:Nat × Nat} {dd:TypeDesc} {v:Value} (ho:o.op = .load T x) (hx:ev e x = .pointer (some ⟨b,off,none⟩))
  (hb:w.heap[b]? = some (.cells vs U fz)) (hu:P.underlying T = some dd) (ha:Y7 dd = false) (hc:vs.toList[off]? = some v):(execOp (ev e) o).run P w = .ok (.value v) w:=by
 have h1:=Wq (P:=P) (w:=w) (b:=b) (off:=off) (v:=v) hu ha (by rw [Wp hb]; exact hc)
 simp [execOp,ho,hx,J0,JM,h1]
theorem ZnA {T:TypeId} {x y:Operand} {b off:Nat} {cur:Array Value} {U:TypeId} {fz:Nat × Nat} {dd:TypeDesc} {vs:List Value} (ho:o.op = .store T x y) (hx:ev e x = .pointer (some ⟨b,off,none⟩)) (hv:(ev e y).cells = vs.toArray)
  (hb:w.heap[b]? = some (.cells cur U fz)) (hfz:∀ x,x < cur.size → ¬ (fz.1 ≤ x ∧ x < fz.2)) (hT:P.underlying T = some dd) (hc:P.cellsOf T = vs.length) (h1:∀ v ∈ vs,v.oneCell' = true) (hfit:off + vs.length ≤ cur.size)
  : (execOp (ev e) o).run P w = .ok .skip (w.setRow b (cur.toList.take off ++ vs ++ cur.toList.drop (off + vs.length)).toArray):=by
 have h1:=Zg8 (P:=P) (w:=w) hT hv hc h1 hb hfz hfit
 simp only [execOp,ho,hx]; simp [h1]
theorem Xk {T:TypeId} {x:Operand} {f b off:Nat} {fs:Array Field} {fd:Field} (ho:o.op = .fieldAddr T x f) (hx:ev e x = .pointer (some ⟨b,off,none⟩))
  (hu:P.underlying T = some (.struct fs)) (hf:fs[f]? = some fd) (hz:Ja (P.cellsOf fd.type) 0 = false) {off':Nat} (ho':off' = off + fd.offset):(execOp (ev e) o).run P w = .ok (.value (.pointer (some ⟨b,off',none⟩))) w:=by
 have hz':P.cellsOf fd.type ≠ 0:=fun h => by rw [h] at hz; simp at hz
 obtain ⟨i,hi⟩:∃ i,P.info? fd.type = some i:=by
  cases h:P.info? fd.type with
  | none => simp [Program.cellsOf,h] at hz'
  | some i => exact ⟨i,rfl⟩
 have hsz:i.size ≠ 0:=by simpa [Program.cellsOf,hi] using hz'
 subst ho'
 have run:(Vc T (.pointer (some ⟨b,off,none⟩)) f).run P w = .ok (.pointer (some ⟨b,off + fd.offset,none⟩)) w:=by
  simp_all [Vc,run_underlying hu,hf,JM,fieldPlace,sizeOf,typeInfo,hi,hsz,ZU]
 simp only [execOp,ho,hx]; simp [run]
theorem WE {T e':TypeId} {t:Ty} {x y:Operand} {b off len cap:Nat} {kk:IntKind} {i:Int} (ho:o.op = .indexAddr T x y) (he:QV P T = some (e',t)) (hx:ev e x = .slice (some ⟨b,off,none⟩) len cap) (hy:ev e y = .int kk i)
  (h0:0 ≤ i) (h1:i < len) {off':Nat} (ho':off' = off + i.toNat * t.size):(execOp (ev e) o).run P w = .ok (.value (.pointer (some ⟨b,off',none⟩))) w:=by
 have run:=Xl (P:=P) he (b:=b) (off:=off) (cap:=cap) (k:=kk) h0 h1 w
 subst ho'
 simp only [execOp,ho,hx,hy]; simp [run]
theorem Zbe {T el:TypeId} {x:Operand} {A:Option Addr} {len cap:Nat} (ho:o.op = .call { callee:=.builtin .len,args := #[x],argTypes := #[T] }) (hx:ev e x = .slice A len cap) (hu:P.underlying T = some (.slice el))
  : (execOp (ev e) o).run P w = .ok (.value (.int .i64 (len:Int))) w:=by
 simp only [execOp,ho,resolve]
 simp [hx,invoke,builtin,Builtin.len_,run_underlying hu,goInt]
theorem ZpZ {T el:TypeId} {x:Operand} {A:Option Addr} {len cap:Nat} (ho:o.op = .call { callee:=.builtin .cap,args := #[x],argTypes := #[T] }) (hx:ev e x = .slice A len cap) (hu:P.underlying T = some (.slice el))
  : (execOp (ev e) o).run P w = .ok (.value (.int .i64 (cap:Int))) w:=by
 simp only [execOp,ho,resolve]
 simp [hx,invoke,builtin,Builtin.cap_,run_underlying hu,goInt]
theorem Zke {T el:TypeId} {dd:TypeDesc} {x y:Operand} {A:Option Addr} {len cap h:Nat} (ho:o.op = .slice T x none (some y) none) (hx:ev e x = .slice A len cap) (hy:ev e y = .int .i64 (h:Int)) (hh:h ≤ cap)
  (hu:P.underlying T = some (.slice el)) (hd0:P.underlying el = some dd):(execOp (ev e) o).run P w = .ok (.value (.slice A h cap)) w:=by
 have hb:(Ve true len cap none (some (.int .i64 (h:Int))) none).run P w = .ok (0,h,cap) w:=by
  have:=Xb (P:=P) (kk:=.i64) (n:=(h:Int)) (y:=cap) (code:=.sliceAcap) (by omega) (by omega) w
  simp [Ve,this]
 have run:=ZbV hu hd0 (A:=A) (n:=len) hb
 simp only [execOp,ho,Option.map_none,Option.map_some,hx,hy]
 simp only [bind_pure_comp,Sem.run_map,run,Result.andThen_ok]
 cases A with
 | none => simp
 | some a => simp [Addr.add]
theorem WV {op:BinOp} {T z:TypeId} {x y:Operand} {vx vy v:Value} (ho:o.op = .binOp op T x y z) (hx:ev e x = vx) (hy:ev e y = vy) (hpl:plain vx = true) (hp:Wr P (binOp op T vx vy) = some v)
  : (execOp (ev e) o).run P w = .ok (.value v) w:=by
 simp only [execOp,ho,hx,hy]
 simp [K6 hpl,Xm hp]
theorem Zp0 {op:UnOp} {T:TypeId} {x:Operand} {vx v:Value} (ho:o.op = .unOp op T x) (hx:ev e x = vx) (hp:Wr P (Op.unary op vx) = some v)
  : (execOp (ev e) o).run P w = .ok (.value v) w:=by
 simp only [execOp,ho,hx]
 simp [Xm hp]
theorem ZnB {S D el:TypeId} {x:Operand} {b off len cap:Nat} {vs:Array Value} {U:TypeId} {fz:Nat × Nat} {xs:List Int} (ho:o.op = .convert S D x) (hx:ev e x = .slice (some ⟨b,off,none⟩) len cap) (hs:P.underlying S = some (.slice el)) (hd':P.underlying D = some .string) (hby:Y0 P el = true)
  (hb:w.heap[b]? = some (.cells vs U fz)) (hlen:xs.length = len) (hcap:len ≤ cap) (hc:∀ i (h:i < xs.length),vs.toList[off + i]? = some (.int .u8 xs[i]))
  : (execOp (ev e) o).run P w = .ok (.value (.string (bytesOf xs))) w:=by
 have:=XL (C:=⟨P,fun _ => none,0,fun _ => []⟩) (w:=w) (lim:=fun _ => 0) (v:=.slice (some ⟨b,off,none⟩) len cap) (xs:=xs) hs hd' hby
  ⟨some ⟨b,off,none⟩,cap,by rw [hlen],by omega,.inr ⟨b,off,rfl,fun i hi => ⟨[.int .u8 xs[i]],by simp [Rt],fun j u hj => by
   cases j with
   | zero => simp at hj; subst hj; rw [Wp hb]; simpa [Ty.size] using hc i hi
   | succ j => simp at hj⟩⟩⟩
 simp only [execOp,ho,hx]
 simp [this]
theorem QQ {x:Operand} {i:Nat} {vs:List Value} {v:Value} (ho:o.op = .extract x i) (hx:ev e x = .tuple vs.toArray) (hv:vs[i]? = some v)
  : (execOp (ev e) o).run P w = .ok (.value v) w:=by
 simp only [execOp,ho,hx]
 simp [Instr.extract,hv]
theorem Zji {T:TypeId} {ps:Array (Nat × Operand)} {zs us:List Value} {fs:Array Field} (ho:o.op = .build T ps) (hz:zeroCells P T = some zs) (hu:P.underlying T = some (.struct fs)) (hfi:(fs.toList.all fun f => (P.info? f.type).isSome) = true)
  (hf:Instr.fill (fun i => (fs.toList.map fun f => (f.offset,P.cellsOf f.type))[i]?) zs.toArray (ps.toList.map fun p => (p.1,ev e p.2)) = some us.toArray)
  : (execOp (ev e) o).run P w = .ok (.value (.agg us.toArray)) w:=by
 obtain ⟨z,hz1,hz2⟩:=Wn hz w
 have hpl:=Zax (P:=P) fs.toList w (fun f hf => by
  have:=Vg.1 hfi f hf
  exact Option.isSome_iff_exists.1 this)
 have hzs:zs.toArray = z.cells:=by rw [← hz2]
 simp only [execOp,ho]
 simp_all [Instr.build,Sem.run_bind,hz1,Result.andThen_ok,run_underlying hu,bind_pure_comp,Array.mapM_eq_mapM_toList,Sem.run_map,List.getElem?_toArray,JY]
end
end Go.Sh
namespace Go.Sh
open Go
section
variable [Gl]
variable {P:Program} {n:Nat} {Q:Exit → En → World → Prop} {e:En} {w:World} {ops:Array Oper} {rest:List Oper} {o:Oper} {d:Nat}
def drw (w:World):World:={ w with drawn:=w.drawn + 1 }
theorem Keep.drw (w:World):Keep w (drw w):=⟨Jj _,fun _ _ => rfl,rfl,rfl,rfl⟩
theorem H.drw {w0 w:World} {B:List (Nat × Obj)} (h:H w0 w B):H w0 (drw w) B:=h.next (Keep.drw w)
def Lo (P:Program) (n:Nat) (Q:Exit → En → World → Prop) (o:Oper) (e:En) (w:World) (R:En → World → Prop):Prop :=
 ∀ a,X n e a → o.wp P a w (fun a' w' => ∃ e',X n e' a' ∧ (∀ s,o.dst ≠ some s → e' s = e s) ∧ R e' w') (Zef n Q)
theorem Lo.val (d:Nat) {R:En → World → Prop} {v:Value} {w':World} (hr:(execOp (ev e) o).run P w = .ok (.value v) w') (k:R (upd e d v) w') (hd:o.dst = some d:=by rfl) (hn:d < n:=by decide):Lo P n Q o e w R:=fun a ha => by
 unfold Oper.wp
 rw [ha.eval,hr,Oper.upon_value,hd]
 exact ⟨_,ha.put hn v,fun s hs => Zn e v (fun h => hs (by rw [h])),k⟩
theorem Lo.unit {R:En → World → Prop} {w':World} (hr:(execOp (ev e) o).run P w = .ok .skip w') (k:R e w') (hd:o.dst = none:=by rfl):Lo P n Q o e w R:=fun a ha => by
 unfold Oper.wp
 rw [ha.eval,hr,Oper.upon_skip,hd]
 exact ⟨_,ha,fun _ _ => rfl,k⟩
theorem Lo.call (d:Nat) {R:En → World → Prop} {f:Nat} {args:Array Value} (hr:(execOp (ev e) o).run P w = .ok (.enter f args) w) {R':Value → World → Prop} (hc:Calls P f args w fun x w' => ∃ v,x = .returned v ∧ R' v w')
  (k:∀ v w',R' v w' → R (upd e d v) w') (hd:o.dst = some d:=by rfl) (hn:d < n:=by decide):Lo P n Q o e w R:=fun a ha => by
 unfold Oper.wp
 rw [ha.eval,hr,Oper.upon_enter]
 refine hc.mono ?_
 rintro x w' ⟨v,rfl,hR⟩
 rw [hd]
 exact ⟨_,ha.put hn v,fun s hs => Zn e v (fun h => hs (by rw [h])),k v w' hR⟩
def QL (P:Program) (gs:Array Oper) (ld:List Nat) (D:Nat → Nat) (qv:Nat → Value) (Ph:Nat → En → World → Prop):Nat → List Oper → Prop
 | _,[] => True
 | i,o :: l => (ld.contains i = false → ∀ m e w,Ph m e w → (∀ j,(Z0 o).contains j = true → ld.contains j = false → e (D j) = qv j) → (∀ j,(Z0 o).contains j = true → ∀ p,ld[p]? = some j → p < m) → (∀ p j oj,ld[p]? = some j → gs[j]? = some oj → (Z0 oj).contains i = true → m ≤ p) → Q4 gs o e ∧ (execOp (ev e) o).run P w = .ok (.value (qv i)) w) ∧ QL P gs ld D qv Ph (i + 1) l
theorem QL.at {ld:List Nat} {D:Nat → Nat} {qv:Nat → Value} {Ph:Nat → En → World → Prop} {gs:Array Oper} : {l:List Oper} → {k:Nat} → QL P gs ld D qv Ph k l → ∀ {i:Nat} {o:Oper},l[i]? = some o →
  (ld.contains (k + i) = false → ∀ m e w,Ph m e w → (∀ j,(Z0 o).contains j = true → ld.contains j = false → e (D j) = qv j) → (∀ j,(Z0 o).contains j = true → ∀ p,ld[p]? = some j → p < m) → (∀ p j oj,ld[p]? = some j → gs[j]? = some oj → (Z0 oj).contains (k + i) = true → m ≤ p) → Q4 gs o e ∧ (execOp (ev e) o).run P w = .ok (.value (qv (k + i))) w)
 | [],k,_,i,o,h => by simp at h
 | o' :: l,k,hq,0,o,h => by simp at h; subst h; exact hq.1
 | o' :: l,k,hq,i + 1,o,h => by
  have:=QL.at (k:=k + 1) hq.2 (i:=i) (o:=o) (by simpa using h)
  rw [show k + (i + 1) = k + 1 + i by omega]; exact this
def LL (P:Program) (n:Nat) (Q:Exit → En → World → Prop) (l:List Oper) (ld:List Nat) (D:Nat → Nat) (qv:Nat → Value) (Ph:Nat → En → World → Prop):Nat → List Nat → Prop
 | _,[] => True
 | m,i :: is => (∀ o,l[i]? = some o → ∀ e w,Ph m e w → (∀ j,(Z0 o).contains j = true → ld.contains j = false → e (D j) = qv j) → Q4 l.toArray o e ∧ Lo P n Q o e w (Ph (m + 1))) ∧ LL P n Q l ld D qv Ph (m + 1) is
theorem LL.at {l:List Oper} {ld:List Nat} {D:Nat → Nat} {qv:Nat → Value} {Ph:Nat → En → World → Prop} : {is:List Nat} → {k:Nat} → LL P n Q l ld D qv Ph k is → ∀ {m i:Nat},is[m]? = some i →
  ∀ o,l[i]? = some o → ∀ e w,Ph (k + m) e w → (∀ j,(Z0 o).contains j = true → ld.contains j = false → e (D j) = qv j) → Q4 l.toArray o e ∧ Lo P n Q o e w (Ph (k + m + 1))
 | [],k,_,m,i,h => by simp at h
 | i' :: is,k,hl,0,i,h => by simp at h; subst h; exact hl.1
 | i' :: is,k,hl,m + 1,i,h => by
  have:=LL.at (k:=k + 1) hl.2 (m:=m) (i:=i) (by simpa using h)
  rw [show k + (m + 1) = k + 1 + m by omega]; exact this
def Zja (n:Nat) (l:List Oper) (ld:List Nat) (D:Nat → Nat):Bool :=
 (Jc l.length).all (fun i => match l[i]? with
  | some o => (Z0 o).all (fun p => Nat.blt p i) && (ld.contains i || (o.dst == some (D i) && Nat.blt (D i) n)) &&
    (Jc l.length).all (fun j => Ja i j || ld.contains j || (o.dst != some (D j)))
  | none => false) &&
 (Jc ld.length).all (fun m => match ld[m]? with
  | some i => Nat.blt i l.length && (Ja m 0 || (match ld[m - 1]?,l[i]? with | some p,some o => (Z0 o).contains p | _,_ => false))
  | none => false) && KB ld
structure MixOk (n:Nat) (l:List Oper) (ld:List Nat) (D:Nat → Nat):Prop where
 back:∀ (i:Nat) (o:Oper),l[i]? = some o → ∀ p ∈ Z0 o,p < i
 dst:∀ (i:Nat) (o:Oper),l[i]? = some o → ld.contains i = false → o.dst = some (D i) ∧ D i < n
 apart:∀ (i:Nat) (o:Oper) (j:Nat),l[i]? = some o → j < l.length → i ≠ j → ld.contains j = false → o.dst ≠ some (D j)
 chain:∀ (m i p:Nat) (o:Oper),ld[m + 1]? = some i → ld[m]? = some p → l[i]? = some o → p ∈ Z0 o
 inl:∀ i ∈ ld,i < l.length
 nd:ld.Nodup
theorem ZdC {l:List Oper} {ld:List Nat} {D:Nat → Nat} (h:Zja n l ld D = true):MixOk n l ld D:=by
 unfold Zja at h
 simp only [Jh,Vg,VI] at h
 obtain ⟨⟨h1,h2⟩,h3⟩:=h
 have lt:∀ {i:Nat} {o:Oper},l[i]? = some o → i < l.length:=fun h => (Uq.1 h).1
 have k1:∀ i o,l[i]? = some o → _:=fun i o ho => by have:=h1 i (lt ho); simp only [ho,Jh] at this; exact this
 refine ⟨fun i o ho p hp => ?_,fun i o ho hi => ?_,fun i o j ho hj hij hc => ?_,fun m i p o hi hp ho => ?_,fun i hi => ?_,XW h3⟩
 ·have:=(k1 i o ho).1.1
  have:=Vg.1 this p hp
  simpa using this
 ·have:=(k1 i o ho).1.2
  rw [hi] at this
  simpa using this
 ·have:=(k1 i o ho).2
  have:=Vg.1 this j (VI.2 hj)
  rw [hc] at this
  simp only [Bool.or_false,V7] at this
  rcases this with h | h
  ·exact absurd (ZC h) hij
  ·simpa using h
 ·have hm:m + 1 < ld.length:=(Uq.1 hi).1
  have:=h2 (m + 1) hm
  simp only [hi,Jh,V7] at this
  rcases this.2 with h | h
  ·have:=ZC h; omega
  ·simp only [Nat.add_sub_cancel,hp,ho] at h
   simpa using h
 ·obtain ⟨m,hm,hmi⟩:=UH.1 hi
  have:=h2 m hm
  simp only [VP hm,Jh] at this
  have:=this.1
  rw [hmi] at this
  simpa using this
theorem T.mixed {id:Nat} {l:List Oper} (ld:List Nat) (D:Nat → Nat) (qv:Nat → Value) (Ph:Nat → En → World → Prop) (hm:P.follows .mixedOrders = true) (chk:Zja n l ld D = true)
  (h0:Ph 0 e (drw w)) (hs:∀ m e w i v,i < l.length → ld.contains i = false → Ph m e w → Ph m (upd e (D i) v) w)
  (hq:QL P l.toArray ld D qv Ph 0 l) (hl:LL P n Q l ld D qv Ph 0 ld)
  (hQ:∀ e w,Ph ld.length e w → (∀ i,i < l.length → ld.contains i = false → e (D i) = qv i) → Q .normal e w):T P n (.region id l.toArray true) Q e w:=by
 have K:=ZdC chk
 intro a ha
 refine wp_region_any hm ?_
 let I:Array Bool → Act → World → Prop:=fun listed a w => listed.size = l.length ∧ ∃ e m,X n e a ∧ m ≤ ld.length ∧ Ph m e w ∧ (∀ p i,ld[p]? = some i → (listed.getD i true = true ↔ p < m)) ∧ (∀ j oj,l[j]? = some oj → listed.getD j true = true → ∀ p ∈ Z0 oj,listed.getD p true = true) ∧
  ∀ i,i < l.length → ld.contains i = false → listed.getD i true = true → e (D i) = qv i
 have fin:∀ listed a w,I listed a w → (∀ i,i < l.length → listed.getD i true = true) → Zef n Q .normal a w:=by
  rintro listed a w ⟨hsz,e,m,hx,hm,hP,hld,hdn,hv⟩ hall
  have em:m = ld.length:=by
   rcases VO m ld.length with h | h
   ·have:=(hld m ld[m] (VP h)).1 (hall _ (K.inl _ (List.getElem_mem h)))
    omega
   ·omega
  subst em
  exact ⟨e,hx,hQ e w hP fun i hi hc => hv i hi hc (hall i hi)⟩
 have main:∀ fuel listed a w,I listed a w → (left l.length listed).length ≤ fuel → wpAny P .any l.toArray (Zef n Q) fuel listed a w:=by
  intro fuel
  induction fuel with
  | zero =>
   intro listed a w hI hf
   have hl0:left l.length listed = []:=List.eq_nil_of_length_eq_zero (by omega)
   have hall:∀ i,i < l.length → listed.getD i true = true:=by
    intro i hi
    have:i ∉ left l.length listed:=by rw [hl0]; simp
    simpa [left,hi] using this
   refine ⟨?_,fin listed a w hI hall⟩
   cases hr:Region.ready .any l.toArray listed with
   | nil => rfl
   | cons i r =>
    obtain ⟨o,ho,hli,_⟩:=Xy (i:=i) (by rw [hr]; exact Jm ..)
    have hi:i < l.length:=by
     have:=(UG.1 ho).1; simpa using this
    rw [hall i hi] at hli; cases hli
  | succ fuel ih =>
   intro listed a w hI hf
   refine ⟨fun hr => fin listed a w hI ?_,?_⟩
   ·intro i
    induction i using Nat.strongRecOn with
    | _ i ihi =>
     intro hi
     cases hli:listed.getD i true with
     | true => rfl
     | false =>
      have ho:l.toArray[i]? = some l[i]:=by simp [hi]
      have:=ZdR (listed:=listed) ho hli (fun p hp => by
       have hpi:=K.back i l[i] (by simp [hi]) p hp
       have:=ihi p hpi (by omega)
       rw [VM] at this ⊢
       have hsz:=hI.1
       rw [UF (by omega)] at this ⊢
       exact this)
      rw [hr] at this; cases this
   ·intro i hi
    obtain ⟨o,ho,hli,hpr⟩:=Xy hi
    have ho':l[i]? = some o:=by simpa using ho
    have hil:i < l.length:=(Uq.1 ho').1
    obtain ⟨hsz,e,m,hx,hm,hP,hld,hdn,hv⟩:=hI
    have hT:∀ p ∈ Z0 o,listed.getD p true = true:=fun p hp => by
     have hpi:=K.back i o ho' p hp
     have:=hpr p hp
     rw [VM] at this ⊢
     rw [UF (by omega)] at this ⊢
     exact this
    have hpq:∀ j,(Z0 o).contains j = true → ld.contains j = false → e (D j) = qv j:=fun j hj hc => hv j (Nat.lt_trans (K.back i o ho' j (by simpa using hj)) hil) hc (hT j (by simpa using hj))
    have hlen:(left l.length (listed.setIfInBounds i true)).length ≤ fuel:=by
     obtain ⟨pre,post,e1,e2,_⟩:=Zao hil hli
     rw [e1] at hf; rw [e2]; simp at hf ⊢; omega
    have hdn':∀ j oj,l[j]? = some oj → (listed.setIfInBounds i true).getD j true = true → ∀ p ∈ Z0 oj,(listed.setIfInBounds i true).getD p true = true:=fun j oj hj hlj p hp => by
     rw [QN hli] at hlj ⊢
     by_cases hip:i = p
     ·simp [hip]
     ·simp only [hip,if_false]
      by_cases hij:i = j
      ·subst hij; rw [ho'] at hj; cases hj; exact hT p hp
      ·simp only [hij,if_false] at hlj; exact hdn j oj hj hlj p hp
    unfold wpOp
    simp only [ho]
    cases hc:ld.contains i with
    | false =>
     obtain ⟨hd,hn⟩:=K.dst i o ho' hc
     have hrun:=QL.at hq ho' (by rw [Uc]; exact hc) m e w hP hpq (fun j hj p hp => (hld p j hp).1 (hT j (by simpa using hj))) (fun p j oj hp hj hc => by
      rcases VO p m with h | h
      ·have:=hdn j oj (by simpa using hj) ((hld p j hp).2 h) i (by simpa using hc)
       rw [this] at hli; cases hli
      ·exact h)
     rw [Uc] at hrun
     obtain ⟨hgu,hrun⟩:=hrun
     rw [if_pos (hgu.wanted hx)]
     refine .inl ?_
     unfold Oper.wp
     rw [hx.eval,hrun,Oper.upon_value,hd]
     refine ih _ _ _ ⟨by simp [hsz],upd e (D i) (qv i),m,hx.put hn _,hm,hs m e w i _ hil hc hP,fun p j hp => ?_,hdn',fun j hj hcj hlj => ?_⟩ hlen
     ·rw [QN hli]
      have:i ≠ j:=by
       intro h; subst h
       have:=Vx hp
       simp at hc; exact hc this
      simp only [this,if_false]
      exact hld p j hp
     ·by_cases hij:i = j
      ·subst hij; exact ZY ..
      ·rw [QN hli] at hlj
       simp only [hij,if_false] at hlj
       rw [Zn _ _ (fun h => K.apart i o j ho' hj hij hcj (by rw [hd,h]))]
       exact hv j hj hcj hlj
    | true =>
     have hmem:i ∈ ld:=by simpa using hc
     obtain ⟨q,hq1,hq2⟩:=UH.1 hmem
     have hqi:ld[q]? = some i:=by rw [VP hq1,hq2]
     have hqm:q = m:=by
      have h1:¬ q < m:=fun h => by rw [(hld q i hqi).2 h] at hli; cases hli
      cases q with
      | zero => omega
      | succ q =>
       have hp:ld[q]? = some ld[q]:=VP (by omega)
       have:=(hld q _ hp).1 (hT _ (K.chain q i _ o hqi hp ho'))
       omega
     subst hqm
     have hLo:=LL.at hl hqi o ho' e w (by rw [Uc]; exact hP) hpq
     rw [Uc] at hLo
     obtain ⟨hgu,hLo⟩:=hLo
     rw [if_pos (hgu.wanted hx)]
     refine .inl ?_
     refine Oper.wp_mono ?_ (hLo a hx)
     rintro a' w' ⟨e',hx',hsame,hP'⟩
     refine ih _ _ _ ⟨by simp [hsz],e',q + 1,hx',by omega,hP',fun p j hp => ?_,hdn',fun j hj hcj hlj => ?_⟩ hlen
     ·rw [QN hli]
      by_cases hij:i = j
      ·subst hij
       simp only [if_true,true_iff]
       have:p = q:=by
        exact ((List.getElem?_inj hq1 K.nd).1 (by rw [hqi,hp])).symm
       omega
      ·simp only [hij,if_false]
       rw [hld p j hp]
       have:p ≠ q:=fun h => by subst h; rw [hqi] at hp; cases hp; exact hij rfl
       omega
     ·have hij:i ≠ j:=fun h => by subst h; rw [hc] at hcj; cases hcj
      rw [QN hli] at hlj
      simp only [hij,if_false] at hlj
      rw [hsame _ (K.apart i o j ho' hj hij hcj)]
      exact hv j hj hcj hlj
 refine main _ _ _ _ ⟨by simp,e,0,ha,Nat.zero_le _,h0,fun p i hp => ?_,fun j oj hj hlj => ?_,fun i hi hc hli => ?_⟩ ?_
 ·have:=K.inl i (Vx hp)
  simp [VM,this]
 ·have hj':=(Uq.1 hj).1
  simp [VM,hj'] at hlj
 ·simp [VM,hi] at hli
 ·simp only [left,List.size_toArray]
  exact VJ (List.length_filter_le _ _) (by simp)
end
end Go.Sh
namespace Go.Sh
open Go
section
variable [Gl]
variable {P:Program} {n:Nat} {Q:Exit → En → World → Prop} {e:En} {w:World} {ops:Array Oper} {rest:List Oper} {o:Oper} {d:Nat}
theorem ZoZ {T ee:TypeId} {t:Ty} {x y:Operand} {N:Nat} {zs:List Value} (ho:o.op = .makeSlice T x y) (hx:ev e x = .int .i64 0) (hy:ev e y = .int .i64 (N:Int)) (he:QV P T = some (ee,t))
  (hz:zeroCells P ee = some zs) (hzl:zs.length = t.size) (hpos:1 ≤ t.size) (hby:P.bytesOf ee ≤ 65536) (hN:N < 4294967296) :
  (execOp (ev e) o).run P w = .ok (.value (.slice (some ⟨w.heap.size,0,none⟩) 0 N)) (w.alloc (.cells (Jd N zs).flatten.toArray ee)):=by
 obtain ⟨i,hi,his,hib⟩:=Xx he
 obtain ⟨hu,ht,hs⟩:=Qc he
 obtain ⟨zv,hz1,hz2⟩:=Wn hz w
 have hcells:(JX (N * t.size)).map (fun x => zv.cells[x % zv.cells.size]!) = (Jd N zs).flatten.toArray:=by
  apply Array.ext'
  have hsz:zv.cells.size = zs.length:=by rw [← hz2]; simp
  have:=Zcx zs (by omega) N
  rw [← this,hzl]
  simp only [JY,Array.toList_range,hsz,hzl]
  rw [← hz2]
 have hmul:(i.bytes:Int) * (N:Int) ≤ 281474976710656:=by
  rw [← hib]
  have h3:P.bytesOf ee * N ≤ 65536 * 4294967295:=Nat.mul_le_mul hby (by omega)
  omega
 have w1:Jy.wrap (0:Int) = 0:=Qu (by omega) (by omega)
 have w2:Jy.wrap (N:Int) = N:=Qu (by omega) (by omega)
 have hc0:¬ ((N:Int) < 0):=by omega
 have hl0:¬ ((0:Int) < 0):=by omega
 have hbig:¬ (281474976710656 < (i.bytes:Int) * (N:Int)):=by omega
 simp only [execOp,ho,hx,hy,bind_pure_comp,Sem.run_map]
 simp only [Instr.makeSlice,Sem.run_bind,run_underlying hu,Result.andThen_ok,asInt,asIntOf,Sem.run_pure,typeInfo,run_program,hi,w1,w2]
 simp only [Int.reducePow,decide_eq_true_eq,V7,hc0,hl0,hbig,gt_iff_lt,or_self,decide_false,Bool.false_eq_true,if_false,Sem.run_bind,run_askRoom,Result.andThen_ok,sizeOf,typeInfo,run_program,hi,Sem.run_pure,Int.toNat_natCast,his,Sem.run_ite,hz1,hcells]
 by_cases hN0:N * t.size = 0
 ·have hr0:∀ f:Nat → Value,Array.map f (JX 0) = #[]:=fun f => by simp
  have hN1:N = 0:=by
   rcases Nat.mul_eq_zero.1 hN0 with h | h
   ·exact h
   ·omega
  subst hN1
  have hr1:JX 0 = #[]:=rfl
  simp [newRow,hr1]
 ·simp [hN0,newRow]
theorem ZmB {T U ee eU:TypeId} {t:Ty} {x y:Operand} {w1:World} {lim:Nat → Nat} {ys:List t.den} {css:List (List Value)} {A:Option Addr} {cap:Nat}
  (ho:o.op = .call { callee:=.builtin .append,args := #[x,y],argTypes := #[T,U] }) (he:QV P T = some (ee,t)) (hU:P.underlying U = some (.slice eU))
  {b off sLen sCap:Nat} {cur:Array Value} {V:TypeId} (hx:ev e x = .slice (some ⟨b,off,none⟩) sLen sCap) (hb:w.heap[b]? = some (.cells cur V (0,0)))
  (hy:ev e y = .slice A ys.length cap) (h3:Zv (Rt w1 lim t) ys css)
  (h4:ys = [] ∨ ∃ b off,A = some ⟨b,off,none⟩ ∧ ∀ j u,css.flatten[j]? = some u → w.cell? ⟨b,off + j,none⟩ = some u) (hroom:sLen + ys.length ≤ sCap) (hfit:off + sCap * t.size ≤ cur.size) :
  (execOp (ev e) o).run P w = .ok (.value (.slice (some ⟨b,off,none⟩) (sLen + ys.length) sCap)) (w.setRow b (cur.toList.take (off + sLen * t.size) ++ css.flatten ++ cur.toList.drop (off + sLen * t.size + css.flatten.length)).toArray):=by
 obtain ⟨i,hi,his,hib⟩:=Xx he
 obtain ⟨hu,ht,hs⟩:=Qc he
 have hfl:=ZN h3
 have hfc:(Ji i.size ys.length (.slice A ys.length cap)).run P w = .ok css.flatten.toArray w:=by
  rw [his]
  rcases h4 with h4 | ⟨b,off,rfl,h4⟩
  ·subst h4
   have:css = []:=by match css,h3 with | [],_ => rfl
   subst this
   cases A with
   | none => simp [Ji]
   | some a => simp [Ji,loadCells,loadCellsFrom]
  ·exact run_firstCells_some w t.size ys.length _ _ _ css.flatten hfl (fun j u hj => by rw [ZU]; exact h4 j u hj)
 have hm:(sLen + ys.length) * t.size ≤ sCap * t.size:=Nat.mul_le_mul_right _ hroom
 rw [Nat.add_mul] at hm
 have hl2:off + sLen * i.size + css.flatten.length ≤ cur.size:=by rw [his,hfl]; omega
 have:=Zgl (w:=w) (ty:=o.type) (b:=b) (off:=off) (sLen:=sLen) (sCap:=sCap) (cur:=cur) hu hU (.inr ⟨eU,rfl⟩) hi (x:=.slice A ys.length cap) (n:=ys.length) (news:=css.flatten) (by simp [Builtin.lenOf]) hfc hb (fun o _ => by simp) hroom
  hl2 (Yn h3)
 rw [his] at this
 simp only [execOp,ho,resolve]
 simp only [bind_pure_comp,Sem.run_map,invoke,builtin,Sem.run_bind,Sem.run_pure,Result.andThen_ok,List.map_toArray,JS,List.map_nil,hx,hy]
 exact congrArg (fun r => r.andThen fun a w' => Result.ok (Next.value a) w') this
def ZkC (vs:List Value):En:=fun s => vs.toArray.getD s undef
theorem X.args (vs:List Value) (hn:vs.length ≤ n):X n (ZkC vs) { tmps:=vs.toArray ++ Array.replicate (n - vs.toArray.size) undef,defers:=[] } where
 sz:=by simp; omega
 df:=rfl
 eq:=by
  funext s
  simp only [slots,ZkC,VM,Array.getElem?_append,Array.getElem?_replicate]
  split
  ·rfl
  ·rename_i h
   rw [VX (by simpa using h)]
   split <;> rfl
theorem ZjJ {f:Nat} {fn:Func} {code:Code} {t:Nat} {vs:List Value} {R:Value → World → Prop} (hf:P.funcs[f]? = some fn) (hb:fn.body = some code) (hr:fn.results = #[.tmp t]) (hn:vs.length ≤ fn.ntmps)
  (h:T P fn.ntmps code (fun x e w' => (x = .normal ∨ x = .ret) ∧ R (e t) w') (ZkC vs) w):Calls P f vs.toArray w fun x w' => ∃ v,x = .returned v ∧ R v w':=by
 refine calls_of_wp hf hb (wp_mono (h _ (X.args vs hn)) ?_)
 rintro x a w' ⟨e,hx,hc,hR⟩
 have h1:(results fn a.tmps).run P w' = .ok (e t) w':=by rw [← hx.eq]; exact results_tmp hr _ _ _
 rcases hc with rfl | rfl
 ·exact ⟨hx.df,_,h1,_,rfl,hR⟩
 ·exact ⟨hx.df,_,h1,_,rfl,hR⟩
end
end Go.Sh
namespace Go.Sh
open Go
section
variable [Gl]
variable {P:Program} {n:Nat} {Q:Exit → En → World → Prop} {e:En} {w:World} {ops:Array Oper} {rest:List Oper} {o:Oper} {d:Nat}
theorem Yc {b off:Nat} {v:Value} (h:w.cell? ⟨b,off,none⟩ = some v):∃ vs T fz,w.heap[b]? = some (.cells vs T fz) ∧ vs[off]? = some v:=by
 unfold World.cell? at h
 split at h
 ·rename_i vs T fz hb; exact ⟨vs,T,fz,hb,h⟩
 ·cases h
theorem Zjj {T:TypeId} {x:Operand} {b off:Nat} {dd:TypeDesc} {v:Value} (ho:o.op = .load T x) (hx:ev e x = .pointer (some ⟨b,off,none⟩))
  (hc:w.cell? ⟨b,off,none⟩ = some v) (hu:P.underlying T = some dd) (ha:Y7 dd = false):(execOp (ev e) o).run P w = .ok (.value v) w:=by
 have h1:=Wq (P:=P) (w:=w) (b:=b) (off:=off) (v:=v) hu ha hc
 simp [execOp,ho,hx,J0,JM,h1]
theorem ZdP {T:TypeId} {x y:Operand} {b off:Nat} {cur:Array Value} {U:TypeId} {fz:Nat × Nat} {dd:TypeDesc} {v:Value} (ho:o.op = .store T x y) (hx:ev e x = .pointer (some ⟨b,off,none⟩)) (hy:ev e y = v) (hv:v.oneCell' = true)
  (hb:w.heap[b]? = some (.cells cur U fz)) (hoff:off < cur.size) (hf:w.frozen? ⟨b,off,none⟩ = false) (hT:P.underlying T = some dd) (hc:P.cellsOf T = 1) :
  (execOp (ev e) o).run P w = .ok .skip (w.setRow b (cur.setIfInBounds off v)):=by
 have hcell:w.cell? ⟨b,off,none⟩ = some cur[off]:=by simp [World.cell?,hb,hoff]
 have hcs:v.cells = #[v]:=KN hv
 have hst:(store ((⟨b,off,none⟩:Addr).add 0) v).run P w = .ok () (w.setRow b (cur.setIfInBounds off v)):=by
  rw [ZU,Nat.add_zero,run_store P w _ v _ hv,hcell]
  simp [hf,setCell_eq_setRow w b off cur U fz v hb]
 have hsc:(storeCells ⟨b,off,none⟩ [v] 0).run P w = .ok () (w.setRow b (cur.setIfInBounds off v)):=by
  simp only [storeCells,Sem.run_bind,hst,Result.andThen_ok,Sem.run_pure]
 have hsa:(Vf T (.pointer (some ⟨b,off,none⟩)) v).run P w = .ok () (w.setRow b (cur.setIfInBounds off v)):=by
  simp_all [Vf,JM,Sem.run_bind,Sem.run_pure,Result.andThen_ok,storeVar,Z2 hT]
 simp only [execOp,ho,hx,hy]; simp [hsa]
theorem YQ {c a b:Operand} {g:Bool} {v:Value} (ho:o.op = .pick c a b) (hc:ev e c = .bool g) (hv:(if g then ev e a else ev e b) = v):(execOp (ev e) o).run P w = .ok (.value v) w:=by
 simp only [execOp,ho,hc]
 cases g <;> simp_all [asBool]
theorem ZmD {S D el:TypeId} {x:Operand} {v:Value} {lim:Nat → Nat} {xs:List Int} (ho:o.op = .convert S D x) (hx:ev e x = v) (hs:P.underlying S = some (.slice el)) (hd':P.underlying D = some .string) (hby:Y0 P el = true)
  (hr:Rt w lim (.sl (.int .u8)) xs [v]):(execOp (ev e) o).run P w = .ok (.value (.string (bytesOf xs))) w:=by
 have:=XL (C:=⟨P,fun _ => none,0,fun _ => []⟩) (w:=w) (lim:=lim) hs hd' hby (KW hr)
 simp only [execOp,ho,hx]
 simp [this]
structure Loose (w1 w2 w:World):Prop where
 keep:Keep w1 w
 size:w2.heap.size ≤ w.heap.size
 int:∀ b o k m,w2.cell? ⟨b,o,none⟩ = some (.int k m) → ∃ m',w.cell? ⟨b,o,none⟩ = some (.int k m')
 str:∀ b o s,w2.cell? ⟨b,o,none⟩ = some (.string s) → ∃ s',w.cell? ⟨b,o,none⟩ = some (.string s')
 sl:∀ b o A l c,w2.cell? ⟨b,o,none⟩ = some (.slice A l c) → w.cell? ⟨b,o,none⟩ = some (.slice A l c)
 frz:∀ b o,b < w2.heap.size → w.frozen? ⟨b,o,none⟩ = w2.frozen? ⟨b,o,none⟩
theorem Loose.start {w1 w2:World} (h:Keep w1 w2):Loose w1 w2 w2:=⟨h,Jj _,fun b o k m h => ⟨m,h⟩,fun b o s h => ⟨s,h⟩,fun _ _ _ _ _ h => h,fun _ _ _ => rfl⟩
theorem WA {w w':World} (k:Keep w w') {b o:Nat} {v:Value} (h:w.cell? ⟨b,o,none⟩ = some v):w'.cell? ⟨b,o,none⟩ = some v:=by
 obtain ⟨vs,T,fz,h1,h2⟩:=Yc h
 simp [World.cell?,k.old b (ZJ h1),h1,h2]
theorem Loose.next {w1 w2 w w':World} (h:Loose w1 w2 w) (k:Keep w w'):Loose w1 w2 w' where
 keep:=h.keep.trans k
 size:=VJ h.size k.size
 int b o kk m hc:=let ⟨m',h'⟩:=h.int b o kk m hc; ⟨m',WA k h'⟩
 str b o s hc:=let ⟨m',h'⟩:=h.str b o s hc; ⟨m',WA k h'⟩
 sl b o A l c hc:=WA k (h.sl b o A l c hc)
 frz b o hb:=(Qm (k.old b (V1 hb h.size)) o).trans (h.frz b o hb)
theorem Loose.set {w1 w2 w:World} (h:Loose w1 w2 w) {b off:Nat} {cur:Array Value} {U:TypeId} {fz:Nat × Nat} (hb:w.heap[b]? = some (.cells cur U fz)) (hb1:w1.heap.size ≤ b) {x:Value}
  (hx:(∃ k m m',cur[off]? = some (.int k m) ∧ x = .int k m') ∨ (∃ s s',cur[off]? = some (.string s) ∧ x = .string s')):Loose w1 w2 (w.setRow b (cur.setIfInBounds off x)):=by
 have hoff:off < cur.size:=by
  rcases hx with ⟨k,m,m',h,_⟩ | ⟨s,s',h,_⟩ <;> exact (UG.1 h).1
 have hrow:=setRow_heap w b cur (cur.setIfInBounds off x) U fz hb
 have hoth:∀ c,c ≠ b → (w.setRow b (cur.setIfInBounds off x)).heap[c]? = w.heap[c]? := fun c hc => setRow_other w b c _ hc
 have hcell:∀ c p,¬ (c = b ∧ p = off) → (w.setRow b (cur.setIfInBounds off x)).cell? ⟨c,p,none⟩ = w.cell? ⟨c,p,none⟩:=fun c p hcp => by
  by_cases e:c = b
  ·subst e
   have:¬ off = p:=fun h => hcp ⟨rfl,h.symm⟩
   simp [World.cell?,hrow,hb,UE,this]
  ·simp [World.cell?,hoth c e]
 have hat:(w.setRow b (cur.setIfInBounds off x)).cell? ⟨b,off,none⟩ = some x:=by simp [World.cell?,hrow,hoff]
 have hold:w.cell? ⟨b,off,none⟩ = cur[off]? := by simp [World.cell?,hb]
 refine ⟨⟨by simp [World.setRow]; exact h.keep.size,fun c hc => by rw [hoth c (by omega)]; exact h.keep.old c hc,by simp [World.setRow]; exact h.keep.same⟩,by simp [World.setRow]; exact h.size,fun c p k m hc => ?_,fun c p s hc => ?_,fun c p A l cc hc => ?_,fun c p hc => ?_⟩
 ·obtain ⟨m1,h1⟩:=h.int c p k m hc
  by_cases e:c = b ∧ p = off
  ·obtain ⟨rfl,rfl⟩:=e
   rw [hold] at h1
   rcases hx with ⟨k',m2,m3,h2,rfl⟩ | ⟨s,s',h2,rfl⟩
   ·rw [h2] at h1; cases h1; exact ⟨_,hat⟩
   ·rw [h2] at h1; cases h1
  ·exact ⟨m1,(hcell c p e).trans h1⟩
 ·obtain ⟨m1,h1⟩:=h.str c p s hc
  by_cases e:c = b ∧ p = off
  ·obtain ⟨rfl,rfl⟩:=e
   rw [hold] at h1
   rcases hx with ⟨k',m2,m3,h2,rfl⟩ | ⟨s1,s',h2,rfl⟩
   ·rw [h2] at h1; cases h1
   ·exact ⟨_,hat⟩
  ·exact ⟨m1,(hcell c p e).trans h1⟩
 ·have h1:=h.sl c p A l cc hc
  by_cases e:c = b ∧ p = off
  ·obtain ⟨rfl,rfl⟩:=e
   rw [hold] at h1
   rcases hx with ⟨k',m2,m3,h2,rfl⟩ | ⟨s1,s',h2,rfl⟩ <;> (rw [h2] at h1; cases h1)
  ·exact (hcell c p e).trans h1
 ·rw [← h.frz c p hc]
  by_cases e:c = b
  ·subst e; obtain ⟨lo,hi⟩:=fz; simp only [World.frozen?,hrow,hb]
  ·exact Qm (hoth c e) p
theorem Loose.other {w1 w2 w:World} (h:Loose w1 w2 w) {b:Nat} {c:Nat} {cs:Array Value} (hbc:c ≠ b):(w.setRow b cs).heap[c]? = w.heap[c]? := setRow_other w b c _ hbc
def At (Fe:List (Nat × Value)) (e:En):Prop := ∀ p ∈ Fe,e p.1 = p.2
theorem At.same {Fe:List (Nat × Value)} {e e':En} (h:At Fe e) {m:Nat} (hm:∀ p ∈ Fe,p.1 < m) (hs:∀ s,s < m → e' s = e s):At Fe e':=fun p hp => (hs _ (hm p hp)).trans (h p hp)
def iv:Value → Nat
 | .int _ n => n.toNat
 | _ => 0
def cl:Code → Code
 | .seq a _ => a
 | c => c
def cr:Code → Code
 | .seq _ b => b
 | c => c
def cb:Code → Code
 | .block _ c => c
 | .loop c => c
 | c => c
theorem YD {k:Nat} (h:k < 9223372036854775807):Jy.wrap ((k:Int) + 1) = ((k + 1:Nat):Int):=by simp [IntKind.wrap,IntKind.bits,IntKind.signed]; omega
end
end Go.Sh
namespace Go.Sh
open Go
section
variable [Gl]
variable {P:Program} {n:Nat} {e:En} {w:World} {o:Oper}
theorem Zar {T:TypeId} {x y:Operand} {b:Nat} {cur:Array Value} {U:TypeId} {fz:Nat × Nat} {dd:TypeDesc} {vs:List Value} (ho:o.op = .store T x y) (hx:ev e x = .pointer (some ⟨b,0,none⟩)) (hv:(ev e y).cells = vs.toArray)
  (hb:w.heap[b]? = some (.cells cur U fz)) (hfz:∀ x,x < cur.size → ¬ (fz.1 ≤ x ∧ x < fz.2)) (hT:P.underlying T = some dd) (hc:P.cellsOf T = vs.length) (h1:∀ v ∈ vs,v.oneCell' = true) (hfit:vs.length = cur.size) :
  (execOp (ev e) o).run P w = .ok .skip (w.setRow b vs.toArray):=by
 have:=ZnA (P:=P) ho hx hv hb hfz hT hc h1 (by omega)
 rw [this]
 congr 2
 simp [hfit]
theorem Keep.drew (w:World):Keep w w.drew:=⟨Jj _,fun _ _ => rfl,rfl,rfl,rfl⟩
end
end Go.Sh
