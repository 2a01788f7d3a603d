/-
  What the row needs, part 6.
-/
import Derived.Test.YtfljgkbgnfbhlaaXLeafKeeps5
import Derived.Tactics
import Derived.Shelf.Strings.Builder1
set_option linter.unusedSimpArgs false
set_option linter.unusedVariables false
set_option linter.unusedSectionVars false
open Array renaming getD_eq_getD_getElem?→VL,getElem?_eq_none→VW,range→JW,getElem?_modify→UD,toList_map→JX,getElem?_eq_getElem→UG,getElem?_setIfInBounds→UH
open Bool renaming and_eq_true→Jh,or_eq_true→V6
open Go.Builtin renaming firstCells→Ji,unsafeString_→UE,unsafeSliceData_→UI
open Go.Instr renaming sureAddr→JL,fieldAt→Vb,loadAt→JZ,sliceBounds→Vd,storeAt→Ve
open Go.IntKind renaming i64→Jx
open List renaming mem_cons→VM,all_eq_true→Vf,getElem?_eq_some_iff→Up,map_cons→JR,nodup_cons→J3,getElem?_eq_getElem→VO,mem_cons_of_mem→Jn,mem_cons_self→Jm,mem_map→VG,range→Jc,getElem?_drop→Jo,getElem?_take→Jy,getElem_mem→UJ,mem_iff_getElem→UK,mem_of_getElem?→Vw,mem_range→VH,replicate→Jd
open Nat renaming le_refl→Jj,zero_add→Ub,beq→Ja,lt_or_ge→VN,le_trans→VI
open Option renaming map_some→VD
open UInt8 renaming ofNat→UF
namespace Go.Sh
open Go
abbrev En:=Nat → Value
def slots (a:Act):En:=fun s => a.tmps.getD s undef
structure X (n:Nat) (e:En) (a:Act):Prop where
 sz:a.tmps.size = n
 df:a.defers = []
 eq:slots a = e
def upd (e:En) (d:Nat) (v:Value):En:=fun s => bif Ja s d then v else e s
def ev (e:En):Operand → Value
 | .tmp t => e t
 | .const v => v
 | .global g => .pointer (some ⟨g,0,none⟩)
 | .func f => .func (.func f) #[] #[]
theorem X.eval {n:Nat} {e:En} {a:Act} (h:X n e a):a.eval = ev e:=by
 funext x; cases x <;> simp [Act.eval,ev,← h.eq,slots]
theorem X.put {n:Nat} {e:En} {a:Act} (h:X n e a) {d:Nat} (hd:d < n) (v:Value):X n (upd e d v) (a.put (some d) v) where
 sz:=by simp [Act.put,h.sz]
 df:=by simp [Act.put,h.df]
 eq:=by
  funext s
  have hz:=h.sz
  by_cases hs:s = d
  ·subst hs; simp [slots,upd,Act.put,VL,UH,hz,hd]
  ·have:¬ d = s:=fun h => hs h.symm
   simp [slots,upd,Act.put,VL,UH,this,Zf hs,← h.eq]
theorem QY (e:En) (d:Nat) (v:Value):upd e d v d = v:=by simp [upd]
theorem Zm (e:En) {d s:Nat} (v:Value) (h:s ≠ d):upd e d v s = e s:=by simp [upd,Zf h]
section
variable {P:Program} {n:Nat} {Q:Exit → En → World → Prop} {e:En} {w:World}
def Zfh (n:Nat) (Q:Exit → En → World → Prop):Exit → Act → World → Prop:=fun x a w => ∃ e,X n e a ∧ Q x e w
def T (P:Program) (n:Nat) (c:Code) (Q:Exit → En → World → Prop) (e:En) (w:World):Prop := ∀ a,X n e a → c.wp P (Zfh n Q) a w
def nx (R:En → World → Prop) (Q:Exit → En → World → Prop):Exit → En → World → Prop:=fun x e w => match x with
 | .normal => R e w
 | x => Q x e w
def bk (id:Nat) (Q:Exit → En → World → Prop):Exit → En → World → Prop:=fun x e w => match x with
 | .exit j => if j = id then Q .normal e w else Q (.exit j) e w
 | x => Q x e w
theorem T.mono {c:Code} {Q':Exit → En → World → Prop} (h:T P n c Q' e w) (hq:∀ x e w,Q' x e w → Q x e w):T P n c Q e w :=
 fun a ha => wp_mono (h a ha) fun x a w ⟨e,hx,q⟩ => ⟨e,hx,hq _ _ _ q⟩
theorem T.seq {x y:Code} (h:T P n x (nx (T P n y Q) Q) e w):T P n (.seq x y) Q e w:=fun a ha => wp_seq (wp_mono (h a ha) (by
 rintro ex a' w' ⟨e',hx,hq⟩
 cases ex with
 | normal => exact hq a' hx
 | _ => exact ⟨e',hx,hq⟩))
theorem T.skip (h:Q .normal e w):T P n .skip Q e w:=fun a ha => wp_skip ⟨e,ha,h⟩
theorem T.ret (h:Q .ret e w):T P n .ret Q e w:=fun a ha => wp_ret ⟨e,ha,h⟩
theorem T.exit {i:Nat} (h:Q (.exit i) e w):T P n (.exit i) Q e w:=fun a ha => wp_exit ⟨e,ha,h⟩
theorem T.condT {c:Operand} {x y:Code} (hc:ev e c = .bool true) (h:T P n x Q e w):T P n (.cond c x y) Q e w:=fun a ha => wp_cond_true (by rw [ha.eval]; exact hc) (h a ha)
theorem T.condF {c:Operand} {x y:Code} (hc:ev e c = .bool false) (h:T P n y Q e w):T P n (.cond c x y) Q e w:=fun a ha => wp_cond_false (by rw [ha.eval]; exact hc) (h a ha)
theorem T.block {id:Nat} {c:Code} (h:T P n c (bk id Q) e w):T P n (.block id c) Q e w:=fun a ha => wp_block (wp_mono (h a ha) (by
 rintro ex a' w' ⟨e',hx,hq⟩
 cases ex with
 | exit j =>
  simp only [Exit.inBlock,bk] at hq ⊢
  by_cases hj:j = id
  ·simp only [hj,if_true] at hq ⊢; exact ⟨e',hx,hq⟩
  ·simp only [hj,if_false] at hq ⊢; exact ⟨e',hx,hq⟩
 | _ => exact ⟨e',hx,hq⟩))
theorem T.loop {c:Code} (I:En → World → Prop) (μ:En → World → Nat) (h0:I e w) (h:∀ e w,I e w → T P n c (nx (fun e' w' => I e' w' ∧ μ e' w' < μ e w) Q) e w):T P n (.loop c) Q e w:=fun a ha =>
 wp_loop (fun a w => ∃ e,X n e a ∧ I e w) (fun a w => μ (slots a) w) ⟨e,ha,h0⟩ (by
  rintro a w ⟨e,hx,hI⟩
  refine wp_mono (h e w hI a hx) ?_
  rintro ex a' w' ⟨e',hx',hq⟩
  cases ex with
  | normal =>
   obtain ⟨h1,h2⟩:=hq
   exact ⟨⟨e',hx',h1⟩,by rw [hx'.eq,hx.eq]; exact h2⟩
  | _ => exact ⟨e',hx',hq⟩)
def L (P:Program) (n:Nat) (ops:Array Oper) (Q:Exit → En → World → Prop) (l:List Oper) (e:En) (w:World):Prop := ∀ a,X n e a → wpList P ops (Zfh n Q) l a w
variable {ops:Array Oper} {rest:List Oper} {o:Oper}
theorem L.nil (h:Q .normal e w):L P n ops Q [] e w:=fun a ha => wpList_nil ⟨e,ha,h⟩
theorem T.region {id:Nat} {l:List Oper} (h:L P n l.toArray Q l e w):T P n (.region id l.toArray false) Q e w:=fun a ha => wp_region_lit (h a ha)
theorem L.of_wp (hg:o.guard = none) (h:∀ a,X n e a → o.wp P a w (fun a' w' => wpList P ops (Zfh n Q) rest a' w') (Zfh n Q)):L P n ops Q (o :: rest) e w:=fun a ha => by
 unfold wpList
 rw [if_pos (by simp [Region.wanted,hg])]
 exact .inl (h a ha)
theorem L.val (d:Nat) {v:Value} {w':World} (hr:(execOp (ev e) o).run P w = .ok (.value v) w') (k:L P n ops Q rest (upd e d v) w') (hg:o.guard = none:=by rfl) (hd:o.dst = some d:=by rfl) (hn:d < n:=by decide):L P n ops Q (o :: rest) e w :=
 L.of_wp hg fun a ha => by
  unfold Oper.wp
  rw [ha.eval,hr,Oper.upon_value,hd]
  exact k _ (ha.put hn v)
theorem L.unit {w':World} (hr:(execOp (ev e) o).run P w = .ok .skip w') (k:L P n ops Q rest e w') (hg:o.guard = none:=by rfl) (hd:o.dst = none:=by rfl):L P n ops Q (o :: rest) e w :=
 L.of_wp hg fun a ha => by
  unfold Oper.wp
  rw [ha.eval,hr,Oper.upon_skip,hd]
  exact k _ ha
theorem L.call (d:Nat) {f:Nat} {args:Array Value} (hr:(execOp (ev e) o).run P w = .ok (.enter f args) w) {R:Value → World → Prop} (hc:Calls P f args w fun x w' => ∃ v,x = .returned v ∧ R v w')
  (k:∀ v w',R v w' → L P n ops Q rest (upd e d v) w') (hg:o.guard = none:=by rfl) (hd:o.dst = some d:=by rfl) (hn:d < n:=by decide):L P n ops Q (o :: rest) e w :=
 L.of_wp hg fun a ha => by
  unfold Oper.wp
  rw [ha.eval,hr,Oper.upon_enter]
  refine hc.mono ?_
  rintro x w' ⟨v,rfl,hR⟩
  rw [hd]
  exact k v w' hR _ (ha.put hn v)
theorem W5 {args:Array Operand} {ats:Array TypeId} {f:Nat} (ho:o.op = .call { callee:=.value (.func f),args:=args,argTypes:=ats }) (hE:ZeO P f) :
  (execOp (ev e) o).run P w = .ok (.enter f (args.toList.map (ev e)).toArray) w:=by
 obtain ⟨fn,e1,e2,e3⟩:=hE
 have hmap:Array.map (ev e) args = (args.toList.map (ev e)).toArray:=by apply Array.ext'; simp
 have e2':¬ fn.name = "runtime.NumGoroutine" := by simpa using e2
 have e3':¬ fn.body = none:=by intro h0; rw [h0] at e3; cases e3
 simp only [execOp,ho]
 simp [resolve,ev,Deferred.ofValue,invoke,callFunc,e1,hmap]
 rw [if_neg e2',if_neg e3']
end
structure Keep (w w':World):Prop where
 size:w.heap.size ≤ w'.heap.size
 old:∀ b,b < w.heap.size → w'.heap[b]? = w.heap[b]?
 same:w'.os = w.os ∧ w'.tape = w.tape ∧ w'.output = w.output
theorem Keep.refl (w:World):Keep w w:=⟨Jj _,fun _ _ => rfl,rfl,rfl,rfl⟩
theorem Keep.trans {a b c:World} (h:Keep a b) (k:Keep b c):Keep a c :=
 ⟨VI h.size k.size,fun i hi => (k.old i (Nat.lt_of_lt_of_le hi h.size)).trans (h.old i hi),k.same.1.trans h.same.1,k.same.2.1.trans h.same.2.1,k.same.2.2.trans h.same.2.2⟩
theorem Qz {w:World} {b:Nat} {o:Obj} (h:w.heap[b]? = some o):b < w.heap.size:=by
 by_cases hb:b < w.heap.size
 ·exact hb
 ·rw [VW (by omega)] at h; cases h
structure H (w0 w:World) (B:List (Nat × Obj)):Prop where
 keep:Keep w0 w
 nd:(B.map (·.1)).Nodup
 at':∀ p ∈ B,w.heap[p.1]? = some p.2
 new:∀ p ∈ B,w0.heap.size ≤ p.1
theorem H.nil (w:World):H w w []:=⟨Keep.refl w,by simp,by simp,by simp⟩
theorem H.next {w0 w w':World} {B:List (Nat × Obj)} (h:H w0 w B) (k:Keep w w'):H w0 w' B :=
 ⟨h.keep.trans k,h.nd,fun p hp => (k.old _ (Qz (h.at' p hp))).trans (h.at' p hp),h.new⟩
theorem Keep.alloc (w:World) (o:Obj):Keep w (w.alloc o) :=
 ⟨by show _ ≤ (w.heap.push o).size; simp,fun b hb => heap_alloc_old w o hb,rfl,rfl,rfl⟩
theorem H.alloc {w0 w:World} {B:List (Nat × Obj)} (h:H w0 w B) (o:Obj):H w0 (w.alloc o) ((w.heap.size,o) :: B) where
 keep:=h.keep.trans (Keep.alloc w o)
 nd:=by
  simp only [JR,J3]
  refine ⟨fun hm => ?_,h.nd⟩
  obtain ⟨p,hp,he⟩:=VG.1 hm
  have:=Qz (h.at' p hp); omega
 at' p hp:=by
  rcases VM.1 hp with rfl | hp
  ·exact heap_alloc_new w o
  ·exact (heap_alloc_old w o (Qz (h.at' p hp))).trans (h.at' p hp)
 new p hp:=by
  rcases VM.1 hp with rfl | hp
  ·exact h.keep.size
  ·exact h.new p hp
theorem H.add {w0 w w':World} {B:List (Nat × Obj)} (h:H w0 w B) (k:Keep w w') {b:Nat} {o:Obj} (hb:w.heap.size ≤ b) (ho:w'.heap[b]? = some o):H w0 w' ((b,o) :: B) where
 keep:=h.keep.trans k
 nd:=by
  simp only [JR,J3]
  refine ⟨fun hm => ?_,h.nd⟩
  obtain ⟨p,hp,he⟩:=VG.1 hm
  have:=Qz (h.at' p hp); omega
 at' p hp:=by
  rcases VM.1 hp with rfl | hp
  ·exact ho
  ·exact (k.old _ (Qz (h.at' p hp))).trans (h.at' p hp)
 new p hp:=by
  rcases VM.1 hp with rfl | hp
  ·exact VI h.keep.size hb
  ·exact h.new p hp
theorem H.perm {w0 w:World} {B B':List (Nat × Obj)} (h:H w0 w B) (hp:List.Perm B B'):H w0 w B' where
 keep:=h.keep
 nd:=(hp.map (·.1)).nodup_iff.1 h.nd
 at' p hm:=h.at' p (hp.mem_iff.2 hm)
 new p hm:=h.new p (hp.mem_iff.2 hm)
theorem H.drop {w0 w:World} {B:List (Nat × Obj)} {p:Nat × Obj} (h:H w0 w (p :: B)):H w0 w B where
 keep:=h.keep
 nd:=by have:=h.nd; simp only [JR,J3] at this; exact this.2
 at' q hm:=h.at' q (Jn _ hm)
 new q hm:=h.new q (Jn _ hm)
theorem H.set {w0 w w':World} {B:List (Nat × Obj)} {b:Nat} {o o':Obj} (h:H w0 w ((b,o) :: B)) (hs:w'.heap.size = w.heap.size) (hb:w'.heap[b]? = some o') (hr:∀ b',b' ≠ b → w'.heap[b']? = w.heap[b']?)
  (hm:w'.os = w.os ∧ w'.tape = w.tape ∧ w'.output = w.output):H w0 w' ((b,o') :: B) where
 keep:=⟨by rw [hs]; exact h.keep.size,fun i hi => by
   have:=h.new (b,o) (Jm ..)
   rw [hr i (by simp at this; omega)]; exact h.keep.old i hi,hm.1.trans h.keep.same.1,hm.2.1.trans h.keep.same.2.1,hm.2.2.trans h.keep.same.2.2⟩
 nd:=by have:=h.nd; simpa using this
 at' p hp:=by
  have hn:=h.nd
  simp only [JR,J3] at hn
  rcases VM.1 hp with rfl | hp
  ·exact hb
  ·rw [hr p.1 (fun he => hn.1 (VG.2 ⟨p,hp,he⟩))]; exact h.at' p (Jn _ hp)
 new p hp:=by
  rcases VM.1 hp with rfl | hp
  ·exact h.new (b,o) (Jm ..)
  ·exact h.new p (Jn _ hp)
theorem H.row {w0 w:World} {B:List (Nat × Obj)} {b:Nat} {cs cs':Array Value} {T:TypeId} {fz:Nat × Nat} (h:H w0 w ((b,.cells cs T fz) :: B)):H w0 (w.setRow b cs') ((b,.cells cs' T fz) :: B):=by
 have hb:=h.at' _ (Jm ..)
 simp only at hb
 exact h.set (by simp [World.setRow]) (setRow_heap w b cs _ T _ hb) (fun b' hb' => setRow_other w b b' _ hb') (by simp [World.setRow])
variable [Gl]
end Go.Sh
namespace Go.Sh
open Go
section
variable [Gl]
variable {P:Program} {n:Nat} {Q:Exit → En → World → Prop} {e:En} {w:World} {ops:Array Oper} {rest:List Oper} {o:Oper} {d:Nat}
theorem ZeG {T:TypeId} {dd:TypeDesc} (hT:P.underlying T = some dd) {vx:Value} {vs:List Value} (hv:vx.cells = vs.toArray) (hc:P.cellsOf T = vs.length) (h1:∀ v ∈ vs,v.oneCell' = true)
  {b off:Nat} {cur:Array Value} {U:TypeId} {fz:Nat × Nat} (hb:w.heap[b]? = some (.cells cur U fz)) (hfz:∀ x,x < cur.size → ¬ (fz.1 ≤ x ∧ x < fz.2)) (hfit:off + vs.length ≤ cur.size) :
  (Ve T (.pointer (some ⟨b,off,none⟩)) vx).run P w = .ok () (w.setRow b (cur.toList.take off ++ vs ++ cur.toList.drop (off + vs.length)).toArray):=by
 have:=ZV (P:=P) b off U fz vs 0 cur w hb (by simpa using hfit) hfz h1
 simp_all [Nat.add_zero,Ve,JL,Sem.run_bind,Sem.run_pure,Result.andThen_ok,storeVar,Z4 hT]
theorem Zih {c:Array Value}:∀ x,x < c.size → ¬ (((0,0):Nat × Nat).1 ≤ x ∧ x < ((0,0):Nat × Nat).2):=fun x _ => by simp
theorem Zr {v:Value} {x:Operand} (ho:o.op = .move x ∨ o.op = .assign x) (hv:ev e x = v):(execOp (ev e) o).run P w = .ok (.value v) w:=by
 subst hv; rcases ho with ho | ho <;> simp [execOp,ho]
theorem ZjM {T:TypeId} {x:Operand} {vs:List Value} (ho:o.op = .box T x) (hv:(ev e x).cells = vs.toArray):(execOp (ev e) o).run P w = .ok (.value (.pointer (some ⟨w.heap.size,0,none⟩))) (w.alloc (.cells vs.toArray T)) :=
 by simp [execOp,ho,Instr.box,newVar,newRow,hv]
theorem KV {T:TypeId} {zs:List Value} (ho:o.op = .alloc T) (hz:zeroCells P T = some zs):(execOp (ev e) o).run P w = .ok (.value (.pointer (some ⟨w.heap.size,0,none⟩))) (w.alloc (.cells zs.toArray T)):=by
 obtain ⟨z,hz1,hz2⟩:=QO hz w
 simp [execOp,ho,Instr.alloc,hz1,newVar,newRow,← hz2]
theorem X6 {T:TypeId} {x:Operand} {b off:Nat} {vs:Array Value} {U:TypeId} {fz:Nat × Nat} {dd:TypeDesc} {cs:List Value} (ho:o.op = .load T x) (hx:ev e x = .pointer (some ⟨b,off,none⟩))
  (hb:w.heap[b]? = some (.cells vs U fz)) (hu:P.underlying T = some dd) (ha:Y0 dd = true) (hl:cs.length = P.cellsOf T) (hc:(vs.toList.drop off).take cs.length = cs):(execOp (ev e) o).run P w = .ok (.value (.agg cs.toArray)) w:=by
 have h1:=WO (P:=P) (w:=w) (b:=b) (off:=off) hu ha hl (fun j v hj => by
  rw [Wf hb]
  rw [← hc,Jy] at hj
  split at hj
  ·rw [Jo] at hj; exact hj
  ·cases hj)
 simp [execOp,ho,hx,JZ,JL,h1]
theorem QC {T:TypeId} {x:Operand} {b off:Nat} {vs:Array Value} {U:TypeId} {fz:Nat × Nat} {dd:TypeDesc} {v:Value} (ho:o.op = .load T x) (hx:ev e x = .pointer (some ⟨b,off,none⟩))
  (hb:w.heap[b]? = some (.cells vs U fz)) (hu:P.underlying T = some dd) (ha:Y0 dd = false) (hc:vs.toList[off]? = some v):(execOp (ev e) o).run P w = .ok (.value v) w:=by
 have h1:=WP (P:=P) (w:=w) (b:=b) (off:=off) (v:=v) hu ha (by rw [Wf hb]; exact hc)
 simp [execOp,ho,hx,JZ,JL,h1]
theorem ZdI {T:TypeId} {x y:Operand} {b off:Nat} {cur:Array Value} {U:TypeId} {fz:Nat × Nat} {dd:TypeDesc} {vs:List Value} (ho:o.op = .store T x y) (hx:ev e x = .pointer (some ⟨b,off,none⟩)) (hv:(ev e y).cells = vs.toArray)
  (hb:w.heap[b]? = some (.cells cur U fz)) (hfz:∀ x,x < cur.size → ¬ (fz.1 ≤ x ∧ x < fz.2)) (hT:P.underlying T = some dd) (hc:P.cellsOf T = vs.length) (h1:∀ v ∈ vs,v.oneCell' = true) (hfit:off + vs.length ≤ cur.size)
  : (execOp (ev e) o).run P w = .ok .skip (w.setRow b (cur.toList.take off ++ vs ++ cur.toList.drop (off + vs.length)).toArray):=by
 have h1:=ZeG (P:=P) (w:=w) hT hv hc h1 hb hfz hfit
 simp only [execOp,ho,hx]; simp [h1]
theorem ZK {T:TypeId} {x:Operand} {f b off:Nat} {fs:Array Field} {fd:Field} (ho:o.op = .fieldAddr T x f) (hx:ev e x = .pointer (some ⟨b,off,none⟩))
  (hu:P.underlying T = some (.struct fs)) (hf:fs[f]? = some fd) (hz:Ja (P.cellsOf fd.type) 0 = false) {off':Nat} (ho':off' = off + fd.offset):(execOp (ev e) o).run P w = .ok (.value (.pointer (some ⟨b,off',none⟩))) w:=by
 have hz':P.cellsOf fd.type ≠ 0:=fun h => by rw [h] at hz; simp at hz
 obtain ⟨i,hi⟩:∃ i,P.info? fd.type = some i:=by
  cases h:P.info? fd.type with
  | none => simp [Program.cellsOf,h] at hz'
  | some i => exact ⟨i,rfl⟩
 have hsz:i.size ≠ 0:=by simpa [Program.cellsOf,hi] using hz'
 subst ho'
 have run:(Vb T (.pointer (some ⟨b,off,none⟩)) f).run P w = .ok (.pointer (some ⟨b,off + fd.offset,none⟩)) w:=by
  simp_all [Vb,run_underlying hu,hf,JL,fieldPlace,sizeOf,typeInfo,hi,hsz,ZO]
 simp only [execOp,ho,hx]; simp [run]
theorem QM {T e':TypeId} {t:Ty} {x y:Operand} {b off len cap:Nat} {kk:IntKind} {i:Int} (ho:o.op = .indexAddr T x y) (he:Qx P T = some (e',t)) (hx:ev e x = .slice (some ⟨b,off,none⟩) len cap) (hy:ev e y = .int kk i)
  (h0:0 ≤ i) (h1:i < len) {off':Nat} (ho':off' = off + i.toNat * t.size):(execOp (ev e) o).run P w = .ok (.value (.pointer (some ⟨b,off',none⟩))) w:=by
 have run:=WL (P:=P) he (b:=b) (off:=off) (cap:=cap) (k:=kk) h0 h1 w
 subst ho'
 simp only [execOp,ho,hx,hy]; simp [run]
theorem ZbY {T el:TypeId} {x:Operand} {A:Option Addr} {len cap:Nat} (ho:o.op = .call { callee:=.builtin .len,args := #[x],argTypes := #[T] }) (hx:ev e x = .slice A len cap) (hu:P.underlying T = some (.slice el))
  : (execOp (ev e) o).run P w = .ok (.value (.int .i64 (len:Int))) w:=by
 simp only [execOp,ho,resolve]
 simp [hx,invoke,builtin,Builtin.len_,run_underlying hu,goInt]
theorem ZjN {T el:TypeId} {x:Operand} {A:Option Addr} {len cap:Nat} (ho:o.op = .call { callee:=.builtin .cap,args := #[x],argTypes := #[T] }) (hx:ev e x = .slice A len cap) (hu:P.underlying T = some (.slice el))
  : (execOp (ev e) o).run P w = .ok (.value (.int .i64 (cap:Int))) w:=by
 simp only [execOp,ho,resolve]
 simp [hx,invoke,builtin,Builtin.cap_,run_underlying hu,goInt]
theorem ZcP {T el:TypeId} {dd:TypeDesc} {x y:Operand} {A:Option Addr} {len cap h:Nat} (ho:o.op = .slice T x none (some y) none) (hx:ev e x = .slice A len cap) (hy:ev e y = .int .i64 (h:Int)) (hh:h ≤ cap)
  (hu:P.underlying T = some (.slice el)) (hd0:P.underlying el = some dd):(execOp (ev e) o).run P w = .ok (.value (.slice A h cap)) w:=by
 have hb:(Vd true len cap none (some (.int .i64 (h:Int))) none).run P w = .ok (0,h,cap) w:=by
  have:=XR (P:=P) (kk:=.i64) (n:=(h:Int)) (y:=cap) (code:=.sliceAcap) (by omega) (by omega) w
  simp [Vd,this]
 have run:=Zav hu hd0 (A:=A) (n:=len) hb
 simp only [execOp,ho,Option.map_none,VD,hx,hy]
 simp only [bind_pure_comp,Sem.run_map,run,Result.andThen_ok]
 cases A with
 | none => simp
 | some a => simp [Addr.add]
theorem Yh {op:BinOp} {T z:TypeId} {x y:Operand} {vx vy v:Value} (ho:o.op = .binOp op T x y z) (hx:ev e x = vx) (hy:ev e y = vy) (hpl:Yg vx = true) (hp:QS P (binOp op T vx vy) = some v)
  : (execOp (ev e) o).run P w = .ok (.value v) w:=by
 simp only [execOp,ho,hx,hy]
 simp [Y6 hpl,Wc hp]
theorem Zli {op:UnOp} {T:TypeId} {x:Operand} {vx v:Value} (ho:o.op = .unOp op T x) (hx:ev e x = vx) (hp:QS P (Op.unary op vx) = some v)
  : (execOp (ev e) o).run P w = .ok (.value v) w:=by
 simp only [execOp,ho,hx]
 simp [Wc hp]
theorem Zio {S D:TypeId} {x:Operand} {vx v:Value} (ho:o.op = .convert S D x) (hx:ev e x = vx) (hp:QS P (convert S D vx) = some v)
  : (execOp (ev e) o).run P w = .ok (.value v) w:=by
 simp only [execOp,ho,hx]
 simp [Wc hp]
theorem Zgh {S D el:TypeId} {x:Operand} {b off len cap:Nat} {vs:Array Value} {U:TypeId} {fz:Nat × Nat} {xs:List Int} (ho:o.op = .convert S D x) (hx:ev e x = .slice (some ⟨b,off,none⟩) len cap) (hs:P.underlying S = some (.slice el)) (hd':P.underlying D = some .string) (hby:Yo P el = true)
  (hb:w.heap[b]? = some (.cells vs U fz)) (hlen:xs.length = len) (hcap:len ≤ cap) (hc:∀ i (h:i < xs.length),vs.toList[off + i]? = some (.int .u8 xs[i]))
  : (execOp (ev e) o).run P w = .ok (.value (.string (bytesOf xs))) w:=by
 have:=YP (C:=⟨P,fun _ => none,0,fun _ => []⟩) (w:=w) (lim:=fun _ => 0) (v:=.slice (some ⟨b,off,none⟩) len cap) (xs:=xs) hs hd' hby
  ⟨some ⟨b,off,none⟩,cap,by rw [hlen],by omega,.inr ⟨b,off,rfl,fun i hi => ⟨[.int .u8 xs[i]],by simp [Rt],fun j u hj => by
   cases j with
   | zero => simp at hj; subst hj; rw [Wf hb]; simpa [Ty.size] using hc i hi
   | succ j => simp at hj⟩⟩⟩
 simp only [execOp,ho,hx]
 simp [this]
theorem WZ {x:Operand} {i:Nat} {vs:List Value} {v:Value} (ho:o.op = .extract x i) (hx:ev e x = .tuple vs.toArray) (hv:vs[i]? = some v)
  : (execOp (ev e) o).run P w = .ok (.value v) w:=by
 simp only [execOp,ho,hx]
 simp [Instr.extract,hv]
theorem Za0 {T:TypeId} {ps:Array (Nat × Operand)} {zs us:List Value} {fs:Array Field} (ho:o.op = .build T ps) (hz:zeroCells P T = some zs) (hu:P.underlying T = some (.struct fs)) (hfi:(fs.toList.all fun f => (P.info? f.type).isSome) = true)
  (hf:Instr.fill (fun i => (fs.toList.map fun f => (f.offset,P.cellsOf f.type))[i]?) zs.toArray (ps.toList.map fun p => (p.1,ev e p.2)) = some us.toArray)
  : (execOp (ev e) o).run P w = .ok (.value (.agg us.toArray)) w:=by
 obtain ⟨z,hz1,hz2⟩:=QO hz w
 have hpl:=KA (P:=P) fs.toList w (fun f hf => by
  have:=Vf.1 hfi f hf
  exact Option.isSome_iff_exists.1 this)
 have hzs:zs.toArray = z.cells:=by rw [← hz2]
 simp only [execOp,ho]
 simp_all [Instr.build,Sem.run_bind,hz1,Result.andThen_ok,run_underlying hu,bind_pure_comp,Array.mapM_eq_mapM_toList,Sem.run_map,List.getElem?_toArray,JX]
theorem X5 {T ee:TypeId} {t:Ty} {len:Nat} {ps:Array (Nat × Operand)} {zs:List Value} {cs:List Value} (ho:o.op = .buildSlice T len ps) (he:Qx P T = some (ee,t)) (hz:zeroCells P ee = some zs) (hsm:len * t.size ≤ 16777216)
  (hpos:0 < len * t.size)
  (hf:∀ zz:List Value,zz.length = len * t.size → Instr.fill (fun j => some (j * t.size,t.size)) zz.toArray (ps.toList.map fun p => (p.1,ev e p.2)) = some cs.toArray)
  : (execOp (ev e) o).run P w = .ok (.value (.slice (some ⟨w.heap.size,0,none⟩) len len)) (w.alloc (.cells cs.toArray ee)):=by
 obtain ⟨z,hz1,hz2⟩:=QO hz w
 obtain ⟨i,hi,his,_⟩:=Wq he
 obtain ⟨hu,ht,hs⟩:=ZY he
 have hlen0:¬ (2 ^ 24 < len * i.size):=by rw [his]; omega
 have h0:¬ len * t.size = 0:=by omega
 simp only [execOp,ho,Instr.buildSlice,Sem.run_bind,run_underlying hu,Result.andThen_ok,sizeOf,typeInfo,run_program,hi,Sem.run_pure,Sem.run_ite,gt_iff_lt]
 rw [if_neg hlen0]
 simp only [his,JX]
 rw [if_neg h0]
 have hh:=hf (((JW (len * t.size)).map fun x => z.cells[x % z.cells.size]!).toList) (by simp)
 simp only [Array.toArray_toList] at hh
 simp only [hz1,Result.andThen_ok]
 have e2:List.map (fun x:Nat × Operand => (x.1,ev e x.2)) ps.toList = ps.toList.map fun p => (p.1,ev e p.2):=rfl
 simp [hh,newRow]
end
end Go.Sh
namespace Go.Sh
open Go
section
variable [Gl]
variable {P:Program} {n:Nat} {Q:Exit → En → World → Prop} {e:En} {w:World} {ops:Array Oper} {rest:List Oper} {o:Oper} {d:Nat}
def drw (w:World):World:={ w with drawn:=w.drawn + 1 }
theorem Keep.drw (w:World):Keep w (drw w):=⟨Jj _,fun _ _ => rfl,rfl,rfl,rfl⟩
theorem H.drw {w0 w:World} {B:List (Nat × Obj)} (h:H w0 w B):H w0 (drw w) B:=h.next (Keep.drw w)
def Lo (P:Program) (n:Nat) (Q:Exit → En → World → Prop) (o:Oper) (e:En) (w:World) (R:En → World → Prop):Prop :=
 ∀ a,X n e a → o.wp P a w (fun a' w' => ∃ e',X n e' a' ∧ (∀ s,o.dst ≠ some s → e' s = e s) ∧ R e' w') (Zfh n Q)
theorem Lo.val (d:Nat) {R:En → World → Prop} {v:Value} {w':World} (hr:(execOp (ev e) o).run P w = .ok (.value v) w') (k:R (upd e d v) w') (hd:o.dst = some d:=by rfl) (hn:d < n:=by decide):Lo P n Q o e w R:=fun a ha => by
 unfold Oper.wp
 rw [ha.eval,hr,Oper.upon_value,hd]
 exact ⟨_,ha.put hn v,fun s hs => Zm e v (fun h => hs (by rw [h])),k⟩
theorem Lo.unit {R:En → World → Prop} {w':World} (hr:(execOp (ev e) o).run P w = .ok .skip w') (k:R e w') (hd:o.dst = none:=by rfl):Lo P n Q o e w R:=fun a ha => by
 unfold Oper.wp
 rw [ha.eval,hr,Oper.upon_skip,hd]
 exact ⟨_,ha,fun _ _ => rfl,k⟩
theorem Lo.call (d:Nat) {R:En → World → Prop} {f:Nat} {args:Array Value} (hr:(execOp (ev e) o).run P w = .ok (.enter f args) w) {R':Value → World → Prop} (hc:Calls P f args w fun x w' => ∃ v,x = .returned v ∧ R' v w')
  (k:∀ v w',R' v w' → R (upd e d v) w') (hd:o.dst = some d:=by rfl) (hn:d < n:=by decide):Lo P n Q o e w R:=fun a ha => by
 unfold Oper.wp
 rw [ha.eval,hr,Oper.upon_enter]
 refine hc.mono ?_
 rintro x w' ⟨v,rfl,hR⟩
 rw [hd]
 exact ⟨_,ha.put hn v,fun s hs => Zm e v (fun h => hs (by rw [h])),k v w' hR⟩
def QL (P:Program) (ld:List Nat) (D:Nat → Nat) (qv:Nat → Value) (Ph:Nat → En → World → Prop):Nat → List Oper → Prop
 | _,[] => True
 | i,o :: l => (ld.contains i = false → ∀ m e w,Ph m e w → (∀ j,(QA o).contains j = true → ld.contains j = false → e (D j) = qv j) → (∀ j,(QA o).contains j = true → ∀ p,ld[p]? = some j → p < m) → (execOp (ev e) o).run P w = .ok (.value (qv i)) w) ∧ QL P ld D qv Ph (i + 1) l
theorem QL.at {ld:List Nat} {D:Nat → Nat} {qv:Nat → Value} {Ph:Nat → En → World → Prop} : {l:List Oper} → {k:Nat} → QL P ld D qv Ph k l → ∀ {i:Nat} {o:Oper},l[i]? = some o →
  (ld.contains (k + i) = false → ∀ m e w,Ph m e w → (∀ j,(QA o).contains j = true → ld.contains j = false → e (D j) = qv j) → (∀ j,(QA o).contains j = true → ∀ p,ld[p]? = some j → p < m) → (execOp (ev e) o).run P w = .ok (.value (qv (k + i))) w)
 | [],k,_,i,o,h => by simp at h
 | o' :: l,k,hq,0,o,h => by simp at h; subst h; exact hq.1
 | o' :: l,k,hq,i + 1,o,h => by
  have:=QL.at (k:=k + 1) hq.2 (i:=i) (o:=o) (by simpa using h)
  rw [show k + (i + 1) = k + 1 + i by omega]; exact this
def LL (P:Program) (n:Nat) (Q:Exit → En → World → Prop) (l:List Oper) (ld:List Nat) (D:Nat → Nat) (qv:Nat → Value) (Ph:Nat → En → World → Prop):Nat → List Nat → Prop
 | _,[] => True
 | m,i :: is => (∀ o,l[i]? = some o → ∀ e w,Ph m e w → (∀ j,(QA o).contains j = true → ld.contains j = false → e (D j) = qv j) → Lo P n Q o e w (Ph (m + 1))) ∧ LL P n Q l ld D qv Ph (m + 1) is
theorem LL.at {l:List Oper} {ld:List Nat} {D:Nat → Nat} {qv:Nat → Value} {Ph:Nat → En → World → Prop} : {is:List Nat} → {k:Nat} → LL P n Q l ld D qv Ph k is → ∀ {m i:Nat},is[m]? = some i →
  ∀ o,l[i]? = some o → ∀ e w,Ph (k + m) e w → (∀ j,(QA o).contains j = true → ld.contains j = false → e (D j) = qv j) → Lo P n Q o e w (Ph (k + m + 1))
 | [],k,_,m,i,h => by simp at h
 | i' :: is,k,hl,0,i,h => by simp at h; subst h; exact hl.1
 | i' :: is,k,hl,m + 1,i,h => by
  have:=LL.at (k:=k + 1) hl.2 (m:=m) (i:=i) (by simpa using h)
  rw [show k + (m + 1) = k + 1 + m by omega]; exact this
def Zif (n:Nat) (l:List Oper) (ld:List Nat) (D:Nat → Nat):Bool :=
 (Jc l.length).all (fun i => match l[i]? with
  | some o => o.guard.isNone && (QA o).all (fun p => Nat.blt p i) && (ld.contains i || (o.dst == some (D i) && Nat.blt (D i) n)) &&
    (Jc l.length).all (fun j => Ja i j || ld.contains j || (o.dst != some (D j)))
  | none => false) &&
 (Jc ld.length).all (fun m => match ld[m]? with
  | some i => Nat.blt i l.length && (Ja m 0 || (match ld[m - 1]?,l[i]? with | some p,some o => (QA o).contains p | _,_ => false))
  | none => false) && YH ld
structure MixOk (n:Nat) (l:List Oper) (ld:List Nat) (D:Nat → Nat):Prop where
 guard:∀ (i:Nat) (o:Oper),l[i]? = some o → o.guard = none
 back:∀ (i:Nat) (o:Oper),l[i]? = some o → ∀ p ∈ QA o,p < i
 dst:∀ (i:Nat) (o:Oper),l[i]? = some o → ld.contains i = false → o.dst = some (D i) ∧ D i < n
 apart:∀ (i:Nat) (o:Oper) (j:Nat),l[i]? = some o → j < l.length → i ≠ j → ld.contains j = false → o.dst ≠ some (D j)
 chain:∀ (m i p:Nat) (o:Oper),ld[m + 1]? = some i → ld[m]? = some p → l[i]? = some o → p ∈ QA o
 inl:∀ i ∈ ld,i < l.length
 nd:ld.Nodup
theorem Zfn {l:List Oper} {ld:List Nat} {D:Nat → Nat} (h:Zif n l ld D = true):MixOk n l ld D:=by
 unfold Zif at h
 simp only [Jh,Vf,VH] at h
 obtain ⟨⟨h1,h2⟩,h3⟩:=h
 have lt:∀ {i:Nat} {o:Oper},l[i]? = some o → i < l.length:=fun h => (Up.1 h).1
 have k1:∀ i o,l[i]? = some o → _:=fun i o ho => by have:=h1 i (lt ho); simp only [ho,Jh] at this; exact this
 refine ⟨fun i o ho => ?_,fun i o ho p hp => ?_,fun i o ho hi => ?_,fun i o j ho hj hij hc => ?_,fun m i p o hi hp ho => ?_,fun i hi => ?_,Xm h3⟩
 ·have:=(k1 i o ho).1.1.1; simpa using this
 ·have:=(k1 i o ho).1.1.2
  have:=Vf.1 this p hp
  simpa using this
 ·have:=(k1 i o ho).1.2
  rw [hi] at this
  simpa using this
 ·have:=(k1 i o ho).2
  have:=Vf.1 this j (VH.2 hj)
  rw [hc] at this
  simp only [Bool.or_false,V6] at this
  rcases this with h | h
  ·exact absurd (Zu h) hij
  ·simpa using h
 ·have hm:m + 1 < ld.length:=(Up.1 hi).1
  have:=h2 (m + 1) hm
  simp only [hi,Jh,V6] at this
  rcases this.2 with h | h
  ·have:=Zu h; omega
  ·simp only [Nat.add_sub_cancel,hp,ho] at h
   simpa using h
 ·obtain ⟨m,hm,hmi⟩:=UK.1 hi
  have:=h2 m hm
  simp only [VO hm,Jh] at this
  have:=this.1
  rw [hmi] at this
  simpa using this
theorem T.mixed {id:Nat} {l:List Oper} (ld:List Nat) (D:Nat → Nat) (qv:Nat → Value) (Ph:Nat → En → World → Prop) (hm:P.follows .mixedOrders = true) (chk:Zif n l ld D = true)
  (h0:Ph 0 e (drw w)) (hs:∀ m e w i v,i < l.length → ld.contains i = false → Ph m e w → Ph m (upd e (D i) v) w)
  (hq:QL P ld D qv Ph 0 l) (hl:LL P n Q l ld D qv Ph 0 ld)
  (hQ:∀ e w,Ph ld.length e w → (∀ i,i < l.length → ld.contains i = false → e (D i) = qv i) → Q .normal e w):T P n (.region id l.toArray true) Q e w:=by
 have K:=Zfn chk
 intro a ha
 refine wp_region_any hm ?_
 let I:Array Bool → Act → World → Prop:=fun listed a w => listed.size = l.length ∧ ∃ e m,X n e a ∧ m ≤ ld.length ∧ Ph m e w ∧ (∀ p i,ld[p]? = some i → (listed.getD i true = true ↔ p < m)) ∧
  ∀ i,i < l.length → ld.contains i = false → listed.getD i true = true → e (D i) = qv i
 have fin:∀ listed a w,I listed a w → (∀ i,i < l.length → listed.getD i true = true) → Zfh n Q .normal a w:=by
  rintro listed a w ⟨hsz,e,m,hx,hm,hP,hld,hv⟩ hall
  have em:m = ld.length:=by
   rcases VN m ld.length with h | h
   ·have:=(hld m ld[m] (VO h)).1 (hall _ (K.inl _ (UJ h)))
    omega
   ·omega
  subst em
  exact ⟨e,hx,hQ e w hP fun i hi hc => hv i hi hc (hall i hi)⟩
 have main:∀ fuel listed a w,I listed a w → (left l.length listed).length ≤ fuel → wpAny P .any l.toArray (Zfh n Q) fuel listed a w:=by
  intro fuel
  induction fuel with
  | zero =>
   intro listed a w hI hf
   have hl0:left l.length listed = []:=List.eq_nil_of_length_eq_zero (by omega)
   have hall:∀ i,i < l.length → listed.getD i true = true:=by
    intro i hi
    have:i ∉ left l.length listed:=by rw [hl0]; simp
    simpa [left,hi] using this
   refine ⟨?_,fin listed a w hI hall⟩
   cases hr:Region.ready .any l.toArray listed with
   | nil => rfl
   | cons i r =>
    obtain ⟨o,ho,hli,_⟩:=YV (i:=i) (by rw [hr]; exact Jm ..)
    have hi:i < l.length:=by
     have:=(Array.getElem?_eq_some_iff.1 ho).1; simpa using this
    rw [hall i hi] at hli; cases hli
  | succ fuel ih =>
   intro listed a w hI hf
   refine ⟨fun hr => fin listed a w hI ?_,?_⟩
   ·intro i
    induction i using Nat.strongRecOn with
    | _ i ihi =>
     intro hi
     cases hli:listed.getD i true with
     | true => rfl
     | false =>
      have ho:l.toArray[i]? = some l[i]:=by simp [hi]
      have:=ZeD (listed:=listed) ho hli (fun p hp => by
       have hpi:=K.back i l[i] (by simp [hi]) p hp
       have:=ihi p hpi (by omega)
       rw [VL] at this ⊢
       have hsz:=hI.1
       rw [UG (by omega)] at this ⊢
       exact this)
      rw [hr] at this; cases this
   ·intro i hi
    obtain ⟨o,ho,hli,hpr⟩:=YV hi
    have ho':l[i]? = some o:=by simpa using ho
    have hil:i < l.length:=(Up.1 ho').1
    obtain ⟨hsz,e,m,hx,hm,hP,hld,hv⟩:=hI
    have hT:∀ p ∈ QA o,listed.getD p true = true:=fun p hp => by
     have hpi:=K.back i o ho' p hp
     have:=hpr p hp
     rw [VL] at this ⊢
     rw [UG (by omega)] at this ⊢
     exact this
    have hpq:∀ j,(QA o).contains j = true → ld.contains j = false → e (D j) = qv j:=fun j hj hc => hv j (Nat.lt_trans (K.back i o ho' j (by simpa using hj)) hil) hc (hT j (by simpa using hj))
    have hlen:(left l.length (listed.setIfInBounds i true)).length ≤ fuel:=by
     obtain ⟨pre,post,e1,e2,_⟩:=ZbF hil hli
     rw [e1] at hf; rw [e2]; simp at hf ⊢; omega
    unfold wpOp
    simp only [ho]
    rw [if_pos (by simp [Region.wanted,K.guard i o ho'])]
    refine .inl ?_
    cases hc:ld.contains i with
    | false =>
     obtain ⟨hd,hn⟩:=K.dst i o ho' hc
     have hrun:=QL.at hq ho' (by rw [Ub]; exact hc) m e w hP hpq (fun j hj p hp => (hld p j hp).1 (hT j (by simpa using hj)))
     rw [Ub] at hrun
     unfold Oper.wp
     rw [hx.eval,hrun,Oper.upon_value,hd]
     refine ih _ _ _ ⟨by simp [hsz],upd e (D i) (qv i),m,hx.put hn _,hm,hs m e w i _ hil hc hP,fun p j hp => ?_,fun j hj hcj hlj => ?_⟩ hlen
     ·rw [XF hli]
      have:i ≠ j:=by
       intro h; subst h
       have:=Vw hp
       simp at hc; exact hc this
      simp only [this,if_false]
      exact hld p j hp
     ·by_cases hij:i = j
      ·subst hij; exact QY ..
      ·rw [XF hli] at hlj
       simp only [hij,if_false] at hlj
       rw [Zm _ _ (fun h => K.apart i o j ho' hj hij hcj (by rw [hd,h]))]
       exact hv j hj hcj hlj
    | true =>
     have hmem:i ∈ ld:=by simpa using hc
     obtain ⟨q,hq1,hq2⟩:=UK.1 hmem
     have hqi:ld[q]? = some i:=by rw [VO hq1,hq2]
     have hqm:q = m:=by
      have h1:¬ q < m:=fun h => by rw [(hld q i hqi).2 h] at hli; cases hli
      cases q with
      | zero => omega
      | succ q =>
       have hp:ld[q]? = some ld[q]:=VO (by omega)
       have:=(hld q _ hp).1 (hT _ (K.chain q i _ o hqi hp ho'))
       omega
     subst hqm
     have hLo:=LL.at hl hqi o ho' e w (by rw [Ub]; exact hP) hpq
     rw [Ub] at hLo
     refine Oper.wp_mono ?_ (hLo a hx)
     rintro a' w' ⟨e',hx',hsame,hP'⟩
     refine ih _ _ _ ⟨by simp [hsz],e',q + 1,hx',by omega,hP',fun p j hp => ?_,fun j hj hcj hlj => ?_⟩ hlen
     ·rw [XF hli]
      by_cases hij:i = j
      ·subst hij
       simp only [if_true,true_iff]
       have:p = q:=by
        exact ((List.getElem?_inj hq1 K.nd).1 (by rw [hqi,hp])).symm
       omega
      ·simp only [hij,if_false]
       rw [hld p j hp]
       have:p ≠ q:=fun h => by subst h; rw [hqi] at hp; cases hp; exact hij rfl
       omega
     ·have hij:i ≠ j:=fun h => by subst h; rw [hc] at hcj; cases hcj
      rw [XF hli] at hlj
      simp only [hij,if_false] at hlj
      rw [hsame _ (K.apart i o j ho' hj hij hcj)]
      exact hv j hj hcj hlj
 refine main _ _ _ _ ⟨by simp,e,0,ha,Nat.zero_le _,h0,fun p i hp => ?_,fun i hi hc hli => ?_⟩ ?_
 ·have:=K.inl i (Vw hp)
  simp [VL,this]
 ·simp [VL,hi] at hli
 ·simp only [left,List.size_toArray]
  exact VI (List.length_filter_le _ _) (by simp)
end
end Go.Sh
namespace Go.Sh
open Go
section
variable [Gl]
variable {P:Program} {n:Nat} {Q:Exit → En → World → Prop} {e:En} {w:World} {ops:Array Oper} {rest:List Oper} {o:Oper} {d:Nat}
theorem Zks {T ee:TypeId} {t:Ty} {x y:Operand} {N:Nat} {zs:List Value} (ho:o.op = .makeSlice T x y) (hx:ev e x = .int .i64 0) (hy:ev e y = .int .i64 (N:Int)) (he:Qx P T = some (ee,t))
  (hz:zeroCells P ee = some zs) (hzl:zs.length = t.size) (hpos:1 ≤ t.size) (hby:P.bytesOf ee ≤ 65536) (hN:N < 4294967296) :
  (execOp (ev e) o).run P w = .ok (.value (.slice (some ⟨w.heap.size,0,none⟩) 0 N)) (w.alloc (.cells (Jd N zs).flatten.toArray ee)):=by
 obtain ⟨i,hi,his,hib⟩:=Wq he
 obtain ⟨hu,ht,hs⟩:=ZY he
 obtain ⟨zv,hz1,hz2⟩:=QO hz w
 have hcells:(JW (N * t.size)).map (fun x => zv.cells[x % zv.cells.size]!) = (Jd N zs).flatten.toArray:=by
  apply Array.ext'
  have hsz:zv.cells.size = zs.length:=by rw [← hz2]; simp
  have:=Za2 zs (by omega) N
  rw [← this,hzl]
  simp only [JX,Array.toList_range,hsz,hzl]
  rw [← hz2]
 have hmul:(i.bytes:Int) * (N:Int) ≤ 281474976710656:=by
  rw [← hib]
  have h3:P.bytesOf ee * N ≤ 65536 * 4294967295:=Nat.mul_le_mul hby (by omega)
  omega
 have w1:Jx.wrap (0:Int) = 0:=Qh (by omega) (by omega)
 have w2:Jx.wrap (N:Int) = N:=Qh (by omega) (by omega)
 have hc0:¬ ((N:Int) < 0):=by omega
 have hl0:¬ ((0:Int) < 0):=by omega
 have hbig:¬ (281474976710656 < (i.bytes:Int) * (N:Int)):=by omega
 simp only [execOp,ho,hx,hy,bind_pure_comp,Sem.run_map]
 simp only [Instr.makeSlice,Sem.run_bind,run_underlying hu,Result.andThen_ok,asInt,asIntOf,Sem.run_pure,typeInfo,run_program,hi,w1,w2]
 simp only [Int.reducePow,decide_eq_true_eq,V6,hc0,hl0,hbig,gt_iff_lt,or_self,decide_false,Bool.false_eq_true,if_false,Sem.run_bind,run_askRoom,Result.andThen_ok,sizeOf,typeInfo,run_program,hi,Sem.run_pure,Int.toNat_natCast,his,Sem.run_ite,hz1,hcells]
 by_cases hN0:N * t.size = 0
 ·have hr0:∀ f:Nat → Value,Array.map f (JW 0) = #[]:=fun f => by simp
  have hN1:N = 0:=by
   rcases Nat.mul_eq_zero.1 hN0 with h | h
   ·exact h
   ·omega
  subst hN1
  have hr1:JW 0 = #[]:=rfl
  simp [newRow,hr1]
 ·simp [hN0,newRow]
theorem Zin {T U ee eU:TypeId} {t:Ty} {x y:Operand} {w1:World} {lim:Nat → Nat} {ys:List t.den} {css:List (List Value)} {A:Option Addr} {cap:Nat}
  (ho:o.op = .call { callee:=.builtin .append,args := #[x,y],argTypes := #[T,U] }) (he:Qx P T = some (ee,t)) (hU:P.underlying U = some (.slice eU))
  {b off sLen sCap:Nat} {cur:Array Value} {V:TypeId} (hx:ev e x = .slice (some ⟨b,off,none⟩) sLen sCap) (hb:w.heap[b]? = some (.cells cur V (0,0)))
  (hy:ev e y = .slice A ys.length cap) (h3:Zs (Rt w1 lim t) ys css)
  (h4:ys = [] ∨ ∃ b off,A = some ⟨b,off,none⟩ ∧ ∀ j u,css.flatten[j]? = some u → w.cell? ⟨b,off + j,none⟩ = some u) (hroom:sLen + ys.length ≤ sCap) (hfit:off + sCap * t.size ≤ cur.size) :
  (execOp (ev e) o).run P w = .ok (.value (.slice (some ⟨b,off,none⟩) (sLen + ys.length) sCap)) (w.setRow b (cur.toList.take (off + sLen * t.size) ++ css.flatten ++ cur.toList.drop (off + sLen * t.size + css.flatten.length)).toArray):=by
 obtain ⟨i,hi,his,hib⟩:=Wq he
 obtain ⟨hu,ht,hs⟩:=ZY he
 have hfl:=ZG h3
 have hfc:(Ji i.size ys.length (.slice A ys.length cap)).run P w = .ok css.flatten.toArray w:=by
  rw [his]
  rcases h4 with h4 | ⟨b,off,rfl,h4⟩
  ·subst h4
   have:css = []:=by match css,h3 with | [],_ => rfl
   subst this
   cases A with
   | none => simp [Ji]
   | some a => simp [Ji,loadCells,loadCellsFrom]
  ·exact run_firstCells_some w t.size ys.length _ _ _ css.flatten hfl (fun j u hj => by rw [ZO]; exact h4 j u hj)
 have hm:(sLen + ys.length) * t.size ≤ sCap * t.size:=Nat.mul_le_mul_right _ hroom
 rw [Nat.add_mul] at hm
 have hl2:off + sLen * i.size + css.flatten.length ≤ cur.size:=by rw [his,hfl]; omega
 have:=Zd1 (w:=w) (ty:=o.type) (b:=b) (off:=off) (sLen:=sLen) (sCap:=sCap) (cur:=cur) hu hU (.inr ⟨eU,rfl⟩) hi (x:=.slice A ys.length cap) (n:=ys.length) (news:=css.flatten) (by simp [Builtin.lenOf]) hfc hb (fun o _ => by simp) hroom
  hl2 (XE h3)
 rw [his] at this
 simp only [execOp,ho,resolve]
 simp only [bind_pure_comp,Sem.run_map,invoke,builtin,Sem.run_bind,Sem.run_pure,Result.andThen_ok,List.map_toArray,JR,List.map_nil,hx,hy]
 exact congrArg (fun r => r.andThen fun a w' => Result.ok (Next.value a) w') this
def ZfN (vs:List Value):En:=fun s => vs.toArray.getD s undef
theorem X.args (vs:List Value) (hn:vs.length ≤ n):X n (ZfN vs) { tmps:=vs.toArray ++ Array.replicate (n - vs.toArray.size) undef,defers:=[] } where
 sz:=by simp; omega
 df:=rfl
 eq:=by
  funext s
  simp only [slots,ZfN,VL,Array.getElem?_append,Array.getElem?_replicate]
  split
  ·rfl
  ·rename_i h
   rw [VW (by simpa using h)]
   split <;> rfl
theorem ZgA {f:Nat} {fn:Func} {code:Code} {t:Nat} {vs:List Value} {R:Value → World → Prop} (hf:P.funcs[f]? = some fn) (hb:fn.body = some code) (hr:fn.results = #[.tmp t]) (hn:vs.length ≤ fn.ntmps)
  (h:T P fn.ntmps code (fun x e w' => (x = .normal ∨ x = .ret) ∧ R (e t) w') (ZfN vs) w):Calls P f vs.toArray w fun x w' => ∃ v,x = .returned v ∧ R v w':=by
 refine calls_of_wp hf hb (wp_mono (h _ (X.args vs hn)) ?_)
 rintro x a w' ⟨e,hx,hc,hR⟩
 have h1:(results fn a.tmps).run P w' = .ok (e t) w':=by rw [← hx.eq]; exact results_tmp hr _ _ _
 rcases hc with rfl | rfl
 ·exact ⟨hx.df,_,h1,_,rfl,hR⟩
 ·exact ⟨hx.df,_,h1,_,rfl,hR⟩
theorem Ze2 {f:Nat} {fn:Func} {code:Code} {t T:Nat} {vs:List Value} {R:Value → World → Prop} {dd:TypeDesc} (hf:P.funcs[f]? = some fn) (hb:fn.body = some code) (hr:fn.results = #[.cell t T]) (hn:vs.length ≤ fn.ntmps)
  (hu:P.underlying T = some dd) (ha:Y0 dd = true)
  (h:Sh.T P fn.ntmps code (fun x e w' => (x = .normal ∨ x = .ret) ∧ ∃ b cs U fz,e t = .pointer (some ⟨b,0,none⟩) ∧ w'.heap[b]? = some (.cells cs U fz) ∧ cs.size = P.cellsOf T ∧ R (.agg cs) w') (ZfN vs) w) :
  Calls P f vs.toArray w fun x w' => ∃ v,x = .returned v ∧ R v w':=by
 refine calls_of_wp hf hb (wp_mono (h _ (X.args vs hn)) ?_)
 rintro x a w' ⟨e,hx,hc,b,cs,U,fz,h1,h2,h3,hR⟩
 have h4:=WO (P:=P) (w:=w') (b:=b) (off:=0) (cs:=cs.toList) hu ha (by simpa using h3) (fun j v hj => by rw [Wf h2,Ub]; exact hj)
 have h5:(results fn a.tmps).run P w' = .ok (.agg cs) w':=by
  have e1:a.tmps.getD t undef = .pointer (some ⟨b,0,none⟩):=by
   have:=hx.eq
   rw [← h1,← this]; rfl
  have h4':(loadVar T ⟨b,0,none⟩).run P w' = .ok (.agg cs) w':=by rw [h4]
  have e2:a.tmps[t]?.getD undef = Value.pointer (some { block:=b,off:=0 }):=by rw [← VL]; exact e1
  simp [results,hr,e2,asAddr,h4']
 rcases hc with rfl | rfl
 ·exact ⟨hx.df,_,h5,_,rfl,hR⟩
 ·exact ⟨hx.df,_,h5,_,rfl,hR⟩
end
end Go.Sh
namespace Go.Proofs
open Go Go.Shelf Go.RowKit
variable {P:Program} {ρ:Ren}
theorem Zfg {e:TypeId} (hc:P.cellsOf e = 1) (count off n:Nat) (hn:off + n ≤ count):liesAt P P.depth e count off e n = true:=by
 have hd:P.depth = (2 * (P.types.size + Made.depth) + 1) + 1:=rfl
 rw [hd]
 simp only [liesAt,V6]
 left
 rw [hd]
 simp [rowAt,hc,hn,sameLayout,Nat.mod_one]
theorem run_unsafeString_off (w:World) (pt it ty e:TypeId) (hp:P.underlying pt = some (.pointer e)) (hc:P.cellsOf e = 1) (g off cells:Nat) (hsh:w.shape? g = some (e,cells)) (l:List UInt8) (h0:l ≠ []) (hn:off + l.length ≤ cells) (h63:l.length ≤ 9223372036854775807)
  (hcell:∀ j x,l[j]? = some x → w.cell? ((⟨g,off,none⟩:Addr).add j) = some (.int .u8 x.toNat)) :
  (UE #[pt,it] ty #[.pointer (some ⟨g,off,none⟩),.int .i64 l.length]).run P w = .ok (.string ⟨l.toArray⟩) (w.freeze ⟨g,off,none⟩ l.length):=by
 have hl:l.length ≠ 0:=by simpa using h0
 have hlb:=Lib.run_loadBytes (P:=P) w l ⟨g,off,none⟩ .empty hcell
 have hlies:=Zfg (P:=P) hc (cells / P.cellsOf e) off l.length (by rw [hc]; simpa using hn)
 have h63':¬ (9223372036854775807:Int) < (l.length:Int):=by omega
 have hdef:UE #[pt,it] ty #[.pointer (some ⟨g,off,none⟩),.int .i64 l.length] =
   (do
    let n ← asInt (.int .i64 l.length)
    if n < 0 then runtimePanic (.error "unsafe.String: len out of range")
    if n > Jx.max then unsupported (.unsafePointer "String: a length above the largest int")
    if n = 0 then pure (.string .empty)
    else if ← variablesAt ⟨g,off,none⟩ (← elemOf pt) n.toNat then do
     let s ← loadBytes ⟨g,off,none⟩ .empty n.toNat
     freeze ⟨g,off,none⟩ n.toNat
     pure (.string s)
    else unsupported (.unsafePointer "String: not so many bytes at ptr")):=rfl
 rw [hdef]
 have hmax:Jx.max = 9223372036854775807:=rfl
 have hneg:¬ (l.length:Int) < 0:=by omega
 simp [asInt,asIntOf,hmax,h63',hneg,hl,variablesAt,hsh,elemOf,run_underlying hp,hlies,hlb]
set_option maxHeartbeats 2000000 in
set_option maxRecDepth 100000 in
theorem string_walk (L:Lays.n169 P ρ) (X:Builder.Extra P ρ) (b:Nat) (p y q:Value) (n:Nat) (s:ByteArray) (w w1:World) (c1:w.drew.cell? ⟨b,1,none⟩ = some y)
  (hlen:(∃ A cap,y = .slice A n cap))
  (c2:w1.cell? ⟨b,1,none⟩ = some y)
  (hSD:(UI #[(ρ.t 37)] (ρ.t 127) #[y]).run P w.drew = .ok q w1) (hw1:w1 = w.drew)
  (w2:World) (hUS:(UE #[(ρ.t 127),(ρ.t 3)] (ρ.t 9) #[q,.int .i64 n]).run P w1 = .ok (.string s) w2) :
  Calls P (ρ.f 169) #[.pointer (some ⟨b,0,none⟩)] w fun e w' => e = .returned (.string s) ∧ w' = w2:=by
 obtain ⟨A,cap,rfl⟩:=hlen
 subst hw1
 have mixed:=L.mixed
 have t72:=L.t72; have a72:=L.a72; have z72:=L.z72; have v72:=L.v72; have u72:=run_underlying L.t72
 have t70:=L.t70; have a70:=L.a70; have z70:=L.z70; have v70:=L.v70; have u70:=run_underlying L.t70
 have t37:=L.t37; have a37:=L.a37; have z37:=L.z37; have v37:=L.v37; have u37:=run_underlying L.t37
 have t127:=L.t127; have a127:=L.a127; have z127:=L.z127; have v127:=L.v127; have u127:=run_underlying L.t127
 have t3:=L.t3; have a3:=L.a3; have z3:=L.z3; have v3:=L.v3; have u3:=run_underlying L.t3
 have t9:=L.t9; have a9:=L.a9; have z9:=L.z9; have v9:=L.v9; have u9:=run_underlying L.t9
 have t5:=X.t5; have a5:=X.a5; have z5:=X.z5; have v5:=X.v5; have u5:=run_underlying X.t5
 go_enter L.f169,Body.n169_ntmps ρ
 go_wp2
 go_region_o
 all_goals (go_wp2; go_ret; exact ⟨rfl,rfl⟩)
set_option maxHeartbeats 2000000 in
set_option maxRecDepth 100000 in
theorem string_walk0 (L:Lays.n169 P ρ) (X:Builder.Extra P ρ) (b g off:Nat) (p:Value) (cur:Array Value) (fz:Nat × Nat) (w:World) (hbk:w.heap[b]? = some (.cells #[p,.slice (some ⟨g,off,none⟩) 0 0] (ρ.t 72) (0,0)))
  (hg:w.heap[g]? = some (.cells cur (ρ.t 5) fz)) :
  Calls P (ρ.f 169) #[.pointer (some ⟨b,0,none⟩)] w fun e w' => e = .returned (.string ⟨#[]⟩) ∧ Below w.heap.size w w':=by
 have hUS:=Any.unsafeString_none L X
 have hlt:b < w.heap.size:=by
  rcases VN b w.heap.size with h' | h'
  ·exact h'
  ·simp [VW h'] at hbk
 have c1:w.drew.cell? ⟨b,1,none⟩ = some (.slice (some ⟨g,off,none⟩) 0 0):=by
  have:w.drew.heap[b]? = some (.cells #[p,.slice (some ⟨g,off,none⟩) 0 0] (ρ.t 72) (0,0)):=hbk
  rw [Lib.cell_of_heap this]; rfl
 have hSD:(UI #[(ρ.t 37)] (ρ.t 127) #[.slice (some ⟨g,off,none⟩) 0 0]).run P w.drew = .ok (.pointer (some ⟨w.drew.heap.size,0,none⟩)) (w.drew.alloc (.view ⟨g,off,none⟩ (ρ.t 5))) :=
  Lib.run_unsafeSliceData_zero w.drew _ _ (ρ.t 5) L.t127 ⟨g,off,none⟩ 0 ((ρ.t 5),cur.size) (by have hg':w.drew.heap[g]? = some (.cells cur (ρ.t 5) fz):=hg; simp [World.shape?,hg'])
 have c2:(w.drew.alloc (.view ⟨g,off,none⟩ (ρ.t 5))).cell? ⟨b,1,none⟩ = some (.slice (some ⟨g,off,none⟩) 0 0):=by
  have:(w.drew.alloc (.view ⟨g,off,none⟩ (ρ.t 5))).heap[b]? = _:=(Lib.alloc_old w.drew _ b hlt).trans hbk
  rw [Lib.cell_of_heap this]; rfl
 have c3:(w.alloc (.view ⟨g,off,none⟩ (ρ.t 5))).drew.cell? ⟨b,1,none⟩ = some (.slice (some ⟨g,off,none⟩) 0 0):=c2
 have c0:w.cell? ⟨b,1,none⟩ = some (.slice (some ⟨g,off,none⟩) 0 0):=c1
 have mixed:=L.mixed
 have t72:=L.t72; have a72:=L.a72; have z72:=L.z72; have v72:=L.v72; have u72:=run_underlying L.t72
 have t70:=L.t70; have a70:=L.a70; have z70:=L.z70; have v70:=L.v70; have u70:=run_underlying L.t70
 have t37:=L.t37; have a37:=L.a37; have z37:=L.z37; have v37:=L.v37; have u37:=run_underlying L.t37
 have t127:=L.t127; have a127:=L.a127; have z127:=L.z127; have v127:=L.v127; have u127:=run_underlying L.t127
 have t3:=L.t3; have a3:=L.a3; have z3:=L.z3; have v3:=L.v3; have u3:=run_underlying L.t3
 have t9:=L.t9; have a9:=L.a9; have z9:=L.z9; have v9:=L.v9; have u9:=run_underlying L.t9
 have t5:=X.t5; have a5:=X.a5; have z5:=X.z5; have v5:=X.v5; have u5:=run_underlying X.t5
 go_enter L.f169,Body.n169_ntmps ρ
 go_wp2
 go_region_o
 all_goals (go_wp2; go_ret; exact ⟨rfl,(Below.drew (Below.refl _ w)).alloc (Jj _) _⟩)
end Go.Proofs
namespace Go.Sh
open Go Go.RowKit
variable [Gl]
def Ziw (x:List Int × Unit):Option (ByteArray × Unit):=bif decide (x.1.length < 1099511627776) && x.1.all (fun n => decide (0 ≤ n ∧ n < 256)) then some (bytesOf x.1,()) else none
theorem Zg3 {x:List Int × Unit} {y:ByteArray × Unit} (h:Ziw x = some y):(∀ n ∈ x.1,0 ≤ n ∧ n < 256) ∧ x.1.length < 1099511627776 ∧ y = (bytesOf x.1,()):=by
 unfold Ziw at h
 cases hb:(decide (x.1.length < 1099511627776) && x.1.all (fun n => decide (0 ≤ n ∧ n < 256))) with
 | false => rw [hb] at h; cases h
 | true =>
  rw [hb] at h
  rw [Jh] at hb
  exact ⟨fun n hn => of_decide_eq_true (Vf.1 hb.2 n hn),of_decide_eq_true hb.1,(Option.some.inj h).symm⟩
theorem ZfC {P:Program} {ρ:Shelf.Ren} (L:Go.Proofs.Lays.n169 P ρ) (X:Go.Proofs.Builder.Extra P ρ) (h5:ρ.t 5 = ZiC) {k f:Nat} {fn:Func} (hf:ρ.f 169 = f) (hfn:P.funcs[f]? = some fn) (hname:(fn.name == "runtime.NumGoroutine") = false) (hbody:fn.body.isNone = false) :
  Ctr P k f (mk [.use (ρ.t 72)] (.view .str) fun _ x => Ziw x) where
 enters:=⟨fn,hfn,hname,hbody⟩
 calls:=by
  intro rvs x hx w lim vs bs hlz hgl hT0 hnd hbs
  simp only [mk] at hx
  obtain ⟨y,hy1,hy2⟩:=Option.bind_eq_some_iff.1 hx
  have hrv:=ZZ [.use (ρ.t 72)] rvs y hy1
  obtain ⟨xs,u⟩:=y
  subst hrv
  obtain ⟨hby,hlen0,hx2⟩:=Zg3 hy2
  subst hx2
  simp only at hby hlen0
  show Calls P f vs.toArray w (ZeP w lim vs bs [.use (ρ.t 72)] (.view .str (bytesOf xs),[]))
  simp only [Qu,enc] at hT0
  match vs,hT0 with
  | [v],hT0 =>
   simp only [Y4] at hT0
   obtain ⟨b1,b2,rfl,hT,rfl⟩:=hT0
   simp only [TT] at hT
   obtain ⟨b,p,q,bs1,rfl,h2,h3,h4,h5',rfl⟩:=hT
   simp only [List.append_nil] at hnd hbs ⊢
   rw [J3] at hnd
   have done:∀ w':World,Ext w lim w' lim → w.heap.size ≤ w'.heap.size → (w'.os = w.os ∧ w'.tape = w.tape ∧ w'.output = w.output) → (∀ b',b' < w.heap.size → b' ∉ b :: bs1 → w'.heap[b']? = w.heap[b']?) →
     ZeP w lim [.pointer (some ⟨b,0,none⟩)] (b :: bs1) [.use (ρ.t 72)] (.view .str (bytesOf xs),[]) (.returned (.string (bytesOf xs))) w':=by
    intro w' hE g1 g2 g3
    refine ⟨_,lim,[],[],rfl,hE,fun b' hb' => hlz b' (by omega),g2,fun b' hb' hn => ⟨g3 b' hb' hn,rfl⟩,?_,?_,by simp [Wo,Zp,Qy],by simp,by simp⟩
    ·simp only [TT]; exact ⟨⟨_,rfl,.inr ⟨rfl,rfl⟩⟩,trivial⟩
    ·simp [TL,Zp,Qy]
   subst hf
   have c1:w.drew.cell? ⟨b,1,none⟩ = some q:=by
    have:w.drew.heap[b]? = some (.cells #[p,q] (ρ.t 72) (0,0)):=h2
    rw [Lib.cell_of_heap this]; rfl
   have hsame:∀ w':World,w'.heap.size = w.heap.size → (∀ k:Nat,w'.heap[k]? = w.heap[k]?) → Ext w lim w' lim:=fun w' e1 e2 =>
    ⟨by omega,fun b' o _ => by unfold World.cell?; simp only [e2 b'],fun _ _ h => h,fun b' T hT => by unfold ZS at hT ⊢; rw [e2 b']; exact hT⟩
   rcases h4.2 with ⟨rfl,rfl,rfl⟩ | ⟨g,off,cap,cur,T,fz,rfl,g2,g3,g4,g5,g6,g7,rfl⟩
   ·refine (Go.Proofs.string_walk L X b p (.slice none 0 0) (.pointer none) 0 .empty w w.drew c1 ⟨none,0,rfl⟩ c1 (Lib.run_unsafeSliceData_nil w.drew _ _ _ _) rfl _ (Lib.run_unsafeString_none w.drew _ _ _ none)).mono ?_
    rintro e w' ⟨rfl,rfl⟩
    exact done _ (hsame _ rfl fun _ => rfl) (Jj _) ⟨rfl,rfl,rfl⟩ (fun _ _ _ => rfl)
   ·have hT5:T = ρ.t 5:=by rw [h5]; exact Zu g5.kind
    subst hT5
    have hgs:w.drew.heap[g]? = some (.cells cur (ρ.t 5) fz):=g3
    simp only [Ty.size,Nat.mul_one] at g4 g6
    cases xs with
    | nil =>
     by_cases hc0:cap = 0
     ·subst hc0
      refine (Go.Proofs.string_walk0 L X b g off p cur fz w h2 g3).mono ?_
      rintro e w' ⟨rfl,hB⟩
      exact done _ ⟨hB.size,fun b' o ho => by
        have hb':b' < w.heap.size:=by
         rcases VN b' w.heap.size with h' | h'
         ·exact h'
         ·have:=hlz b' h'; omega
        simp [World.cell?,hB.block b' hb'],fun _ _ h => h,fun b' T hT => by
        have hb':b' < w.heap.size:=by
         rcases VN b' w.heap.size with h' | h'
         ·exact h'
         ·simp [ZS,VW h'] at hT
        simpa [ZS,hB.block b' hb'] using hT⟩ hB.size ⟨hB.os,hB.tape,hB.output⟩ (fun b' hb' _ => hB.block b' hb')
     ·refine (Go.Proofs.string_walk L X b p (.slice (some ⟨g,off,none⟩) 0 cap) (.pointer (some ⟨g,off,none⟩)) 0 .empty w w.drew c1 ⟨_,_,rfl⟩ c1 (Lib.run_unsafeSliceData_row w.drew _ _ _ _ _ hc0) rfl _ (Lib.run_unsafeString_none w.drew _ _ _ _)).mono ?_
      rintro e w' ⟨rfl,rfl⟩
      exact done _ (hsame _ rfl fun _ => rfl) (Jj _) ⟨rfl,rfl,rfl⟩ (fun _ _ _ => rfl)
    | cons n0 xs =>
     generalize hl:(n0 :: xs) = l at *
     have hl0:l ≠ []:=by rw [← hl]; simp
     have hlen:(l.map fun n => UF n.toNat).length = l.length:=by simp
     have hrun:=Go.Proofs.run_unsafeString_off (P:=P) w.drew (ρ.t 127) (ρ.t 3) (ρ.t 9) (ρ.t 5) L.t127 X.cellsByte g off cur.size (by simp [World.shape?,hgs]) (l.map fun n => UF n.toNat) (by simpa using hl0) (by rw [hlen]; omega)
      (by rw [hlen]; omega) (fun j x hj => by
       simp only [List.getElem?_map,Option.map_eq_some_iff] at hj
       obtain ⟨n,hn,rfl⟩:=hj
       have hjl:j < l.length:=(Up.1 hn).1
       have h1:=g6 j hjl
       simp only [Rt] at h1
       have h2':l[j] = n:=(Up.1 hn).2
       have h3':cur.toList[off + j]? = some (.int .u8 n):=by
        have:((cur.toList.drop (off + j)).take 1)[0]? = some (.int .u8 l[j]):=by rw [h1]; rfl
        rw [h2'] at this
        simpa [Jy,Jo] using this
       have hbn:=hby n (by rw [← h2']; exact UJ _)
       have hnn:((UF n.toNat).toNat:Int) = n:=by
        have:n.toNat < 256:=by omega
        rw [UInt8.toNat_ofNat_of_lt' this]
        omega
       rw [hnn]
       have ha:(⟨g,off,none⟩:Addr).add j = ⟨g,off + j,none⟩:=by
        unfold Addr.add
        split
        ·rename_i h; subst h; rfl
        ·rfl
       rw [ha,Lib.cell_of_heap hgs]
       simpa using h3')
     rw [hlen] at hrun
     refine (Go.Proofs.string_walk L X b p (.slice (some ⟨g,off,none⟩) l.length cap) (.pointer (some ⟨g,off,none⟩)) l.length (bytesOf l) w w.drew c1 ⟨_,_,rfl⟩ c1
      (Lib.run_unsafeSliceData_row w.drew _ _ _ _ _ (by have:=List.length_pos_iff.2 hl0; omega)) rfl _ hrun).mono ?_
     rintro e w' ⟨rfl,rfl⟩
     have hne:l.length ≠ 0:=by simpa using hl0
     have hfz:∃ fz',(w.drew.freeze ⟨g,off,none⟩ l.length).heap = w.heap.modify g (fun _ => .cells cur (ρ.t 5) fz'):=by
      refine ⟨(if fz.1 == fz.2 then (off,off + l.length) else (min fz.1 off,max fz.2 (off + l.length))),?_⟩
      unfold World.freeze
      rw [if_neg hne]
      apply Array.ext_getElem?
      intro i
      simp only [World.drew,UD]
      by_cases hi:g = i
      ·subst hi
       simp only [if_true,g3,VD]
      ·simp [hi]
     obtain ⟨fz',hfz⟩:=hfz
     have hold:∀ k,k ≠ g → (w.drew.freeze ⟨g,off,none⟩ l.length).heap[k]? = w.heap[k]? := by
      intro k hk
      rw [hfz,UD,if_neg (fun e => hk e.symm)]
     have hnew:(w.drew.freeze ⟨g,off,none⟩ l.length).heap[g]? = some (.cells cur (ρ.t 5) fz'):=by
      rw [hfz,UD,if_pos rfl,g3]; rfl
     have hsz:(w.drew.freeze ⟨g,off,none⟩ l.length).heap.size = w.heap.size:=by rw [hfz]; simp
     refine done _ ⟨by omega,fun b' o ho => ?_,fun _ _ h => h,fun b' T hT => ?_⟩ (by omega) ?_ (fun b' hb' hn => hold b' (fun e => hn (by simp [e])))
     ·by_cases e:b' = g
      ·subst e; simp [World.cell?,hnew,g3]
      ·simp [World.cell?,hold b' e]
     ·by_cases e:b' = g
      ·subst e
       simp only [ZS,g3] at hT
       simpa [ZS,hnew] using hT
      ·simpa [ZS,hold b' e] using hT
     ·unfold World.freeze
      rw [if_neg hne]
      exact ⟨rfl,rfl,rfl⟩
end Go.Sh
