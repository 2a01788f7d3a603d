/-
  What the row needs, part 11.
-/
import Derived.Test.YtgbhjfacjekhcaaGreatDoorXStreamBack10
import Derived.ChangeArms
import Derived.ChangeShapes
import Derived.WideShapes
import Derived.ReadAgain
import Derived.Below
import Derived.ChangeSame
import Derived.RowKit
set_option linter.unusedSimpArgs false
set_option linter.unusedVariables false
set_option linter.unusedSectionVars false
namespace Go.Sh
open Go Go.RowKit Go.WideShapes Go.ChangeShapes
def ZBY (P:Program) (g:TypeId → Ty → Bool):Nat → List Field → Ty → Bool
 | _,[],.unit => true
 | off,f :: l,.pair a b => Nat.beq f.offset off && g f.type a && Nat.beq (P.cellsOf f.type) a.size && ZBY P g (off + a.size) l b
 | _,_,_ => false
def Zfe (P:Program):Nat → TypeId → Ty → Bool
 | 0,_,_ => false
 | n + 1,T,t => match P.underlying T,t with
  | some .bool,.bool => true
  | some (.int k),.int k' => decide (k = k')
  | some .string,.str => true
  | some (.slice e),.sl t => Zfe P n e t && Nat.beq (P.cellsOf e) t.size && Nat.ble 1 t.size
  | some (.struct fs),.pair a b => ZBY P (Zfe P n) 0 fs.toList (.pair a b) && Nat.beq (P.cellsOf T) (Ty.size (.pair a b))
  | some (.struct fs),.unit => ZBY P (Zfe P n) 0 fs.toList .unit && Nat.beq (P.cellsOf T) 0
  | _,_ => false
def Ty.bulk:(t:Ty) → t.den → Nat
 | .str,s => s.size + 1
 | .sl t,xs => (xs.map t.bulk).sum + 1
 | .pair a b,x => a.bulk x.1 + b.bulk x.2
 | .unit,_ => 0
 | .bool,_ => 1
 | .int _,_ => 1
 | .fl _,_ => 1
 | .cx _,_ => 1
 | .raw,_ => 1
def Ty.ok:(t:Ty) → t.den → Prop
 | .int k,n => k.min ≤ n ∧ n ≤ k.max
 | .sl t,xs => ∀ x ∈ xs,t.ok x
 | .pair a b,x => a.ok x.1 ∧ b.ok x.2
 | .bool,_ => True
 | .str,_ => True
 | .fl _,_ => True
 | .cx _,_ => True
 | .raw,_ => True
 | .unit,_ => True
mutual
def bulkD {H:Type}:DataW H → Nat
 | .lit (.string bytes) => bytes.length + 1
 | .lit _ => 1
 | .nil => 1
 | .ptr d => bulkD d + 1
 | .slice elems spare => bulkDs elems + bulkDs spare + 1
 | .agg parts => bulkDs parts + 1
 | .iface _ d => bulkD d + 1
 | .map entries => bulkEs entries + 1
 | .held _ => 1
def bulkDs {H:Type}:List (DataW H) → Nat
 | [] => 0
 | d :: r => bulkD d + bulkDs r
def bulkEs {H:Type}:List (Lit × DataW H) → Nat
 | [] => 0
 | x :: r => bulkE x + bulkEs r
def bulkE {H:Type}:Lit × DataW H → Nat
 | (.string bytes,d) => bytes.length + bulkD d + 1
 | (_,d) => bulkD d + 1
end
def whole (w:World) (b:Nat):Nat:=match w.heap[b]? with
 | some (.cells c _ _) => c.size
 | _ => 0
theorem ZCZ {w:World} {b o:Nat} {v:Value} (h:w.cell? ⟨b,o,none⟩ = some v):o < whole w b:=by
 unfold World.cell? at h
 unfold whole
 split at h
 ·rename_i c _ _ hb
  simp only at hb
  rw [hb]
  simp only [Option.isSome_none,Bool.false_eq_true,if_false] at h
  exact (Array.getElem?_eq_some_iff.1 h).1
 ·cases h
theorem ZQB (w:World):∀ b,w.heap.size ≤ b → whole w b = 0:=by
 intro b hb
 unfold whole
 rw [Array.getElem?_eq_none hb]
theorem cells?_at {w:World} {base n:Nat} {a:Addr} {cs:List Value} (h:w.cells? base a n = some cs):cs.length = n ∧ ∀ i v,cs[i]? = some v → w.cell? (a.add i) = some v:=by
 unfold World.cells? at h
 split at h
 ·have hl:=mapM_some_length h
  simp only [List.length_range] at hl
  refine ⟨hl,fun i v hi => ?_⟩
  have hlt:i < n:=by have:=(List.getElem?_eq_some_iff.1 hi).1; omega
  have:=mapM_some_get h i i (by simp [hlt])
  rw [this,hi]
 ·cases h
section
variable {H:Type} {enc:TypeId × Value → H} {P:Program} {w:World} {base:Nat} {spare:Nat → Bool} {held:Bool}
theorem ZwO {n n':Nat} (ih:∀ (T:TypeId) (t:Ty) (cs:List Value) (x:DataW H × List MemPlace),Zfe P n T t = true → DataW.trod enc P w base spare held n' T cs = some x → ∃ y,Rt w (whole w) t y cs ∧ t.ok y ∧ t.bulk y ≤ bulkD x.1) :
  ∀ (l:List Field) (t:Ty) (off:Nat) (cs:List Value) (xs:List (DataW H × List MemPlace)),ZBY P (Zfe P n) off l t = true → cs.length = off + t.size →
   (∀ (i:Nat) (f:Field),l[i]? = some f → DataW.trod enc P w base spare held n' f.type ((cs.drop f.offset).take (P.cellsOf f.type)) = xs[i]?) → xs.length = l.length →
   ∃ y,Rt w (whole w) t y (cs.drop off) ∧ t.ok y ∧ t.bulk y ≤ bulkDs (xs.map (·.1))
 | [],t,off,cs,xs,h,hl,hx,hn => by
  match t,h with
  | .unit,h =>
   refine ⟨(),?_,trivial,Nat.zero_le _⟩
   simp only [Rt,List.drop_eq_nil_iff]
   simp [Ty.size] at hl; omega
 | f :: l,t,off,cs,xs,h,hl,hx,hn => by
  match t,h with
  | .pair a b,h =>
   simp only [ZBY,Bool.and_eq_true] at h
   obtain ⟨⟨⟨h1,h2⟩,h3⟩,h4⟩:=h
   match xs,hn with
   | x :: xs,hn =>
    have h0:=hx 0 f rfl
    rw [Qc h1,Qc h3] at h0
    simp only [List.getElem?_cons_zero] at h0
    obtain ⟨y,e1,e2,e3⟩:=ih f.type a _ x h2 h0
    simp only [Ty.size] at hl
    obtain ⟨z,g1,g2,g3⟩:=ZwO ih l b (off + a.size) cs xs h4 (by omega) (fun i f' hf' => by simpa using hx (i + 1) f' (by simpa using hf')) (by simpa using hn)
    refine ⟨(y,z),?_,⟨e2,g2⟩,?_⟩
    ·simp only [Rt]
     refine ⟨_,_,?_,e1,g1⟩
     rw [← List.drop_drop,List.take_append_drop]
    ·simp only [Ty.bulk,List.map_cons,bulkDs]; omega
theorem ZjG:∀ (n m:Nat) (T:TypeId) (t:Ty) (cs:List Value) (x:DataW H × List MemPlace),Zfe P m T t = true → DataW.trod enc P w base spare held n T cs = some x →
  ∃ y,Rt w (whole w) t y cs ∧ t.ok y ∧ t.bulk y ≤ bulkD x.1
 | 0,_,_,_,_,_,_,h => by simp [DataW.trod] at h
 | n + 1,0,_,_,_,_,hf,_ => by simp [Zfe] at hf
 | n + 1,m + 1,T,t,cs,x,hf,h => by
  unfold Zfe at hf
  split at hf
  ·rename_i hu
   obtain ⟨b,rfl,rfl⟩:=DataW.trod_bool hu h
   exact ⟨b,rfl,trivial,Nat.le_refl _⟩
  ·rename_i k k' hu
   obtain rfl:k = k':=of_decide_eq_true hf
   obtain ⟨v,rfl,rfl,hw⟩:=DataW.trod_int hu h
   refine ⟨v,rfl,?_,Nat.le_refl _⟩
   simpa [Ty.ok,Lit.wf] using hw
  ·rename_i hu
   obtain ⟨s,rfl,rfl,_⟩:=DataW.trod_string hu h
   refine ⟨s,rfl,trivial,?_⟩
   simp only [Ty.bulk,bulkD,Array.length_toList]
   exact Nat.le_refl _
  ·rename_i e t hu
   simp only [Bool.and_eq_true] at hf
   obtain ⟨⟨hf,hsz⟩,hpos⟩:=hf
   have hsz:=Qc hsz
   have hpos:1 ≤ t.size:=Nat.le_of_ble_eq_true hpos
   rcases DataW.trod_slice hu h with ⟨rfl,rfl⟩ | ⟨a,len,cap,elems,rest,n',hn',rfl,rfl,hb,hlc,_,hlen,hel,_⟩
   ·refine ⟨[],?_,(by simp [Ty.ok]:Ty.ok (.sl t) []),(by simp [Ty.bulk,bulkD])⟩
    simp only [Rt]
    exact ⟨none,0,0,rfl,rfl,Nat.le_refl _,.inl trivial⟩
   ·obtain rfl:n' = n:=by omega
    have each:∀ i (hi:i < elems.length),∃ cs',w.cells? base (a.add (i * P.cellsOf e)) (P.cellsOf e) = some cs' ∧ ∃ y,Rt w (whole w) t y cs' ∧ t.ok y ∧ t.bulk y ≤ bulkD elems[i].1:=by
     intro i hi
     have h1:=hel i (by omega)
     rw [List.getElem?_eq_getElem hi] at h1
     obtain ⟨cs',h2,h3⟩:=Option.bind_eq_some_iff.1 h1
     exact ⟨cs',h2,ZjG n' m e t cs' _ hf h3⟩
    -- the list
    have all:∀ (l:List (DataW H × List MemPlace)),(∀ i (hi:i < l.length),∃ y,(∃ cs',w.cells? base (a.add ((elems.length - l.length + i) * P.cellsOf e)) (P.cellsOf e) = some cs' ∧ Rt w (whole w) t y cs') ∧ t.ok y ∧ t.bulk y ≤ bulkD l[i].1) →
      l.length ≤ elems.length → ∃ ys:List t.den,ys.length = l.length ∧ (∀ y ∈ ys,t.ok y) ∧ (ys.map t.bulk).sum ≤ bulkDs (l.map (·.1)) ∧
       ∀ i (hi:i < ys.length),∃ cs',w.cells? base (a.add ((elems.length - l.length + i) * P.cellsOf e)) (P.cellsOf e) = some cs' ∧ Rt w (whole w) t ys[i] cs':=by
     intro l
     induction l with
     | nil => intro _ _; exact ⟨[],rfl,by simp,by simp [bulkDs],fun i hi => by simp at hi⟩
     | cons p l ih =>
      intro hp hle
      simp only [List.length_cons] at hle
      obtain ⟨y,⟨cs',c1,c2⟩,y1,y2⟩:=hp 0 (by simp)
      obtain ⟨ys,k1,k2,k3,k4⟩:=ih (fun i hi => by
       obtain ⟨y,⟨cs',c1,c2⟩,y1,y2⟩:=hp (i + 1) (by simpa using hi)
       refine ⟨y,⟨cs',?_,c2⟩,y1,by simpa using y2⟩
       rw [← c1]; congr 3; simp only [List.length_cons]; omega) (by omega)
      refine ⟨y :: ys,by simp [k1],?_,?_,?_⟩
      ·intro z hz
       rcases List.mem_cons.1 hz with rfl | hz
       ·exact y1
       ·exact k2 z hz
      ·simp only [List.map_cons,List.sum_cons,bulkDs]
       simp only [List.getElem_cons_zero] at y2
       omega
      ·intro i hi
       cases i with
       | zero => exact ⟨cs',c1,c2⟩
       | succ i =>
        obtain ⟨cs'',d1,d2⟩:=k4 i (by simpa using hi)
        refine ⟨cs'',?_,by simpa using d2⟩
        rw [← d1]; congr 3; simp only [List.length_cons]; omega
    obtain ⟨ys,k1,k2,k3,k4⟩:=all elems (fun i hi => by
     obtain ⟨cs',c1,y,c2,c3,c4⟩:=each i hi
     exact ⟨y,⟨cs',by simpa using c1,c2⟩,c3,c4⟩) (Nat.le_refl _)
    simp only [Nat.sub_self,Nat.zero_add] at k4
    refine ⟨ys,?_,k2,?_⟩
    ·simp only [Rt]
     refine ⟨some a,len,cap,rfl,by omega,hlc,?_⟩
     by_cases hnil:ys = []
     ·exact .inl hnil
     ·right
      have h0:0 < ys.length:=List.length_pos_iff.2 hnil
      obtain ⟨c0,z1,z2⟩:=k4 0 h0
      obtain ⟨zl,zc⟩:=cells?_at z1
      obtain ⟨v0,hv0⟩:∃ v0,c0[0]? = some v0:=⟨c0[0]'(by omega),List.getElem?_eq_getElem _⟩
      have hs:=zc 0 v0 hv0
      simp only [Nat.zero_mul,Addr.add,if_true] at hs
      obtain ⟨b,off,spot⟩:=a
      have hspot:spot = none:=by
       cases spot with
       | none => rfl
       | some s =>
        unfold World.cell? at hs
        split at hs
        ·simp at hs
        ·cases hs
      subst hspot
      refine ⟨b,off,rfl,fun i hi => ?_⟩
      obtain ⟨cs',d1,d2⟩:=k4 i hi
      refine ⟨cs',d2,fun j v hj => ?_⟩
      obtain ⟨_,zc⟩:=cells?_at d1
      have hc:=zc j v hj
      have e:((⟨b,off,none⟩:Addr).add (i * P.cellsOf e)).add j = ⟨b,off + i * t.size + j,none⟩:=by
       rw [hsz]
       unfold Addr.add
       split <;> split <;> simp_all <;> omega
      rw [e] at hc
      exact ⟨hc,ZCZ hc⟩
    ·simp only [Ty.bulk,bulkD]
     omega
  ·rename_i fs a b hu
   simp only [Bool.and_eq_true] at hf
   obtain ⟨hf,hsz⟩:=hf
   obtain ⟨xs,n',hn',rfl,hl,hxs,hget⟩:=DataW.trod_struct hu h
   obtain rfl:n' = n:=by omega
   obtain ⟨y,e1,e2,e3⟩:=ZwO (n:=m) (n':=n') (fun T t cs x h1 h2 => ZjG n' m T t cs x h1 h2) fs.toList (.pair a b) 0 cs xs hf (by rw [hl,Qc hsz]; omega) (fun i f hi => hget i f (by simpa using hi)) (by simpa using hxs)
   exact ⟨y,by simpa using e1,e2,by simp only [bulkD]; omega⟩
  ·rename_i fs hu
   simp only [Bool.and_eq_true] at hf
   obtain ⟨hf,hsz⟩:=hf
   obtain ⟨xs,n',hn',rfl,hl,hxs,hget⟩:=DataW.trod_struct hu h
   refine ⟨(),?_,trivial,Nat.zero_le _⟩
   simp only [Rt]
   rw [Qc hsz] at hl
   exact List.length_eq_zero_iff.1 hl
  ·cases hf
end
end Go.Sh
namespace Go.Sh
open Go Go.RowKit Go.WideShapes Go.ChangeShapes
def Xp (tys:List Ty):List Kd:=tys.map .view
def ZHF:(tys:List Ty) → Kd.dens (Xp tys) → Prop
 | [],_ => True
 | t :: l,x => t.ok x.1 ∧ ZHF l x.2
def ZjU:(tys:List Ty) → Kd.dens (Xp tys) → Nat
 | [],_ => 0
 | t :: l,x => t.bulk x.1 + ZjU l x.2
def ZcR (P:Program):List TypeId → List Ty → Bool
 | [],[] => true
 | T :: Ts,t :: ts => Zfe P 16 T t && ZcR P Ts ts
 | _,_ => false
section
variable {H:Type} {enc:TypeId × Value → H} {P:Program} {w:World} {base:Nat} {spare:Nat → Bool} {held:Bool}
theorem Zb8 {v:Value} (h:∀ cs,v ≠ .agg cs):v.cells = #[v]:=by
 cases v <;> first | rfl | (exact absurd rfl (h _))
theorem ZzT {b0 n:Nat} {r:Reach} {T:TypeId} {t:Ty} {v:Value} {d:DataW H} {ps:List MemPlace} (hval:Value.okWide P w r b0 T v) (h:DataW.Trod enc P w base spare held T v d ps) (hf:Zfe P n T t = true) :
  ∃ y,ZmI w (whole w) t y v ∧ t.ok y ∧ t.bulk y ≤ bulkD d:=by
 obtain ⟨m,hm⟩:=h
 obtain ⟨y,h1,h2,h3⟩:=ZjG m n T t _ _ hf hm
 refine ⟨y,⟨_,h1,?_⟩,h2,h3⟩
 cases n with
 | zero => simp [Zfe] at hf
 | succ n =>
  unfold Value.okWide at hval
  unfold Zfe at hf
  split at hf <;> rename_i hu <;> try (cases hf; done)
  all_goals
   rw [hu] at hval
   simp only at hval
  ·refine .inr ⟨rfl,?_⟩
   rw [Zb8]; rintro cs rfl; simp [Cell.okWide,Cell.ok,hu] at hval
  ·refine .inr ⟨rfl,?_⟩
   rw [Zb8]; rintro cs rfl; simp [Cell.okWide,Cell.ok,hu] at hval
  ·refine .inr ⟨rfl,?_⟩
   rw [Zb8]; rintro cs rfl; simp [Cell.okWide,Cell.ok,hu] at hval
  ·refine .inr ⟨rfl,?_⟩
   rw [Zb8]; rintro cs rfl; simp [Cell.okWide,Cell.ok,hu] at hval
  ·obtain ⟨cs,rfl,_⟩:=hval
   exact .inl ⟨rfl,rfl⟩
  ·obtain ⟨cs,rfl,_⟩:=hval
   exact .inl ⟨rfl,rfl⟩
theorem ZgZ {b0:Nat} {r:Reach}:∀ {Ts:List TypeId} {tys:List Ty} {vs:List Value} {ds:List (DataW H)} {ps:List MemPlace},ZcR P Ts tys = true →
  (∀ (j:Nat) t v,Ts[j]? = some t → vs[j]? = some v → Value.okWide P w r b0 t v) → DataW.TrodAll enc P w base spare held Ts vs ds ps →
  ∃ x:Kd.dens (Xp tys),TTs w (whole w) (WC (Xp tys) x) vs [] ∧ ZHF tys x ∧ ZjU tys x ≤ bulkDs ds
 | [],[],vs,ds,ps,_,_,h => by
  obtain ⟨rfl,rfl,rfl⟩:=trodAll_nil h
  exact ⟨(),rfl,trivial,Nat.le_refl _⟩
 | T :: Ts,t :: tys,vs,ds,ps,hf,hval,h => by
  simp only [ZcR,Bool.and_eq_true] at hf
  obtain ⟨v,vs',d,ds',p,q,rfl,rfl,rfl,h1,h2⟩:=trodAll_cons h
  obtain ⟨y,e1,e2,e3⟩:=ZzT (hval 0 T v rfl rfl) h1 hf.1
  obtain ⟨x,g1,g2,g3⟩:=ZgZ hf.2 (fun j t v ht hv => hval (j + 1) t v (by simpa using ht) (by simpa using hv)) h2
  refine ⟨(y,x),?_,⟨e2,g2⟩,?_⟩
  ·exact ⟨[],[],rfl,⟨e1,rfl⟩,g1⟩
  ·simp only [ZjU,bulkDs]; omega
 | [],_ :: _,_,_,_,hf,_,_ => by simp [ZcR] at hf
 | _ :: _,[],_,_,_,hf,_,_ => by simp [ZcR] at hf
end
section
variable {H:Type} {enc:TypeId × Value → H} {P:Program}
theorem ZtH {f:Func} {s:ChangeSpec} {apart fresh handsOn again:Bool} {W W':World} {args:Array Value} {v:Value} {ds gs:List (DataW H)} {before pa pv:List MemPlace}
  (hW:DataW.Whole enc P f.params.toList s.vars apart W args.toList ds gs before)
  (hres:∀ (b:Nat) (sp:Nat → Bool) (hd:Bool),DataW.TrodAll enc P W' b sp hd f.resultTypes.toList (v.resultList f.resultTypes.size) (s.fn H (ds ++ gs)).results [])
  (hargs:∀ sp:Nat → Bool,(∀ p ∈ before,sp p.block = true) → DataW.TrodAll enc P W' 0 sp true f.params.toList args.toList (s.fn H (ds ++ gs)).args pa)
  (hvars:∀ sp:Nat → Bool,(∀ p ∈ before,sp p.block = true) → DataW.TrodVars enc P W' sp s.vars (s.fn H (ds ++ gs)).vars pv)
  (hps:before = pa ++ pv) (hb:Below W.heap.size W W')
  (hok:∀ (j:Nat) (t:TypeId) (r:Value),f.resultTypes[j]? = some t → (v.resultList f.resultTypes.size)[j]? = some r → Value.okWide P W' .any 0 t r) :
  s.post enc P f apart fresh handsOn again W args v W':=by
 have hlt:∀ p ∈ before,p.block < W.heap.size:=fun p hp => hW.lt p hp
 have hold:∀ p ∈ before,(fun b => decide (b < W.heap.size)) p.block = true:=fun p hp => by simpa using hlt p hp
 refine ⟨ds,gs,before,[],pa,pv,hW,hres _ _ _,hargs _ hold,hvars _ hold,World.keptBut_mono (fun p hp => ⟨hp,?_⟩) (hb.frame (· ∈ before)),fun _ => ?_⟩
 ·rw [hps,List.mem_append] at hp
  exact Or.inr hp
 ·obtain ⟨_,_,_,_,_,hz,hn⟩:=hW
  refine ⟨hok,_,_,([] ++ pa) ++ pv,⟨[] ++ pa,pv,trodAll_append (hargs _ (fun _ _ => rfl)) (hres _ _ _),hvars _ (fun _ _ => rfl),rfl,?_,?_⟩,?_⟩
  ·intro b off hp
   have hin:MemPlace.cell b off ∈ before:=by rw [hps]; simpa using hp
   rw [hb.frozen (hlt _ hin)]
   exact hz b off hin
  ·intro ha
   have:=hn ha
   rw [hps] at this
   simpa using this
  ·intro p hp _
   rw [hps]
   simpa using hp
theorem ZiR {w w':World} {base:Nat} {spare:Nat → Bool} {held:Bool}:∀ {ts:List TypeId} {vs:List Value} {ds:List (DataW H)} {ps:List MemPlace},
  DataW.TrodAll enc P w base spare held ts vs ds ps → (∀ p ∈ ps,w.sameAt w' p) → DataW.TrodAll enc P w' base spare held ts vs ds ps
 | [],[],[],_,h,_ => h
 | _ :: _,_ :: _,_ :: _,_,⟨p,q,⟨n,h1⟩,h2,e⟩,hs => ⟨p,q,⟨n,DataW.trod_carry n _ _ _ h1 (fun x hx => hs x (by rw [e]; exact List.mem_append_left _ hx))⟩,
   ZiR h2 (fun x hx => hs x (by rw [e]; exact List.mem_append_right _ hx)),e⟩
variable [Gl]
theorem law_contract {K:FuncId} {fn:Func} {spec:ChangeSpec} {B:TypeId} (tys:List Ty) {F:Nat → Kd.dens (Xp tys) → Option (Ans (Xp tys) (.view .bool))} {bound:Nat}
  (hl:laidOutB P = true) (hm:mapsRowed P = true) (hz:((List.range P.types.size).all fun t => match P.underlying t with | some (.slice e) => decide (0 < P.cellsOf e) | _ => true) = true)
  (hts:fn.params.toList.all (fun t => decide (t < P.types.size)) = true) (hfit:ZcR P fn.params.toList tys = true) (hres:fn.resultTypes = #[B]) (hB:P.underlying B = some .bool)
  (hvars:spec.vars = []) (hspec:∀ (H:Type) (ds:List (DataW H)),ds.length = tys.length → spec.fn H ds = { results:=[.lit (.bool true)],args:=ds })
  (hctr:∀ k,Ctr P k K (mk (Xp tys) (.view .bool) F)) (plain:∀ x:Kd.dens (Xp tys),ZHF tys x → ZjU tys x ≤ bound → ∃ k u,F k x = some (true,u))
  (enc:TypeId × Value → H) (W:World) (b0:Nat) (args:Array Value) (ds gs:List (DataW H)) (before:List MemPlace)
  (hval:∀ (j:Nat) t v,fn.params[j]? = some t → args[j]? = some v → Value.okWide P W .any b0 t v)
  (hW:DataW.Whole enc P fn.params.toList spec.vars false W args.toList ds gs before) (hk:bulkDs (ds ++ gs) ≤ bound) (hgl:Zw2 W (whole W)) :
  Calls P K args W fun e W' => ∃ v,e = .returned v ∧ spec.post enc P fn false true false false W args v W':=by
 have hW':=hW
 obtain ⟨p,q,hA,hV,he,hfz,hnd⟩:=hW
 rw [hvars] at hV
 have hgs:gs = [] ∧ q = []:=by
  match gs,hV with
  | [],hV => exact ⟨rfl,hV⟩
  | _ :: _,hV => exact hV.elim
 obtain ⟨rfl,rfl⟩:=hgs
 simp only [List.append_nil] at he hk
 obtain rfl:p = before:=he.symm
 obtain ⟨x,h1,h2,h3⟩:=ZgZ (tys:=tys) hfit (fun j t v ht hv => hval j t v (by simpa using ht) (by simpa using hv)) hA
 obtain ⟨k,u,hF⟩:=plain x h2 (by omega)
 have hlen:ds.length = tys.length:=by
  have e1:∀ {Ts:List TypeId} {tys:List Ty} {vs:List Value} {ds:List (DataW H)} {ps:List MemPlace},ZcR P Ts tys = true → DataW.TrodAll enc P W 0 (fun _ => true) true Ts vs ds ps → ds.length = tys.length:=by
   intro Ts
   induction Ts with
   | nil =>
    intro tys vs ds ps hf h
    obtain ⟨rfl,rfl,rfl⟩:=trodAll_nil h
    cases tys with
    | nil => rfl
    | cons => simp [ZcR] at hf
   | cons T Ts ih =>
    intro tys vs ds ps hf h
    obtain ⟨v,vs',d,ds',p,q,rfl,rfl,rfl,h1,h2⟩:=trodAll_cons h
    cases tys with
    | nil => simp [ZcR] at hf
    | cons t tys =>
     simp only [ZcR,Bool.and_eq_true] at hf
     simp [ih hf.2 h2]
  exact e1 hfit hA
 have hcall:=(hctr k).calls (WC (Xp tys) x) (true,u) (by
  have hd:Zec (Xp tys) (WC (Xp tys) x) = some x:=by
   have e2:∀ (l:List Ty) (x:Kd.dens (Xp l)),Zec (Xp l) (WC (Xp l) x) = some x:=by
    intro l
    induction l with
    | nil => intro x; rfl
    | cons t l ih =>
     intro x
     obtain ⟨y,ys⟩:=x
     show ((ZmP t (.view t y)).bind fun y => (Zec (Xp l) (WC (Xp l) ys)).bind fun ys => some (y,ys)) = _
     rw [ih ys]
     simp only [ZmP,dite_true]
     rfl
   exact e2 tys x
  show (Zec (Xp tys) (WC (Xp tys) x)).bind (F k) = some (true,u)
  rw [hd]; exact hF) W (whole W) args.toList [] (ZQB W) hgl h1 List.nodup_nil (by simp)
 rw [Array.toArray_toList] at hcall
 refine hcall.mono fun e W' h => ?_
 obtain ⟨v,lim',b1,b2,rfl,hE,_,⟨ho,ht,hout⟩,hold,hT,_⟩:=h
 have hv:v = .bool true:=by
  have hT:ZmI W' lim' .bool true v ∧ b1 = []:=hT
  obtain ⟨⟨cs,c1,c2⟩,_⟩:=hT
  rcases c2 with ⟨c2,_⟩ | ⟨_,c2⟩
  ·cases c2
  ·simp only [Rt] at c1
   subst c2
   simpa using c1
 subst hv
 have hBel:Below W.heap.size W W':=⟨ho,ht,hout,hE.size,fun b hb => (hold b hb (by simp)).1⟩
 have hlt:∀ x ∈ p,x.block < W.heap.size:=fun x hx => hW'.lt x hx
 refine ⟨_,rfl,ZtH (pa:=p) (pv:=[]) hW' (fun b sp hd => ?_) (fun sp hsp => ?_) (fun sp hsp => ?_) (by simp) hBel ?_⟩
 ·rw [List.append_nil,hspec H ds hlen,hres]
  exact ⟨[],[],⟨1,by simp [DataW.trod,Value.cells,hB]⟩,rfl,rfl⟩
 ·rw [List.append_nil,hspec H ds hlen]
  refine ZiR (w:=W) (DataW.TrodAll.respare (kids_rows hl hm) (slices_full_of P hz) (fun t ht => ?_) hA hsp) (fun y hy => hBel.same (hlt y hy))
  simpa using List.all_eq_true.1 hts t ht
 ·rw [List.append_nil,hspec H ds hlen,hvars]
  rfl
 ·exact ok_one hres rfl (okWide_bool_mk hB true)
end
end Go.Sh
namespace Go.Sh
open Go Go.Proofs
section doc
variable {k:Nat} {c d r:Int} {tags:List ByteArray} {ch:List (List Int)} {n:Nat}
theorem ZEi (hk:16777216 ≤ k) (hS:Small tags ch):Zku k (((c,d,r,()),tags,ch,()),()) = some (((c,d,r,()),tags,ch,()),()):=by
 have htl:=hS.tl
 have hcl:=hS.cl
 show Zep k (Zkw k) (((c,d,r,()),tags,ch,()),()) = _
 simp only [Zep]
 rw [Zc (by omega),List.nil_append]
 have key:=QK (step:=fun L1 => Zbo k L1) (A:=Unit) (fun i _ => (Int.ofNat i,c,d,r,tags,ch,c,d,r,tags,ch.take i,(0:Int),(0:Int),(0:Int))) ch (fun _ _ => some (((c,d,r,()),tags,ch,()),()))
  (fun L a => by
   simp only [Zbo]
   rw [Zo (Yb _),List.take_length])
  (fun L i hi a hL => by
   simp only [Zbo]
   have hl:=hS.chan ch[i] (List.getElem_mem _)
   rw [Zc (ltR hi),Zc (YI hi),ZM hi,Zc (by omega),Zc (by rw [List.length_take]; simp; omega),Qr hi (by omega)]
   have e:ch.take i ++ [[] ++ ch[i]] = ch.take (i + 1):=by rw [List.take_succ_eq_append_getElem hi]; rfl
   rw [e]
   exact hL ()) k 0 () (by omega) (by omega)
 exact key
end doc
theorem ZPB:Zh5 20000000 () = some (true,()):=by kernel_rfl
end Go.Sh
namespace Go.Sh
open Go Go.Proofs
def Zb (n:Nat):Nat → List Bool
 | 0 => []
 | w + 1 => n.testBit w :: Zb n w
theorem Zi (n:Nat):∀ w,(Zb n w).length = w
 | 0 => rfl
 | w + 1 => by simp [Zb,Zi n w]
def Kx (f:Nat → Bool):Nat:=(f 0).toNat * 128 + (f 1).toNat * 64 + (f 2).toNat * 32 + (f 3).toNat * 16 + (f 4).toNat * 8 + (f 5).toNat * 4 + (f 6).toNat * 2 + (f 7).toNat
def Wp (bs:List Bool) (i:Nat):Nat:=Kx fun j => bs.getD (8 * i + j) false
def ZJ (bs:List Bool):List Int:=(List.range ((bs.length + 7) / 8)).map fun i => ((Wp bs i:Nat):Int)
theorem Z5 (bs:List Bool):(ZJ bs).length = (bs.length + 7) / 8:=by simp [ZJ]
theorem YA {bs:List Bool} {i:Nat} (h:i < (ZJ bs).length):(ZJ bs)[i] = ((Wp bs i:Nat):Int):=by simp [ZJ]
theorem ZAa (f:Nat → Bool):Kx f < 256:=by
 unfold Kx
 cases f 0 <;> cases f 1 <;> cases f 2 <;> cases f 3 <;> cases f 4 <;> cases f 5 <;> cases f 6 <;> cases f 7 <;> decide
abbrev K0 (bs:List Bool):List Int × Int × Unit:=(ZJ bs,(bs.length:Int),())
def orB (v:Int) (r:Nat) (x:Int):Int:=IntKind.u8.wrap (Int.ofNat (BitVec.ofInt 8 v ||| BitVec.ofInt 8 (IntKind.u8.wrap (IntKind.i64.wrap (x * (2:Int) ^ min (7 - r) 64)))).toNat)
theorem ZTY:∀ (r:Fin 8) (v:Fin 256) (c:Bool),v.val % 2 ^ (8 - r.val) = 0 → orB (v.val:Int) r.val (if c then 1 else 0) = ((v.val + c.toNat * 2 ^ (7 - r.val):Nat):Int):=by
 decide +kernel
theorem ZIa {f:Nat → Bool} {r:Nat} (hr:r < 8) (hf:∀ j,r ≤ j → f j = false):Kx f % 2 ^ (8 - r) = 0:=by
 unfold Kx
 grind
theorem ZIb {f:Nat → Bool} {r:Nat} (hr:r < 8) (hf:f r = false) (c:Bool):Kx (fun j => if j = r then c else f j) = Kx f + c.toNat * 2 ^ (7 - r):=by
 unfold Kx
 grind
theorem ZqH {bs:List Bool} (c:Bool) {i:Nat} (h:8 * i + 8 ≤ bs.length):Wp (bs ++ [c]) i = Wp bs i:=by
 unfold Wp Kx
 grind
theorem ZqG {bs:List Bool} (c:Bool) {i r:Nat} (hr:r < 8) (h:bs.length = 8 * i + r):Wp (bs ++ [c]) i = Wp bs i + c.toNat * 2 ^ (7 - r):=by
 have h2:(bs.getD (8 * i + r) false) = false:=by simp_all
 unfold Wp
 rw [← ZIb (f:=fun j => bs.getD (8 * i + j) false) hr h2 c]
 grind
theorem ZDx {bs:List Bool} {i r:Nat} (hr:r < 8) (h:bs.length = 8 * i + r):Wp bs i % 2 ^ (8 - r) = 0:=by
 refine ZIa hr fun j hj => ?_
 simp_all
theorem ZwX (n:Nat):((n:Int)).tdiv 8 = ((n / 8:Nat):Int):=by rfl
theorem ZUW (n:Nat):((n:Int)).tmod 8 = ((n % 8:Nat):Int):=by rfl
theorem Zuz {bs:List Bool} (c:Bool) {q r:Nat} (hr:r < 8) (h0:r ≠ 0) (h:bs.length = 8 * q + r) :
  ZJ (bs ++ [c]) = (ZJ bs).set q ((Wp bs q + c.toNat * 2 ^ (7 - r):Nat):Int):=by
 have hl1:(ZJ bs).length = q + 1:=by rw [Z5]; omega
 have hl2:(ZJ (bs ++ [c])).length = q + 1:=by rw [Z5,Q4,List.length_singleton]; omega
 apply List.ext_getElem
 ·rw [List.length_set,hl1,hl2]
 ·intro i h1 h2
  rw [YA,List.getElem_set]
  split
  ·rename_i e; subst e; rw [ZqG c hr h]
  ·rw [YA,ZqH c (by omega)]
theorem Zuy {bs:List Bool} (c:Bool) {q:Nat} (h:bs.length = 8 * q) :
  ZJ (bs ++ [c]) = (ZJ bs ++ [0]).set q ((c.toNat * 2 ^ 7:Nat):Int):=by
 have hl1:(ZJ bs).length = q:=by rw [Z5]; omega
 have hl2:(ZJ (bs ++ [c])).length = q + 1:=by rw [Z5,Q4,List.length_singleton]; omega
 have hz:Wp bs q = 0:=by
  unfold Wp Kx
  simp_all
 apply List.ext_getElem
 ·simp_all
 ·intro i h1 h2
  rw [YA,List.getElem_set]
  split
  ·rename_i e; subst e
   rw [ZqG c (r:=0) (by omega) (by omega),hz]; simp
  ·rw [List.getElem_append_left (by omega),YA,ZqH c (by omega)]
theorem Zm4 (k:Nat) (bs:List Bool) (hb:bs.length < 4294967296) (x:Int) (c:Bool) (hx:x = if c then 1 else 0):Zjb k (K0 bs,x,()) = some ((),K0 (bs ++ [c]),()):=by
 show Zha k _ = _
 obtain ⟨q,r,hr,hq⟩:∃ q r,r < 8 ∧ bs.length = 8 * q + r:=⟨bs.length / 8,bs.length % 8,Nat.mod_lt _ (by omega),by omega⟩
 have e1:IntKind.i64.wrap (((bs.length:Nat):Int).tdiv 8) = ((q:Nat):Int):=by rw [ZwX,Qe (by omega)]; omega
 have e2:((bs.length:Nat):Int).tmod 8 = ((r:Nat):Int):=by rw [ZUW]; omega
 have e3:IntKind.i64.wrap ((7:Int) - (r:Int)) = ((7 - r:Nat):Int):=by rw [Qe (by omega)]; omega
 have e4:IntKind.i64.wrap (((bs.length:Nat):Int) + 1) = (((bs ++ [c]).length:Nat):Int):=by rw [Qe (by omega),Q4]; simp
 have e5:∀ v:Nat,v < 256 → v % 2 ^ (8 - r) = 0 → IntKind.u8.wrap (Int.ofNat (BitVec.ofInt 8 (v:Int) ||| BitVec.ofInt 8 (IntKind.u8.wrap (IntKind.i64.wrap (x * (2:Int) ^ min ((7 - r:Nat):Int).toNat 64)))).toNat) = ((v + c.toNat * 2 ^ (7 - r):Nat):Int):=by
  intro v hv hm
  have:=ZTY ⟨r,hr⟩ ⟨v,hv⟩ c hm
  grind [orB,Xw]
 simp only [Zha,e1,e2,e3,Xw]
 by_cases h0:r = 0
 ·subst h0
  have hlen:(ZJ bs).length = q:=by rw [Z5]; omega
  rw [show ((((0:Nat):Int)) == (0:Int)) = true from rfl]
  simp only [cond_true]
  have hl:(ZJ bs ++ [(0:Int)]).length = q + 1:=by simp [hlen]
  rw [Zc (by rw [hlen]; omega),Zc (by grind),Zc (by omega),Zc (by omega),Zc (by grind),Zc (by omega)]
  have hg:(ZJ bs ++ [(0:Int)]).getD q (OfNat.ofNat 0) = ((0:Nat):Int):=by simp_all
  have h5:=e5 0 (by omega) (by simp)
  simp only [Xw] at h5
  rw [hg,h5,e4]
  show _ = some ((),(ZJ (bs ++ [c]),_,()),())
  rw [Zuy c (by omega)]
  simp
 ·rw [show ((((r:Nat):Int)) == (0:Int)) = false from by rw [ZU]; simp; omega]
  simp only [cond_false]
  have hlen:(ZJ bs).length = q + 1:=by rw [Z5]; omega
  rw [Zc (by grind),Zc (by omega),Zc (by omega),Zc (by grind),Zc (by omega)]
  have hg:(ZJ bs).getD q (OfNat.ofNat 0) = ((Wp bs q:Nat):Int):=by rw [List.getD_eq_getElem?_getD,List.getElem?_eq_getElem (by omega),YA]; rfl
  have h5:=e5 _ (ZAa _) (ZDx hr hq)
  simp only [Xw] at h5
  rw [hg]
  rw [show Kx (fun j => bs.getD (8 * q + j) false) = Wp bs q from rfl] at h5
  rw [h5,e4]
  show _ = some ((),(ZJ (bs ++ [c]),_,()),())
  rw [Zuz c hr h0 hq]
end Go.Sh
namespace Go.Sh
open Go Go.Proofs
theorem Zgs (n j:Nat):((n:Nat):Int).fdiv ((2:Int) ^ j) = ((n / 2 ^ j:Nat):Int):=by
 grind
theorem ZYW (n j:Nat) (hj:j < 64):IntKind.i64.wrap (IntKind.u64.wrap (Int.ofNat (BitVec.ofInt 64 (((n:Nat):Int).fdiv ((2:Int) ^ min (j:Int).toNat 64)) &&& BitVec.ofInt 64 1).toNat)) = if n.testBit j then 1 else 0:=by
 rw [Xw,Nat.min_eq_left (by omega),Zgs,BitVec.ofInt_natCast,show BitVec.ofInt 64 1 = 1#64 from rfl,BitVec.toNat_and,BitVec.toNat_ofNat]
 rw [show (1#64).toNat = 1 from rfl,Nat.and_one_is_mod,Nat.mod_mod_of_dvd _ (by decide:2 ∣ 2 ^ 64)]
 have h2:n.testBit j = decide (n / 2 ^ j % 2 = 1):=Nat.testBit_eq_decide_div_mod_eq
 rw [h2]
 have:n / 2 ^ j % 2 < 2:=Nat.mod_lt _ (by omega)
 generalize n / 2 ^ j % 2 = m at this ⊢
 match m,this with
 | 0,_ => rfl
 | 1,_ => rfl
theorem ZBF (k:Nat):∀ (w:Nat) (bs:List Bool) (n:Nat),w < k → w ≤ 64 → bs.length + w < 4294967296 →
  Zfd k (K0 bs,(n:Int),(w:Int),()) = some ((),K0 (bs ++ Zb n w),()):=by
 intro w bs n hk hw hb
 show ZlP k (ZyR k) _ = _
 simp only [ZlP]
 suffices H:∀ (w:Nat) (m:Nat) (bs:List Bool),w < m → w ≤ 64 → bs.length + w < 4294967296 →
   Zn (fun L1 => Zgi k L1) m (IntKind.i64.wrap ((w:Int) - 1),(n:Int),(bs.length:Int),ZJ bs) = some ((),K0 (bs ++ Zb n w),()) from H w k bs hk hw hb
 intro w
 induction w with
 | zero =>
  intro m bs hm _ _
  obtain ⟨m,rfl⟩:=ZE hm
  rw [Ze]
  rw [show IntKind.i64.wrap (((0:Nat):Int) - 1) = -1 from by rw [Qe (by omega)]; rfl]
  grind [Zgi,Zb]
 | succ w ih =>
  intro m bs hm hw hb
  obtain ⟨m,rfl⟩:=ZE (show 0 < m by omega)
  rw [Ze]
  have e1:IntKind.i64.wrap (((w + 1:Nat):Int) - 1) = (w:Int):=by rw [Qe (by omega)]; omega
  rw [e1]
  simp only [Zgi]
  rw [Zc (by omega)]
  simp only [Zc (show (0:Int) ≤ (w:Int) by omega)]
  rw [ZYW n w (by omega)]
  rw [show ((ZJ bs,((bs.length:Nat):Int),()):List Int × Int × Unit) = K0 bs from rfl,Zm4 k bs (by omega) _ (n.testBit w) rfl]
  grind [Zb]
theorem ZsT (k w:Nat) (h:w ≤ 32):ZsS k ((w:Int),()) = some (false,()):=by
 show ZlO k _ = _
 grind [ZlO]
theorem QV (k:Nat) (bs:List Bool) (n w:Nat) (hk:64 < k) (hw:w ≤ 32) (hn:n < 2 ^ w) (hb:bs.length + w < 4294967296) :
  ZQ k (K0 bs,(n:Int),(w:Int),()) = some (0,K0 (bs ++ Zb n w),()):=by
 show Zlv k _ = _
 have h32:n < 2 ^ 32:=Nat.lt_of_lt_of_le hn (Nat.pow_le_pow_right (by omega) hw)
 simp only [Zlv]
 rw [ZsT k w hw]
 simp only [Z3,cond_false]
 rw [Zo (by omega),Zc (by omega),Xw,Nat.min_eq_left (by omega),Zgs,Nat.div_eq_of_lt hn]
 rw [show ((((0:Nat):Int)) != (0:Int)) = false from rfl]
 simp only [cond_false]
 rw [show IntKind.u64.wrap (n:Int) = (n:Int) from by rw [IntKind.wrap_u64]; omega]
 rw [show ((ZJ bs,((bs.length:Nat):Int),()):List Int × Int × Unit) = K0 bs from rfl,ZBF k w bs n (by omega) (by omega) hb]
 rfl
def XG (n:Int) (w:Nat):Bool:=if w = 0 then n = 0 else -(2 ^ (w - 1):Int) ≤ n ∧ n < 2 ^ (w - 1)
def WN (n:Int) (w:Nat):List Bool:=Zb (n % 2 ^ w).toNat w
theorem ZqC (n v:Nat):∀ w,w ≤ v → Zb (n % 2 ^ v) w = Zb n w
 | 0,_ => rfl
 | w + 1,h => by
  simp only [Zb]
  rw [ZqC n v w (by omega),Nat.testBit_mod_two_pow]
  simp [show w < v by omega]
theorem Zbc (n:Int) (w:Nat):(WN n w).length = w:=Zi _ _
theorem ZoK (n:Int) (w v:Nat) (h:w ≤ v):(n % 2 ^ v).toNat % 2 ^ w = (n % 2 ^ w).toNat:=by
 have hv:(0:Int) < 2 ^ v:=Int.pow_pos (by omega)
 have hw:(0:Int) < 2 ^ w:=Int.pow_pos (by omega)
 have h1:0 ≤ n % 2 ^ v:=Int.emod_nonneg _ (by omega)
 have h2:0 ≤ n % 2 ^ w:=Int.emod_nonneg _ (by omega)
 have hd:((2:Int) ^ w) ∣ 2 ^ v:=⟨2 ^ (v - w),by rw [← Int.pow_add]; congr 1; omega⟩
 apply Int.ofNat.inj
 show (((n % 2 ^ v).toNat % 2 ^ w:Nat):Int) = ((n % 2 ^ w).toNat:Int)
 rw [Int.natCast_emod,Int.toNat_of_nonneg h1,Int.toNat_of_nonneg h2,Int.natCast_pow]
 exact Int.emod_emod_of_dvd n hd
theorem Zxd (n:Int) (w v:Nat) (h:w ≤ v):Zb (n % 2 ^ v).toNat w = WN n w:=by
 unfold WN
 rw [← ZoK n w v h,ZqC _ _ _ (Nat.le_refl w)]
theorem ZBV {n:Int} {w:Nat} (hw:0 < w) (h:XG n w = true):n.fdiv (2 ^ (w - 1)) = 0 ∨ n.fdiv (2 ^ (w - 1)) = -1:=by
 unfold XG at h
 rw [if_neg (by omega)] at h
 obtain ⟨h1,h2⟩:=of_decide_eq_true h
 have hp:(0:Int) < 2 ^ (w - 1):=Int.pow_pos (by omega)
 rw [Int.fdiv_eq_ediv_of_nonneg _ (by omega)]
 rcases Int.lt_or_le n 0 with hn | hn
 ·right
  rw [Int.ediv_eq_iff_of_pos hp]
  constructor <;> omega
 ·left
  exact Int.ediv_eq_zero_of_lt hn h2
theorem Zu1 (k:Nat) (bs:List Bool) (n:Int) (w:Nat) (hk:64 < k) (hw:w ≤ 32) (hn:XG n w = true) (hb:bs.length + w < 4294967296) :
  Zm7 k (K0 bs,n,(w:Int),()) = some (0,K0 (bs ++ WN n w),()):=by
 show Zhk k _ = _
 have hput:Zfd k ((ZJ bs,((bs.length:Nat):Int),()),IntKind.u64.wrap n,(w:Int),()) = some ((),K0 (bs ++ WN n w),()):=by
  rw [show IntKind.u64.wrap n = (((n % 2 ^ 64).toNat:Nat):Int) from by
   rw [IntKind.wrap_u64]
   omega]
  rw [show ((ZJ bs,((bs.length:Nat):Int),()):List Int × Int × Unit) = K0 bs from rfl,ZBF k w bs _ (by omega) (by omega) hb,Zxd n w 64 (by omega)]
 simp only [Zhk]
 rw [ZsT k w hw]
 simp only [Z3,cond_false,hput]
 by_cases h0:w = 0
 ·subst h0
  unfold XG at hn
  simp_all
 ·rw [show ((((w:Nat):Int)) == (0:Int)) = false from by rw [ZU]; simp; omega]
  simp only [cond_false]
  have e1:IntKind.i64.wrap ((w:Int) - 1) = ((w - 1:Nat):Int):=by rw [Qe (by omega)]; omega
  rw [e1]
  simp only [Xw,Nat.min_eq_left (show w - 1 ≤ 64 by omega)]
  rw [Zc (by omega),Zc (by omega)]
  rcases ZBV (by omega) hn with h | h
  ·simp_all
  simp_all
theorem ZBI (k:Nat) (bs:List Bool) (n:Nat) (hk:n < k) (hn:n ≤ 65536) (hb:bs.length + n + 1 < 4294967296) :
  ZoC k (K0 bs,(n:Int),()) = some (0,K0 (bs ++ (List.replicate n false ++ [true])),()):=by
 show ZlV k (Zy1 k) _ = _
 simp only [ZlV]
 rw [Zo (by omega),Zo (by omega)]
 suffices H:∀ (r i m:Nat) (bs:List Bool),n = i + r → r < m → bs.length + r + 1 < 4294967296 →
   Zn (fun L1 => Zgl k L1) m ((n:Int),(i:Int),(bs.length:Int),ZJ bs) = some (0,K0 (bs ++ (List.replicate r false ++ [true])),()) from H n 0 k bs (by omega) hk hb
 intro r
 induction r with
 | zero =>
  intro i m bs he hm hb
  obtain ⟨m,rfl⟩:=ZE hm
  rw [Ze]
  simp only [Zgl]
  rw [Zo (by omega),show ((ZJ bs,((bs.length:Nat):Int),()):List Int × Int × Unit) = K0 bs from rfl,Zm4 k bs (by omega) 1 true rfl]
  simp
 | succ r ih =>
  intro i m bs he hm hb
  obtain ⟨m,rfl⟩:=ZE (show 0 < m by omega)
  rw [Ze]
  simp only [Zgl]
  rw [Zc (by omega),show ((ZJ bs,((bs.length:Nat):Int),()):List Int × Int × Unit) = K0 bs from rfl,Zm4 k bs (by omega) 0 false rfl]
  simp only [Z3]
  rw [show IntKind.i64.wrap ((i:Int) + 1) = ((i + 1:Nat):Int) from by rw [Qe (by omega)]; omega]
  rw [ih (i + 1) m (bs ++ [false]) (by omega) (by omega) (by simp; omega)]
  simp [List.replicate_succ]
def Za2 (n:Nat):Nat:=(8 - n % 8) % 8
theorem ZDy (bs:List Bool) (m i:Nat):Wp (bs ++ List.replicate m false) i = Wp bs i:=by
 unfold Wp
 grind
theorem ZPX (bs:List Bool):ZJ (bs ++ List.replicate (Za2 bs.length) false) = ZJ bs:=by
 unfold ZJ
 rw [show ((bs ++ List.replicate (Za2 bs.length) false).length + 7) / 8 = (bs.length + 7) / 8 from by simp [Za2]; omega]
 apply List.map_congr_left
 intro i _
 rw [ZDy]
theorem ZYV (n:Nat) (h:n < 4294967296):IntKind.i64.wrap (Int.ofNat (BitVec.ofInt 64 (IntKind.i64.wrap ((0:Int) - (n:Int))) &&& BitVec.ofInt 64 7).toNat) = ((Za2 n:Nat):Int):=by
 rw [Qe (n:=(0:Int) - (n:Int)) (by omega)]
 have e:BitVec.ofInt 64 ((0:Int) - (n:Int)) = BitVec.ofNat 64 (18446744073709551616 - n):=by
  apply BitVec.eq_of_toNat_eq
  simp_all <;> omega
 rw [e,show BitVec.ofInt 64 7 = 7#64 from rfl,BitVec.toNat_and,BitVec.toNat_ofNat,show (7#64).toNat = 2 ^ 3 - 1 from rfl,Nat.and_two_pow_sub_one_eq_mod]
 have:(18446744073709551616 - n) % 2 ^ 64 % 2 ^ 3 = Za2 n:=by unfold Za2; omega
 rw [this,Qe (by grind)]
 rfl
theorem ZOD (k:Nat) (bs:List Bool) (hb:bs.length < 4294967000):ZBt k (K0 bs,()) = some (((Za2 bs.length:Nat):Int),K0 (bs ++ List.replicate (Za2 bs.length) false),()):=by
 show ZlD k _ = _
 simp only [ZlD]
 rw [ZYV _ (by omega)]
 have h8:Za2 bs.length < 8:=by unfold Za2; omega
 rw [show IntKind.i64.wrap (((bs.length:Nat):Int) + ((Za2 bs.length:Nat):Int)) = (((bs ++ List.replicate (Za2 bs.length) false).length:Nat):Int) from by rw [Qe (by omega)]; simp]
 show _ = some (_,(ZJ (bs ++ List.replicate (Za2 bs.length) false),_,()),())
 rw [ZPX]
theorem ZlA (k:Nat) (bs:List Bool) (hb:bs.length < 4294967296):Zly k (K0 bs,()) = some (ZJ bs,K0 bs,()):=by
 show Zlz k _ = _
 simp only [Zlz]
 have:(ZJ bs).length < 2147483648:=by rw [Z5]; omega
 rw [show ZiF k (ZJ bs,()) = some (ZJ bs,()) from by show Yg _ = _; unfold Yg; rw [Zc this]]
 rfl
theorem ZBn (k:Nat):ZoA k () = some (K0 [],()):=rfl
end Go.Sh
namespace Go.Sh
open Go Go.Proofs
theorem Zua {n:Nat} (h:n < 18446744073709551616):IntKind.u64.wrap (n:Int) = (n:Int):=by rw [IntKind.wrap_u64]; omega
theorem ZXX {a:Nat} (ha:a < 18446744073709551616):(BitVec.ofInt 64 (a:Int)).toNat = a:=by simp_all
theorem ZHZ {a b:Nat} (ha:a < 18446744073709551616) (hb:b < 18446744073709551616):Int.ofNat (BitVec.ofInt 64 (a:Int) &&& BitVec.ofInt 64 (b:Int)).toNat = ((a &&& b:Nat):Int):=by
 grind
theorem orN {a b:Nat} (ha:a < 18446744073709551616) (hb:b < 18446744073709551616):Int.ofNat (BitVec.ofInt 64 (a:Int) ||| BitVec.ofInt 64 (b:Int)).toNat = ((a ||| b:Nat):Int):=by
 grind
theorem ZYN {a b:Nat} (ha:a < 18446744073709551616) (hb:b < 18446744073709551616):Int.ofNat (BitVec.ofInt 64 (a:Int) ^^^ BitVec.ofInt 64 (b:Int)).toNat = ((a ^^^ b:Nat):Int):=by
 grind
theorem XU (j:Nat):((2:Int) ^ j) = ((2 ^ j:Nat):Int):=by rw [Int.natCast_pow]; rfl
def ZqQ (s p r:Nat):Nat:=(2 * r) % 2 ^ s ^^^ (r / 2 ^ (s - 1) % 2) * p
def Zj1 (s p:Nat):Nat → Nat → Nat
 | 0,r => r
 | n + 1,r => Zj1 s p n (ZqQ s p r)
def Zj2 (s p r x:Nat):Nat:=Zj1 s p 8 (r ^^^ x * 2 ^ (s - 8))
def ZQN (s p:Nat) (l:List Nat):Nat:=l.foldl (Zj2 s p) 0
def Zz (l:List Int):Bool:=l.all fun x => decide (0 ≤ x) && decide (x < 256)
def Ztq (l:List Int):List Nat:=l.map Int.toNat
theorem ZmX {s p r:Nat} (hp:p < 2 ^ s):ZqQ s p r < 2 ^ s:=by
 unfold ZqQ
 refine Nat.xor_lt_two_pow (Nat.mod_lt _ (Nat.pow_pos (by omega))) ?_
 have:r / 2 ^ (s - 1) % 2 < 2:=Nat.mod_lt _ (by omega)
 generalize r / 2 ^ (s - 1) % 2 = b at this
 have h0:0 < 2 ^ s:=Nat.pow_pos (by omega)
 match b,this with
 | 0,_ => simpa using h0
 | 1,_ => simpa using hp
theorem ZqR {s p:Nat} (hp:p < 2 ^ s):∀ (n r:Nat),r < 2 ^ s → Zj1 s p n r < 2 ^ s
 | 0,r,h => h
 | n + 1,r,h => ZqR hp n _ (ZmX hp)
theorem ZqS {s p r x:Nat} (hs:8 ≤ s) (hp:p < 2 ^ s) (hr:r < 2 ^ s) (hx:x < 256):Zj2 s p r x < 2 ^ s:=by
 refine ZqR hp _ _ (Nat.xor_lt_two_pow hr ?_)
 have h1:2 ^ s = 2 ^ 8 * 2 ^ (s - 8):=by rw [← Nat.pow_add]; congr 1; omega
 have:x * 2 ^ (s - 8) < 256 * 2 ^ (s - 8):=Nat.mul_lt_mul_of_pos_right hx (Nat.pow_pos (by omega))
 rw [h1]; exact this
theorem Zi5 {s p:Nat} (hs:8 ≤ s) (hp:p < 2 ^ s):∀ (l:List Nat) (r:Nat),(∀ x ∈ l,x < 256) → r < 2 ^ s → l.foldl (Zj2 s p) r < 2 ^ s
 | [],r,_,h => h
 | x :: l,r,hl,h => by
  simp only [List.foldl_cons]
  exact Zi5 hs hp l _ (fun y hy => hl y (List.mem_cons_of_mem _ hy)) (ZqS hs hp h (hl x (List.mem_cons_self ..)))
theorem ZQL {s p r:Nat} (hs:8 ≤ s) (hs':s ≤ 16) (hp:p < 2 ^ s) (hr:r < 2 ^ s) :
  IntKind.u64.wrap (Int.ofNat (BitVec.ofInt 64 (IntKind.u64.wrap (Int.ofNat (BitVec.ofInt 64 (IntKind.u64.wrap ((r:Int) * (2:Int))) &&& BitVec.ofInt 64 (IntKind.u64.wrap (IntKind.u64.wrap ((1:Int) * (2:Int) ^ min (s:Int).toNat 64) - (1:Int)))).toNat)) ^^^
   BitVec.ofInt 64 (IntKind.u64.wrap (IntKind.u64.wrap (Int.ofNat (BitVec.ofInt 64 ((r:Int).fdiv ((2:Int) ^ min (IntKind.i64.wrap ((s:Int) - (1:Int))).toNat 64)) &&& BitVec.ofInt 64 (1:Int)).toNat) * (p:Int)))).toNat) = ((ZqQ s p r:Nat):Int):=by
 have hpow:2 ^ s ≤ 2 ^ 16:=Nat.pow_le_pow_right (by omega) hs'
 have hpos:0 < 2 ^ s:=Nat.pow_pos (by omega)
 rw [show IntKind.i64.wrap ((s:Int) - 1) = ((s - 1:Nat):Int) from by rw [Qe (by omega)]; omega]
 rw [Xw,Xw,Nat.min_eq_left (by omega),Nat.min_eq_left (by omega),Zgs,Int.one_mul,XU]
 rw [Zua (n:=2 ^ s) (by omega),show ((2 ^ s:Nat):Int) - 1 = ((2 ^ s - 1:Nat):Int) from by omega,Zua (n:=2 ^ s - 1) (by omega)]
 rw [show (r:Int) * 2 = ((2 * r:Nat):Int) from by omega,Zua (n:=2 * r) (by omega)]
 rw [ZHZ (by omega) (by omega),Nat.and_two_pow_sub_one_eq_mod]
 have hm:2 * r % 2 ^ s < 2 ^ s:=Nat.mod_lt _ hpos
 rw [Zua (n:=2 * r % 2 ^ s) (by omega)]
 have hdl:r / 2 ^ (s - 1) ≤ r:=Nat.div_le_self _ _
 rw [show ((1:Int)) = ((1:Nat):Int) from rfl,ZHZ (by omega) (by omega),Nat.and_one_is_mod]
 have hb:r / 2 ^ (s - 1) % 2 < 2:=Nat.mod_lt _ (by omega)
 have hbp:r / 2 ^ (s - 1) % 2 * p < 2 ^ s:=by
  generalize r / 2 ^ (s - 1) % 2 = b at hb
  match b,hb with
  | 0,_ => simpa using hpos
  | 1,_ => simpa using hp
 rw [Zua (n:=r / 2 ^ (s - 1) % 2) (by omega),← Int.natCast_mul,Zua (n:=r / 2 ^ (s - 1) % 2 * p) (by omega),ZYN (by omega) (by omega)]
 have:=ZmX (s:=s) (p:=p) (r:=r) hp
 unfold ZqQ at this ⊢
 rw [Zua (by omega)]
theorem ZLz {s r x:Nat} (hs:8 ≤ s) (hs':s ≤ 16) (hr:r < 2 ^ s) (hx:x < 256) :
  IntKind.u64.wrap (Int.ofNat (BitVec.ofInt 64 (r:Int) ^^^ BitVec.ofInt 64 (IntKind.u64.wrap (IntKind.u64.wrap (x:Int) * (2:Int) ^ min (IntKind.i64.wrap ((s:Int) - (8:Int))).toNat 64))).toNat) = ((r ^^^ x * 2 ^ (s - 8):Nat):Int):=by
 have hpow:2 ^ s ≤ 2 ^ 16:=Nat.pow_le_pow_right (by omega) hs'
 have h1:2 ^ s = 2 ^ 8 * 2 ^ (s - 8):=by rw [← Nat.pow_add]; congr 1; omega
 have hxp:x * 2 ^ (s - 8) < 2 ^ s:=by
  rw [h1]; exact Nat.mul_lt_mul_of_pos_right hx (Nat.pow_pos (by omega))
 rw [show IntKind.i64.wrap ((s:Int) - 8) = ((s - 8:Nat):Int) from by rw [Qe (by omega)]; omega]
 rw [Xw,Nat.min_eq_left (by omega),XU,Zua (n:=x) (by omega),← Int.natCast_mul,Zua (n:=x * 2 ^ (s - 8)) (by omega),ZYN (by omega) (by omega)]
 have:r ^^^ x * 2 ^ (s - 8) < 2 ^ s:=Nat.xor_lt_two_pow hr hxp
 rw [Zua (by omega)]
theorem ZKe (k:Nat) {s p:Nat} (hs:8 ≤ s) (hs':s ≤ 16) (hp:p < 2 ^ s) (L1:Int × Int × List Int × Int × Int × Int → Option (Int × Unit)) (v4 v5:Int) (v6:List Int) :
  ∀ (n m i r:Nat),i + n = 8 → n < m → r < 2 ^ s →
  Zn (fun L2 => ZdF k L1 L2) m ((i:Int),(r:Int),(s:Int),(p:Int),v4,v5,v6) = L1 (v5,IntKind.i64.wrap (v4 + 1),v6,((Zj1 s p n r:Nat):Int),(s:Int),(p:Int)):=by
 intro n
 induction n with
 | zero =>
  intro m i r hi hm hr
  obtain ⟨m,rfl⟩:=ZE hm
  rw [Ze]
  simp only [ZdF]
  rw [Zo (by omega)]
  rfl
 | succ n ih =>
  intro m i r hi hm hr
  obtain ⟨m,rfl⟩:=ZE (show 0 < m by omega)
  rw [Ze]
  simp only [ZdF]
  rw [Zc (by omega),Zc (by rw [Qe (by omega)]; omega),Zc (by omega),ZQL hs hs' hp hr]
  rw [show IntKind.i64.wrap ((i:Int) + 1) = ((i + 1:Nat):Int) from by rw [Qe (by omega)]; omega]
  rw [ih m (i + 1) _ (by omega) (by omega) (ZmX hp)]
  rfl
theorem Zbh {l:List Int} (h:Zz l = true) {i:Nat} (hi:i < l.length):∃ x:Nat,x < 256 ∧ l[i] = (x:Int):=by
 have:=List.all_eq_true.1 h l[i] (List.getElem_mem hi)
 simp only [Bool.and_eq_true,decide_eq_true_eq] at this
 exact ⟨l[i].toNat,by omega,by omega⟩
theorem Zwx {l:List Int} (h:Zz l = true):∀ x ∈ Ztq l,x < 256:=by
 intro x hx
 obtain ⟨y,hy,rfl⟩:=List.mem_map.1 hx
 have:=List.all_eq_true.1 h y hy
 simp_all
theorem ZBG (k:Nat) (l:List Int) {s p:Nat} (hs:8 ≤ s) (hs':s ≤ 16) (hp:p < 2 ^ s) (hl:Zz l = true) (hk:l.length + 8 < k) (hk':l.length < 4294967296) :
  ZiE k (l,(s:Int),(p:Int),()) = some (((ZQN s p (Ztq l):Nat):Int),()):=by
 show ZlS k (ZyT k) _ = _
 simp only [ZlS]
 have h16:2 ^ s ≤ 2 ^ 16:=Nat.pow_le_pow_right (by omega) hs'
 have:=Zy (A:=Nat) (step:=fun L1 => Zgj k (ZyU k L1) L1) (fun i r => (Int.ofNat l.length,Int.ofNat i,l,(r:Int),(s:Int),(p:Int))) l
  (fun l' r => some (((l'.foldl (fun r x => Zj2 s p r x.toNat) r:Nat):Int),())) (fun i r => r < 2 ^ s)
  (fun L r hr => by
   simp only [Zgj]
   rw [Zo (Yb _),Qe (by omega)]; rfl)
  (fun L i hi r hr hL => by
   obtain ⟨x,hx,hxe⟩:=Zbh hl hi
   simp only [Zgj]
   rw [Zc (ltR hi),Zc (YI hi),Zc (by rw [Qe (by omega)]; omega),ZM hi,hxe,ZLz hs hs' hr hx]
   have hx2:r ^^^ x * 2 ^ (s - 8) < 2 ^ s:=Nat.xor_lt_two_pow hr (by
    have h1:2 ^ s = 2 ^ 8 * 2 ^ (s - 8):=by rw [← Nat.pow_add]; congr 1; omega
    rw [h1]; exact Nat.mul_lt_mul_of_pos_right hx (Nat.pow_pos (by omega)))
   have hin:=ZKe k hs hs' hp L (Int.ofNat i) (Int.ofNat l.length) l 8 k 0 (r ^^^ x * 2 ^ (s - 8)) rfl (by omega) hx2
   refine Eq.trans hin ?_
   rw [Qr hi (by omega)]
   rw [show Zj1 s p 8 (r ^^^ x * 2 ^ (s - 8)) = Zj2 s p r x from rfl]
   rw [hL _ (ZqS hs hp hr hx)]
   rw [List.foldl_cons,Xw]) k 0 0 (Nat.pow_pos (by omega)) (by omega) (Nat.zero_le _)
 refine Eq.trans this ?_
 rw [List.drop_zero]
 unfold ZQN Ztq
 rw [List.foldl_map]
theorem ZH8 (bs:List Bool) (i:Nat):Wp bs i < 256:=ZAa _
theorem WW (bs:List Bool):Zz (ZJ bs) = true:=by
 refine List.all_eq_true.2 fun x hx => ?_
 obtain ⟨i,_,rfl⟩:=List.mem_map.1 hx
 have h:=ZH8 bs i
 grind
def Zeb (l:List Int):Nat:=ZQN 8 7 (Ztq l)
def Zca (l:List Int):Nat:=ZQN 16 32773 (Ztq l)
theorem Zxm {l:List Int} (h:Zz l = true):Zeb l < 2 ^ 8:=Zi5 (by omega) (by omega) _ _ (Zwx h) (by omega)
theorem ZAi {l:List Int} (h:Zz l = true):Zca l < 2 ^ 16:=Zi5 (by omega) (by omega) _ _ (Zwx h) (by omega)
theorem ZBq (k:Nat) (l:List Int) (hl:Zz l = true) (hk:l.length + 8 < k) (hk':l.length < 4294967296):Zv0 k (l,()) = some (((Zeb l:Nat):Int),()):=by
 show Zlx k _ = _
 simp only [Zlx]
 have:=ZBG k l (s:=8) (p:=7) (by omega) (by omega) (by omega) hl hk hk'
 rw [show ZiE k (l,8,7,()) = ZiE k (l,((8:Nat):Int),((7:Nat):Int),()) from rfl,this]
 rfl
theorem ZBu (k:Nat) (l:List Int) (hl:Zz l = true) (hk:l.length + 8 < k) (hk':l.length < 4294967296):Zv3 k (l,()) = some (((Zca l:Nat):Int),()):=by
 show ZlE k _ = _
 simp only [ZlE]
 have:=ZBG k l (s:=16) (p:=32773) (by omega) (by omega) (by omega) hl hk hk'
 rw [show ZiE k (l,16,32773,()) = ZiE k (l,((16:Nat):Int),((32773:Nat):Int),()) from rfl,this]
 rfl
def Y9 (k:Nat):Nat:=if k = 1 then 7 else 5 * k + 1
def Xa:Nat → Nat → List Nat
 | _,0 => []
 | n,i + 1 => Xa (n / 64) i ++ [128 + n % 64]
def ZbO (n:Nat):Nat:=if n < 2 ^ 7 then 1 else if n < 2 ^ 11 then 2 else if n < 2 ^ 16 then 3 else if n < 2 ^ 21 then 4 else if n < 2 ^ 26 then 5 else if n < 2 ^ 31 then 6 else 7
def ZcQ (k m:Nat):Nat:=(65280 / 2 ^ k % 256) ||| m
def Z7 (n:Nat):List Nat:=if n < 128 then [n] else ZcQ (ZbO n) (n / 64 ^ (ZbO n - 1)) :: Xa n (ZbO n - 1)
def QC (l:List Nat):List Int:=l.map fun (n:Nat) => (n:Int)
theorem ZTZ:∀ m:Fin 64,IntKind.u8.wrap (Int.ofNat (BitVec.ofInt 8 (128:Int) ||| BitVec.ofInt 8 (IntKind.u8.wrap (IntKind.i64.wrap (m.val:Int)))).toNat) = ((128 + m.val:Nat):Int):=by decide +kernel
theorem ZPU:∀ (k:Fin 8) (m:Fin 64),2 ≤ k.val → IntKind.u8.wrap (Int.ofNat (BitVec.ofInt 8 (IntKind.u8.wrap (Int.fdiv (65280:Int) ((2:Int) ^ min (k.val:Int).toNat 64))) ||| BitVec.ofInt 8 (IntKind.u8.wrap (m.val:Int))).toNat) = ((ZcQ k.val m.val:Nat):Int):=by decide +kernel
theorem ZKa (k:Nat) {kk:Nat} (h2:2 ≤ kk) (h7:kk ≤ 7):∀ (i m n:Nat) (suf:List Int),i < m → i < kk → n < 18446744073709551616 → n / 64 ^ i < 64 →
  Zn (fun L2 => Zga k L2) m ((i:Int),(n:Int),(kk:Int),List.replicate (i + 1) 0 ++ suf) = some ((QC (ZcQ kk (n / 64 ^ i) :: Xa n i) ++ suf,0,()),()):=by
 intro i
 induction i with
 | zero =>
  intro m n suf hm hi hn hq
  obtain ⟨m,rfl⟩:=ZE hm
  rw [Ze]
  simp only [Zga]
  rw [Zo (by omega),Zc (by omega),Zc (by simp_all),Zc (by simp)]
  rw [Nat.pow_zero,Nat.div_one] at hq ⊢
  have:=ZPU ⟨kk,by omega⟩ ⟨n,hq⟩ h2
  simp only at this
  rw [this]
  rfl
 | succ i ih =>
  intro m n suf hm hi hn hq
  obtain ⟨m,rfl⟩:=ZE (show 0 < m by omega)
  rw [Ze]
  simp only [Zga]
  have hl:(List.replicate (i + 1 + 1) (0:Int) ++ suf).length = i + 2 + suf.length:=by simp
  rw [Zc (by omega),Zc (by grind),Zc (by rw [hl]; omega)]
  rw [show (63:Int) = ((63:Nat):Int) from rfl,ZHZ hn (by omega)]
  have h63:n &&& 63 = n % 64:=Nat.and_two_pow_sub_one_eq_mod n 6
  have:=ZTZ ⟨n % 64,Nat.mod_lt _ (by omega)⟩
  simp only at this
  rw [h63,this]
  rw [show IntKind.i64.wrap (((i + 1:Nat):Int) - 1) = (i:Int) from by rw [Qe (by omega)]; omega]
  rw [show ((n:Int)).fdiv 64 = ((n / 64:Nat):Int) from by grind]
  have hset:(List.replicate (i + 1 + 1) (0:Int) ++ suf).set (((i + 1:Nat):Int)).toNat ((128 + n % 64:Nat):Int) = List.replicate (i + 1) 0 ++ (((128 + n % 64:Nat):Int) :: suf):=by
   rw [Xw,List.replicate_succ' (n:=i + 1),List.append_assoc,List.set_append_right _ _ (by simp)]
   simp
  rw [hset,ih m (n / 64) _ (by omega) (by omega) (by omega) (by rw [Nat.div_div_eq_div_mul,Nat.mul_comm,← Nat.pow_succ]; exact hq)]
  rw [Nat.div_div_eq_div_mul,Nat.mul_comm,← Nat.pow_succ]
  simp only [QC,Xa,List.map_cons,List.map_append,List.map_nil,List.append_assoc,List.cons_append,List.nil_append]
theorem ZsV (k kk:Nat) (h:kk ≤ 8):Zv6 k ((kk:Int),()) = some (((Y9 kk:Nat):Int),()):=by
 show ZlQ k _ = _
 simp only [ZlQ]
 unfold Y9
 by_cases h1:kk = 1
 ·subst h1; rfl
 ·rw [show (((kk:Nat):Int) == (1:Int)) = false from by rw [ZU]; simp; omega,if_neg h1]
  simp only [cond_false]
  rw [Qe (n:=5 * (kk:Int)) (by omega),Qe (by omega)]
  congr 2
theorem ZtS:Y9 2 = 11 ∧ Y9 3 = 16 ∧ Y9 4 = 21 ∧ Y9 5 = 26 ∧ Y9 6 = 31 ∧ Y9 7 = 36:=by decide
theorem ZTE {kk n:Nat} (h2:2 ≤ kk) (h7:kk ≤ 7) (hlt:n < 2 ^ Y9 kk) (hge:2 < kk → 2 ^ Y9 (kk - 1) ≤ n) (h128:128 ≤ n):ZbO n = kk:=by
 obtain ⟨r2,r3,r4,r5,r6,r7⟩:=ZtS
 obtain rfl | rfl | rfl | rfl | rfl | rfl:kk = 2 ∨ kk = 3 ∨ kk = 4 ∨ kk = 5 ∨ kk = 6 ∨ kk = 7:=by omega
 ·rw [r2] at hlt
  unfold ZbO
  rw [if_neg (by omega),if_pos hlt]
 ·have hge:=hge (by omega)
  rw [Nat.add_sub_cancel (n:=2) (m:=1),r2] at hge
  rw [r3] at hlt
  unfold ZbO
  grind
 ·have hge:=hge (by omega)
  rw [Nat.add_sub_cancel (n:=3) (m:=1),r3] at hge
  rw [r4] at hlt
  unfold ZbO
  grind
 ·have hge:=hge (by omega)
  rw [Nat.add_sub_cancel (n:=4) (m:=1),r4] at hge
  rw [r5] at hlt
  unfold ZbO
  grind
 ·have hge:=hge (by omega)
  rw [Nat.add_sub_cancel (n:=5) (m:=1),r5] at hge
  rw [r6] at hlt
  unfold ZbO
  grind
 ·have hge:=hge (by omega)
  rw [Nat.add_sub_cancel (n:=6) (m:=1),r6] at hge
  unfold ZbO
  grind
theorem ZeW {kk n:Nat} (h2:2 ≤ kk) (h7:kk ≤ 7) (hlt:n < 2 ^ Y9 kk):n / 64 ^ (kk - 1) < 64:=by
 have h64:(64:Nat) = 2 ^ 6:=rfl
 rw [Nat.div_lt_iff_lt_mul (Nat.pow_pos (by omega))]
 refine Nat.lt_of_lt_of_le hlt ?_
 rw [h64,← Nat.pow_mul,← Nat.pow_add]
 refine Nat.pow_le_pow_right (by omega) ?_
 unfold Y9
 rw [if_neg (by omega)]
 omega
theorem ZBp (k:Nat) (hk:20 < k) {n:Nat} (hn:n < 2 ^ 36) (kk:Nat) (h2:2 ≤ kk) (h7:kk ≤ 7) (hlt:n < 2 ^ Y9 kk) (hge:2 < kk → 2 ^ Y9 (kk - 1) ≤ n) (h128:128 ≤ n) :
  ZsI k (IntKind.i64.wrap ((kk:Int) - 1),(n:Int),(kk:Int),List.replicate (kk:Int).toNat (0:Int)) = some ((QC (Z7 n),0,()),()):=by
 have hlen:=ZTE h2 h7 hlt hge h128
 have hq:=ZeW h2 h7 hlt
 have hn':n < 18446744073709551616:=Nat.lt_trans hn (by decide)
 have:=ZKa k h2 h7 (kk - 1) k n [] (by omega) (by omega) hn' hq
 rw [show IntKind.i64.wrap ((kk:Int) - 1) = ((kk - 1:Nat):Int) from by rw [Qe (by omega)]; omega,Xw]
 rw [show kk - 1 + 1 = kk by omega,List.append_nil,List.append_nil] at this
 refine Eq.trans this ?_
 unfold Z7
 rw [if_neg (by omega),hlen]
theorem ZKb (k:Nat) (hk:20 < k) {n:Nat} (hn:n < 2 ^ 36):∀ (d kk m:Nat),d < m → kk + d = 7 → 2 ≤ kk → (2 < kk → 2 ^ Y9 (kk - 1) ≤ n) → 128 ≤ n →
  Zn (fun L1 => Zf9 k (ZsI k) L1) m ((n:Int),(kk:Int)) = some ((QC (Z7 n),0,()),()):=by
 intro d
 induction d with
 | zero =>
  intro kk m hm hkk h2 hge h128
  obtain rfl:kk = 7:=by omega
  obtain ⟨m,rfl⟩:=ZE hm
  rw [Ze]
  simp only [Zf9]
  rw [ZsV k 7 (by omega)]
  simp only [Z3]
  rw [Zc (by omega),Xw,Nat.min_eq_left (show Y9 7 ≤ 64 by decide),Zgs,Nat.div_eq_of_lt (show n < 2 ^ Y9 7 from hn),Zo (by omega),Zc (by omega)]
  exact ZBp k hk hn 7 (by omega) (by omega) hn hge h128
 | succ d ih =>
  intro kk m hm hkk h2 hge h128
  obtain ⟨m,rfl⟩:=ZE (show 0 < m by omega)
  rw [Ze]
  simp only [Zf9]
  rw [ZsV k kk (by omega)]
  simp only [Z3]
  have hroom:Y9 kk ≤ 64:=by unfold Y9; split <;> omega
  rw [Zc (by omega),Xw,Nat.min_eq_left hroom,Zgs]
  by_cases hlt:n < 2 ^ Y9 kk
  ·rw [Nat.div_eq_of_lt hlt,Zo (by omega),Zc (by omega)]
   exact ZBp k hk hn kk h2 (by omega) hlt hge h128
  ·have hpos:0 < n / 2 ^ Y9 kk:=Nat.div_pos (by omega) (Nat.pow_pos (by omega))
   rw [Zc (by omega),show IntKind.i64.wrap ((kk:Int) + 1) = ((kk + 1:Nat):Int) from by rw [Qe (by omega)]; omega]
   exact ih (kk + 1) m (by omega) (by omega) (by omega) (fun _ => by rw [Nat.add_sub_cancel]; omega) h128
theorem ZOB (k:Nat) (hk:20 < k) {n:Nat} (hn:n < 2 ^ 36):ZsH k ((n:Int),()) = some ((QC (Z7 n),0,()),()):=by
 show Zlw k (Zyw k) _ = _
 simp only [Zlw]
 rw [Zo (by omega),Zo (by omega)]
 by_cases h:n < 128
 ·rw [Zc (by omega),wu8 (by omega)]
  unfold Z7
  rw [if_pos h]
  rfl
 ·rw [Zo (by omega)]
  exact ZKb k hk hn 5 2 k (by omega) (by omega) (by omega) (fun h => by omega) (by omega)
end Go.Sh
namespace Go.Sh
open Go Go.Proofs
abbrev Ky:=Ieee.double
theorem Zi8:Ky.binade = 4503599627370496:=by decide
theorem Zxn:Ky.infRung = 9218868437227405312:=by decide
theorem Zj6:Ky.signWeight = 9223372036854775808:=by decide
theorem Zm1:Ky.leastPlace = -1074:=by decide
theorem ZLD:Ky.fractionBits = 52:=rfl
theorem ZKN (s:Bool) {R:Nat} (h0:4503599627370496 ≤ R) (h1:R < 9218868437227405312) :
  Ky.read (Ky.word s R) = .number s (4503599627370496 + R % 4503599627370496) (-1074 + (R / 4503599627370496 - 1:Nat)):=by
 have e1:Ky.word s R / 9223372036854775808 % 2 = s.toNat:=by
  unfold Ieee.Format.word
  rw [Zj6]
  cases s <;> simp <;> omega
 have e2:Ky.word s R % 9223372036854775808 = R:=by
  unfold Ieee.Format.word
  rw [Zj6]
  cases s <;> simp <;> omega
 unfold Ieee.Format.read
 simp only [Zj6,Zi8,Zxn,Zm1,e1,e2]
 rw [if_neg (by omega),if_pos h1]
 cases s <;> rfl
theorem ZwI (s:Bool):Ky.read (Ky.word s 0) = .number s 0 (-1074):=by cases s <;> decide
theorem Zml (s:Bool) {m K L:Nat} {e:Int} (hm:m ≠ 0) (hL:L ≤ 52) (hl:(m.log2:Int) = L - 1 - e)
  (hcut:Ieee.Toward.even.cut s (m <<< (e - ((L:Int) - 53)).toNat) ((L:Int) - 53 - e).toNat = K) (hK:4503599627370496 ≤ K) (hK2:K < 9007199254740992) :
  Ky.read (Ky.nearest s m e) = .number s K ((L:Int) - 53):=by
 unfold Ieee.Format.nearest
 rw [if_neg hm]
 simp only [ZLD,Zm1,Zi8,Zxn]
 have hlast:max (e + (m.log2:Int) - ((52:Nat):Int)) (-1074) = (L:Int) - 53:=by omega
 rw [hlast,hcut]
 have h1:((L:Int) - 53 - -1074).toNat = L + 1021:=by omega
 rw [h1,Nat.min_eq_left (by omega)]
 rw [ZKN s (by omega) (by omega)]
 simp_all <;> omega
theorem ZqT (s:Bool) {n d q:Nat} (hd:d ≤ n.log2 + 2) (h:n = q * 2 ^ d):Ieee.Toward.even.cut s n d = q:=by
 unfold Ieee.Toward.cut
 simp only [Nat.min_eq_left hd,Nat.one_shiftLeft]
 have hp:0 < 2 ^ d:=Nat.pow_pos (by omega)
 simp_all
theorem Kp {N:Nat} (h:N ≠ 0) (t:Nat):(N * 2 ^ t).log2 = N.log2 + t:=by
 have hp:0 < 2 ^ t:=Nat.pow_pos (by omega)
 rw [Nat.log2_eq_iff (Nat.mul_ne_zero h (by omega))]
 obtain ⟨h1,h2⟩:=(Nat.log2_eq_iff h).1 rfl
 constructor
 ·rw [Nat.pow_add]; exact Nat.mul_le_mul_right _ h1
 ·rw [show N.log2 + t + 1 = (N.log2 + 1) + t by omega,Nat.pow_add]; exact Nat.mul_lt_mul_of_pos_right h2 hp
theorem Zmi {N:Nat} (h:N ≠ 0) (h':N < 9007199254740992):N.log2 ≤ 52:=by
 have:=(Nat.log2_lt h (k:=53)).2 h'
 omega
theorem Zs7 {N:Nat} (h:N ≠ 0) (h':N < 9007199254740992):4503599627370496 ≤ N * 2 ^ (52 - N.log2) ∧ N * 2 ^ (52 - N.log2) < 9007199254740992:=by
 have hL:=Zmi h h'
 obtain ⟨h1,h2⟩:=(Nat.log2_eq_iff h).1 rfl
 have hp:0 < 2 ^ (52 - N.log2):=Nat.pow_pos (by omega)
 have e1:2 ^ N.log2 * 2 ^ (52 - N.log2) = 4503599627370496:=by rw [← Nat.pow_add,show N.log2 + (52 - N.log2) = 52 by omega]
 have e2:2 ^ (N.log2 + 1) * 2 ^ (52 - N.log2) = 9007199254740992:=by grind
 constructor
 ·rw [← e1]; exact Nat.mul_le_mul_right _ h1
 ·rw [← e2]; exact Nat.mul_lt_mul_of_pos_right h2 hp
theorem Zzr (s:Bool) {N t:Nat} (h:N ≠ 0) (h':N < 9007199254740992) :
  Ky.read (Ky.nearest s (N * 2 ^ t) (-1 - (t:Int))) = .number s (N * 2 ^ (52 - N.log2)) ((N.log2:Int) - 53):=by
 have hL:=Zmi h h'
 obtain ⟨f1,f2⟩:=Zs7 h h'
 have hp:0 < 2 ^ t:=Nat.pow_pos (by omega)
 refine Zml s (Nat.mul_ne_zero h (by omega)) hL (by rw [Kp h]; omega) ?_ f1 f2
 by_cases hc:52 - N.log2 ≤ t
 ·have e1:((-1 - (t:Int)) - ((N.log2:Int) - 53)).toNat = 0:=by omega
  have e2:((N.log2:Int) - 53 - (-1 - (t:Int))).toNat = t - (52 - N.log2):=by omega
  rw [e1,e2,Nat.shiftLeft_zero]
  refine ZqT s (by rw [Kp h]; omega) ?_
  rw [Nat.mul_assoc,← Nat.pow_add]
  congr 2; omega
 ·have e1:((-1 - (t:Int)) - ((N.log2:Int) - 53)).toNat = 52 - N.log2 - t:=by omega
  have e2:((N.log2:Int) - 53 - (-1 - (t:Int))).toNat = 0:=by omega
  rw [e1,e2]
  refine ZqT s (by omega) ?_
  rw [Nat.shiftLeft_eq,Nat.mul_assoc,← Nat.pow_add,Nat.pow_zero,Nat.mul_one]
  congr 2; omega
theorem ZiI (s:Bool) {N:Nat} (h:N ≠ 0) (h':N < 4503599627370496) :
  Ky.read (Ky.nearest s N 0) = .number s (2 * N * 2 ^ (52 - (2 * N).log2)) (((2 * N).log2:Int) - 53):=by
 have hl:(2 * N).log2 = N.log2 + 1:=by rw [Nat.mul_comm]; exact Kp h 1
 have h2:2 * N ≠ 0:=by omega
 have hL:=Zmi h2 (by omega)
 obtain ⟨f1,f2⟩:=Zs7 h2 (by omega)
 refine Zml s h hL (by rw [hl]; omega) ?_ f1 f2
 have e1:((0:Int) - (((2 * N).log2:Int) - 53)).toNat = 53 - (2 * N).log2:=by omega
 have e2:(((2 * N).log2:Int) - 53 - 0).toNat = 0:=by omega
 rw [e1,e2]
 refine ZqT s (by omega) ?_
 rw [Nat.shiftLeft_eq,Nat.pow_zero,Nat.mul_one,show 53 - (2 * N).log2 = 1 + (52 - (2 * N).log2) by omega,Nat.pow_add]
 rw [← Nat.mul_assoc]; congr 1; omega
def Val (x:Nat) (n:Int):Prop:=n.natAbs < 9007199254740992 ∧
 ((n = 0 ∧ ∃ s,Ky.read x = .number s 0 (-1074)) ∨ (n ≠ 0 ∧ Ky.read x = .number (decide (n < 0)) (n.natAbs * 2 ^ (52 - n.natAbs.log2)) ((n.natAbs.log2:Int) - 53)))
theorem Val.num {x:Nat} {n:Int} (h:Val x n):∃ s m e,Ky.read x = .number s m e ∧ e ≤ -1 ∧ -1074 ≤ e ∧ ∀ (b:Int),b ≤ e → Ieee.signed s m (e - b).toNat = n * 2 ^ (-1 - b).toNat:=by
 obtain ⟨hb,⟨rfl,s,hr⟩ | ⟨hn,hr⟩⟩:=h
 ·refine ⟨s,0,_,hr,by omega,by omega,fun b hb => ?_⟩
  unfold Ieee.signed
  cases s <;> simp
 ·have h0:n.natAbs ≠ 0:=by omega
  have hL:=Zmi h0 hb
  refine ⟨_,_,_,hr,by omega,by omega,fun b hb => ?_⟩
  unfold Ieee.signed
  have e1:(n.natAbs * 2 ^ (52 - n.natAbs.log2)) <<< ((n.natAbs.log2:Int) - 53 - b).toNat = n.natAbs * 2 ^ (-1 - b).toNat:=by
   rw [Nat.shiftLeft_eq,Nat.mul_assoc,← Nat.pow_add]
   congr 2; omega
  rw [e1]
  grind
theorem Zd5 {s:Bool} {m:Nat} {e:Int} {n:Int} {t:Nat} (he:e = -1 - (t:Int)) (hm:m = n.natAbs * 2 ^ t) (hs:n ≠ 0 → s = decide (n < 0)) (hb:n.natAbs < 9007199254740992):Val (Ky.write (.number s m e)) n:=by
 refine ⟨hb,?_⟩
 show _ ∨ (_ ∧ Ky.read (Ky.nearest s m e) = _)
 by_cases hn:n = 0
 ·left
  refine ⟨hn,s,?_⟩
  show Ky.read (Ky.nearest s m e) = _
  subst hn
  rw [show m = 0 by rw [hm]; simp]
  unfold Ieee.Format.nearest
  rw [if_pos rfl]
  exact ZwI s
 ·right
  refine ⟨hn,?_⟩
  rw [hm,he,← hs hn]
  exact Zzr s (by omega) hb
theorem ZoM (n:Int) (hb:n.natAbs < 4503599627370496):Val (FloatKind.f64.nearest n) (2 * n):=by
 show Val (Ky.nearest (decide (n < 0)) n.natAbs 0) (2 * n)
 refine ⟨by omega,?_⟩
 by_cases hn:n = 0
 ·left
  subst hn
  exact ⟨rfl,false,by decide⟩
 ·right
  refine ⟨by omega,?_⟩
  rw [ZiI _ (by omega) hb]
  have e1:(2 * n).natAbs = 2 * n.natAbs:=by omega
  simp_all <;> omega
theorem ZAe {a b:Int} {p:Int} (hp:0 < p):compare (a * p) (b * p) = compare a b:=by
 rcases Int.lt_trichotomy a b with h | h | h
 ·have:=Int.mul_lt_mul_of_pos_right h hp
  rw [Int.compare_eq_lt.2 h,Int.compare_eq_lt.2 this]
 ·subst h; simp
 ·have:=Int.mul_lt_mul_of_pos_right h hp
  rw [Int.compare_eq_gt.2 h,Int.compare_eq_gt.2 this]
theorem ZnY {x y:Nat} {a b:Int} (hx:Val x a) (hy:Val y b):FloatKind.f64.format.order x y = some (compare a b):=by
 obtain ⟨s,m,i,h1,h2,_,h3⟩:=hx.num
 obtain ⟨t,n,j,g1,g2,_,g3⟩:=hy.num
 show (Ky.read x).order (Ky.read y) = _
 rw [h1,g1]
 unfold Ieee.Datum.order
 simp only
 rw [h3 _ (Int.min_le_left i j),g3 _ (Int.min_le_right i j),ZAe (Int.pow_pos (by omega))]
theorem ZF9 {x y:Nat} {a b:Int} (hx:Val x a) (hy:Val y b) (hb:(a + b).natAbs < 9007199254740992):∃ z,floatBits .add .f64 x y = some z ∧ Val z (a + b):=by
 obtain ⟨s,m,i,h1,h2,h2',h3⟩:=hx.num
 obtain ⟨t,n,j,g1,g2,g2',g3⟩:=hy.num
 show ∃ z,((Ky.read x).sum (Ky.read y)).map Ky.write = some z ∧ _
 rw [h1,g1]
 unfold Ieee.Datum.sum
 simp only
 rw [h3 _ (Int.min_le_left i j),g3 _ (Int.min_le_right i j),← Int.add_mul]
 refine ⟨_,rfl,?_⟩
 have hp:(0:Int) < 2 ^ (-1 - min i j).toNat:=Int.pow_pos (by omega)
 refine Zd5 (t:=(-1 - min i j).toNat) (by omega) ?_ (fun hn => ?_) hb
 ·rw [Int.natAbs_mul,Int.natAbs_pow]; rfl
 ·rw [if_neg (by simp_all <;> omega)]
  by_cases hlt:a + b < 0
  ·rw [dTr hlt,dTr (Int.mul_neg_of_neg_of_pos hlt hp)]
  ·rw [dFa hlt,dFa (by
    have:=Int.mul_nonneg (show 0 ≤ a + b by omega) (Int.le_of_lt hp)
    omega)]
theorem ZTV {x:Nat} {n:Int} (h:Val x n):∃ s m e,(Ky.read x).opposite = .number s m e ∧ e ≤ -1 ∧ ∀ (b:Int),b ≤ e → Ieee.signed s m (e - b).toNat = -n * 2 ^ (-1 - b).toNat:=by
 obtain ⟨s,m,e,h1,h2,_,h3⟩:=h.num
 refine ⟨!s,m,e,by rw [h1]; rfl,h2,fun b hb => ?_⟩
 have:=h3 b hb
 unfold Ieee.signed at this ⊢
 grind
theorem ZT7 {x y:Nat} {a b:Int} (hx:Val x a) (hy:Val y b) (hb:(a - b).natAbs < 9007199254740992):∃ z,floatBits .sub .f64 x y = some z ∧ Val z (a - b):=by
 obtain ⟨s,m,i,h1,h2,h2',h3⟩:=hx.num
 obtain ⟨t,n,j,g1,g2,g3⟩:=ZTV hy
 show ∃ z,((Ky.read x).sum (Ky.read y).opposite).map Ky.write = some z ∧ _
 rw [h1,g1]
 unfold Ieee.Datum.sum
 simp only
 rw [h3 _ (Int.min_le_left i j),g3 _ (Int.min_le_right i j),← Int.add_mul,← Int.sub_eq_add_neg]
 refine ⟨_,rfl,?_⟩
 have hp:(0:Int) < 2 ^ (-1 - min i j).toNat:=Int.pow_pos (by omega)
 refine Zd5 (t:=(-1 - min i j).toNat) (by omega) ?_ (fun hn => ?_) hb
 ·rw [Int.natAbs_mul,Int.natAbs_pow]; rfl
 ·rw [if_neg (by simp_all <;> omega)]
  by_cases hlt:a - b < 0
  ·rw [dTr hlt,dTr (Int.mul_neg_of_neg_of_pos hlt hp)]
  ·rw [dFa hlt,dFa (by
    have:=Int.mul_nonneg (show 0 ≤ a - b by omega) (Int.le_of_lt hp)
    omega)]
end Go.Sh
namespace Go.Sh
open Go Go.Proofs
theorem ZPR (s:Bool) (m:Nat):(Ieee.Datum.number s 0 (-1074)) = Ieee.Datum.number s ((0:Int).natAbs * m) (-((1074:Nat):Int)):=by
 simp_all
theorem Val.nat {x:Nat} {n:Int} (h:Val x n):∃ (s:Bool) (t:Nat),Ky.read x = .number s (n.natAbs * 2 ^ (t - 1)) (-(t:Int)) ∧ 1 ≤ t ∧ (n ≠ 0 → s = decide (n < 0) ∧ (n.natAbs * 2 ^ (t - 1)).log2 = 52):=by
 obtain ⟨hb,⟨rfl,s,hr⟩ | ⟨hn,hr⟩⟩:=h
 ·exact ⟨s,1074,hr.trans (ZPR s _),by omega,fun h => absurd rfl h⟩
 ·have h0:n.natAbs ≠ 0:=by omega
  have hL:=Zmi h0 hb
  refine ⟨_,53 - n.natAbs.log2,hr.trans ?_,by omega,fun _ => ⟨rfl,?_⟩⟩
  ·grind
  ·rw [Kp h0]; omega
theorem ZPS:Ky.read 4607182418800017408 = .number false 4503599627370496 (-52):=by decide
theorem ZQr:Ky.read 4611686018427387904 = .number false 4503599627370496 (-51):=by decide
theorem ZoL {x:Nat} {a:Int} (hx:Val x a):∃ z,floatBits .mul .f64 x 4607182418800017408 = some z ∧ Val z a:=by
 obtain ⟨s,t,hr,h1,hs⟩:=hx.nat
 show ∃ z,((Ky.read x).product (Ky.read 4607182418800017408)).map Ky.write = some z ∧ _
 rw [hr,ZPS]
 refine ⟨_,rfl,Zd5 (t:=t + 51) (by omega) ?_ (fun hn => by rw [(hs hn).1]; simp) hx.1⟩
 rw [Nat.mul_assoc,show (4503599627370496:Nat) = 2 ^ 52 from rfl,← Nat.pow_add]
 congr 2; omega
theorem ZPt {x:Nat} {c:Int} (hx:Val x (2 * c)):∃ z,floatBits .quo .f64 x 4611686018427387904 = some z ∧ Val z c:=by
 obtain ⟨s,t,hr,h1,hs⟩:=hx.nat
 show ∃ z,((Ky.read x).quotient 54 (Ky.read 4611686018427387904)).map Ky.write = some z ∧ _
 rw [hr,ZQr]
 unfold Ieee.Datum.quotient
 simp only
 rw [if_neg (by omega)]
 refine ⟨_,rfl,?_⟩
 have hb:=hx.1
 by_cases hn:c = 0
 ·subst hn
  simp only [Int.mul_zero,Int.natAbs_zero,Nat.zero_mul,Nat.zero_shiftLeft,Nat.zero_div,Nat.zero_mod]
  have e1:(4503599627370496:Nat).log2 = 52:=by decide
  have e2:(0:Nat).log2 = 0:=by decide
  rw [e1,e2]
  exact Zd5 (t:=t + 55) (by simp; omega) (by simp) (fun h => absurd rfl h) (by simp)
 ·obtain ⟨h2,h3⟩:=hs (by omega)
  rw [h3,show (4503599627370496:Nat).log2 = 52 from by decide,show 54 + 52 - 52 = 54 from rfl,Nat.shiftLeft_eq]
  have e0:(2 ^ 54:Nat) = 4 * 4503599627370496:=by decide
  rw [e0,← Nat.mul_assoc,Nat.mul_div_cancel _ (by omega),Nat.mul_mod_left]
  refine Zd5 (t:=t + 3) (by omega) ?_ (fun _ => ?_) (by omega)
  ·have e1:(2 * c).natAbs = 2 * c.natAbs:=by omega
   rw [e1]
   have e2:2 ^ (t + 3) = 2 ^ (t - 1) * 16:=by rw [show t + 3 = (t - 1) + 4 by omega,Nat.pow_add]
   grind
  grind
theorem ZoU {s:Bool} {q:Nat} {n:Int} (hq:q = n.natAbs) (hs:n ≠ 0 → s = decide (n < 0)) (hb:n.natAbs < 4503599627370496):Val (Ky.write (.number s q 0)) (2 * n):=by
 subst hq
 refine ⟨by omega,?_⟩
 show _ ∨ (_ ∧ Ky.read (Ky.nearest s n.natAbs 0) = _)
 by_cases hn:n = 0
 ·left
  refine ⟨by omega,s,?_⟩
  show Ky.read (Ky.nearest s n.natAbs 0) = _
  subst hn
  unfold Ieee.Format.nearest
  rw [if_pos (by rfl)]
  exact ZwI s
 ·right
  refine ⟨by omega,?_⟩
  rw [ZiI _ (by omega) hb,hs hn]
  have e1:(2 * n).natAbs = 2 * n.natAbs:=by omega
  simp_all <;> omega
theorem Zm0 {s:Bool} {a t:Nat} (way:Ieee.Toward) (hway:way = .down ∨ way = .zero) (ht:1 ≤ t) (hl:a ≠ 0 → (a * 2 ^ (t - 1)).log2 = 52) (ht':a ≠ 0 → t ≤ 53) :
  way.cut s (a * 2 ^ (t - 1)) t = a / 2 + (if way = .down then (s && decide (a % 2 ≠ 0)).toNat else 0):=by
 by_cases h0:a = 0
 ·subst h0
  rcases hway with rfl | rfl <;> simp [Ieee.Toward.cut]
 ·unfold Ieee.Toward.cut
  have h1:=hl h0
  have h2:=ht' h0
  simp only [Nat.min_eq_left (show t ≤ (a * 2 ^ (t - 1)).log2 + 2 by omega),Nat.one_shiftLeft]
  have hp:0 < 2 ^ (t - 1):=Nat.pow_pos (by omega)
  have e1:2 ^ t = 2 * 2 ^ (t - 1):=by rw [show t = (t - 1) + 1 by omega,Nat.pow_succ,Nat.add_sub_cancel]; omega
  rw [e1,Nat.mul_div_mul_right _ _ hp,Nat.mul_mod_mul_right]
  have e2:(a % 2 * 2 ^ (t - 1) != 0) = decide (a % 2 ≠ 0):=by
   grind
  grind
theorem ZzN {x:Nat} {n:Int} {s:Bool} {t:Nat} (h:n.natAbs ≠ 0) (ht:1 ≤ t) (hl:(n.natAbs * 2 ^ (t - 1)).log2 = 52):t ≤ 53:=by
 rw [Kp h] at hl; omega
theorem ZKl {x:Nat} {n:Int} (hx:Val x n) (hb:n.natAbs < 4503599627370496):∃ z,WU .down x = some z ∧ Val z (2 * (n / 2)):=by
 obtain ⟨s,t,hr,h1,hs⟩:=hx.nat
 unfold WU
 have hd:FloatKind.f64.decode x = .number s (n.natAbs * 2 ^ (t - 1)) (-(t:Int)):=hr
 rw [hd]
 refine ⟨_,rfl,?_⟩
 show Val (Ky.write (Ieee.Datum.integral .down (.number s (n.natAbs * 2 ^ (t - 1)) (-(t:Int))))) _
 unfold Ieee.Datum.integral
 simp only [Int.neg_neg,Xw,show (-(t:Int)).toNat = 0 by omega,Nat.shiftLeft_zero]
 rw [Zm0 .down (.inl rfl) h1 (fun h => (hs (by omega)).2) (fun h => ZzN (x:=x) (s:=s) h h1 (hs (by omega)).2),if_pos rfl]
 refine ZoU ?_ (fun hne => ?_) (by omega)
 ·by_cases h0:n = 0
  ·subst h0; simp
  ·rw [(hs h0).1]
   by_cases hlt:n < 0
   ·rw [dTr hlt]
    by_cases ho:n.natAbs % 2 = 0
    ·simp [ho]; omega
    ·simp [ho]; omega
   grind
 grind
theorem ZK0 {x:Nat} {v:Int} (hx:Val x (2 * v)) (hb:v.natAbs < 1125899906842624):∃ z,WU .zero x = some z ∧ Val z (2 * v):=by
 obtain ⟨s,t,hr,h1,hs⟩:=hx.nat
 unfold WU
 have hd:FloatKind.f64.decode x = .number s ((2 * v).natAbs * 2 ^ (t - 1)) (-(t:Int)):=hr
 rw [hd]
 refine ⟨_,rfl,?_⟩
 show Val (Ky.write (Ieee.Datum.integral .zero (.number s ((2 * v).natAbs * 2 ^ (t - 1)) (-(t:Int))))) _
 unfold Ieee.Datum.integral
 simp only [Int.neg_neg,Xw,show (-(t:Int)).toNat = 0 by omega,Nat.shiftLeft_zero]
 rw [Zm0 .zero (.inr rfl) h1 (fun h => (hs (by omega)).2) (fun h => ZzN (x:=x) (s:=s) h h1 (hs (by omega)).2),if_neg (by decide)]
 refine ZoU (by omega) (fun hne => ?_) (by omega)
 grind
theorem Zct {x:Nat} {v:Int} (hx:Val x (2 * v)) (hb:v.natAbs < 1125899906842624):floatToIntVal .f64 x .i64 = some v:=by
 obtain ⟨s,t,hr,h1,hs⟩:=hx.nat
 unfold floatToIntVal
 have hd:FloatKind.f64.decode x = .number s ((2 * v).natAbs * 2 ^ (t - 1)) (-(t:Int)):=hr
 rw [hd]
 have:Ieee.Datum.toInt .zero (.number s ((2 * v).natAbs * 2 ^ (t - 1)) (-(t:Int))) = some v:=by
  unfold Ieee.Datum.toInt Ieee.Datum.integral
  simp only [Int.neg_neg,Xw,show (-(t:Int)).toNat = 0 by omega,Nat.shiftLeft_zero]
  rw [Zm0 .zero (.inr rfl) h1 (fun h => (hs (by omega)).2) (fun h => ZzN (x:=x) (s:=s) h h1 (hs (by omega)).2),if_neg (by decide)]
  unfold Ieee.signed
  grind
 grind [IntKind.min,IntKind.max,IntKind.signed,IntKind.bits]
theorem ZP3 (x:Nat):Ky.read (x % 9223372036854775808) = match Ky.read x with | .number _ m e => .number false m e | .infinity _ => .infinity false | .nan _ f => .nan false f:=by
 unfold Ieee.Format.read
 simp only [Zj6,Zi8,Zxn,Zm1]
 have e1:x % 9223372036854775808 / 9223372036854775808 = 0:=Nat.div_eq_of_lt (Nat.mod_lt _ (by omega))
 rw [e1,Nat.mod_mod]
 grind
theorem Zw3 {x:Nat} {n:Int} (hx:Val x n):Val (x % 9223372036854775808) (n.natAbs:Int):=by
 obtain ⟨hb,h⟩:=hx
 refine ⟨by simpa using hb,?_⟩
 rw [ZP3]
 grind
theorem Zrd (k x:Nat):ZfJ k (x,()) = some (x % 9223372036854775808,()):=by
 show ZhE k _ = _
 simp only [ZhE]
 congr 2
 have e1:BitVec.ofInt 64 (Int.ofNat x) &&& ~~~BitVec.ofInt 64 (9223372036854775808:Int) = BitVec.ofNat 64 (x % 9223372036854775808):=by
  apply BitVec.eq_of_getLsbD_eq
  intro i hi
  have h1:BitVec.ofInt 64 (Int.ofNat x) = BitVec.ofNat 64 x:=BitVec.ofInt_natCast ..
  have h2:BitVec.ofInt 64 (9223372036854775808:Int) = BitVec.twoPow 64 63:=by decide
  rw [h1,h2]
  simp only [BitVec.getLsbD_and,BitVec.getLsbD_not,BitVec.getLsbD_ofNat,BitVec.getLsbD_twoPow,show (9223372036854775808:Nat) = 2 ^ 63 from rfl,Nat.testBit_mod_two_pow]
  grind
 rw [e1,BitVec.toNat_ofNat]
 have:x % 9223372036854775808 < 9223372036854775808:=Nat.mod_lt _ (by omega)
 rw [Nat.mod_eq_of_lt (by omega)]
 show (IntKind.u64.wrap ((x % 9223372036854775808:Nat):Int)).toNat = _
 rw [Zua (by omega),Xw]
end Go.Sh
namespace Go.Sh
open Go Go.Proofs
def Qt (n:Int):Prop := -16777216 ≤ n ∧ n ≤ 16777216
def PV2 (p:Nat × Nat) (l r:Int):Prop:=Val p.1 (2 * l) ∧ Val p.2 (2 * r) ∧ Qt l ∧ Qt r
structure PP (p:List (Nat × Nat)) (L R:List Int):Prop where
 hl:p.length = L.length
 hr:p.length = R.length
 at_:∀ i (h:i < p.length),PV2 p[i] (L[i]'(hl ▸ h)) (R[i]'(hr ▸ h))
def ZgD (L R:List Int):List (Nat × Nat):=(L.zip R).map fun x => (FloatKind.f64.nearest x.1,FloatKind.f64.nearest x.2)
theorem ZCf {L R:List Int} (h:L.length = R.length) (hL:∀ x ∈ L,Qt x) (hR:∀ x ∈ R,Qt x):PP (ZgD L R) L R where
 hl:=by simp [ZgD,h]
 hr:=by simp [ZgD,h]
 at_:=fun i hi => by
  simp only [ZgD,List.length_map,List.length_zip] at hi
  have h1:=hL L[i] (List.getElem_mem (by omega))
  have h2:=hR R[i] (List.getElem_mem (by omega))
  simp only [ZgD,List.getElem_map,List.getElem_zip]
  exact ⟨ZoM _ (by unfold Qt at h1; omega),ZoM _ (by unfold Qt at h2; omega),h1,h2⟩
theorem ZOS (k:Nat) {L R:List Int} (hk:L.length < k) (h:L.length = R.length) (hn:L.length ≤ 8192) (hL:∀ x ∈ L,Qt x) (hR:∀ x ∈ R,Qt x) :
  ZsN k (L,R,()) = some ((ZgD L R,0,()),()):=by
 show ZdE k (ZsO k) _ = _
 simp only [ZdE]
 rw [show (Int.ofNat L.length != Int.ofNat R.length) = false from by rw [h]; simp]
 simp only [cond_false]
 rw [Zo (by simp only [QS]; omega)]
 have:=Zy (A:=List (Nat × Nat)) (step:=fun L1 => Zat k L1) (fun i acc => (Int.ofNat L.length,Int.ofNat i,L,R,acc)) (L.zip R)
  (fun l acc => some ((acc ++ l.map (fun x => (FloatKind.f64.nearest x.1,FloatKind.f64.nearest x.2)),0,()),())) (fun i acc => acc.length = i)
  (fun L1 acc ha => by
   grind [Zat])
  (fun L1 i hi acc ha hL1 => by
   have hi2:i < L.length:=by simp at hi; omega
   have hi3:i < R.length:=by omega
   have b1:=hL L[i] (List.getElem_mem hi2)
   have b2:=hR R[i] (List.getElem_mem hi3)
   unfold Qt at b1 b2
   simp only [Zat]
   rw [Zc (ltR hi2),Zc (YI hi2),Zc (YI hi3),ZM hi2,ZM hi3]
   rw [Zo (by omega),Zo (by omega),Zo (by omega),Zo (by omega),Zc (by simp; omega),Qr hi2 (by omega)]
   rw [hL1 _ (by simp [ha])]
   simp) k 0 [] rfl (by simp; omega) (Nat.zero_le _)
 exact Eq.trans this (by rw [List.drop_zero]; rfl)
theorem Zq0 (k:Nat) {x y:Nat} {a b:Int} (hx:Val x a) (hy:Val y b) (hb:(a - b).natAbs < 9007199254740992) (hb2:(a + b).natAbs < 9007199254740992):∃ z,Zja k ((x,y),()) = some (z,()) ∧ Val z (a - b):=by
 show ∃ z,Zg8 k _ = _ ∧ _
 simp only [Zg8]
 unfold cMulBits
 obtain ⟨z1,e1,v1⟩:=ZoL hx
 obtain ⟨z2,e2,v2⟩:=ZoL hy
 obtain ⟨z3,e3,v3⟩:=ZT7 v1 v2 hb
 obtain ⟨z4,e4,v4⟩:=ZF9 v1 v2 hb2
 simp_all
theorem ZLO (k:Nat) {x:Nat} {n:Int} (hx:Val x n) (hb:n.natAbs < 4503599627370496):∃ z,Zq1 k (x,()) = some (z,()) ∧ Val z (2 * (n / 2)):=by
 obtain ⟨z,e,v⟩:=ZKl hx hb
 refine ⟨z,?_,v⟩
 show Zg9 k _ = _
 simp only [Zg9,e,Z3]
theorem ZAN (k:Nat) {x:Nat} {v:Int} (hx:Val x (2 * v)) (hb:v.natAbs < 1125899906842624):∃ z,ZfI k (x,()) = some (z,()) ∧ Val z (2 * v):=by
 obtain ⟨z,e,w⟩:=ZK0 hx hb
 refine ⟨z,?_,w⟩
 show ZhC k _ = _
 simp only [ZhC,e,Z3]
theorem ZPH:Ky.read 9218868437227405311 = .number false 9007199254740991 971:=by decide
theorem ZTP {x:Nat} {n:Int} (hx:Val x n) (h0:0 ≤ n):(FloatKind.f64.format.order x 9218868437227405311 == some Ordering.gt) = false:=by
 obtain ⟨s,m,i,h1,h2,h2',h3⟩:=hx.num
 have:FloatKind.f64.format.order x 9218868437227405311 = some Ordering.lt:=by
  show (Ky.read x).order (Ky.read 9218868437227405311) = _
  rw [h1,ZPH]
  unfold Ieee.Datum.order
  simp only
  have hmin:min i 971 = i:=by omega
  rw [hmin,h3 i (Int.le_refl _)]
  congr 1
  rw [Int.compare_eq_lt]
  unfold Ieee.signed
  simp only [Bool.false_eq_true,if_false]
  rw [Nat.shiftLeft_eq,Int.natCast_mul]
  have hp:(0:Int) < 2 ^ (-1 - i).toNat:=Int.pow_pos (by omega)
  obtain ⟨d,hd,hd1⟩:∃ d:Nat,(971 - i).toNat = (-1 - i).toNat + d ∧ d ≠ 0:=⟨972,by omega,by omega⟩
  have hq:(((2 ^ (971 - i).toNat:Nat):Int)) = 2 ^ (-1 - i).toNat * ((2 ^ d:Nat):Int):=by
   grind
  rw [hq]
  have hb:=hx.1
  have hQ:1 < 2 ^ d:=Nat.one_lt_two_pow hd1
  have e1:n * 2 ^ (-1 - i).toNat ≤ 9007199254740991 * 2 ^ (-1 - i).toNat:=Int.mul_le_mul_of_nonneg_right (by omega) (Int.le_of_lt hp)
  grind
 rw [this]; rfl
theorem ZAP (k:Nat) {x:Nat} {n:Int} (hx:Val x n):Znf k (x,0,()) = some (false,()):=by
 show ZhD k _ = _
 simp only [ZhD]
 rw [show ((0:Int) == (0:Int)) = true from rfl]
 simp only [cond_true,Zrd,Z3]
 rw [ZTP (Zw3 hx) (by omega)]
theorem ZTy:Val 4715268809856909312 33554432:=by
 refine ⟨by decide,.inr ⟨by decide,by decide⟩⟩
theorem ZTJ {x y:Nat} {a b:Int} (hx:Val x a) (hy:Val y b):∃ z,ZCl .f64 x y = some z ∧ Val z (max a b):=by
 unfold ZCl
 rw [ZnY hx hy]
 grind
theorem ZCp {x y:Nat} {a:Int} (hx:Val x a) (hy:Val y a):(FloatKind.f64.format.order x y != some Ordering.eq) = false:=by
 rw [ZnY hx hy]; simp
theorem ZKH {x:Nat} {a:Int} (hx:Val x a) (h:a ≤ 33554432):(FloatKind.f64.format.order x 4715268809856909312 == some Ordering.gt) = false:=by
 rw [ZnY hx ZTy]
 grind
theorem ZDE (k:Nat) (hk:4 < k) (L1:Int × Int × List (Nat × Nat) × List (Nat × Nat) → Option (Int × Unit)) {x y:Nat} {l r:Int} (h:PV2 (x,y) l r) (v3 v4:Int) (v5 v6:List (Nat × Nat)) :
  Zj9 k L1 (0,x,y,v3,v4,v5,v6) = L1 (v4,IntKind.i64.wrap (v3 + 1),v5,v6):=by
 obtain ⟨hx,hy,b1,b2⟩:=h
 unfold Qt at b1 b2
 obtain ⟨k,rfl⟩:∃ m,k = m + 3:=⟨k - 3,by omega⟩
 obtain ⟨z1,e1,w1⟩:=ZAN (k + 3) hx (by omega)
 obtain ⟨z2,e2,w2⟩:=ZAN (k + 3) hy (by omega)
 show Zn (fun L2 => Za6 (k + 3) L1 L2) (k + 3) _ = _
 rw [Ze]
 simp only [Za6]
 rw [Zc (by omega),Zc (by omega)]
 show ((ZfI (k + 3) (x,())).bind _) = _
 rw [e1]
 simp only [Z3]
 rw [show [x,y].getD (0:Int).toNat (0:Nat) = x from rfl,ZCp w1 hx]
 simp only [cond_false]
 rw [ZAP _ hx]
 simp only [Z3,cond_false]
 rw [show IntKind.i64.wrap ((0:Int) + 1) = 1 from by rw [Qe (by omega)]; rfl,Ze]
 simp only [Za6]
 rw [Zc (by omega),Zc (by omega)]
 show ((ZfI (k + 3) (y,())).bind _) = _
 rw [e2]
 simp only [Z3]
 rw [show [x,y].getD (1:Int).toNat (0:Nat) = y from rfl,ZCp w2 hy]
 simp only [cond_false]
 rw [ZAP _ hy]
 rfl
theorem ZIp (k:Nat) {p:List (Nat × Nat)} {L R:List Int} (hp:PP p L R) (hk:p.length + 4 < k) (hn:p.length ≤ 8192):ZqZ k (p,()) = some (0,()):=by
 show Zg7 k (Zpa k) _ = _
 simp only [Zg7]
 rw [Zo (by simp only [QS]; omega)]
 have h3:Zka k (Int.ofNat p.length,(0:Int),p) = some (0,()):=by
  have:=QK (A:=Unit) (step:=fun L3 => Zc0 k L3) (fun i _ => (Int.ofNat p.length,Int.ofNat i,p)) p (fun _ _ => some (0,()))
   (fun L _ => by grind [Zc0])
   (fun L i hi _ hL => by
    obtain ⟨hx,hy,b1,b2⟩:=hp.at_ i hi
    unfold Qt at b1 b2
    simp only [Zc0]
    rw [Zc (ltR hi),Zc (YI hi),ZM hi,Zrd,Zrd]
    simp only [Z3]
    obtain ⟨z,e,w⟩:=ZTJ (Zw3 hx) (Zw3 hy)
    rw [e]
    simp only [Z3]
    rw [ZKH w (by omega)]
    simp only [cond_false]
    rw [Qr hi (by omega),hL ()]) k 0 () (by omega) (Nat.zero_le _)
  exact this
 have:=QK (A:=Unit) (step:=fun L1 => ZcZ k (Zj9 k L1) (Zka k) L1) (fun i _ => (Int.ofNat p.length,Int.ofNat i,p,p)) p (fun _ _ => some (0,()))
  (fun L _ => by grind [ZcZ])
  (fun L i hi _ hL => by
   simp only [ZcZ]
   rw [Zc (ltR hi),Zc (YI hi),ZM hi]
   rw [ZDE k (by omega) L (x:=p[i].1) (y:=p[i].2) (hp.at_ i hi),Qr hi (by omega),hL ()]) k 0 () (by omega) (Nat.zero_le _)
 exact this
def apA (m l r:Int):Int:=if m = 9 then l - r else if m = 10 then (l + r) / 2 else l
def apB (m l r:Int):Int:=if m = 8 then l - r else if m = 10 then l - r else r
def Zmg (m:Int):Prop:=m = 0 ∨ m = 8 ∨ m = 9 ∨ m = 10
def Xe (m:Int) (L R:List Int):List Int:=(L.zip R).map fun x => apA m x.1 x.2
def Xf (m:Int) (L R:List Int):List Int:=(L.zip R).map fun x => apB m x.1 x.2
theorem ZBR (k:Nat) {m:Int} (h:Zmg m):Zwb k (m,()) = some (true,()):=by
 rcases h with rfl | rfl | rfl | rfl <;> rfl
theorem ZsR (k:Nat) {p:List (Nat × Nat)} {L R:List Int} (hp:PP p L R) (hk:p.length + 4 < k) (hn:p.length ≤ 8192) {m:Int} (hm:Zmg m) :
  ZsP k (p,m,()) = some ((Xe m L R,Xf m L R,0,()),()):=by
 show ZlN k (ZyN k) _ = _
 simp only [ZlN]
 rw [ZBR k hm]
 simp only [Z3,Bool.not_true,cond_false]
 rw [ZIp k hp hk hn]
 simp only [Z3]
 rw [show ((0:Int) != (0:Int)) = false from rfl]
 simp only [cond_false]
 have hl:=hp.hl
 have hr:=hp.hr
 have:=Zy (A:=List Int × List Int) (step:=fun L1 => Zgh k L1) (fun i a => (Int.ofNat p.length,Int.ofNat i,p,m,a.1,a.2)) (L.zip R)
  (fun l a => some ((a.1 ++ l.map (fun x => apA m x.1 x.2),a.2 ++ l.map (fun x => apB m x.1 x.2),0,()),())) (fun i a => a.1.length = i ∧ a.2.length = i)
  (fun L1 a ha => by
   grind [Zgh])
  (fun L1 i hi a ha hL1 => by
   have hi2:i < p.length:=by simp at hi; omega
   obtain ⟨hx,hy,b1,b2⟩:=hp.at_ i hi2
   unfold Qt at b1 b2
   simp only [Zgh]
   rw [Zc (ltR hi2),Zc (YI hi2),ZM hi2]
   have s1:(a.1.length + [(0:Int)].length < 2147483648):=by simp; omega
   have s2:(a.2.length + [(0:Int)].length < 2147483648):=by simp; omega
   have hz:(L.zip R)[i] = (L[i]'(by omega),R[i]'(by omega)):=by simp
   rw [hz]
   have fin:∀ (u v:Int),u = apA m (L[i]'(by omega)) (R[i]'(by omega)) → v = apB m (L[i]'(by omega)) (R[i]'(by omega)) →
     L1 (Int.ofNat p.length,IntKind.i64.wrap (Int.ofNat i + 1),p,m,a.1 ++ [u],a.2 ++ [v]) = some ((a.1 ++ List.map (fun x => apA m x.1 x.2) ((L[i]'(by omega),R[i]'(by omega)) :: List.drop (i + 1) (L.zip R)),a.2 ++ List.map (fun x => apB m x.1 x.2) ((L[i]'(by omega),R[i]'(by omega)) :: List.drop (i + 1) (L.zip R)),0,()),()):=by
    intro u v hu hv
    rw [Qr hi2 (by omega)]
    simp_all
   rcases hm with rfl | rfl | rfl | rfl
   ·rw [show ((0:Int) == (8:Int)) = false from rfl,show ((0:Int) == (9:Int)) = false from rfl,show ((0:Int) == (10:Int)) = false from rfl]
    simp only [cond_false]
    rw [Zct hx (by omega)]
    simp only [Z3]
    rw [Zc (by simp; omega),Zct hy (by omega)]
    simp only [Z3]
    rw [Zc (by simp; omega)]
    exact fin _ _ rfl rfl
   ·rw [show ((8:Int) == (8:Int)) = true from rfl]
    simp only [cond_true]
    obtain ⟨z,e,w⟩:=Zq0 k hx hy (by omega) (by omega)
    rw [← Int.mul_sub] at w
    rw [e]
    simp only [Z3]
    rw [Zct hx (by omega)]
    simp only [Z3]
    rw [Zc (by simp; omega),Zct w (by omega)]
    simp only [Z3]
    rw [Zc (by simp; omega)]
    exact fin _ _ rfl rfl
   ·rw [show ((9:Int) == (8:Int)) = false from rfl,show ((9:Int) == (9:Int)) = true from rfl]
    simp only [cond_true,cond_false]
    obtain ⟨z,e,w⟩:=Zq0 k hx hy (by omega) (by omega)
    rw [← Int.mul_sub] at w
    rw [e]
    simp only [Z3]
    rw [Zct w (by omega)]
    simp only [Z3]
    rw [Zc (by simp; omega),Zct hy (by omega)]
    simp only [Z3]
    rw [Zc (by simp; omega)]
    exact fin _ _ rfl rfl
   ·rw [show ((10:Int) == (8:Int)) = false from rfl,show ((10:Int) == (9:Int)) = false from rfl,show ((10:Int) == (10:Int)) = true from rfl]
    simp only [cond_true,cond_false]
    obtain ⟨z1,e1,w1⟩:=ZF9 hx hy (by omega)
    rw [← Int.mul_add] at w1
    obtain ⟨z2,e2,w2⟩:=ZPt w1
    obtain ⟨z3,e3,w3⟩:=ZLO k w2 (by omega)
    obtain ⟨z,e,w⟩:=Zq0 k hx hy (by omega) (by omega)
    rw [← Int.mul_sub] at w
    rw [e1]
    simp only [Z3]
    rw [e2]
    simp only [Z3]
    rw [e3]
    simp only [Z3]
    rw [e]
    simp only [Z3]
    rw [Zct w3 (by omega)]
    simp only [Z3]
    rw [Zc (by simp; omega),Zct w (by omega)]
    simp only [Z3]
    rw [Zc (by simp; omega)]
    exact fin _ _ rfl rfl) k 0 ([],[]) ⟨rfl,rfl⟩ (by simp; omega) (Nat.zero_le _)
 exact Eq.trans this (by rw [List.drop_zero]; rfl)
end Go.Sh
namespace Go.Sh
open Go Go.Proofs
theorem ZCC (x:Int) {w:Nat} (hw:0 < w):XG x w = (x.fdiv (2 ^ (w - 1)) == 0 || x.fdiv (2 ^ (w - 1)) == -1):=by
 rw [Bool.eq_iff_iff]
 constructor
 ·intro h
  rcases ZBV hw h with h | h
  ·rw [h]; rfl
  ·rw [h]; rfl
 ·intro h
  unfold XG
  rw [if_neg (by omega),decide_eq_true_eq]
  have hp:(0:Int) < 2 ^ (w - 1):=Int.pow_pos (by omega)
  rw [Int.fdiv_eq_ediv_of_nonneg _ (by omega)] at h
  have h1:=Int.mul_ediv_add_emod x (2 ^ (w - 1))
  have h2:=Int.emod_nonneg x (show (2:Int) ^ (w - 1) ≠ 0 by omega)
  have h3:=Int.emod_lt_of_pos x hp
  grind
def ZjD:List Int → Int → Int → Int
 | [],n,_ => n
 | x :: l,n,last => ZjD l (n + ((x - last).natAbs:Int)) x
def ZgU (l:List Int):Int:=ZjD l 0 0
def QD (n:Int):Prop := -67108864 ≤ n ∧ n ≤ 67108864
theorem ZBS (k:Nat) (l:List Int) (hk:l.length < k) (hn:l.length ≤ 8192) (hl:∀ x ∈ l,QD x):Zwc k (l,()) = some (ZgU l,()):=by
 show Zl9 k (Zzd k) _ = _
 simp only [Zl9]
 have:=Zy (A:=Int × Int) (step:=fun L1 => Zgr k L1) (fun i a => (Int.ofNat l.length,Int.ofNat i,l,a.1,a.2)) l
  (fun l' a => some (ZjD l' a.1 a.2,())) (fun i a => 0 ≤ a.1 ∧ a.1 ≤ (i:Int) * 268435456 ∧ QD a.2)
  (fun L a _ => by simp only [Zgr]; rw [Zo (Yb _)]; rfl)
  (fun L i hi a ha hL => by
   have hx:=hl _ (List.getElem_mem hi)
   unfold QD at hx ha
   simp only [Zgr]
   rw [Zc (ltR hi),Zc (YI hi),ZM hi,Qr hi (by omega)]
   have e1:IntKind.i64.wrap (l[i] - a.2) = l[i] - a.2:=Qe (by omega)
   have e2:IntKind.i64.wrap (a.2 - l[i]) = a.2 - l[i]:=Qe (by omega)
   rw [e1,e2]
   have e3:(if l[i] - a.2 < a.2 - l[i] then a.2 - l[i] else l[i] - a.2) = (((l[i] - a.2).natAbs:Nat):Int):=by split <;> omega
   rw [e3]
   have hi':(i:Int) ≤ 8192:=by omega
   have e4:IntKind.i64.wrap (a.1 + (((l[i] - a.2).natAbs:Nat):Int)) = a.1 + (((l[i] - a.2).natAbs:Nat):Int):=Qe (by omega)
   rw [e4,hL (a.1 + (((l[i] - a.2).natAbs:Nat):Int),l[i]) ⟨by omega,by push_cast; omega,hx⟩]
   rfl) k 0 (0,0) ⟨by omega,by omega,by unfold QD; omega⟩ (by omega) (Nat.zero_le _)
 exact this
theorem Zmv:∀ (l:List Int) (n last:Int),(∀ x ∈ l,QD x) → QD last → n ≤ ZjD l n last ∧ ZjD l n last ≤ n + (l.length:Int) * 134217728
 | [],n,last,_,_ => by simp [ZjD]
 | x :: l,n,last,h,hb => by
  have hx:=h x (List.mem_cons_self ..)
  have:=Zmv l (n + ((x - last).natAbs:Int)) x (fun y hy => h y (List.mem_cons_of_mem _ hy)) hx
  unfold QD at hx hb
  grind [ZjD,List.length_cons]
theorem Zmw {l:List Int} (h:∀ x ∈ l,QD x) (hn:l.length ≤ 8192):0 ≤ ZgU l ∧ ZgU l ≤ 1099511627776:=by
 have:=Zmv l 0 0 h (by unfold QD; omega)
 unfold ZgU
 omega
theorem Zz1 {m l r:Int} (hl:Qt l) (hr:Qt r):QD (apA m l r) ∧ QD (apB m l r):=by
 unfold Qt at hl hr
 unfold QD apA apB
 omega
theorem Zz2 {m:Int} {L R:List Int} (hL:∀ x ∈ L,Qt x) (hR:∀ x ∈ R,Qt x):(∀ x ∈ Xe m L R,QD x) ∧ (∀ x ∈ Xf m L R,QD x):=by
 constructor
 ·intro x hx
  obtain ⟨⟨l,r⟩,h,rfl⟩:=List.mem_map.1 hx
  exact (Zz1 (hL _ (List.of_mem_zip h).1) (hR _ (List.of_mem_zip h).2)).1
 ·intro x hx
  obtain ⟨⟨l,r⟩,h,rfl⟩:=List.mem_map.1 hx
  exact (Zz1 (hL _ (List.of_mem_zip h).1) (hR _ (List.of_mem_zip h).2)).2
theorem Zg3 {m:Int} {L R:List Int} (h:L.length = R.length):(Xe m L R).length = L.length ∧ (Xf m L R).length = L.length:=by
 unfold Xe Xf
 simp [h]
def ZLB (L R:List Int) (m:Int):Int:=ZgU (Xe m L R) + ZgU (Xf m L R)
def Zmn (L R:List Int) (b:Int × Int) (m:Int):Int × Int:=if b.1 < 0 ∨ ZLB L R m < b.1 then (ZLB L R m,m) else b
def Qg (L R:List Int):Int:=(Zmn L R (Zmn L R (Zmn L R (Zmn L R (-1,0) 0) 8) 9) 10).2
theorem Zmo {L R:List Int} {b:Int × Int} {m:Int} (hb:Zmg b.2) (hm:Zmg m):Zmg (Zmn L R b m).2:=by
 unfold Zmn; split
 ·exact hm
 ·exact hb
theorem Zi3 (L R:List Int):Zmg (Qg L R):=by
 unfold Qg
 exact Zmo (Zmo (Zmo (Zmo (.inl rfl) (.inl rfl)) (.inr (.inl rfl))) (.inr (.inr (.inl rfl)))) (.inr (.inr (.inr rfl)))
theorem ZlM (k:Nat) (L1:Int × Int × Int × Int × Int × List (Nat × Nat) × Int × Int → Option ((Int × Int × Unit) × Unit)) {p:List (Nat × Nat)} {L R:List Int} (hp:PP p L R) (hLR:L.length = R.length) (hL:∀ x ∈ L,Qt x) (hR:∀ x ∈ R,Qt x)
  (hk:p.length + 4 < k) (hn:p.length ≤ 8192) (j:Nat) (hj:j < 4) (m:Int) (hm:Zmg m) (hg:[(0:Int),8,9,10].getD j 0 = m) (b:Int × Int) :
  Zgg k L1 ((j:Int),0,8,9,10,p,b.1,b.2) = L1 (((j + 1:Nat):Int),0,8,9,10,p,(Zmn L R b m).1,(Zmn L R b m).2):=by
 have hl:=hp.hl
 obtain ⟨sA,sB⟩:=Zz2 (m:=m) hL hR
 obtain ⟨lA,lB⟩:=Zg3 (m:=m) hLR
 have bA:=Zmw sA (by omega)
 have bB:=Zmw sB (by omega)
 simp only [Zgg]
 rw [Zc (by omega),Zc (by omega),Xw,hg,ZsR k hp hk hn hm]
 simp only [Z3]
 rw [show ((0:Int) != (0:Int)) = false from rfl]
 simp only [cond_false]
 rw [ZBS k _ (by omega) (by omega) sA]
 simp only [Z3]
 rw [ZBS k _ (by omega) (by omega) sB]
 simp only [Z3]
 rw [Qe (n:=ZgU (Xe m L R) + ZgU (Xf m L R)) (by omega),Qe (n:=(j:Int) + 1) (by omega)]
 unfold Zmn ZLB
 grind
theorem ZOV (k:Nat) {p:List (Nat × Nat)} {L R:List Int} (hp:PP p L R) (hLR:L.length = R.length) (hL:∀ x ∈ L,Qt x) (hR:∀ x ∈ R,Qt x)
  (hk:p.length + 8 < k) (hn:p.length ≤ 8192):ZBD k (p,()) = some ((Qg L R,0,()),()):=by
 obtain ⟨k,rfl⟩:∃ m,k = m + 5:=⟨k - 5,by omega⟩
 show Zn (fun L1 => Zgg (k + 5) L1) (k + 5) ((0:Nat),0,8,9,10,p,(-1,(0:Int)).1,(-1,(0:Int)).2) = _
 rw [Ze,ZlM (k + 5) _ hp hLR hL hR (by omega) hn 0 (by omega) 0 (.inl rfl) rfl]
 rw [Ze,ZlM (k + 5) _ hp hLR hL hR (by omega) hn 1 (by omega) 8 (.inr (.inl rfl)) rfl]
 rw [Ze,ZlM (k + 5) _ hp hLR hL hR (by omega) hn 2 (by omega) 9 (.inr (.inr (.inl rfl))) rfl]
 rw [Ze,ZlM (k + 5) _ hp hLR hL hR (by omega) hn 3 (by omega) 10 (.inr (.inr (.inr rfl))) rfl]
 rfl
def Kn (ch:List (List Int)):List (List Int) × Int:=match ch with
 | [L,R] => ([Xe (Qg L R) L R,Xf (Qg L R) L R],if Qg L R = 0 then 1 else Qg L R)
 | ch => (ch,0)
theorem ZOw (k:Nat) (n:Int) (ch:List (List Int)) (hk:9000 < k) (h:ch.length = 1 ∨ (∃ L R,ch = [L,R] ∧ L.length = R.length ∧ L.length ≤ 8192 ∧ (∀ x ∈ L,Qt x) ∧ ∀ x ∈ R,Qt x)) :
  ZBl k ((n,ch,()),()) = some (((Kn ch).1,(Kn ch).2,0,()),()):=by
 show Zlu k _ = _
 simp only [Zlu]
 rcases h with h | ⟨L,R,rfl,hLR,hn,hL,hR⟩
 ·match ch,h with
  | [L],_ => rfl
 ·rw [show (Int.ofNat [L,R].length == (1:Int)) = false from rfl]
  simp only [cond_false]
  rw [Zc (by simp),Zc (by simp)]
  have hp:=ZCf hLR hL hR
  have hpl:(ZgD L R).length ≤ 8192:=by rw [hp.hl]; exact hn
  rw [show [L,R].getD 0 [] = L from rfl,show [L,R].getD 1 [] = R from rfl,ZOS k (by omega) hLR hn hL hR]
  simp only [Z3]
  rw [show ((0:Int) != (0:Int)) = false from rfl]
  simp only [cond_false]
  rw [ZOV k hp hLR hL hR (by omega) hpl]
  simp only [Z3]
  rw [show ((0:Int) != (0:Int)) = false from rfl]
  simp only [cond_false]
  rw [ZsR k hp (by omega) hpl (Zi3 L R)]
  simp only [Z3]
  rw [ZU]
  show (bif decide (Qg L R = 0) then _ else _) = some ((([_,_],if Qg L R = 0 then 1 else Qg L R,0,()),()))
  grind
def Qm (c d m:Int):List Int:=if c = 1 then [d] else if m = 8 ∨ m = 10 then [d,d + 1] else if m = 9 then [d + 1,d] else [d,d]
theorem ZBr (k:Nat) {c d r m:Int} (hc:c = 1 ∧ m = 0 ∨ c = 2) (hd:0 ≤ d ∧ d ≤ 24):Zv1 k ((c,d,r,()),m,()) = some (Qm c d m,()):=by
 show ZlB k _ = _
 simp only [ZlB]
 have e:IntKind.i64.wrap (d + 1) = d + 1:=Qe (by omega)
 unfold Qm
 rcases hc with ⟨rfl,rfl⟩ | rfl
 ·rw [Zc (by simp)]
  rfl
 grind
def ZbY (c d r:Int):Bool:=decide (1 ≤ c ∧ c ≤ 2 ∧ 4 ≤ d ∧ d ≤ 24 ∧ 1 ≤ r ∧ r ≤ 655350)
theorem Zq8 (k:Nat) (c d r:Int):Zkk k ((c,d,r,()),()) = some (if ZbY c d r then 0 else 2,()):=by
 show Zc6 k _ = _
 simp only [Zc6]
 unfold ZbY
 grind
def ZnQ (n:Nat) (l:List Int):Bool:=decide (l.length = n ∧ 1 ≤ n ∧ n ≤ 512)
def XL (c d r n:Int) (ch:List (List Int)):Int :=
 if ZbY c d r = false then 2 else if n < 0 ∨ 2147483647 < n ∨ (ch.length:Int) ≠ c then 1
 else if ch.all (ZnQ (ch.headD []).length) = false then 1
 else if ch.all (fun l => l.all fun x => XG x d.toNat) = false then 12 else 0
theorem ZBk (k:Nat) (c d r n:Int) (ch:List (List Int)) (hk:1000 < k):ZiB k ((c,d,r,()),(n,ch,()),()) = some (XL c d r n ch,()):=by
 show Zlt k (ZsF k) _ = _
 simp only [Zlt]
 rw [Zq8]
 simp only [Z3]
 unfold XL
 cases hs:ZbY c d r with
 | false => rfl
 | true =>
  simp only [if_true,Bool.true_eq_false,if_false]
  rw [show ((0:Int) != (0:Int)) = false from rfl]
  simp only [cond_false]
  have hs:=of_decide_eq_true hs
  by_cases h1:n < 0
  ·rw [Zc h1,if_pos (.inl h1)]
  ·rw [Zo h1]
   by_cases h2:2147483647 < n
   ·rw [Zc h2,if_pos (.inr (.inl h2))]
   ·rw [Zo h2,ZK]
    by_cases h3:Int.ofNat ch.length = c
    ·rw [Zo (by simpa using h3),if_neg (by simp_all)]
     simp only [QS] at h3
     have hch:ch.length ≤ 2:=by omega
     rw [Zc (by simp only [QS]; omega)]
     have hhd:ch.getD 0 [] = ch.headD []:=by cases ch <;> rfl
     rw [hhd]
     generalize hN:(ch.headD []).length = N
     have hstep2:ch.all (ZnQ N) = true → Zf8 k (Int.ofNat ch.length,(0:Int),ch,c,d,r) = some (if ch.all (fun l => l.all fun x => XG x d.toNat) = false then 12 else 0,()):=by
      intro hall
      have:=Zbb (step:=fun L2 => ZdA k (ZsG k L2) L2) (fun i => (Int.ofNat ch.length,Int.ofNat i,ch,c,d,r)) ch (fun l => l.all fun x => XG x d.toNat) (some ((12:Int),())) (some ((0:Int),()))
       (fun L => by grind [ZdA])
       (fun L i hi => by
        simp only [ZdA]
        rw [Zc (ltR hi),Zc (YI hi),ZM hi]
        have hlen:=of_decide_eq_true (List.all_eq_true.1 hall ch[i] (List.getElem_mem hi))
        have:=Zbb (step:=fun L3 => ZdB k L L3) (fun j => (Int.ofNat ch[i].length,Int.ofNat j,ch[i],Int.ofNat i,Int.ofNat ch.length,ch,c,d,r)) ch[i] (fun x => XG x d.toNat) (some ((12:Int),()))
         (L (Int.ofNat ch.length,Int.ofNat (i + 1),ch,c,d,r))
         (fun L3 => by simp only [ZdB]; rw [Zo (Yb _),Qr hi (by omega)])
         (fun L3 j hj => by
          simp only [ZdB]
          rw [Zc (ltR hj),Zc (YI hj),ZM hj]
          have ew:IntKind.i64.wrap (d - 1) = ((d.toNat - 1:Nat):Int):=by rw [Qe (by omega)]; omega
          simp only [ew,Xw,Nat.min_eq_left (show d.toNat - 1 ≤ 64 by omega)]
          rw [Zc (by omega),ZCC _ (by omega),Qr hj (by omega)]
          grind) k (by omega)
        rw [← this]
        rfl) k (by omega)
      rw [show Zf8 k (Int.ofNat ch.length,(0:Int),ch,c,d,r) = Zn (fun L2 => ZdA k (ZsG k L2) L2) k (Int.ofNat ch.length,Int.ofNat 0,ch,c,d,r) from rfl,this]
      grind
     have:=Zbb (step:=fun L1 => Zdz k (Zf8 k) L1) (fun i => (Int.ofNat ch.length,Int.ofNat i,ch,Int.ofNat N,n,ch,c,d,r)) ch (ZnQ N) (some ((1:Int),()))
      (Zf8 k (Int.ofNat ch.length,(0:Int),ch,c,d,r))
      (fun L => by grind [Zdz])
      (fun L i hi => by
       simp only [Zdz]
       rw [Zc (ltR hi),Zc (YI hi),ZM hi,ZK]
       unfold ZnQ
       simp only [QS]
       by_cases e1:ch[i].length = N
       ·rw [Zo (by omega)]
        by_cases e2:N < 1
        ·simp_all
        ·rw [Zo (by omega)]
         by_cases e3:512 < N
         ·grind
         ·rw [Zo (by omega),dTr (by omega),Qe (by omega)]; rfl
       grind) k (by omega)
     rw [show ZsF k (Int.ofNat ch.length,(0:Int),ch,Int.ofNat N,n,ch,c,d,r) = Zn (fun L1 => Zdz k (Zf8 k) L1) k (Int.ofNat ch.length,Int.ofNat 0,ch,Int.ofNat N,n,ch,c,d,r) from rfl,this]
     grind
    simp_all
end Go.Sh
namespace Go.Sh
open Go Go.Proofs
def Zoe:List Int → Int
 | [] => 0
 | x :: l => x + Zoe l
def Ziz (x:Int):Bool:=decide (-2048 ≤ x ∧ x ≤ 2047)
def QM (x:Int):Bool:=decide (x ≤ -2147483648 ∨ 2147483648 ≤ x)
def ZbQ (c:List Int) (sh:Int):Bool:=decide (c.length ≤ 8 ∧ 0 ≤ sh ∧ sh ≤ 15) && c.all Ziz
theorem ZJz (k:Nat) (x:Int):ZrE k (x,()) = some (!Ziz x,()):=by
 show Zh3 k _ = _
 simp only [Zh3]
 unfold Ziz
 by_cases h:x < -2048
 ·simp_all
 ·rw [Zo h]
  by_cases h2:2047 < x
  ·simp_all
  simp_all
theorem ZAs (k:Nat) (c:List Int) (hk:c.length < k) (hn:c.length < 4294967296):ZfE k (c,(),()) = some (!c.all Ziz,()):=by
 show Zch k _ = _
 simp only [Zch]
 have key:∃ i:Int,ZfO k (c,(),()) = some (i,()) ∧ (0 ≤ i ↔ c.all Ziz = false):=by
  have:=QK (A:=Unit) (R:=Int × Unit) (step:=fun L1 => Zam k L1) (fun i _ => (Int.ofNat c.length,Int.ofNat i,c)) c
   (fun l _ => some (if l.all Ziz then -1 else Int.ofNat (c.length - l.length + (l.takeWhile Ziz).length),()))
   (fun L _ => by grind [Zam])
   (fun L i hi _ hL => by
    simp only [Zam]
    rw [Zc (ltR hi),Zc (YI hi),ZM hi,ZJz]
    simp only [Z3]
    have hlen:(List.drop (i + 1) c).length = c.length - (i + 1):=by simp
    cases hc:Ziz c[i] with
    | true =>
     simp only [Bool.not_true,cond_false]
     rw [Qr hi (by omega),hL ()]
     simp only [List.all_cons,hc,Bool.true_and,List.takeWhile_cons,if_true,List.length_cons,hlen]
     grind
    | false =>
     simp only [Bool.not_false,cond_true,List.all_cons,hc,Bool.false_and,Bool.false_eq_true,if_false,List.takeWhile_cons,List.length_cons,hlen,List.length_nil]
     congr 3; omega) k 0 () (by omega) (Nat.zero_le _)
  rw [List.drop_zero] at this
  refine ⟨_,this,?_⟩
  cases c.all Ziz <;> simp
 grind
theorem Znp (k:Nat) (x:Int):Zjj k (x,()) = some (QM x,()):=by
 show ZhJ k _ = _
 simp only [ZhJ]
 unfold QM
 grind
theorem Zcf (k:Nat) (c:List Int) (hk:c.length < k) (hn:c.length < 4294967296):Zaf k (c,(),()) = some (c.any QM,()):=by
 show Zce k _ = _
 simp only [Zce]
 have key:∃ i:Int,ZfM k (c,(),()) = some (i,()) ∧ (0 ≤ i ↔ c.any QM = true):=by
  have:=QK (A:=Unit) (R:=Int × Unit) (step:=fun L1 => Zak k L1) (fun i _ => (Int.ofNat c.length,Int.ofNat i,c)) c
   (fun l _ => some (if l.any QM then Int.ofNat (c.length - l.length + (l.takeWhile (fun x => !QM x)).length) else -1,()))
   (fun L _ => by grind [Zak])
   (fun L i hi _ hL => by
    simp only [Zak]
    rw [Zc (ltR hi),Zc (YI hi),ZM hi,Znp]
    simp only [Z3]
    have hlen:(List.drop (i + 1) c).length = c.length - (i + 1):=by simp
    cases hc:QM c[i] with
    | false =>
     simp only [cond_false]
     rw [Qr hi (by omega),hL ()]
     simp only [List.any_cons,hc,Bool.false_or,List.takeWhile_cons,Bool.not_false,if_true,List.length_cons,hlen]
     grind
    | true =>
     simp only [cond_true,List.any_cons,hc,Bool.true_or,if_true,List.takeWhile_cons,Bool.not_true,Bool.false_eq_true,if_false,List.length_cons,hlen,List.length_nil]
     congr 3; omega) k 0 () (by omega) (Nat.zero_le _)
  rw [List.drop_zero] at this
  refine ⟨_,this,?_⟩
  cases c.any QM <;> simp
 grind
theorem Zvp (k:Nat) (c:List Int) (sh:Int) (hk:10 < k):Znv k ((c,sh,()),()) = some (if ZbQ c sh then 0 else 2,()):=by
 show ZhV k _ = _
 simp only [ZhV]
 unfold ZbQ
 by_cases h1:(8:Int) < Int.ofNat c.length
 ·grind
 ·simp only [QS] at h1
  rw [Zo (by simp only [QS]; omega)]
  by_cases h2:sh < 0
  ·grind
  ·rw [Zo h2]
   by_cases h3:15 < sh
   ·grind
   ·rw [Zo h3,ZAs k c (by omega) (by omega),dTr (by omega)]
    grind
def ZXZ (c a:List Int):Int:=Zoe ((c.zip a.reverse).map fun x => x.1 * x.2)
def Zfg (c:List Int) (sh:Int) (a:List Int):Int:=(ZXZ c a).fdiv (2 ^ sh.toNat)
theorem ZKD {x y:Int} (hx : -2048 ≤ x ∧ x ≤ 2047) (hy : -2147483648 < y ∧ y < 2147483648) : -4398046511104 ≤ x * y ∧ x * y ≤ 4398046511104:=by
 have h1:(x * y).natAbs ≤ 2048 * 2147483648:=by
  rw [Int.natAbs_mul]
  exact Nat.mul_le_mul (by omega) (by omega)
 omega
theorem ZFZ {l:List Int} {b:Int} (h:∀ x ∈ l,-b ≤ x ∧ x ≤ b) : -((l.length:Int) * b) ≤ Zoe l ∧ Zoe l ≤ (l.length:Int) * b:=by
 induction l with
 | nil => simp [Zoe]
 | cons x l ih =>
  have h1:=h x (List.mem_cons_self ..)
  have h2:=ih fun y hy => h y (List.mem_cons_of_mem _ hy)
  simp only [Zoe,List.length_cons]
  grind
def ZGf (x:Int):Prop := -2048 ≤ x ∧ x ≤ 2047
def ZO (x:Int):Prop := -2147483648 < x ∧ x < 2147483648
theorem ZuS {c a:List Int} (hc:∀ x ∈ c,ZGf x) (ha:∀ x ∈ a,ZO x):∀ x ∈ (c.zip a.reverse).map fun x => x.1 * x.2,-4398046511104 ≤ x ∧ x ≤ 4398046511104:=by
 intro x hx
 obtain ⟨⟨u,v⟩,h,rfl⟩:=List.mem_map.1 hx
 exact ZKD (hc _ (List.of_mem_zip h).1) (ha _ (by simpa using (List.of_mem_zip h).2))
theorem ZFo {x:Int} {b:Int} (p:Nat) (h : -b ≤ x ∧ x ≤ b) (hb:0 ≤ b) : -b ≤ x.fdiv (2 ^ p) ∧ x.fdiv (2 ^ p) ≤ b:=by
 have hp:(0:Int) < 2 ^ p:=Int.pow_pos (by omega)
 rw [Int.fdiv_eq_ediv_of_nonneg _ (by omega)]
 constructor
 ·rw [Int.le_ediv_iff_mul_le hp]
  have:b * 1 ≤ b * 2 ^ p:=Int.mul_le_mul_of_nonneg_left (by omega) hb
  rw [Int.neg_mul]
  omega
 ·by_cases hx:0 ≤ x
  ·exact Int.le_trans (Int.ediv_le_self _ hx) h.2
  ·have:x / 2 ^ p < 0:=Int.ediv_neg_of_neg_of_pos (by omega) hp
   omega
theorem ZoP {c a:List Int} {sh:Int} (hc:∀ x ∈ c,ZGf x) (ha:∀ x ∈ a,ZO x) (hl:c.length ≤ 8) : -35184372088832 ≤ Zfg c sh a ∧ Zfg c sh a ≤ 35184372088832:=by
 unfold Zfg ZXZ
 have h1:=ZFZ (ZuS hc ha)
 have h2:((c.zip a.reverse).map fun x => x.1 * x.2).length ≤ 8:=by simp; omega
 exact ZFo _ (by omega) (by omega)
theorem Zvq (k:Nat) {c a:List Int} {sh:Int} (hk:c.length < k) (hl:c.length ≤ 8) (hla:c.length ≤ a.length) (hn:a.length ≤ 4294967296) (hsh:0 ≤ sh ∧ sh ≤ 15) (hc:∀ x ∈ c,ZGf x) (ha:∀ x ∈ a,ZO x) :
  Znw k ((c,sh,()),a,()) = some (Zfg c sh a,()):=by
 show ZhW k (ZpV k) _ = _
 simp only [ZhW]
 have hzl:(c.zip a.reverse).length = c.length:=by simp; omega
 have hterm:=ZuS hc ha
 have:=Zy (A:=Int) (step:=fun L1 => Zdl k L1) (fun i acc => (Int.ofNat c.length,Int.ofNat i,c,acc,a,c,sh)) (c.zip a.reverse)
  (fun l acc => some ((acc + Zoe (l.map fun x => x.1 * x.2)).fdiv (2 ^ sh.toNat),())) (fun i acc => -((i:Int) * 4398046511104) ≤ acc ∧ acc ≤ (i:Int) * 4398046511104)
  (fun L acc _ => by
   grind [Zdl,Zoe])
  (fun L i hi acc hacc hL => by
   have hi2:i < c.length:=by omega
   have hi3:i < a.reverse.length:=by simp; omega
   simp only [Zdl]
   have e1:IntKind.i64.wrap (IntKind.i64.wrap (Int.ofNat a.length - 1) - Int.ofNat i) = ((a.length - 1 - i:Nat):Int):=by
    simp only [QS]
    rw [Qe (n:=(a.length:Int) - 1) (by omega),Qe (by omega)]; omega
   rw [Zc (ltR hi2),Zc (YI hi2),e1,Zc (by simp only [QS]; omega),ZM hi2,Xw]
   have e2:a.getD (a.length - 1 - i) 0 = a.reverse[i]:=by
    grind
   rw [e2]
   have hz:(c.zip a.reverse)[i] = (c[i],a.reverse[i]):=by simp
   have ht:=hterm (c[i] * a.reverse[i]) (List.mem_map.2 ⟨(c[i],a.reverse[i]),by rw [← hz]; exact List.getElem_mem _,rfl⟩)
   have hi8:(i:Int) ≤ 8:=by omega
   rw [Qe (n:=c[i] * a.reverse[i]) (by omega),Qe (n:=acc + c[i] * a.reverse[i]) (by omega),Qr hi2 (by omega)]
   grind [Zoe]) k 0 0 ⟨by omega,by omega⟩ (by omega) (Nat.zero_le _)
 refine Eq.trans this ?_
 rw [List.drop_zero,Int.zero_add]
 rfl
def ZtN (c:List Int) (sh:Int) (s:List Int) (i:Nat):Int:=s.getD i 0 - Zfg c sh (s.take i)
def ZuA (c:List Int) (sh:Int) (s:List Int):Nat → Nat → List Int
 | 0,_ => []
 | d + 1,i => ZtN c sh s i :: ZuA c sh s d (i + 1)
def Yl (c:List Int) (sh:Int) (s:List Int):List Int:=ZuA c sh s (s.length - c.length) c.length
def Q0 (c:List Int) (sh:Int) (s:List Int):List Int × Int :=
 if ZbQ c sh = false then ([],2) else if s.length < c.length then ([],1) else if s.any QM then ([],12)
 else if (Yl c sh s).any QM then ([],12) else (Yl c sh s,0)
theorem ZtO (c:List Int) (sh:Int) (s:List Int):∀ d i,(ZuA c sh s d i).length = d
 | 0,_ => rfl
 | d + 1,i => by simp [ZuA,ZtO c sh s d (i + 1)]
theorem ZgG {c:List Int} {sh:Int} (h:ZbQ c sh = true):c.length ≤ 8 ∧ (0 ≤ sh ∧ sh ≤ 15) ∧ ∀ x ∈ c,ZGf x:=by
 unfold ZbQ at h
 simp only [Bool.and_eq_true,decide_eq_true_eq] at h
 refine ⟨h.1.1,h.1.2,fun x hx => ?_⟩
 have:=List.all_eq_true.1 h.2 x hx
 unfold Ziz at this
 rw [decide_eq_true_eq] at this
 exact this
theorem KV {s:List Int} (h:s.any QM = false):∀ x ∈ s,ZO x:=by
 intro x hx
 rw [List.any_eq_false] at h
 have:=h x hx
 unfold QM at this
 simp only [decide_eq_true_eq] at this
 unfold ZO
 omega
theorem Zve (k:Nat) (c:List Int) (sh:Int) (s:List Int) (hk:s.length + 10 < k) (hn:s.length ≤ 8192):Znm k ((c,sh,()),s,()) = some (((Q0 c sh s).1,(Q0 c sh s).2,()),()):=by
 show ZhH k (ZpK k) _ = _
 simp only [ZhH]
 rw [Zvp k c sh (by omega)]
 simp only [Z3]
 unfold Q0
 cases hm:ZbQ c sh with
 | false => rfl
 | true =>
  simp only [if_true,Bool.true_eq_false,if_false]
  rw [show ((0:Int) != (0:Int)) = false from rfl]
  simp only [cond_false,QS]
  by_cases hl:s.length < c.length
  ·rw [Zc (by omega),if_pos hl]
  ·rw [Zo (by omega),if_neg hl,Zcf k s (by omega) (by omega)]
   simp only [Z3]
   cases hw:s.any QM with
   | true => simp only [cond_true,if_true]
   | false =>
    simp only [cond_false,Bool.false_eq_true,if_false]
    obtain ⟨hc8,hsh,hcR⟩:=ZgG hm
    have hnar:=KV hw
    suffices H:∀ (d i m:Nat) (acc:List Int),i + d = s.length → c.length ≤ i → d < m → acc.length + d ≤ 8192 →
      Zn (fun L1 => Zde k L1) m ((i:Int),s,c,sh,acc) = some (if (ZuA c sh s d i).any QM then (([],12,()),()) else ((acc ++ ZuA c sh s d i,0,()),())) by
     have:=H (s.length - c.length) c.length k [] (by omega) (by omega) (by omega) (by simp; omega)
     refine Eq.trans this ?_
     unfold Yl
     grind
    intro d
    induction d with
    | zero =>
     intro i m acc hi hci hm _
     obtain ⟨m,rfl⟩:=ZE hm
     rw [Ze]
     grind [Zde,QS,ZuA]
    | succ d ih =>
     intro i m acc hi hci hm hacc
     obtain ⟨m,rfl⟩:=ZE (show 0 < m by omega)
     rw [Ze]
     simp only [Zde]
     have hi2:i < s.length:=by omega
     rw [Zc (by simp only [QS]; omega),Zc (by simp only [QS]; omega),Zc (by simp only [QS]; omega),Xw,List.drop_zero]
     have htl:(s.take i).length = i:=by simp; omega
     have htn:∀ x ∈ s.take i,ZO x:=fun x hx => hnar x (List.mem_of_mem_take hx)
     rw [Zvq k (by omega) hc8 (by omega) (by omega) hsh hcR htn]
     simp only [Z3]
     have hpb:=ZoP (sh:=sh) hcR htn hc8
     have hsi:s.getD i 0 = s[i]:=Wv hi2
     have hsn:=hnar s[i] (List.getElem_mem hi2)
     unfold ZO at hsn
     have e1:IntKind.i64.wrap (s.getD i 0 - Zfg c sh (s.take i)) = ZtN c sh s i:=by unfold ZtN; rw [hsi]; exact Qe (by omega)
     rw [e1,Znp]
     simp only [Z3,ZuA,List.any_cons]
     by_cases hwi:QM (ZtN c sh s i) = true
     ·simp_all
     ·have hwi:QM (ZtN c sh s i) = false:=by simpa using hwi
      simp only [hwi,cond_false,Bool.false_or]
      rw [Zc (by simp; omega),show IntKind.i64.wrap ((i:Int) + 1) = ((i + 1:Nat):Int) from by rw [Qe (by omega)]; omega]
      rw [ih (i + 1) m _ (by omega) (by omega) (by omega) (by simp; omega)]
      simp
def Zb9 (c:List Int) (sh:Int) (s:List Int):Int × Int:=(Zoe ((Q0 c sh s).1.map fun x => (x.natAbs:Int)),(Q0 c sh s).2)
theorem YC (c:List Int) (sh:Int) (s:List Int):∀ x ∈ (Q0 c sh s).1,ZO x:=by
 unfold Q0
 split
 ·simp
 ·split
  ·simp
  ·split
   ·simp
   ·split
    ·simp
    ·rename_i h
     exact KV (by simpa using h)
theorem ZFN (c:List Int) (sh:Int) (s:List Int):(Q0 c sh s).1.length ≤ s.length:=by
 unfold Q0
 grind [Yl,ZtO]
theorem Zvi (k:Nat) (c:List Int) (sh:Int) (s:List Int) (hk:s.length + 10 < k) (hn:s.length ≤ 8192):Znq k ((c,sh,()),s,()) = some (((Zb9 c sh s).1,(Zb9 c sh s).2,()),()):=by
 show ZhK k (ZpO k) _ = _
 simp only [ZhK]
 rw [Zve k c sh s hk hn]
 simp only [Z3]
 have hnar:=YC c sh s
 have hlen:=ZFN c sh s
 unfold Zb9
 generalize (Q0 c sh s).2 = e
 generalize (Q0 c sh s).1 = l at hnar hlen
 have:=Zy (A:=Int) (step:=fun L1 => Zdg k L1) (fun i acc => (Int.ofNat l.length,Int.ofNat i,l,acc,e)) l
  (fun l' acc => some ((acc + Zoe (l'.map fun x => (x.natAbs:Int)),e,()),())) (fun i acc => 0 ≤ acc ∧ acc ≤ (i:Int) * 2147483648)
  (fun L acc _ => by grind [Zdg,Zoe])
  (fun L i hi acc hacc hL => by
   have hx:=hnar l[i] (List.getElem_mem hi)
   unfold ZO at hx
   simp only [Zdg]
   rw [Zc (ltR hi),Zc (YI hi),ZM hi,Qr hi (by omega),Qe (n:=0 - l[i]) (by omega)]
   have e1:(if l[i] < 0 - l[i] then 0 - l[i] else l[i]) = (l[i].natAbs:Int):=by split <;> omega
   have hi8:(i:Int) ≤ 8192:=by omega
   rw [e1,Qe (n:=acc + (l[i].natAbs:Int)) (by omega),hL _ ⟨by omega,by push_cast; omega⟩]
   grind [Zoe]) k 0 0 ⟨by omega,by omega⟩ (by omega) (Nat.zero_le _)
 exact Eq.trans this (by rw [List.drop_zero,Int.zero_add])
def XQ (o:Nat):List Int:=match o with
 | 1 => [1]
 | 2 => [2,-1]
 | 3 => [3,-3,1]
 | 4 => [4,-6,4,-1]
 | _ => []
theorem Zm6 (k:Nat) (o:Nat) (ho:o ≤ 4) (hk:20 < k):ZfF k ((o:Int),()) = some (((XQ o,0,()),0,()),()):=by
 obtain ⟨k,rfl⟩:∃ m,k = m + 20:=⟨k - 20,by omega⟩
 match o,ho with
 | 0,_ => rfl
 | 1,_ => rfl
 | 2,_ => rfl
 | 3,_ => rfl
 | 4,_ => rfl
def Xg (o:Nat):List Int:=match o with
 | 2 => [32,-16]
 | 4 => [64,-96,64,-16]
 | 8 => [64,-96,64,-16,0,0,0,0]
 | _ => []
theorem ZJk (k:Nat) (o:Nat) (ho:o = 2 ∨ o = 4 ∨ o = 8) (hk:40 < k):Zrq k ((o:Int),()) = some ((Xg o,4,()),()):=by
 obtain ⟨k,rfl⟩:∃ m,k = m + 40:=⟨k - 40,by omega⟩
 rcases ho with rfl | rfl | rfl
 ·rfl
 ·rfl
 ·rfl
abbrev Mdl:=List Int × Int × Bool
def ZoR (s:List Int) (by_:Int) (j:Nat) (M:Mdl):Mdl :=
 if (Zb9 (M.1.set j (M.1.getD j 0 + by_)) 4 s).2 = 0 ∧ (M.2.2 = false ∨ (Zb9 (M.1.set j (M.1.getD j 0 + by_)) 4 s).1 < M.2.1)
 then (M.1.set j (M.1.getD j 0 + by_),(Zb9 (M.1.set j (M.1.getD j 0 + by_)) 4 s).1,true) else M
def Zz8 (s:List Int) (st:Int) (j:Nat) (M:Mdl):Mdl:=ZoR s (-st) j (ZoR s st j M)
def ZCx (s:List Int) (st:Int):Nat → Nat → Mdl → Mdl
 | 0,_,M => M
 | d + 1,j,M => ZCx s st d (j + 1) (Zz8 s st j M)
def ZCy (s:List Int) (st:Int) (o:Nat) (M:Mdl):Mdl:=ZCx s st o 0 M
def ZT5 (s:List Int) (o:Nat):Mdl:=ZCy s 1 o (ZCy s 2 o (ZCy s 4 o (ZCy s 8 o (Xg o,(Zb9 (Xg o) 4 s).1,(Zb9 (Xg o) 4 s).2 == 0))))
def ZcD (s:List Int) (o:Nat):List Int:=(ZT5 s o).1
structure MOk (o:Nat) (b:Int) (M:Mdl):Prop where
 len:M.1.length = o
 bd:∀ x ∈ M.1,-b ≤ x ∧ x ≤ b
theorem ZtY {s:List Int} {o:Nat} {b by_:Int} {j:Nat} {M:Mdl} (h:MOk o b M) (hj:j < o) (hby : -8 ≤ by_ ∧ by_ ≤ 8):MOk o (b + 8) (ZoR s by_ j M):=by
 unfold ZoR
 split
 ·refine ⟨by simp [h.len],fun x hx => ?_⟩
  have hg:M.1.getD j 0 ∈ M.1:=by rw [Wv (by rw [h.len]; exact hj)]; exact List.getElem_mem _
  rcases List.mem_or_eq_of_mem_set hx with hx | rfl
  ·have:=h.bd x hx; omega
  ·have:=h.bd _ hg; omega
 ·exact ⟨h.len,fun x hx => by have:=h.bd x hx; omega⟩
theorem Zz9 {s:List Int} {o:Nat} {b st:Int} {j:Nat} {M:Mdl} (h:MOk o b M) (hj:j < o) (hst : -8 ≤ st ∧ st ≤ 8):MOk o (b + 16) (Zz8 s st j M):=by
 have:=ZtY (s:=s) (ZtY (s:=s) h hj hst) hj (by_ := -st) (by omega)
 rw [show b + 8 + 8 = b + 16 by omega] at this
 exact this
theorem ZHK {s:List Int} {o:Nat} {st:Int} (hst : -8 ≤ st ∧ st ≤ 8):∀ (d j:Nat) (b:Int) (M:Mdl),MOk o b M → j + d ≤ o → MOk o (b + 16 * (d:Int)) (ZCx s st d j M)
 | 0,j,b,M,h,_ => by simpa [ZCx] using h
 | d + 1,j,b,M,h,hj => by
  simp only [ZCx]
  have hb:=Zz9 (s:=s) (j:=j) (st:=st) h (show j < o by omega) hst
  have:=ZHK (s:=s) hst d (j + 1) (b + 16) _ hb (show j + 1 + d ≤ o by omega)
  grind
theorem Ze3 {s:List Int} {o:Nat} {st b:Int} (hst : -8 ≤ st ∧ st ≤ 8) (ho:o ≤ 8) {M:Mdl} (h:MOk o b M):MOk o (b + 128) (ZCy s st o M):=by
 have:=ZHK (s:=s) hst o 0 b M h (by omega)
 refine ⟨this.len,fun x hx => ?_⟩
 have:=this.bd x hx
 omega
theorem ZID (k:Nat) (s:List Int) (hk:s.length + 20 < k) (hn:s.length ≤ 8192) (L1:Int × Int × List Int × Bool × Int × List Int × Int × Int → Option (((List Int × Int × Unit) × Int × Unit) × Unit)) (L2:Int × Int × Int × List Int × Bool × Int × Int × List Int × Int × Int → Option (((List Int × Int × Unit) × Int × Unit) × Unit))
  {o j:Nat} {st:Int} {M:Mdl} {v13:Int} (hM:MOk o 1000 M) (hj:j < o) (ho:o ≤ 8) (hst:0 ≤ st ∧ st ≤ 8) :
  Zhi k L1 L2 (0,st,IntKind.i64.wrap (0 - st),(j:Int),s,M.2.2,M.2.1,(j:Int),(o:Int),st,(o:Int),M.1,4,v13) =
   L2 ((o:Int),((j + 1:Nat):Int),st,s,(Zz8 s st j M).2.2,(Zz8 s st j M).2.1,(o:Int),(Zz8 s st j M).1,4,v13):=by
 obtain ⟨k,rfl⟩:∃ m,k = m + 3:=⟨k - 3,by omega⟩
 have e0:IntKind.i64.wrap (0 - st) = -st:=by rw [Qe (by omega)]; omega
 rw [e0]
 have one:∀ (i:Nat) (by_:Int) (L3:Int × Int × Int × Int × List Int × Bool × Int × Int × Int × Int × Int × List Int × Int × Int → Option (((List Int × Int × Unit) × Int × Unit) × Unit)) (M:Mdl),i < 2 → [st,-st].getD i 0 = by_ → -8 ≤ by_ ∧ by_ ≤ 8 → MOk o 1008 M →
   KF (k + 3) L1 L2 L3 ((i:Int),st,-st,(j:Int),s,M.2.2,M.2.1,(j:Int),(o:Int),st,(o:Int),M.1,4,v13) =
    L3 (((i + 1:Nat):Int),st,-st,(j:Int),s,(ZoR s by_ j M).2.2,(ZoR s by_ j M).2.1,(j:Int),(o:Int),st,(o:Int),(ZoR s by_ j M).1,4,v13):=by
  intro i by_ L3 M hi hg hb hM
  simp only [KF]
  rw [Zc (by omega),Zc (by omega)]
  have hl:=hM.len
  rw [show Znr (k + 3) (M.1,()) = some (M.1,()) from by show Yg _ = _; unfold Yg; rw [Zc (by rw [hl]; omega)]]
  simp only [Z3,Xw,QS]
  rw [Zc (by omega),Zc (by omega),Zc (by omega),Zc (by omega),hg]
  have hx:=hM.bd (M.1.getD j 0) (by simp_all)
  rw [Qe (n:=M.1.getD j 0 + by_) (by omega),Zvi (k + 3) _ 4 s (by omega) hn]
  simp only [Z3]
  rw [show IntKind.i64.wrap ((i:Int) + 1) = ((i + 1:Nat):Int) from by rw [Qe (by omega)]; omega]
  unfold ZoR
  grind
 show Zn (fun L3 => KF (k + 3) L1 L2 L3) (k + 3) ((0:Nat),st,-st,(j:Int),s,M.2.2,M.2.1,(j:Int),(o:Int),st,(o:Int),M.1,4,v13) = _
 rw [Ze,one 0 st _ M (by omega) rfl (by omega) ⟨hM.len,fun x hx => by have:=hM.bd x hx; omega⟩]
 have h2:=ZtY (s:=s) hM hj (by_:=st) (by omega)
 rw [Ze,one 1 (-st) _ _ (by omega) rfl (by omega) h2,Ze]
 simp only [KF]
 rw [Zo (by omega),show IntKind.i64.wrap ((j:Int) + 1) = ((j + 1:Nat):Int) from by rw [Qe (by omega)]; omega]
 rfl
theorem ZL6 (k:Nat) (s:List Int) (hk:s.length + 20 < k) (hn:s.length ≤ 8192) (L1:Int × Int × List Int × Bool × Int × List Int × Int × Int → Option (((List Int × Int × Unit) × Int × Unit) × Unit))
  {o:Nat} {st:Int} {v9:Int} (ho:o ≤ 8) (hst:0 ≤ st ∧ st ≤ 8):∀ (d j m:Nat) (b:Int) (M:Mdl),j + d = o → d < m → MOk o b M → b + 16 * (d:Int) ≤ 1000 →
  Zn (fun L2 => Za7 k (Zhi k L1 L2) L1 L2) m ((o:Int),(j:Int),st,s,M.2.2,M.2.1,(o:Int),M.1,4,v9) =
   L1 (IntKind.i64.wrap (st.tdiv 2),(o:Int),s,(ZCx s st d j M).2.2,(ZCx s st d j M).2.1,(ZCx s st d j M).1,4,v9):=by
 intro d
 induction d with
 | zero =>
  intro j m b M hj hm hM hb
  obtain ⟨m,rfl⟩:=ZE hm
  rw [Ze]
  simp only [Za7]
  rw [Zo (by omega)]
  rfl
 | succ d ih =>
  intro j m b M hj hm hM hb
  obtain ⟨m,rfl⟩:=ZE (show 0 < m by omega)
  rw [Ze]
  simp only [Za7]
  rw [Zc (by omega)]
  rw [ZID k s hk hn L1 _ (M:=M) ⟨hM.len,fun x hx => by have:=hM.bd x hx; omega⟩ (by omega) ho hst]
  rw [ih (j + 1) m (b + 16) _ (by omega) (by omega) (Zz9 hM (by omega) (by omega)) (by push_cast at hb; omega)]
  rfl
theorem ZIH (k:Nat) (s:List Int) (o:Nat) (ho:o = 2 ∨ o = 4 ∨ o = 8) (hos:o ≤ s.length) (hs:∀ x ∈ s,ZO x) (hk:s.length + 60 < k) (hn:s.length ≤ 8192) :
  Zq7 k (s,(o:Int),()) = some (((ZcD s o,4,()),0,()),()):=by
 show Zhj k (Zpl k) _ = _
 simp only [Zhj]
 have hw:s.any QM = false:=by
  rw [List.any_eq_false]
  intro x hx
  have:=hs x hx
  unfold ZO at this
  unfold QM
  simp only [decide_eq_true_eq]
  omega
 rw [Zo (by omega),Zo (by omega),Zo (by simp only [QS]; omega),Zcf k s (by omega) (by omega),hw]
 simp only [Z3,cond_false]
 rw [ZJk k o ho (by omega)]
 simp only [Z3]
 rw [Zvi k _ 4 s (by omega) hn]
 simp only [Z3]
 have hM0:MOk o 96 (Xg o,(Zb9 (Xg o) 4 s).1,(Zb9 (Xg o) 4 s).2 == 0):=by
  rcases ho with rfl | rfl | rfl
  ·exact ⟨rfl,show ∀ x ∈ Xg 2,-96 ≤ x ∧ x ≤ 96 by decide⟩
  ·exact ⟨rfl,show ∀ x ∈ Xg 4,-96 ≤ x ∧ x ≤ 96 by decide⟩
  ·exact ⟨rfl,show ∀ x ∈ Xg 8,-96 ≤ x ∧ x ≤ 96 by decide⟩
 have ho8:o ≤ 8:=by omega
 have h1:=Ze3 (s:=s) (st:=8) (by omega) ho8 hM0
 have h2:=Ze3 (s:=s) (st:=4) (by omega) ho8 h1
 have h3:=Ze3 (s:=s) (st:=2) (by omega) ho8 h2
 obtain ⟨k',rfl⟩:∃ m,k = m + 5:=⟨k - 5,by omega⟩
 have row:∀ (L1:Int × Int × List Int × Bool × Int × List Int × Int × Int → Option (((List Int × Int × Unit) × Int × Unit) × Unit)) (st:Int) (b:Int) (M:Mdl),0 < st → st ≤ 8 → MOk o b M → b + 128 ≤ 1000 →
   Zc2 (k' + 5) (Zkf (k' + 5) L1) L1 (st,(o:Int),s,M.2.2,M.2.1,M.1,4,0) = L1 (IntKind.i64.wrap (st.tdiv 2),(o:Int),s,(ZCy s st o M).2.2,(ZCy s st o M).2.1,(ZCy s st o M).1,4,0):=by
  intro L1 st b M h0 h8 hM hb
  simp only [Zc2]
  rw [Zc h0]
  exact ZL6 (k' + 5) s (by omega) hn L1 ho8 (by omega) o 0 (k' + 5) b M (by omega) (by omega) hM (by omega)
 show Zn (fun L1 => Zc2 (k' + 5) (Zkf (k' + 5) L1) L1) (k' + 5) _ = _
 rw [Ze]
 refine (row _ 8 96 (Xg o,(Zb9 (Xg o) 4 s).1,(Zb9 (Xg o) 4 s).2 == 0) (by omega) (by omega) hM0 (by omega)).trans ?_
 rw [show IntKind.i64.wrap ((8:Int).tdiv 2) = 4 from by decide,Ze]
 refine (row _ 4 _ _ (by omega) (by omega) h1 (by omega)).trans ?_
 rw [show IntKind.i64.wrap ((4:Int).tdiv 2) = 2 from by decide,Ze]
 refine (row _ 2 _ _ (by omega) (by omega) h2 (by omega)).trans ?_
 rw [show IntKind.i64.wrap ((2:Int).tdiv 2) = 1 from by decide,Ze]
 refine (row _ 1 _ _ (by omega) (by omega) h3 (by omega)).trans ?_
 rfl
theorem ZjI (s:List Int) (o:Nat) (ho:o = 2 ∨ o = 4 ∨ o = 8):(ZcD s o).length = o ∧ ∀ x ∈ ZcD s o,-1000 ≤ x ∧ x ≤ 1000:=by
 have hM0:MOk o 96 (Xg o,(Zb9 (Xg o) 4 s).1,(Zb9 (Xg o) 4 s).2 == 0):=by
  rcases ho with rfl | rfl | rfl
  ·exact ⟨rfl,show ∀ x ∈ Xg 2,-96 ≤ x ∧ x ≤ 96 by decide⟩
  ·exact ⟨rfl,show ∀ x ∈ Xg 4,-96 ≤ x ∧ x ≤ 96 by decide⟩
  ·exact ⟨rfl,show ∀ x ∈ Xg 8,-96 ≤ x ∧ x ≤ 96 by decide⟩
 have ho8:o ≤ 8:=by omega
 have h:=Ze3 (s:=s) (st:=1) (by omega) ho8 (Ze3 (s:=s) (st:=2) (by omega) ho8 (Ze3 (s:=s) (st:=4) (by omega) ho8 (Ze3 (s:=s) (st:=8) (by omega) ho8 hM0)))
 exact ⟨h.len,fun x hx => by have:=h.bd x hx; omega⟩
end Go.Sh
