/-
  What the row needs, part 11.
-/
import Derived.Test.YtgbhjfacjekhcaaGreatDoorXStreamTable10
import Derived.ChangeArms
import Derived.ChangeShapes
import Derived.WideShapes
import Derived.ReadAgain
import Derived.Below
import Derived.ChangeSame
import Derived.RowKit
set_option linter.unusedSimpArgs false
set_option linter.unusedVariables false
set_option linter.unusedSectionVars false
namespace Go.Sh
open Go Go.RowKit Go.WideShapes Go.ChangeShapes
def ZBg (P:Program) (g:TypeId → Ty → Bool):Nat → List Field → Ty → Bool
 | _,[],.unit => true
 | off,f :: l,.pair a b => Nat.beq f.offset off && g f.type a && Nat.beq (P.cellsOf f.type) a.size && ZBg P g (off + a.size) l b
 | _,_,_ => false
def ZeD (P:Program):Nat → TypeId → Ty → Bool
 | 0,_,_ => false
 | n + 1,T,t => match P.underlying T,t with
  | some .bool,.bool => true
  | some (.int k),.int k' => decide (k = k')
  | some .string,.str => true
  | some (.slice e),.sl t => ZeD P n e t && Nat.beq (P.cellsOf e) t.size && Nat.ble 1 t.size
  | some (.struct fs),.pair a b => ZBg P (ZeD P n) 0 fs.toList (.pair a b) && Nat.beq (P.cellsOf T) (Ty.size (.pair a b))
  | some (.struct fs),.unit => ZBg P (ZeD P n) 0 fs.toList .unit && Nat.beq (P.cellsOf T) 0
  | _,_ => false
def Ty.bulk:(t:Ty) → t.den → Nat
 | .str,s => s.size + 1
 | .sl t,xs => (xs.map t.bulk).sum + 1
 | .pair a b,x => a.bulk x.1 + b.bulk x.2
 | .unit,_ => 0
 | .bool,_ => 1
 | .int _,_ => 1
 | .fl _,_ => 1
 | .cx _,_ => 1
 | .raw,_ => 1
def Ty.ok:(t:Ty) → t.den → Prop
 | .int k,n => k.min ≤ n ∧ n ≤ k.max
 | .sl t,xs => ∀ x ∈ xs,t.ok x
 | .pair a b,x => a.ok x.1 ∧ b.ok x.2
 | .bool,_ => True
 | .str,_ => True
 | .fl _,_ => True
 | .cx _,_ => True
 | .raw,_ => True
 | .unit,_ => True
mutual
def bulkD {H:Type}:DataW H → Nat
 | .lit (.string bytes) => bytes.length + 1
 | .lit _ => 1
 | .nil => 1
 | .ptr d => bulkD d + 1
 | .slice elems spare => bulkDs elems + bulkDs spare + 1
 | .agg parts => bulkDs parts + 1
 | .iface _ d => bulkD d + 1
 | .map entries => bulkEs entries + 1
 | .held _ => 1
def bulkDs {H:Type}:List (DataW H) → Nat
 | [] => 0
 | d :: r => bulkD d + bulkDs r
def bulkEs {H:Type}:List (Lit × DataW H) → Nat
 | [] => 0
 | x :: r => bulkE x + bulkEs r
def bulkE {H:Type}:Lit × DataW H → Nat
 | (.string bytes,d) => bytes.length + bulkD d + 1
 | (_,d) => bulkD d + 1
end
def whole (w:World) (b:Nat):Nat:=match w.heap[b]? with
 | some (.cells c _ _) => c.size
 | _ => 0
theorem ZCb {w:World} {b o:Nat} {v:Value} (h:w.cell? ⟨b,o,none⟩ = some v):o < whole w b:=by
 unfold World.cell? at h
 unfold whole
 split at h
 ·rename_i c _ _ hb
  simp only at hb
  rw [hb]
  simp only [Option.isSome_none,Bool.false_eq_true,if_false] at h
  exact (Array.getElem?_eq_some_iff.1 h).1
 ·cases h
theorem ZPw (w:World):∀ b,w.heap.size ≤ b → whole w b = 0:=by
 intro b hb
 unfold whole
 rw [Array.getElem?_eq_none hb]
theorem cells?_at {w:World} {base n:Nat} {a:Addr} {cs:List Value} (h:w.cells? base a n = some cs):cs.length = n ∧ ∀ i v,cs[i]? = some v → w.cell? (a.add i) = some v:=by
 unfold World.cells? at h
 split at h
 ·have hl:=mapM_some_length h
  simp only [List.length_range] at hl
  refine ⟨hl,fun i v hi => ?_⟩
  have hlt:i < n:=by have:=(List.getElem?_eq_some_iff.1 hi).1; omega
  have:=mapM_some_get h i i (by simp [hlt])
  rw [this,hi]
 ·cases h
section
variable {H:Type} {enc:TypeId × Value → H} {P:Program} {w:World} {base:Nat} {spare:Nat → Bool} {held:Bool}
theorem Zv6 {n n':Nat} (ih:∀ (T:TypeId) (t:Ty) (cs:List Value) (x:DataW H × List MemPlace),ZeD P n T t = true → DataW.trod enc P w base spare held n' T cs = some x → ∃ y,Rt w (whole w) t y cs ∧ t.ok y ∧ t.bulk y ≤ bulkD x.1) :
  ∀ (l:List Field) (t:Ty) (off:Nat) (cs:List Value) (xs:List (DataW H × List MemPlace)),ZBg P (ZeD P n) off l t = true → cs.length = off + t.size →
   (∀ (i:Nat) (f:Field),l[i]? = some f → DataW.trod enc P w base spare held n' f.type ((cs.drop f.offset).take (P.cellsOf f.type)) = xs[i]?) → xs.length = l.length →
   ∃ y,Rt w (whole w) t y (cs.drop off) ∧ t.ok y ∧ t.bulk y ≤ bulkDs (xs.map (·.1))
 | [],t,off,cs,xs,h,hl,hx,hn => by
  match t,h with
  | .unit,h =>
   refine ⟨(),?_,trivial,Nat.zero_le _⟩
   simp only [Rt,List.drop_eq_nil_iff]
   simp [Ty.size] at hl; omega
 | f :: l,t,off,cs,xs,h,hl,hx,hn => by
  match t,h with
  | .pair a b,h =>
   simp only [ZBg,Bool.and_eq_true] at h
   obtain ⟨⟨⟨h1,h2⟩,h3⟩,h4⟩:=h
   match xs,hn with
   | x :: xs,hn =>
    have h0:=hx 0 f rfl
    rw [Z7 h1,Z7 h3] at h0
    simp only [List.getElem?_cons_zero] at h0
    obtain ⟨y,e1,e2,e3⟩:=ih f.type a _ x h2 h0
    simp only [Ty.size] at hl
    obtain ⟨z,g1,g2,g3⟩:=Zv6 ih l b (off + a.size) cs xs h4 (by omega) (fun i f' hf' => by simpa using hx (i + 1) f' (by simpa using hf')) (by simpa using hn)
    refine ⟨(y,z),?_,⟨e2,g2⟩,?_⟩
    ·simp only [Rt]
     refine ⟨_,_,?_,e1,g1⟩
     rw [← List.drop_drop,List.take_append_drop]
    ·simp only [Ty.bulk,List.map_cons,bulkDs]; omega
theorem Zi9:∀ (n m:Nat) (T:TypeId) (t:Ty) (cs:List Value) (x:DataW H × List MemPlace),ZeD P m T t = true → DataW.trod enc P w base spare held n T cs = some x →
  ∃ y,Rt w (whole w) t y cs ∧ t.ok y ∧ t.bulk y ≤ bulkD x.1
 | 0,_,_,_,_,_,_,h => by simp [DataW.trod] at h
 | n + 1,0,_,_,_,_,hf,_ => by simp [ZeD] at hf
 | n + 1,m + 1,T,t,cs,x,hf,h => by
  unfold ZeD at hf
  split at hf
  ·rename_i hu
   obtain ⟨b,rfl,rfl⟩:=DataW.trod_bool hu h
   exact ⟨b,rfl,trivial,Nat.le_refl _⟩
  ·rename_i k k' hu
   obtain rfl:k = k':=of_decide_eq_true hf
   obtain ⟨v,rfl,rfl,hw⟩:=DataW.trod_int hu h
   refine ⟨v,rfl,?_,Nat.le_refl _⟩
   simpa [Ty.ok,Lit.wf] using hw
  ·rename_i hu
   obtain ⟨s,rfl,rfl,_⟩:=DataW.trod_string hu h
   refine ⟨s,rfl,trivial,?_⟩
   simp only [Ty.bulk,bulkD,Array.length_toList]
   exact Nat.le_refl _
  ·rename_i e t hu
   simp only [Bool.and_eq_true] at hf
   obtain ⟨⟨hf,hsz⟩,hpos⟩:=hf
   have hsz:=Z7 hsz
   have hpos:1 ≤ t.size:=Nat.le_of_ble_eq_true hpos
   rcases DataW.trod_slice hu h with ⟨rfl,rfl⟩ | ⟨a,len,cap,elems,rest,n',hn',rfl,rfl,hb,hlc,_,hlen,hel,_⟩
   ·refine ⟨[],?_,(by simp [Ty.ok]:Ty.ok (.sl t) []),(by simp [Ty.bulk,bulkD])⟩
    simp only [Rt]
    exact ⟨none,0,0,rfl,rfl,Nat.le_refl _,.inl trivial⟩
   ·obtain rfl:n' = n:=by omega
    have each:∀ i (hi:i < elems.length),∃ cs',w.cells? base (a.add (i * P.cellsOf e)) (P.cellsOf e) = some cs' ∧ ∃ y,Rt w (whole w) t y cs' ∧ t.ok y ∧ t.bulk y ≤ bulkD elems[i].1:=by
     intro i hi
     have h1:=hel i (by omega)
     rw [List.getElem?_eq_getElem hi] at h1
     obtain ⟨cs',h2,h3⟩:=Option.bind_eq_some_iff.1 h1
     exact ⟨cs',h2,Zi9 n' m e t cs' _ hf h3⟩
    -- the list
    have all:∀ (l:List (DataW H × List MemPlace)),(∀ i (hi:i < l.length),∃ y,(∃ cs',w.cells? base (a.add ((elems.length - l.length + i) * P.cellsOf e)) (P.cellsOf e) = some cs' ∧ Rt w (whole w) t y cs') ∧ t.ok y ∧ t.bulk y ≤ bulkD l[i].1) →
      l.length ≤ elems.length → ∃ ys:List t.den,ys.length = l.length ∧ (∀ y ∈ ys,t.ok y) ∧ (ys.map t.bulk).sum ≤ bulkDs (l.map (·.1)) ∧
       ∀ i (hi:i < ys.length),∃ cs',w.cells? base (a.add ((elems.length - l.length + i) * P.cellsOf e)) (P.cellsOf e) = some cs' ∧ Rt w (whole w) t ys[i] cs':=by
     intro l
     induction l with
     | nil => intro _ _; exact ⟨[],rfl,by simp,by simp [bulkDs],fun i hi => by simp at hi⟩
     | cons p l ih =>
      intro hp hle
      simp only [List.length_cons] at hle
      obtain ⟨y,⟨cs',c1,c2⟩,y1,y2⟩:=hp 0 (by simp)
      obtain ⟨ys,k1,k2,k3,k4⟩:=ih (fun i hi => by
       obtain ⟨y,⟨cs',c1,c2⟩,y1,y2⟩:=hp (i + 1) (by simpa using hi)
       refine ⟨y,⟨cs',?_,c2⟩,y1,by simpa using y2⟩
       rw [← c1]; congr 3; simp only [List.length_cons]; omega) (by omega)
      refine ⟨y :: ys,by simp [k1],?_,?_,?_⟩
      ·intro z hz
       rcases List.mem_cons.1 hz with rfl | hz
       ·exact y1
       ·exact k2 z hz
      ·simp only [List.map_cons,List.sum_cons,bulkDs]
       simp only [List.getElem_cons_zero] at y2
       omega
      ·intro i hi
       cases i with
       | zero => exact ⟨cs',c1,c2⟩
       | succ i =>
        obtain ⟨cs'',d1,d2⟩:=k4 i (by simpa using hi)
        refine ⟨cs'',?_,by simpa using d2⟩
        rw [← d1]; congr 3; simp only [List.length_cons]; omega
    obtain ⟨ys,k1,k2,k3,k4⟩:=all elems (fun i hi => by
     obtain ⟨cs',c1,y,c2,c3,c4⟩:=each i hi
     exact ⟨y,⟨cs',by simpa using c1,c2⟩,c3,c4⟩) (Nat.le_refl _)
    simp only [Nat.sub_self,Nat.zero_add] at k4
    refine ⟨ys,?_,k2,?_⟩
    ·simp only [Rt]
     refine ⟨some a,len,cap,rfl,by omega,hlc,?_⟩
     by_cases hnil:ys = []
     ·exact .inl hnil
     ·right
      have h0:0 < ys.length:=List.length_pos_iff.2 hnil
      obtain ⟨c0,z1,z2⟩:=k4 0 h0
      obtain ⟨zl,zc⟩:=cells?_at z1
      obtain ⟨v0,hv0⟩:∃ v0,c0[0]? = some v0:=⟨c0[0]'(by omega),List.getElem?_eq_getElem _⟩
      have hs:=zc 0 v0 hv0
      simp only [Nat.zero_mul,Addr.add,if_true] at hs
      obtain ⟨b,off,spot⟩:=a
      have hspot:spot = none:=by
       cases spot with
       | none => rfl
       | some s =>
        unfold World.cell? at hs
        split at hs
        ·simp at hs
        ·cases hs
      subst hspot
      refine ⟨b,off,rfl,fun i hi => ?_⟩
      obtain ⟨cs',d1,d2⟩:=k4 i hi
      refine ⟨cs',d2,fun j v hj => ?_⟩
      obtain ⟨_,zc⟩:=cells?_at d1
      have hc:=zc j v hj
      have e:((⟨b,off,none⟩:Addr).add (i * P.cellsOf e)).add j = ⟨b,off + i * t.size + j,none⟩:=by
       rw [hsz]
       unfold Addr.add
       split <;> split <;> simp_all <;> omega
      rw [e] at hc
      exact ⟨hc,ZCb hc⟩
    ·simp only [Ty.bulk,bulkD]
     omega
  ·rename_i fs a b hu
   simp only [Bool.and_eq_true] at hf
   obtain ⟨hf,hsz⟩:=hf
   obtain ⟨xs,n',hn',rfl,hl,hxs,hget⟩:=DataW.trod_struct hu h
   obtain rfl:n' = n:=by omega
   obtain ⟨y,e1,e2,e3⟩:=Zv6 (n:=m) (n':=n') (fun T t cs x h1 h2 => Zi9 n' m T t cs x h1 h2) fs.toList (.pair a b) 0 cs xs hf (by rw [hl,Z7 hsz]; omega) (fun i f hi => hget i f (by simpa using hi)) (by simpa using hxs)
   exact ⟨y,by simpa using e1,e2,by simp only [bulkD]; omega⟩
  ·rename_i fs hu
   simp only [Bool.and_eq_true] at hf
   obtain ⟨hf,hsz⟩:=hf
   obtain ⟨xs,n',hn',rfl,hl,hxs,hget⟩:=DataW.trod_struct hu h
   refine ⟨(),?_,trivial,Nat.zero_le _⟩
   simp only [Rt]
   rw [Z7 hsz] at hl
   exact List.length_eq_zero_iff.1 hl
  ·cases hf
end
end Go.Sh
namespace Go.Sh
open Go Go.RowKit Go.WideShapes Go.ChangeShapes
def Xg (tys:List Ty):List Kd:=tys.map .view
def ZGL:(tys:List Ty) → Kd.dens (Xg tys) → Prop
 | [],_ => True
 | t :: l,x => t.ok x.1 ∧ ZGL l x.2
def Zjn:(tys:List Ty) → Kd.dens (Xg tys) → Nat
 | [],_ => 0
 | t :: l,x => t.bulk x.1 + Zjn l x.2
def Zcj (P:Program):List TypeId → List Ty → Bool
 | [],[] => true
 | T :: Ts,t :: ts => ZeD P 16 T t && Zcj P Ts ts
 | _,_ => false
section
variable {H:Type} {enc:TypeId × Value → H} {P:Program} {w:World} {base:Nat} {spare:Nat → Bool} {held:Bool}
theorem ZbF {v:Value} (h:∀ cs,v ≠ .agg cs):v.cells = #[v]:=by
 cases v <;> first | rfl | (exact absurd rfl (h _))
theorem Zza {b0 n:Nat} {r:Reach} {T:TypeId} {t:Ty} {v:Value} {d:DataW H} {ps:List MemPlace} (hval:Value.okWide P w r b0 T v) (h:DataW.Trod enc P w base spare held T v d ps) (hf:ZeD P n T t = true) :
  ∃ y,Zl7 w (whole w) t y v ∧ t.ok y ∧ t.bulk y ≤ bulkD d:=by
 obtain ⟨m,hm⟩:=h
 obtain ⟨y,h1,h2,h3⟩:=Zi9 m n T t _ _ hf hm
 refine ⟨y,⟨_,h1,?_⟩,h2,h3⟩
 cases n with
 | zero => simp [ZeD] at hf
 | succ n =>
  unfold Value.okWide at hval
  unfold ZeD at hf
  split at hf <;> rename_i hu <;> try (cases hf; done)
  all_goals
   rw [hu] at hval
   simp only at hval
  ·refine .inr ⟨rfl,?_⟩
   rw [ZbF]; rintro cs rfl; simp [Cell.okWide,Cell.ok,hu] at hval
  ·refine .inr ⟨rfl,?_⟩
   rw [ZbF]; rintro cs rfl; simp [Cell.okWide,Cell.ok,hu] at hval
  ·refine .inr ⟨rfl,?_⟩
   rw [ZbF]; rintro cs rfl; simp [Cell.okWide,Cell.ok,hu] at hval
  ·refine .inr ⟨rfl,?_⟩
   rw [ZbF]; rintro cs rfl; simp [Cell.okWide,Cell.ok,hu] at hval
  ·obtain ⟨cs,rfl,_⟩:=hval
   exact .inl ⟨rfl,rfl⟩
  ·obtain ⟨cs,rfl,_⟩:=hval
   exact .inl ⟨rfl,rfl⟩
theorem Zgp {b0:Nat} {r:Reach}:∀ {Ts:List TypeId} {tys:List Ty} {vs:List Value} {ds:List (DataW H)} {ps:List MemPlace},Zcj P Ts tys = true →
  (∀ (j:Nat) t v,Ts[j]? = some t → vs[j]? = some v → Value.okWide P w r b0 t v) → DataW.TrodAll enc P w base spare held Ts vs ds ps →
  ∃ x:Kd.dens (Xg tys),TTs w (whole w) (Wx (Xg tys) x) vs [] ∧ ZGL tys x ∧ Zjn tys x ≤ bulkDs ds
 | [],[],vs,ds,ps,_,_,h => by
  obtain ⟨rfl,rfl,rfl⟩:=trodAll_nil h
  exact ⟨(),rfl,trivial,Nat.le_refl _⟩
 | T :: Ts,t :: tys,vs,ds,ps,hf,hval,h => by
  simp only [Zcj,Bool.and_eq_true] at hf
  obtain ⟨v,vs',d,ds',p,q,rfl,rfl,rfl,h1,h2⟩:=trodAll_cons h
  obtain ⟨y,e1,e2,e3⟩:=Zza (hval 0 T v rfl rfl) h1 hf.1
  obtain ⟨x,g1,g2,g3⟩:=Zgp hf.2 (fun j t v ht hv => hval (j + 1) t v (by simpa using ht) (by simpa using hv)) h2
  refine ⟨(y,x),?_,⟨e2,g2⟩,?_⟩
  ·exact ⟨[],[],rfl,⟨e1,rfl⟩,g1⟩
  ·simp only [Zjn,bulkDs]; omega
 | [],_ :: _,_,_,_,hf,_,_ => by simp [Zcj] at hf
 | _ :: _,[],_,_,_,hf,_,_ => by simp [Zcj] at hf
end
section
variable {H:Type} {enc:TypeId × Value → H} {P:Program}
theorem Zs9 {f:Func} {s:ChangeSpec} {apart fresh handsOn again:Bool} {W W':World} {args:Array Value} {v:Value} {ds gs:List (DataW H)} {before pa pv:List MemPlace}
  (hW:DataW.Whole enc P f.params.toList s.vars apart W args.toList ds gs before)
  (hres:∀ (b:Nat) (sp:Nat → Bool) (hd:Bool),DataW.TrodAll enc P W' b sp hd f.resultTypes.toList (v.resultList f.resultTypes.size) (s.fn H (ds ++ gs)).results [])
  (hargs:∀ sp:Nat → Bool,(∀ p ∈ before,sp p.block = true) → DataW.TrodAll enc P W' 0 sp true f.params.toList args.toList (s.fn H (ds ++ gs)).args pa)
  (hvars:∀ sp:Nat → Bool,(∀ p ∈ before,sp p.block = true) → DataW.TrodVars enc P W' sp s.vars (s.fn H (ds ++ gs)).vars pv)
  (hps:before = pa ++ pv) (hb:Below W.heap.size W W')
  (hok:∀ (j:Nat) (t:TypeId) (r:Value),f.resultTypes[j]? = some t → (v.resultList f.resultTypes.size)[j]? = some r → Value.okWide P W' .any 0 t r) :
  s.post enc P f apart fresh handsOn again W args v W':=by
 have hlt:∀ p ∈ before,p.block < W.heap.size:=fun p hp => hW.lt p hp
 have hold:∀ p ∈ before,(fun b => decide (b < W.heap.size)) p.block = true:=fun p hp => by simpa using hlt p hp
 refine ⟨ds,gs,before,[],pa,pv,hW,hres _ _ _,hargs _ hold,hvars _ hold,World.keptBut_mono (fun p hp => ⟨hp,?_⟩) (hb.frame (· ∈ before)),fun _ => ?_⟩
 ·rw [hps,List.mem_append] at hp
  exact Or.inr hp
 ·obtain ⟨_,_,_,_,_,hz,hn⟩:=hW
  refine ⟨hok,_,_,([] ++ pa) ++ pv,⟨[] ++ pa,pv,trodAll_append (hargs _ (fun _ _ => rfl)) (hres _ _ _),hvars _ (fun _ _ => rfl),rfl,?_,?_⟩,?_⟩
  ·intro b off hp
   have hin:MemPlace.cell b off ∈ before:=by rw [hps]; simpa using hp
   rw [hb.frozen (hlt _ hin)]
   exact hz b off hin
  ·intro ha
   have:=hn ha
   rw [hps] at this
   simpa using this
  ·intro p hp _
   rw [hps]
   simpa using hp
theorem Ziq {w w':World} {base:Nat} {spare:Nat → Bool} {held:Bool}:∀ {ts:List TypeId} {vs:List Value} {ds:List (DataW H)} {ps:List MemPlace},
  DataW.TrodAll enc P w base spare held ts vs ds ps → (∀ p ∈ ps,w.sameAt w' p) → DataW.TrodAll enc P w' base spare held ts vs ds ps
 | [],[],[],_,h,_ => h
 | _ :: _,_ :: _,_ :: _,_,⟨p,q,⟨n,h1⟩,h2,e⟩,hs => ⟨p,q,⟨n,DataW.trod_carry n _ _ _ h1 (fun x hx => hs x (by rw [e]; exact List.mem_append_left _ hx))⟩,
   Ziq h2 (fun x hx => hs x (by rw [e]; exact List.mem_append_right _ hx)),e⟩
variable [Gl]
theorem law_contract {K:FuncId} {fn:Func} {spec:ChangeSpec} {B:TypeId} (tys:List Ty) {F:Nat → Kd.dens (Xg tys) → Option (Ans (Xg tys) (.view .bool))} {bound:Nat}
  (hl:laidOutB P = true) (hm:mapsRowed P = true) (hz:((List.range P.types.size).all fun t => match P.underlying t with | some (.slice e) => decide (0 < P.cellsOf e) | _ => true) = true)
  (hts:fn.params.toList.all (fun t => decide (t < P.types.size)) = true) (hfit:Zcj P fn.params.toList tys = true) (hres:fn.resultTypes = #[B]) (hB:P.underlying B = some .bool)
  (hvars:spec.vars = []) (hspec:∀ (H:Type) (ds:List (DataW H)),ds.length = tys.length → spec.fn H ds = { results:=[.lit (.bool true)],args:=ds })
  (hctr:∀ k,Ctr P k K (mk (Xg tys) (.view .bool) F)) (plain:∀ x:Kd.dens (Xg tys),ZGL tys x → Zjn tys x ≤ bound → ∃ k u,F k x = some (true,u))
  (enc:TypeId × Value → H) (W:World) (b0:Nat) (args:Array Value) (ds gs:List (DataW H)) (before:List MemPlace)
  (hval:∀ (j:Nat) t v,fn.params[j]? = some t → args[j]? = some v → Value.okWide P W .any b0 t v)
  (hW:DataW.Whole enc P fn.params.toList spec.vars false W args.toList ds gs before) (hk:bulkDs (ds ++ gs) ≤ bound) (hgl:Zwj W (whole W)) :
  Calls P K args W fun e W' => ∃ v,e = .returned v ∧ spec.post enc P fn false true false false W args v W':=by
 have hW':=hW
 obtain ⟨p,q,hA,hV,he,hfz,hnd⟩:=hW
 rw [hvars] at hV
 have hgs:gs = [] ∧ q = []:=by
  match gs,hV with
  | [],hV => exact ⟨rfl,hV⟩
  | _ :: _,hV => exact hV.elim
 obtain ⟨rfl,rfl⟩:=hgs
 simp only [List.append_nil] at he hk
 obtain rfl:p = before:=he.symm
 obtain ⟨x,h1,h2,h3⟩:=Zgp (tys:=tys) hfit (fun j t v ht hv => hval j t v (by simpa using ht) (by simpa using hv)) hA
 obtain ⟨k,u,hF⟩:=plain x h2 (by omega)
 have hlen:ds.length = tys.length:=by
  have e1:∀ {Ts:List TypeId} {tys:List Ty} {vs:List Value} {ds:List (DataW H)} {ps:List MemPlace},Zcj P Ts tys = true → DataW.TrodAll enc P W 0 (fun _ => true) true Ts vs ds ps → ds.length = tys.length:=by
   intro Ts
   induction Ts with
   | nil =>
    intro tys vs ds ps hf h
    obtain ⟨rfl,rfl,rfl⟩:=trodAll_nil h
    cases tys with
    | nil => rfl
    | cons => simp [Zcj] at hf
   | cons T Ts ih =>
    intro tys vs ds ps hf h
    obtain ⟨v,vs',d,ds',p,q,rfl,rfl,rfl,h1,h2⟩:=trodAll_cons h
    cases tys with
    | nil => simp [Zcj] at hf
    | cons t tys =>
     simp only [Zcj,Bool.and_eq_true] at hf
     simp [ih hf.2 h2]
  exact e1 hfit hA
 have hcall:=(hctr k).calls (Wx (Xg tys) x) (true,u) (by
  have hd:ZdC (Xg tys) (Wx (Xg tys) x) = some x:=by
   have e2:∀ (l:List Ty) (x:Kd.dens (Xg l)),ZdC (Xg l) (Wx (Xg l) x) = some x:=by
    intro l
    induction l with
    | nil => intro x; rfl
    | cons t l ih =>
     intro x
     obtain ⟨y,ys⟩:=x
     show ((Zmd t (.view t y)).bind fun y => (ZdC (Xg l) (Wx (Xg l) ys)).bind fun ys => some (y,ys)) = _
     rw [ih ys]
     simp only [Zmd,dite_true]
     rfl
   exact e2 tys x
  show (ZdC (Xg tys) (Wx (Xg tys) x)).bind (F k) = some (true,u)
  rw [hd]; exact hF) W (whole W) args.toList [] (ZPw W) hgl h1 List.nodup_nil (by simp)
 rw [Array.toArray_toList] at hcall
 refine hcall.mono fun e W' h => ?_
 obtain ⟨v,lim',b1,b2,rfl,hE,_,⟨ho,ht,hout⟩,hold,hT,_⟩:=h
 have hv:v = .bool true:=by
  have hT:Zl7 W' lim' .bool true v ∧ b1 = []:=hT
  obtain ⟨⟨cs,c1,c2⟩,_⟩:=hT
  rcases c2 with ⟨c2,_⟩ | ⟨_,c2⟩
  ·cases c2
  ·simp only [Rt] at c1
   subst c2
   simpa using c1
 subst hv
 have hBel:Below W.heap.size W W':=⟨ho,ht,hout,hE.size,fun b hb => (hold b hb (by simp)).1⟩
 have hlt:∀ x ∈ p,x.block < W.heap.size:=fun x hx => hW'.lt x hx
 refine ⟨_,rfl,Zs9 (pa:=p) (pv:=[]) hW' (fun b sp hd => ?_) (fun sp hsp => ?_) (fun sp hsp => ?_) (by simp) hBel ?_⟩
 ·rw [List.append_nil,hspec H ds hlen,hres]
  exact ⟨[],[],⟨1,by simp [DataW.trod,Value.cells,hB]⟩,rfl,rfl⟩
 ·rw [List.append_nil,hspec H ds hlen]
  refine Ziq (w:=W) (DataW.TrodAll.respare (kids_rows hl hm) (slices_full_of P hz) (fun t ht => ?_) hA hsp) (fun y hy => hBel.same (hlt y hy))
  simpa using List.all_eq_true.1 hts t ht
 ·rw [List.append_nil,hspec H ds hlen,hvars]
  rfl
 ·exact ok_one hres rfl (okWide_bool_mk hB true)
end
end Go.Sh
namespace Go.Sh
open Go Go.Proofs
section doc
variable {k:Nat} {c d r:Int} {tags:List ByteArray} {ch:List (List Int)} {n:Nat}
theorem ZDu (hk:16777216 ≤ k) (hS:Small tags ch):Zhz k (((c,d,r,()),tags,ch,()),()) = some (((c,d,r,()),tags,ch,()),()):=by
 have htl:=hS.tl
 have hcl:=hS.cl
 show ZdQ k (Zj0 k) (((c,d,r,()),tags,ch,()),()) = _
 simp only [ZdQ]
 rw [Zc (by omega),List.nil_append]
 have key:=QN (step:=fun L1 => Za6 k L1) (A:=Unit) (fun i _ => (Int.ofNat i,c,d,r,tags,ch,c,d,r,tags,ch.take i,(0:Int),(0:Int),(0:Int))) ch (fun _ _ => some (((c,d,r,()),tags,ch,()),()))
  (fun L a => by
   simp only [Za6]
   rw [Zk (Q3 _),List.take_length])
  (fun L i hi a hL => by
   simp only [Za6]
   have hl:=hS.chan ch[i] (List.getElem_mem _)
   rw [Zc (ltR hi),Zc (Kh hi),ZM hi,Zc (by omega),Zc (by rw [List.length_take]; simp; omega),Qr hi (by omega)]
   have e:ch.take i ++ [[] ++ ch[i]] = ch.take (i + 1):=by rw [List.take_succ_eq_append_getElem hi]; rfl
   rw [e]
   exact hL ()) k 0 () (by omega) (by omega)
 exact key
end doc
theorem ZOz:ZjX 20000000 () = some (true,()):=by kernel_rfl
end Go.Sh
namespace Go.Sh
open Go Go.Proofs
def Zb (n:Nat):Nat → List Bool
 | 0 => []
 | w + 1 => n.testBit w :: Zb n w
theorem Zj (n:Nat):∀ w,(Zb n w).length = w
 | 0 => rfl
 | w + 1 => by simp [Zb,Zj n w]
def Kf (f:Nat → Bool):Nat:=(f 0).toNat * 128 + (f 1).toNat * 64 + (f 2).toNat * 32 + (f 3).toNat * 16 + (f 4).toNat * 8 + (f 5).toNat * 4 + (f 6).toNat * 2 + (f 7).toNat
def Wb (bs:List Bool) (i:Nat):Nat:=Kf fun j => bs.getD (8 * i + j) false
def ZJ (bs:List Bool):List Int:=(List.range ((bs.length + 7) / 8)).map fun i => ((Wb bs i:Nat):Int)
theorem Qf (bs:List Bool):(ZJ bs).length = (bs.length + 7) / 8:=by simp [ZJ]
theorem Yh {bs:List Bool} {i:Nat} (h:i < (ZJ bs).length):(ZJ bs)[i] = ((Wb bs i:Nat):Int):=by simp [ZJ]
theorem Zzr (f:Nat → Bool):Kf f < 256:=by
 unfold Kf
 cases f 0 <;> cases f 1 <;> cases f 2 <;> cases f 3 <;> cases f 4 <;> cases f 5 <;> cases f 6 <;> cases f 7 <;> decide
abbrev KG (bs:List Bool):List Int × Int × Unit:=(ZJ bs,(bs.length:Int),())
def orB (v:Int) (r:Nat) (x:Int):Int:=IntKind.u8.wrap (Int.ofNat (BitVec.ofInt 8 v ||| BitVec.ofInt 8 (IntKind.u8.wrap (IntKind.i64.wrap (x * (2:Int) ^ min (7 - r) 64)))).toNat)
theorem ZSV:∀ (r:Fin 8) (v:Fin 256) (c:Bool),v.val % 2 ^ (8 - r.val) = 0 → orB (v.val:Int) r.val (if c then 1 else 0) = ((v.val + c.toNat * 2 ^ (7 - r.val):Nat):Int):=by
 decide +kernel
theorem ZHi {f:Nat → Bool} {r:Nat} (hr:r < 8) (hf:∀ j,r ≤ j → f j = false):Kf f % 2 ^ (8 - r) = 0:=by
 unfold Kf
 match r,hr with
 | 0,_ => rw [hf 0 (by omega),hf 1 (by omega),hf 2 (by omega),hf 3 (by omega),hf 4 (by omega),hf 5 (by omega),hf 6 (by omega),hf 7 (by omega)]; rfl
 | 1,_ => rw [hf 1 (by omega),hf 2 (by omega),hf 3 (by omega),hf 4 (by omega),hf 5 (by omega),hf 6 (by omega),hf 7 (by omega)]; simp <;> omega
 | 2,_ => rw [hf 2 (by omega),hf 3 (by omega),hf 4 (by omega),hf 5 (by omega),hf 6 (by omega),hf 7 (by omega)]; simp <;> omega
 | 3,_ => rw [hf 3 (by omega),hf 4 (by omega),hf 5 (by omega),hf 6 (by omega),hf 7 (by omega)]; simp <;> omega
 | 4,_ => rw [hf 4 (by omega),hf 5 (by omega),hf 6 (by omega),hf 7 (by omega)]; simp <;> omega
 | 5,_ => rw [hf 5 (by omega),hf 6 (by omega),hf 7 (by omega)]; simp <;> omega
 | 6,_ => rw [hf 6 (by omega),hf 7 (by omega)]; simp <;> omega
 | 7,_ => rw [hf 7 (by omega)]; simp <;> omega
theorem ZHj {f:Nat → Bool} {r:Nat} (hr:r < 8) (hf:f r = false) (c:Bool):Kf (fun j => if j = r then c else f j) = Kf f + c.toNat * 2 ^ (7 - r):=by
 unfold Kf
 match r,hr with
 | 0,_ => simp [hf]; omega
 | 1,_ => simp [hf]; omega
 | 2,_ => simp [hf]; omega
 | 3,_ => simp [hf]; omega
 | 4,_ => simp [hf]; omega
 | 5,_ => simp [hf]; omega
 | 6,_ => simp [hf]; omega
 | 7,_ => simp [hf]
theorem ZpX {bs:List Bool} (c:Bool) {i:Nat} (h:8 * i + 8 ≤ bs.length):Wb (bs ++ [c]) i = Wb bs i:=by
 unfold Wb Kf
 have:∀ j,j < 8 → (bs ++ [c]).getD (8 * i + j) false = bs.getD (8 * i + j) false:=by
  intro j hj
  simp only [List.getD_eq_getElem?_getD]
  rw [List.getElem?_append_left (by omega)]
 simp only []
 rw [this 0 (by omega),this 1 (by omega),this 2 (by omega),this 3 (by omega),this 4 (by omega),this 5 (by omega),this 6 (by omega),this 7 (by omega)]
theorem ZpW {bs:List Bool} (c:Bool) {i r:Nat} (hr:r < 8) (h:bs.length = 8 * i + r):Wb (bs ++ [c]) i = Wb bs i + c.toNat * 2 ^ (7 - r):=by
 have h2:(bs.getD (8 * i + r) false) = false:=by rw [List.getD_eq_getElem?_getD,List.getElem?_eq_none (by omega)]; rfl
 unfold Wb
 rw [← ZHj (f:=fun j => bs.getD (8 * i + j) false) hr h2 c]
 congr 1
 funext j
 simp only [List.getD_eq_getElem?_getD]
 by_cases hj:j = r
 ·subst hj; simp [← h]
 ·rw [if_neg hj]
  by_cases hlt:8 * i + j < bs.length
  ·rw [List.getElem?_append_left hlt]
  ·rw [List.getElem?_eq_none (by simp; omega),List.getElem?_eq_none (by omega)]
theorem ZCG {bs:List Bool} {i r:Nat} (hr:r < 8) (h:bs.length = 8 * i + r):Wb bs i % 2 ^ (8 - r) = 0:=by
 refine ZHi hr fun j hj => ?_
 rw [List.getD_eq_getElem?_getD,List.getElem?_eq_none (by omega)]; rfl
theorem Zwe (n:Nat):((n:Int)).tdiv 8 = ((n / 8:Nat):Int):=by rw [Int.tdiv_eq_ediv_of_nonneg (by omega)]; omega
theorem ZTR (n:Nat):((n:Int)).tmod 8 = ((n % 8:Nat):Int):=by rw [Int.tmod_eq_emod_of_nonneg (by omega)]; omega
theorem ZtX {bs:List Bool} (c:Bool) {q r:Nat} (hr:r < 8) (h0:r ≠ 0) (h:bs.length = 8 * q + r) :
  ZJ (bs ++ [c]) = (ZJ bs).set q ((Wb bs q + c.toNat * 2 ^ (7 - r):Nat):Int):=by
 have hl1:(ZJ bs).length = q + 1:=by rw [Qf]; omega
 have hl2:(ZJ (bs ++ [c])).length = q + 1:=by rw [Qf,Q2,List.length_singleton]; omega
 apply List.ext_getElem
 ·rw [List.length_set,hl1,hl2]
 ·intro i h1 h2
  rw [Yh,List.getElem_set]
  split
  ·rename_i e; subst e; rw [ZpW c hr h]
  ·rw [Yh,ZpX c (by omega)]
theorem ZtW {bs:List Bool} (c:Bool) {q:Nat} (h:bs.length = 8 * q) :
  ZJ (bs ++ [c]) = (ZJ bs ++ [0]).set q ((c.toNat * 2 ^ 7:Nat):Int):=by
 have hl1:(ZJ bs).length = q:=by rw [Qf]; omega
 have hl2:(ZJ (bs ++ [c])).length = q + 1:=by rw [Qf,Q2,List.length_singleton]; omega
 have hz:Wb bs q = 0:=by
  unfold Wb Kf
  have:∀ j,bs.getD (8 * q + j) false = false:=by intro j; rw [List.getD_eq_getElem?_getD,List.getElem?_eq_none (by omega)]; rfl
  simp only [this]
  rfl
 apply List.ext_getElem
 ·rw [List.length_set,Q2,hl1,hl2]; rfl
 ·intro i h1 h2
  rw [Yh,List.getElem_set]
  split
  ·rename_i e; subst e
   rw [ZpW c (r:=0) (by omega) (by omega),hz]; simp
  ·rw [List.getElem_append_left (by omega),Yh,ZpX c (by omega)]
theorem Zmq (k:Nat) (bs:List Bool) (hb:bs.length < 4294967296) (x:Int) (c:Bool) (hx:x = if c then 1 else 0):ZiE k (KG bs,x,()) = some ((),KG (bs ++ [c]),()):=by
 show ZgB k _ = _
 obtain ⟨q,r,hr,hq⟩:∃ q r,r < 8 ∧ bs.length = 8 * q + r:=⟨bs.length / 8,bs.length % 8,Nat.mod_lt _ (by omega),by omega⟩
 have e1:IntKind.i64.wrap (((bs.length:Nat):Int).tdiv 8) = ((q:Nat):Int):=by rw [Zwe,Qa (by omega)]; omega
 have e2:((bs.length:Nat):Int).tmod 8 = ((r:Nat):Int):=by rw [ZTR]; omega
 have e3:IntKind.i64.wrap ((7:Int) - (r:Int)) = ((7 - r:Nat):Int):=by rw [Qa (by omega)]; omega
 have e4:IntKind.i64.wrap (((bs.length:Nat):Int) + 1) = (((bs ++ [c]).length:Nat):Int):=by rw [Qa (by omega),Q2]; simp
 have e5:∀ v:Nat,v < 256 → v % 2 ^ (8 - r) = 0 → IntKind.u8.wrap (Int.ofNat (BitVec.ofInt 8 (v:Int) ||| BitVec.ofInt 8 (IntKind.u8.wrap (IntKind.i64.wrap (x * (2:Int) ^ min ((7 - r:Nat):Int).toNat 64)))).toNat) = ((v + c.toNat * 2 ^ (7 - r):Nat):Int):=by
  intro v hv hm
  have:=ZSV ⟨r,hr⟩ ⟨v,hv⟩ c hm
  rw [← hx] at this
  simpa only [orB,Xm] using this
 simp only [ZgB,e1,e2,e3,Xm]
 by_cases h0:r = 0
 ·subst h0
  have hlen:(ZJ bs).length = q:=by rw [Qf]; omega
  rw [show ((((0:Nat):Int)) == (0:Int)) = true from rfl]
  simp only [cond_true]
  have hl:(ZJ bs ++ [(0:Int)]).length = q + 1:=by simp [hlen]
  rw [Zc (by rw [hlen]; omega),Zc (by rw [hl]; simp only [Qv]; omega),Zc (by omega),Zc (by omega),Zc (by rw [hl]; simp only [Qv]; omega),Zc (by omega)]
  have hg:(ZJ bs ++ [(0:Int)]).getD q (OfNat.ofNat 0) = ((0:Nat):Int):=by rw [List.getD_eq_getElem?_getD,List.getElem?_append_right (by omega),hlen]; simp
  have h5:=e5 0 (by omega) (by simp)
  simp only [Xm] at h5
  rw [hg,h5,e4]
  show _ = some ((),(ZJ (bs ++ [c]),_,()),())
  rw [ZtW c (by omega)]
  simp
 ·rw [show ((((r:Nat):Int)) == (0:Int)) = false from by rw [ZK]; simp; omega]
  simp only [cond_false]
  have hlen:(ZJ bs).length = q + 1:=by rw [Qf]; omega
  rw [Zc (by rw [hlen]; simp only [Qv]; omega),Zc (by omega),Zc (by omega),Zc (by rw [hlen]; simp only [Qv]; omega),Zc (by omega)]
  have hg:(ZJ bs).getD q (OfNat.ofNat 0) = ((Wb bs q:Nat):Int):=by rw [List.getD_eq_getElem?_getD,List.getElem?_eq_getElem (by omega),Yh]; rfl
  have h5:=e5 _ (Zzr _) (ZCG hr hq)
  simp only [Xm] at h5
  rw [hg]
  rw [show Kf (fun j => bs.getD (8 * q + j) false) = Wb bs q from rfl] at h5
  rw [h5,e4]
  show _ = some ((),(ZJ (bs ++ [c]),_,()),())
  rw [ZtX c hr h0 hq]
end Go.Sh
namespace Go.Sh
open Go Go.Proofs
theorem ZfQ (n j:Nat):((n:Nat):Int).fdiv ((2:Int) ^ j) = ((n / 2 ^ j:Nat):Int):=by
 have h0:(0:Int) ≤ (2:Int) ^ j:=Int.pow_nonneg (by omega)
 rw [Int.fdiv_eq_ediv_of_nonneg _ h0]
 have:((2:Int) ^ j) = ((2 ^ j:Nat):Int):=by rw [Int.natCast_pow]; rfl
 rw [this]; rfl
theorem ZXR (n j:Nat) (hj:j < 64):IntKind.i64.wrap (IntKind.u64.wrap (Int.ofNat (BitVec.ofInt 64 (((n:Nat):Int).fdiv ((2:Int) ^ min (j:Int).toNat 64)) &&& BitVec.ofInt 64 1).toNat)) = if n.testBit j then 1 else 0:=by
 rw [Xm,Nat.min_eq_left (by omega),ZfQ,BitVec.ofInt_natCast,show BitVec.ofInt 64 1 = 1#64 from rfl,BitVec.toNat_and,BitVec.toNat_ofNat]
 rw [show (1#64).toNat = 1 from rfl,Nat.and_one_is_mod,Nat.mod_mod_of_dvd _ (by decide:2 ∣ 2 ^ 64)]
 have h2:n.testBit j = decide (n / 2 ^ j % 2 = 1):=Nat.testBit_eq_decide_div_mod_eq
 rw [h2]
 have:n / 2 ^ j % 2 < 2:=Nat.mod_lt _ (by omega)
 generalize n / 2 ^ j % 2 = m at this ⊢
 match m,this with
 | 0,_ => rfl
 | 1,_ => rfl
theorem ZAY (k:Nat):∀ (w:Nat) (bs:List Bool) (n:Nat),w < k → w ≤ 64 → bs.length + w < 4294967296 →
  ZeC k (KG bs,(n:Int),(w:Int),()) = some ((),KG (bs ++ Zb n w),()):=by
 intro w bs n hk hw hb
 show Zle k (Zx4 k) _ = _
 simp only [Zle]
 suffices H:∀ (w:Nat) (m:Nat) (bs:List Bool),w < m → w ≤ 64 → bs.length + w < 4294967296 →
   Zm (fun L1 => ZfG k L1) m (IntKind.i64.wrap ((w:Int) - 1),(n:Int),(bs.length:Int),ZJ bs) = some ((),KG (bs ++ Zb n w),()) from H w k bs hk hw hb
 intro w
 induction w with
 | zero =>
  intro m bs hm _ _
  obtain ⟨m,rfl⟩:=ZD hm
  rw [Ze]
  rw [show IntKind.i64.wrap (((0:Nat):Int) - 1) = -1 from by rw [Qa (by omega)]; rfl]
  simp only [ZfG]
  rw [Zk (by omega)]
  simp [Zb]
 | succ w ih =>
  intro m bs hm hw hb
  obtain ⟨m,rfl⟩:=ZD (show 0 < m by omega)
  rw [Ze]
  have e1:IntKind.i64.wrap (((w + 1:Nat):Int) - 1) = (w:Int):=by rw [Qa (by omega)]; omega
  rw [e1]
  simp only [ZfG]
  rw [Zc (by omega)]
  simp only [Zc (show (0:Int) ≤ (w:Int) by omega)]
  rw [ZXR n w (by omega)]
  rw [show ((ZJ bs,((bs.length:Nat):Int),()):List Int × Int × Unit) = KG bs from rfl,Zmq k bs (by omega) _ (n.testBit w) rfl]
  simp only [Z1]
  rw [ih m (bs ++ [n.testBit w]) (by omega) (by omega) (by simp; omega)]
  simp [Zb]
theorem Zsr (k w:Nat) (h:w ≤ 32):Zsq k ((w:Int),()) = some (false,()):=by
 show Zld k _ = _
 simp only [Zld]
 rw [Zk (by omega),Wr (by omega)]
theorem QS (k:Nat) (bs:List Bool) (n w:Nat) (hk:64 < k) (hw:w ≤ 32) (hn:n < 2 ^ w) (hb:bs.length + w < 4294967296) :
  ZQ k (KG bs,(n:Int),(w:Int),()) = some (0,KG (bs ++ Zb n w),()):=by
 show ZkU k _ = _
 have h32:n < 2 ^ 32:=Nat.lt_of_lt_of_le hn (Nat.pow_le_pow_right (by omega) hw)
 simp only [ZkU]
 rw [Zsr k w hw]
 simp only [Z1,cond_false]
 rw [Zk (by omega),Zc (by omega),Xm,Nat.min_eq_left (by omega),ZfQ,Nat.div_eq_of_lt hn]
 rw [show ((((0:Nat):Int)) != (0:Int)) = false from rfl]
 simp only [cond_false]
 rw [show IntKind.u64.wrap (n:Int) = (n:Int) from by rw [IntKind.wrap_u64]; omega]
 rw [show ((ZJ bs,((bs.length:Nat):Int),()):List Int × Int × Unit) = KG bs from rfl,ZAY k w bs n (by omega) (by omega) hb]
 rfl
def Xp (n:Int) (w:Nat):Bool:=if w = 0 then n = 0 else -(2 ^ (w - 1):Int) ≤ n ∧ n < 2 ^ (w - 1)
def WI (n:Int) (w:Nat):List Bool:=Zb (n % 2 ^ w).toNat w
theorem ZaV (n v:Nat):∀ w,w ≤ v → Zb (n % 2 ^ v) w = Zb n w
 | 0,_ => rfl
 | w + 1,h => by
  simp only [Zb]
  rw [ZaV n v w (by omega),Nat.testBit_mod_two_pow]
  simp [show w < v by omega]
theorem ZaR (n:Int) (w:Nat):(WI n w).length = w:=Zj _ _
theorem Zn0 (n:Int) (w v:Nat) (h:w ≤ v):(n % 2 ^ v).toNat % 2 ^ w = (n % 2 ^ w).toNat:=by
 have hv:(0:Int) < 2 ^ v:=Int.pow_pos (by omega)
 have hw:(0:Int) < 2 ^ w:=Int.pow_pos (by omega)
 have h1:0 ≤ n % 2 ^ v:=Int.emod_nonneg _ (by omega)
 have h2:0 ≤ n % 2 ^ w:=Int.emod_nonneg _ (by omega)
 have hd:((2:Int) ^ w) ∣ 2 ^ v:=⟨2 ^ (v - w),by rw [← Int.pow_add]; congr 1; omega⟩
 apply Int.ofNat.inj
 show (((n % 2 ^ v).toNat % 2 ^ w:Nat):Int) = ((n % 2 ^ w).toNat:Int)
 rw [Int.natCast_emod,Int.toNat_of_nonneg h1,Int.toNat_of_nonneg h2,Int.natCast_pow]
 exact Int.emod_emod_of_dvd n hd
theorem Zwv (n:Int) (w v:Nat) (h:w ≤ v):Zb (n % 2 ^ v).toNat w = WI n w:=by
 unfold WI
 rw [← Zn0 n w v h,ZaV _ _ _ (Nat.le_refl w)]
theorem ZBd {n:Int} {w:Nat} (hw:0 < w) (h:Xp n w = true):n.fdiv (2 ^ (w - 1)) = 0 ∨ n.fdiv (2 ^ (w - 1)) = -1:=by
 unfold Xp at h
 rw [if_neg (by omega)] at h
 obtain ⟨h1,h2⟩:=of_decide_eq_true h
 have hp:(0:Int) < 2 ^ (w - 1):=Int.pow_pos (by omega)
 rw [Int.fdiv_eq_ediv_of_nonneg _ (by omega)]
 rcases Int.lt_or_le n 0 with hn | hn
 ·right
  rw [Int.ediv_eq_iff_of_pos hp]
  constructor <;> omega
 ·left
  exact Int.ediv_eq_zero_of_lt hn h2
theorem Zup (k:Nat) (bs:List Bool) (n:Int) (w:Nat) (hk:64 < k) (hw:w ≤ 32) (hn:Xp n w = true) (hb:bs.length + w < 4294967296) :
  Zmt k (KG bs,n,(w:Int),()) = some (0,KG (bs ++ WI n w),()):=by
 show ZgL k _ = _
 have hput:ZeC k ((ZJ bs,((bs.length:Nat):Int),()),IntKind.u64.wrap n,(w:Int),()) = some ((),KG (bs ++ WI n w),()):=by
  rw [show IntKind.u64.wrap n = (((n % 2 ^ 64).toNat:Nat):Int) from by
   rw [IntKind.wrap_u64]
   have:0 ≤ n % 2 ^ 64:=Int.emod_nonneg _ (by decide)
   rw [Int.toNat_of_nonneg this]; rfl]
  rw [show ((ZJ bs,((bs.length:Nat):Int),()):List Int × Int × Unit) = KG bs from rfl,ZAY k w bs _ (by omega) (by omega) hb,Zwv n w 64 (by omega)]
 simp only [ZgL]
 rw [Zsr k w hw]
 simp only [Z1,cond_false,hput]
 by_cases h0:w = 0
 ·subst h0
  unfold Xp at hn
  simp at hn
  subst hn
  rw [show ((((0:Nat):Int)) == (0:Int)) = true from rfl]
  simp only [cond_true]
  rw [show (((0:Int)) != (0:Int)) = false from rfl]
  simp only [cond_false]
  rw [Zk (by omega)]
 ·rw [show ((((w:Nat):Int)) == (0:Int)) = false from by rw [ZK]; simp; omega]
  simp only [cond_false]
  have e1:IntKind.i64.wrap ((w:Int) - 1) = ((w - 1:Nat):Int):=by rw [Qa (by omega)]; omega
  rw [e1]
  simp only [Xm,Nat.min_eq_left (show w - 1 ≤ 64 by omega)]
  rw [Zc (by omega),Zc (by omega)]
  rcases ZBd (by omega) hn with h | h
  ·rw [h]
   rw [show (((0:Int)) != (0:Int)) = false from rfl]
   rfl
  ·rw [h]
   rw [show (((-1:Int)) != (0:Int)) = true from rfl]
   simp only [cond_true]
   rw [Zc (by omega),show (((-1:Int)) != (-1:Int)) = false from rfl]
   rfl
theorem ZA1 (k:Nat) (bs:List Bool) (n:Nat) (hk:n < k) (hn:n ≤ 65536) (hb:bs.length + n + 1 < 4294967296) :
  ZnS k (KG bs,(n:Int),()) = some (0,KG (bs ++ (List.replicate n false ++ [true])),()):=by
 show Zll k (Zye k) _ = _
 simp only [Zll]
 rw [Zk (by omega),Zk (by omega)]
 suffices H:∀ (r i m:Nat) (bs:List Bool),n = i + r → r < m → bs.length + r + 1 < 4294967296 →
   Zm (fun L1 => ZfJ k L1) m ((n:Int),(i:Int),(bs.length:Int),ZJ bs) = some (0,KG (bs ++ (List.replicate r false ++ [true])),()) from H n 0 k bs (by omega) hk hb
 intro r
 induction r with
 | zero =>
  intro i m bs he hm hb
  obtain ⟨m,rfl⟩:=ZD hm
  rw [Ze]
  simp only [ZfJ]
  rw [Zk (by omega),show ((ZJ bs,((bs.length:Nat):Int),()):List Int × Int × Unit) = KG bs from rfl,Zmq k bs (by omega) 1 true rfl]
  simp
 | succ r ih =>
  intro i m bs he hm hb
  obtain ⟨m,rfl⟩:=ZD (show 0 < m by omega)
  rw [Ze]
  simp only [ZfJ]
  rw [Zc (by omega),show ((ZJ bs,((bs.length:Nat):Int),()):List Int × Int × Unit) = KG bs from rfl,Zmq k bs (by omega) 0 false rfl]
  simp only [Z1]
  rw [show IntKind.i64.wrap ((i:Int) + 1) = ((i + 1:Nat):Int) from by rw [Qa (by omega)]; omega]
  rw [ih (i + 1) m (bs ++ [false]) (by omega) (by omega) (by simp; omega)]
  simp [List.replicate_succ]
def Zap (n:Nat):Nat:=(8 - n % 8) % 8
theorem ZCH (bs:List Bool) (m i:Nat):Wb (bs ++ List.replicate m false) i = Wb bs i:=by
 unfold Wb
 congr 1
 funext j
 simp only [List.getD_eq_getElem?_getD]
 by_cases h:8 * i + j < bs.length
 ·rw [List.getElem?_append_left h]
 ·rw [List.getElem?_eq_none (by omega:bs.length ≤ 8 * i + j),List.getElem?_append_right (by omega),List.getElem?_replicate]
  split <;> rfl
theorem ZOU (bs:List Bool):ZJ (bs ++ List.replicate (Zap bs.length) false) = ZJ bs:=by
 unfold ZJ
 rw [show ((bs ++ List.replicate (Zap bs.length) false).length + 7) / 8 = (bs.length + 7) / 8 from by simp [Zap]; omega]
 apply List.map_congr_left
 intro i _
 rw [ZCH]
theorem ZXQ (n:Nat) (h:n < 4294967296):IntKind.i64.wrap (Int.ofNat (BitVec.ofInt 64 (IntKind.i64.wrap ((0:Int) - (n:Int))) &&& BitVec.ofInt 64 7).toNat) = ((Zap n:Nat):Int):=by
 rw [Qa (n:=(0:Int) - (n:Int)) (by omega)]
 have e:BitVec.ofInt 64 ((0:Int) - (n:Int)) = BitVec.ofNat 64 (18446744073709551616 - n):=by
  apply BitVec.eq_of_toNat_eq
  rw [BitVec.toNat_ofInt,BitVec.toNat_ofNat]
  omega
 rw [e,show BitVec.ofInt 64 7 = 7#64 from rfl,BitVec.toNat_and,BitVec.toNat_ofNat,show (7#64).toNat = 2 ^ 3 - 1 from rfl,Nat.and_two_pow_sub_one_eq_mod]
 have:(18446744073709551616 - n) % 2 ^ 64 % 2 ^ 3 = Zap n:=by unfold Zap; omega
 rw [this,Qa (by unfold Zap; simp only [Qv]; omega)]
 rfl
theorem ZNB (k:Nat) (bs:List Bool) (hb:bs.length < 4294967000):ZAL k (KG bs,()) = some (((Zap bs.length:Nat):Int),KG (bs ++ List.replicate (Zap bs.length) false),()):=by
 show Zk2 k _ = _
 simp only [Zk2]
 rw [ZXQ _ (by omega)]
 have h8:Zap bs.length < 8:=by unfold Zap; omega
 rw [show IntKind.i64.wrap (((bs.length:Nat):Int) + ((Zap bs.length:Nat):Int)) = (((bs ++ List.replicate (Zap bs.length) false).length:Nat):Int) from by rw [Qa (by omega)]; simp]
 show _ = some (_,(ZJ (bs ++ List.replicate (Zap bs.length) false),_,()),())
 rw [ZOU]
theorem ZkZ (k:Nat) (bs:List Bool) (hb:bs.length < 4294967296):ZkX k (KG bs,()) = some (ZJ bs,KG bs,()):=by
 show ZkY k _ = _
 simp only [ZkY]
 have:(ZJ bs).length < 2147483648:=by rw [Qf]; omega
 rw [show Zli k (ZJ bs,()) = some (ZJ bs,()) from by show YT _ = _; unfold YT; rw [Zc this]]
 rfl
theorem ZAF (k:Nat):ZnR k () = some (KG [],()):=rfl
end Go.Sh
namespace Go.Sh
open Go Go.Proofs
theorem Ztz {n:Nat} (h:n < 18446744073709551616):IntKind.u64.wrap (n:Int) = (n:Int):=by rw [IntKind.wrap_u64]; omega
theorem Zzq {a:Nat} (ha:a < 18446744073709551616):(BitVec.ofInt 64 (a:Int)).toNat = a:=by rw [BitVec.ofInt_natCast,BitVec.toNat_ofNat,Nat.mod_eq_of_lt ha]
theorem ZG7 {a b:Nat} (ha:a < 18446744073709551616) (hb:b < 18446744073709551616):Int.ofNat (BitVec.ofInt 64 (a:Int) &&& BitVec.ofInt 64 (b:Int)).toNat = ((a &&& b:Nat):Int):=by
 rw [BitVec.toNat_and,Zzq ha,Zzq hb]; rfl
theorem orN {a b:Nat} (ha:a < 18446744073709551616) (hb:b < 18446744073709551616):Int.ofNat (BitVec.ofInt 64 (a:Int) ||| BitVec.ofInt 64 (b:Int)).toNat = ((a ||| b:Nat):Int):=by
 rw [BitVec.toNat_or,Zzq ha,Zzq hb]; rfl
theorem ZXJ {a b:Nat} (ha:a < 18446744073709551616) (hb:b < 18446744073709551616):Int.ofNat (BitVec.ofInt 64 (a:Int) ^^^ BitVec.ofInt 64 (b:Int)).toNat = ((a ^^^ b:Nat):Int):=by
 rw [BitVec.toNat_xor,Zzq ha,Zzq hb]; rfl
theorem WF (j:Nat):((2:Int) ^ j) = ((2 ^ j:Nat):Int):=by rw [Int.natCast_pow]; rfl
def Zp7 (s p r:Nat):Nat:=(2 * r) % 2 ^ s ^^^ (r / 2 ^ (s - 1) % 2) * p
def Zjt (s p:Nat):Nat → Nat → Nat
 | 0,r => r
 | n + 1,r => Zjt s p n (Zp7 s p r)
def Zju (s p r x:Nat):Nat:=Zjt s p 8 (r ^^^ x * 2 ^ (s - 8))
def ZPL (s p:Nat) (l:List Nat):Nat:=l.foldl (Zju s p) 0
def ZS (l:List Int):Bool:=l.all fun x => decide (0 ≤ x) && decide (x < 256)
def ZsU (l:List Int):List Nat:=l.map Int.toNat
theorem Zmj {s p r:Nat} (hp:p < 2 ^ s):Zp7 s p r < 2 ^ s:=by
 unfold Zp7
 refine Nat.xor_lt_two_pow (Nat.mod_lt _ (Nat.pow_pos (by omega))) ?_
 have:r / 2 ^ (s - 1) % 2 < 2:=Nat.mod_lt _ (by omega)
 generalize r / 2 ^ (s - 1) % 2 = b at this
 have h0:0 < 2 ^ s:=Nat.pow_pos (by omega)
 match b,this with
 | 0,_ => simpa using h0
 | 1,_ => simpa using hp
theorem Zp8 {s p:Nat} (hp:p < 2 ^ s):∀ (n r:Nat),r < 2 ^ s → Zjt s p n r < 2 ^ s
 | 0,r,h => h
 | n + 1,r,h => Zp8 hp n _ (Zmj hp)
theorem Zp9 {s p r x:Nat} (hs:8 ≤ s) (hp:p < 2 ^ s) (hr:r < 2 ^ s) (hx:x < 256):Zju s p r x < 2 ^ s:=by
 refine Zp8 hp _ _ (Nat.xor_lt_two_pow hr ?_)
 have h1:2 ^ s = 2 ^ 8 * 2 ^ (s - 8):=by rw [← Nat.pow_add]; congr 1; omega
 have:x * 2 ^ (s - 8) < 256 * 2 ^ (s - 8):=Nat.mul_lt_mul_of_pos_right hx (Nat.pow_pos (by omega))
 rw [h1]; exact this
theorem Ziz {s p:Nat} (hs:8 ≤ s) (hp:p < 2 ^ s):∀ (l:List Nat) (r:Nat),(∀ x ∈ l,x < 256) → r < 2 ^ s → l.foldl (Zju s p) r < 2 ^ s
 | [],r,_,h => h
 | x :: l,r,hl,h => by
  simp only [List.foldl_cons]
  exact Ziz hs hp l _ (fun y hy => hl y (List.mem_cons_of_mem _ hy)) (Zp9 hs hp h (hl x (List.mem_cons_self ..)))
theorem ZPJ {s p r:Nat} (hs:8 ≤ s) (hs':s ≤ 16) (hp:p < 2 ^ s) (hr:r < 2 ^ s) :
  IntKind.u64.wrap (Int.ofNat (BitVec.ofInt 64 (IntKind.u64.wrap (Int.ofNat (BitVec.ofInt 64 (IntKind.u64.wrap ((r:Int) * (2:Int))) &&& BitVec.ofInt 64 (IntKind.u64.wrap (IntKind.u64.wrap ((1:Int) * (2:Int) ^ min (s:Int).toNat 64) - (1:Int)))).toNat)) ^^^
   BitVec.ofInt 64 (IntKind.u64.wrap (IntKind.u64.wrap (Int.ofNat (BitVec.ofInt 64 ((r:Int).fdiv ((2:Int) ^ min (IntKind.i64.wrap ((s:Int) - (1:Int))).toNat 64)) &&& BitVec.ofInt 64 (1:Int)).toNat) * (p:Int)))).toNat) = ((Zp7 s p r:Nat):Int):=by
 have hpow:2 ^ s ≤ 2 ^ 16:=Nat.pow_le_pow_right (by omega) hs'
 have hpos:0 < 2 ^ s:=Nat.pow_pos (by omega)
 rw [show IntKind.i64.wrap ((s:Int) - 1) = ((s - 1:Nat):Int) from by rw [Qa (by omega)]; omega]
 rw [Xm,Xm,Nat.min_eq_left (by omega),Nat.min_eq_left (by omega),ZfQ,Int.one_mul,WF]
 rw [Ztz (n:=2 ^ s) (by omega),show ((2 ^ s:Nat):Int) - 1 = ((2 ^ s - 1:Nat):Int) from by omega,Ztz (n:=2 ^ s - 1) (by omega)]
 rw [show (r:Int) * 2 = ((2 * r:Nat):Int) from by omega,Ztz (n:=2 * r) (by omega)]
 rw [ZG7 (by omega) (by omega),Nat.and_two_pow_sub_one_eq_mod]
 have hm:2 * r % 2 ^ s < 2 ^ s:=Nat.mod_lt _ hpos
 rw [Ztz (n:=2 * r % 2 ^ s) (by omega)]
 have hdl:r / 2 ^ (s - 1) ≤ r:=Nat.div_le_self _ _
 rw [show ((1:Int)) = ((1:Nat):Int) from rfl,ZG7 (by omega) (by omega),Nat.and_one_is_mod]
 have hb:r / 2 ^ (s - 1) % 2 < 2:=Nat.mod_lt _ (by omega)
 have hbp:r / 2 ^ (s - 1) % 2 * p < 2 ^ s:=by
  generalize r / 2 ^ (s - 1) % 2 = b at hb
  match b,hb with
  | 0,_ => simpa using hpos
  | 1,_ => simpa using hp
 rw [Ztz (n:=r / 2 ^ (s - 1) % 2) (by omega),← Int.natCast_mul,Ztz (n:=r / 2 ^ (s - 1) % 2 * p) (by omega),ZXJ (by omega) (by omega)]
 have:=Zmj (s:=s) (p:=p) (r:=r) hp
 unfold Zp7 at this ⊢
 rw [Ztz (by omega)]
theorem ZKv {s r x:Nat} (hs:8 ≤ s) (hs':s ≤ 16) (hr:r < 2 ^ s) (hx:x < 256) :
  IntKind.u64.wrap (Int.ofNat (BitVec.ofInt 64 (r:Int) ^^^ BitVec.ofInt 64 (IntKind.u64.wrap (IntKind.u64.wrap (x:Int) * (2:Int) ^ min (IntKind.i64.wrap ((s:Int) - (8:Int))).toNat 64))).toNat) = ((r ^^^ x * 2 ^ (s - 8):Nat):Int):=by
 have hpow:2 ^ s ≤ 2 ^ 16:=Nat.pow_le_pow_right (by omega) hs'
 have h1:2 ^ s = 2 ^ 8 * 2 ^ (s - 8):=by rw [← Nat.pow_add]; congr 1; omega
 have hxp:x * 2 ^ (s - 8) < 2 ^ s:=by
  rw [h1]; exact Nat.mul_lt_mul_of_pos_right hx (Nat.pow_pos (by omega))
 rw [show IntKind.i64.wrap ((s:Int) - 8) = ((s - 8:Nat):Int) from by rw [Qa (by omega)]; omega]
 rw [Xm,Nat.min_eq_left (by omega),WF,Ztz (n:=x) (by omega),← Int.natCast_mul,Ztz (n:=x * 2 ^ (s - 8)) (by omega),ZXJ (by omega) (by omega)]
 have:r ^^^ x * 2 ^ (s - 8) < 2 ^ s:=Nat.xor_lt_two_pow hr hxp
 rw [Ztz (by omega)]
theorem ZJl (k:Nat) {s p:Nat} (hs:8 ≤ s) (hs':s ≤ 16) (hp:p < 2 ^ s) (L1:Int × Int × List Int × Int × Int × Int → Option (Int × Unit)) (v4 v5:Int) (v6:List Int) :
  ∀ (n m i r:Nat),i + n = 8 → n < m → r < 2 ^ s →
  Zm (fun L2 => Zc9 k L1 L2) m ((i:Int),(r:Int),(s:Int),(p:Int),v4,v5,v6) = L1 (v5,IntKind.i64.wrap (v4 + 1),v6,((Zjt s p n r:Nat):Int),(s:Int),(p:Int)):=by
 intro n
 induction n with
 | zero =>
  intro m i r hi hm hr
  obtain ⟨m,rfl⟩:=ZD hm
  rw [Ze]
  simp only [Zc9]
  rw [Zk (by omega)]
  rfl
 | succ n ih =>
  intro m i r hi hm hr
  obtain ⟨m,rfl⟩:=ZD (show 0 < m by omega)
  rw [Ze]
  simp only [Zc9]
  rw [Zc (by omega),Zc (by rw [Qa (by omega)]; omega),Zc (by omega),ZPJ hs hs' hp hr]
  rw [show IntKind.i64.wrap ((i:Int) + 1) = ((i + 1:Nat):Int) from by rw [Qa (by omega)]; omega]
  rw [ih m (i + 1) _ (by omega) (by omega) (Zmj hp)]
  rfl
theorem ZaW {l:List Int} (h:ZS l = true) {i:Nat} (hi:i < l.length):∃ x:Nat,x < 256 ∧ l[i] = (x:Int):=by
 have:=List.all_eq_true.1 h l[i] (List.getElem_mem hi)
 simp only [Bool.and_eq_true,decide_eq_true_eq] at this
 exact ⟨l[i].toNat,by omega,by omega⟩
theorem ZvQ {l:List Int} (h:ZS l = true):∀ x ∈ ZsU l,x < 256:=by
 intro x hx
 obtain ⟨y,hy,rfl⟩:=List.mem_map.1 hx
 have:=List.all_eq_true.1 h y hy
 simp only [Bool.and_eq_true,decide_eq_true_eq] at this
 omega
theorem ZAZ (k:Nat) (l:List Int) {s p:Nat} (hs:8 ≤ s) (hs':s ≤ 16) (hp:p < 2 ^ s) (hl:ZS l = true) (hk:l.length + 8 < k) (hk':l.length < 4294967296) :
  Zic k (l,(s:Int),(p:Int),()) = some (((ZPL s p (ZsU l):Nat):Int),()):=by
 show Zlh k (Zx6 k) _ = _
 simp only [Zlh]
 have h16:2 ^ s ≤ 2 ^ 16:=Nat.pow_le_pow_right (by omega) hs'
 have:=Zz (A:=Nat) (step:=fun L1 => ZfH k (Zx7 k L1) L1) (fun i r => (Int.ofNat l.length,Int.ofNat i,l,(r:Int),(s:Int),(p:Int))) l
  (fun l' r => some (((l'.foldl (fun r x => Zju s p r x.toNat) r:Nat):Int),())) (fun i r => r < 2 ^ s)
  (fun L r hr => by
   simp only [ZfH]
   rw [Zk (Q3 _),Qa (by omega)]; rfl)
  (fun L i hi r hr hL => by
   obtain ⟨x,hx,hxe⟩:=ZaW hl hi
   simp only [ZfH]
   rw [Zc (ltR hi),Zc (Kh hi),Zc (by rw [Qa (by omega)]; omega),ZM hi,hxe,ZKv hs hs' hr hx]
   have hx2:r ^^^ x * 2 ^ (s - 8) < 2 ^ s:=Nat.xor_lt_two_pow hr (by
    have h1:2 ^ s = 2 ^ 8 * 2 ^ (s - 8):=by rw [← Nat.pow_add]; congr 1; omega
    rw [h1]; exact Nat.mul_lt_mul_of_pos_right hx (Nat.pow_pos (by omega)))
   have hin:=ZJl k hs hs' hp L (Int.ofNat i) (Int.ofNat l.length) l 8 k 0 (r ^^^ x * 2 ^ (s - 8)) rfl (by omega) hx2
   refine Eq.trans hin ?_
   rw [Qr hi (by omega)]
   rw [show Zjt s p 8 (r ^^^ x * 2 ^ (s - 8)) = Zju s p r x from rfl]
   rw [hL _ (Zp9 hs hp hr hx)]
   rw [List.foldl_cons,Xm]) k 0 0 (Nat.pow_pos (by omega)) (by omega) (Nat.zero_le _)
 refine Eq.trans this ?_
 rw [List.drop_zero]
 unfold ZPL ZsU
 rw [List.foldl_map]
theorem ZHg (bs:List Bool) (i:Nat):Wb bs i < 256:=Zzr _
theorem KA (bs:List Bool):ZS (ZJ bs) = true:=by
 refine List.all_eq_true.2 fun x hx => ?_
 obtain ⟨i,_,rfl⟩:=List.mem_map.1 hx
 have h:=ZHg bs i
 generalize Wb bs i = n at h
 rw [Bool.and_eq_true,decide_eq_true_eq,decide_eq_true_eq]
 omega
def ZhZ (l:List Int):Nat:=ZPL 8 7 (ZsU l)
def Zcq (l:List Int):Nat:=ZPL 16 32773 (ZsU l)
theorem ZFr {l:List Int} (h:ZS l = true):ZhZ l < 2 ^ 8:=Ziz (by omega) (by omega) _ _ (ZvQ h) (by omega)
theorem ZzA {l:List Int} (h:ZS l = true):Zcq l < 2 ^ 16:=Ziz (by omega) (by omega) _ _ (ZvQ h) (by omega)
theorem ZAI (k:Nat) (l:List Int) (hl:ZS l = true) (hk:l.length + 8 < k) (hk':l.length < 4294967296):Zvm k (l,()) = some (((ZhZ l:Nat):Int),()):=by
 show ZkW k _ = _
 simp only [ZkW]
 have:=ZAZ k l (s:=8) (p:=7) (by omega) (by omega) (by omega) hl hk hk'
 rw [show Zic k (l,8,7,()) = Zic k (l,((8:Nat):Int),((7:Nat):Int),()) from rfl,this]
 rfl
theorem ZAM (k:Nat) (l:List Int) (hl:ZS l = true) (hk:l.length + 8 < k) (hk':l.length < 4294967296):Zvp k (l,()) = some (((Zcq l:Nat):Int),()):=by
 show Zk3 k _ = _
 simp only [Zk3]
 have:=ZAZ k l (s:=16) (p:=32773) (by omega) (by omega) (by omega) hl hk hk'
 rw [show Zic k (l,16,32773,()) = Zic k (l,((16:Nat):Int),((32773:Nat):Int),()) from rfl,this]
 rfl
def Yk (k:Nat):Nat:=if k = 1 then 7 else 5 * k + 1
def X4:Nat → Nat → List Nat
 | _,0 => []
 | n,i + 1 => X4 (n / 64) i ++ [128 + n % 64]
def ZbB (n:Nat):Nat:=if n < 2 ^ 7 then 1 else if n < 2 ^ 11 then 2 else if n < 2 ^ 16 then 3 else if n < 2 ^ 21 then 4 else if n < 2 ^ 26 then 5 else if n < 2 ^ 31 then 6 else 7
def Zeh (k m:Nat):Nat:=(65280 / 2 ^ k % 256) ||| m
def Qz (n:Nat):List Nat:=if n < 128 then [n] else Zeh (ZbB n) (n / 64 ^ (ZbB n - 1)) :: X4 n (ZbB n - 1)
def Wa (l:List Nat):List Int:=l.map fun (n:Nat) => (n:Int)
theorem ZSW:∀ m:Fin 64,IntKind.u8.wrap (Int.ofNat (BitVec.ofInt 8 (128:Int) ||| BitVec.ofInt 8 (IntKind.u8.wrap (IntKind.i64.wrap (m.val:Int)))).toNat) = ((128 + m.val:Nat):Int):=by decide +kernel
theorem ZOS:∀ (k:Fin 8) (m:Fin 64),2 ≤ k.val → IntKind.u8.wrap (Int.ofNat (BitVec.ofInt 8 (IntKind.u8.wrap (Int.fdiv (65280:Int) ((2:Int) ^ min (k.val:Int).toNat 64))) ||| BitVec.ofInt 8 (IntKind.u8.wrap (m.val:Int))).toNat) = ((Zeh k.val m.val:Nat):Int):=by decide +kernel
theorem ZJh (k:Nat) {kk:Nat} (h2:2 ≤ kk) (h7:kk ≤ 7):∀ (i m n:Nat) (suf:List Int),i < m → i < kk → n < 18446744073709551616 → n / 64 ^ i < 64 →
  Zm (fun L2 => ZfA k L2) m ((i:Int),(n:Int),(kk:Int),List.replicate (i + 1) 0 ++ suf) = some ((Wa (Zeh kk (n / 64 ^ i) :: X4 n i) ++ suf,0,()),()):=by
 intro i
 induction i with
 | zero =>
  intro m n suf hm hi hn hq
  obtain ⟨m,rfl⟩:=ZD hm
  rw [Ze]
  simp only [ZfA]
  rw [Zk (by omega),Zc (by omega),Zc (by simp only [Qv,Q2,List.length_replicate]; omega),Zc (by simp)]
  rw [Nat.pow_zero,Nat.div_one] at hq ⊢
  have:=ZOS ⟨kk,by omega⟩ ⟨n,hq⟩ h2
  simp only at this
  rw [this]
  rfl
 | succ i ih =>
  intro m n suf hm hi hn hq
  obtain ⟨m,rfl⟩:=ZD (show 0 < m by omega)
  rw [Ze]
  simp only [ZfA]
  have hl:(List.replicate (i + 1 + 1) (0:Int) ++ suf).length = i + 2 + suf.length:=by simp
  rw [Zc (by omega),Zc (by rw [hl]; simp only [Qv]; omega),Zc (by rw [hl]; omega)]
  rw [show (63:Int) = ((63:Nat):Int) from rfl,ZG7 hn (by omega)]
  have h63:n &&& 63 = n % 64:=Nat.and_two_pow_sub_one_eq_mod n 6
  have:=ZSW ⟨n % 64,Nat.mod_lt _ (by omega)⟩
  simp only at this
  rw [h63,this]
  rw [show IntKind.i64.wrap (((i + 1:Nat):Int) - 1) = (i:Int) from by rw [Qa (by omega)]; omega]
  rw [show ((n:Int)).fdiv 64 = ((n / 64:Nat):Int) from by rw [Int.fdiv_eq_ediv_of_nonneg _ (by omega)]; rfl]
  have hset:(List.replicate (i + 1 + 1) (0:Int) ++ suf).set (((i + 1:Nat):Int)).toNat ((128 + n % 64:Nat):Int) = List.replicate (i + 1) 0 ++ (((128 + n % 64:Nat):Int) :: suf):=by
   rw [Xm,List.replicate_succ' (n:=i + 1),List.append_assoc,List.set_append_right _ _ (by simp)]
   simp
  rw [hset,ih m (n / 64) _ (by omega) (by omega) (by omega) (by rw [Nat.div_div_eq_div_mul,Nat.mul_comm,← Nat.pow_succ]; exact hq)]
  rw [Nat.div_div_eq_div_mul,Nat.mul_comm,← Nat.pow_succ]
  simp only [Wa,X4,List.map_cons,List.map_append,List.map_nil,List.append_assoc,List.cons_append,List.nil_append]
theorem Zst (k kk:Nat) (h:kk ≤ 8):Zvs k ((kk:Int),()) = some (((Yk kk:Nat):Int),()):=by
 show Zlf k _ = _
 simp only [Zlf]
 unfold Yk
 by_cases h1:kk = 1
 ·subst h1; rfl
 ·rw [show (((kk:Nat):Int) == (1:Int)) = false from by rw [ZK]; simp; omega,if_neg h1]
  simp only [cond_false]
  rw [Qa (n:=5 * (kk:Int)) (by omega),Qa (by omega)]
  congr 2
theorem Ztl:Yk 2 = 11 ∧ Yk 3 = 16 ∧ Yk 4 = 21 ∧ Yk 5 = 26 ∧ Yk 6 = 31 ∧ Yk 7 = 36:=by decide
theorem ZSD {kk n:Nat} (h2:2 ≤ kk) (h7:kk ≤ 7) (hlt:n < 2 ^ Yk kk) (hge:2 < kk → 2 ^ Yk (kk - 1) ≤ n) (h128:128 ≤ n):ZbB n = kk:=by
 obtain ⟨r2,r3,r4,r5,r6,r7⟩:=Ztl
 obtain rfl | rfl | rfl | rfl | rfl | rfl:kk = 2 ∨ kk = 3 ∨ kk = 4 ∨ kk = 5 ∨ kk = 6 ∨ kk = 7:=by omega
 ·rw [r2] at hlt
  unfold ZbB
  rw [if_neg (by omega),if_pos hlt]
 ·have hge:=hge (by omega)
  rw [Nat.add_sub_cancel (n:=2) (m:=1),r2] at hge
  rw [r3] at hlt
  unfold ZbB
  rw [if_neg (by omega),if_neg (by omega),if_pos hlt]
 ·have hge:=hge (by omega)
  rw [Nat.add_sub_cancel (n:=3) (m:=1),r3] at hge
  rw [r4] at hlt
  unfold ZbB
  rw [if_neg (by omega),if_neg (by omega),if_neg (by omega),if_pos hlt]
 ·have hge:=hge (by omega)
  rw [Nat.add_sub_cancel (n:=4) (m:=1),r4] at hge
  rw [r5] at hlt
  unfold ZbB
  rw [if_neg (by omega),if_neg (by omega),if_neg (by omega),if_neg (by omega),if_pos hlt]
 ·have hge:=hge (by omega)
  rw [Nat.add_sub_cancel (n:=5) (m:=1),r5] at hge
  rw [r6] at hlt
  unfold ZbB
  rw [if_neg (by omega),if_neg (by omega),if_neg (by omega),if_neg (by omega),if_neg (by omega),if_pos hlt]
 ·have hge:=hge (by omega)
  rw [Nat.add_sub_cancel (n:=6) (m:=1),r6] at hge
  unfold ZbB
  rw [if_neg (by omega),if_neg (by omega),if_neg (by omega),if_neg (by omega),if_neg (by omega),if_neg (by omega)]
theorem ZiV {kk n:Nat} (h2:2 ≤ kk) (h7:kk ≤ 7) (hlt:n < 2 ^ Yk kk):n / 64 ^ (kk - 1) < 64:=by
 have h64:(64:Nat) = 2 ^ 6:=rfl
 rw [Nat.div_lt_iff_lt_mul (Nat.pow_pos (by omega))]
 refine Nat.lt_of_lt_of_le hlt ?_
 rw [h64,← Nat.pow_mul,← Nat.pow_add]
 refine Nat.pow_le_pow_right (by omega) ?_
 unfold Yk
 rw [if_neg (by omega)]
 omega
theorem ZAH (k:Nat) (hk:20 < k) {n:Nat} (hn:n < 2 ^ 36) (kk:Nat) (h2:2 ≤ kk) (h7:kk ≤ 7) (hlt:n < 2 ^ Yk kk) (hge:2 < kk → 2 ^ Yk (kk - 1) ≤ n) (h128:128 ≤ n) :
  Zsf k (IntKind.i64.wrap ((kk:Int) - 1),(n:Int),(kk:Int),List.replicate (kk:Int).toNat (0:Int)) = some ((Wa (Qz n),0,()),()):=by
 have hlen:=ZSD h2 h7 hlt hge h128
 have hq:=ZiV h2 h7 hlt
 have hn':n < 18446744073709551616:=Nat.lt_trans hn (by decide)
 have:=ZJh k h2 h7 (kk - 1) k n [] (by omega) (by omega) hn' hq
 rw [show IntKind.i64.wrap ((kk:Int) - 1) = ((kk - 1:Nat):Int) from by rw [Qa (by omega)]; omega,Xm]
 rw [show kk - 1 + 1 = kk by omega,List.append_nil,List.append_nil] at this
 refine Eq.trans this ?_
 unfold Qz
 rw [if_neg (by omega),hlen]
theorem ZJi (k:Nat) (hk:20 < k) {n:Nat} (hn:n < 2 ^ 36):∀ (d kk m:Nat),d < m → kk + d = 7 → 2 ≤ kk → (2 < kk → 2 ^ Yk (kk - 1) ≤ n) → 128 ≤ n →
  Zm (fun L1 => Zfz k (Zsf k) L1) m ((n:Int),(kk:Int)) = some ((Wa (Qz n),0,()),()):=by
 intro d
 induction d with
 | zero =>
  intro kk m hm hkk h2 hge h128
  obtain rfl:kk = 7:=by omega
  obtain ⟨m,rfl⟩:=ZD hm
  rw [Ze]
  simp only [Zfz]
  rw [Zst k 7 (by omega)]
  simp only [Z1]
  rw [Zc (by omega),Xm,Nat.min_eq_left (show Yk 7 ≤ 64 by decide),ZfQ,Nat.div_eq_of_lt (show n < 2 ^ Yk 7 from hn),Zk (by omega),Zc (by omega)]
  exact ZAH k hk hn 7 (by omega) (by omega) hn hge h128
 | succ d ih =>
  intro kk m hm hkk h2 hge h128
  obtain ⟨m,rfl⟩:=ZD (show 0 < m by omega)
  rw [Ze]
  simp only [Zfz]
  rw [Zst k kk (by omega)]
  simp only [Z1]
  have hroom:Yk kk ≤ 64:=by unfold Yk; split <;> omega
  rw [Zc (by omega),Xm,Nat.min_eq_left hroom,ZfQ]
  by_cases hlt:n < 2 ^ Yk kk
  ·rw [Nat.div_eq_of_lt hlt,Zk (by omega),Zc (by omega)]
   exact ZAH k hk hn kk h2 (by omega) hlt hge h128
  ·have hpos:0 < n / 2 ^ Yk kk:=Nat.div_pos (by omega) (Nat.pow_pos (by omega))
   rw [Zc (by omega),show IntKind.i64.wrap ((kk:Int) + 1) = ((kk + 1:Nat):Int) from by rw [Qa (by omega)]; omega]
   exact ih (kk + 1) m (by omega) (by omega) (by omega) (fun _ => by rw [Nat.add_sub_cancel]; omega) h128
theorem ZNz (k:Nat) (hk:20 < k) {n:Nat} (hn:n < 2 ^ 36):Zse k ((n:Int),()) = some ((Wa (Qz n),0,()),()):=by
 show ZkV k (ZxK k) _ = _
 simp only [ZkV]
 rw [Zk (by omega),Zk (by omega)]
 by_cases h:n < 128
 ·rw [Zc (by omega),wu8 (by omega)]
  unfold Qz
  rw [if_pos h]
  rfl
 ·rw [Zk (by omega)]
  exact ZJi k hk hn 5 2 k (by omega) (by omega) (by omega) (fun h => by omega) (by omega)
end Go.Sh
namespace Go.Sh
open Go Go.Proofs
abbrev Kg:=Ieee.double
theorem ZiB:Kg.binade = 4503599627370496:=by decide
theorem ZwD:Kg.infRung = 9218868437227405312:=by decide
theorem Zjy:Kg.signWeight = 9223372036854775808:=by decide
theorem Zmn:Kg.leastPlace = -1074:=by decide
theorem ZKy:Kg.fractionBits = 52:=rfl
theorem ZJS (s:Bool) {R:Nat} (h0:4503599627370496 ≤ R) (h1:R < 9218868437227405312) :
  Kg.read (Kg.word s R) = .number s (4503599627370496 + R % 4503599627370496) (-1074 + (R / 4503599627370496 - 1:Nat)):=by
 have e1:Kg.word s R / 9223372036854775808 % 2 = s.toNat:=by
  unfold Ieee.Format.word
  rw [Zjy]
  cases s <;> simp <;> omega
 have e2:Kg.word s R % 9223372036854775808 = R:=by
  unfold Ieee.Format.word
  rw [Zjy]
  cases s <;> simp <;> omega
 unfold Ieee.Format.read
 simp only [Zjy,ZiB,ZwD,Zmn,e1,e2]
 rw [if_neg (by omega),if_pos h1]
 cases s <;> rfl
theorem Zv0 (s:Bool):Kg.read (Kg.word s 0) = .number s 0 (-1074):=by cases s <;> decide
theorem ZlK (s:Bool) {m K L:Nat} {e:Int} (hm:m ≠ 0) (hL:L ≤ 52) (hl:(m.log2:Int) = L - 1 - e)
  (hcut:Ieee.Toward.even.cut s (m <<< (e - ((L:Int) - 53)).toNat) ((L:Int) - 53 - e).toNat = K) (hK:4503599627370496 ≤ K) (hK2:K < 9007199254740992) :
  Kg.read (Kg.nearest s m e) = .number s K ((L:Int) - 53):=by
 unfold Ieee.Format.nearest
 rw [if_neg hm]
 simp only [ZKy,Zmn,ZiB,ZwD]
 have hlast:max (e + (m.log2:Int) - ((52:Nat):Int)) (-1074) = (L:Int) - 53:=by omega
 rw [hlast,hcut]
 have h1:((L:Int) - 53 - -1074).toNat = L + 1021:=by omega
 rw [h1,Nat.min_eq_left (by omega)]
 rw [ZJS s (by omega) (by omega)]
 have h2:((L + 1021) * 4503599627370496 + K) % 4503599627370496 = K - 4503599627370496:=by omega
 have h3:((L + 1021) * 4503599627370496 + K) / 4503599627370496 = L + 1022:=by omega
 rw [h2,h3,show 4503599627370496 + (K - 4503599627370496) = K by omega,show (-1074 + ((L + 1022 - 1:Nat):Int)) = (L:Int) - 53 by omega]
theorem Zqa (s:Bool) {n d q:Nat} (hd:d ≤ n.log2 + 2) (h:n = q * 2 ^ d):Ieee.Toward.even.cut s n d = q:=by
 unfold Ieee.Toward.cut
 simp only [Nat.min_eq_left hd,Nat.one_shiftLeft]
 have hp:0 < 2 ^ d:=Nat.pow_pos (by omega)
 rw [h,Nat.mul_div_cancel _ hp,Nat.mul_mod_left]
 simp
theorem Y6 {N:Nat} (h:N ≠ 0) (t:Nat):(N * 2 ^ t).log2 = N.log2 + t:=by
 have hp:0 < 2 ^ t:=Nat.pow_pos (by omega)
 rw [Nat.log2_eq_iff (Nat.mul_ne_zero h (by omega))]
 obtain ⟨h1,h2⟩:=(Nat.log2_eq_iff h).1 rfl
 constructor
 ·rw [Nat.pow_add]; exact Nat.mul_le_mul_right _ h1
 ·rw [show N.log2 + t + 1 = (N.log2 + 1) + t by omega,Nat.pow_add]; exact Nat.mul_lt_mul_of_pos_right h2 hp
theorem ZlH {N:Nat} (h:N ≠ 0) (h':N < 9007199254740992):N.log2 ≤ 52:=by
 have:=(Nat.log2_lt h (k:=53)).2 h'
 omega
theorem ZsD {N:Nat} (h:N ≠ 0) (h':N < 9007199254740992):4503599627370496 ≤ N * 2 ^ (52 - N.log2) ∧ N * 2 ^ (52 - N.log2) < 9007199254740992:=by
 have hL:=ZlH h h'
 obtain ⟨h1,h2⟩:=(Nat.log2_eq_iff h).1 rfl
 have hp:0 < 2 ^ (52 - N.log2):=Nat.pow_pos (by omega)
 have e1:2 ^ N.log2 * 2 ^ (52 - N.log2) = 4503599627370496:=by rw [← Nat.pow_add,show N.log2 + (52 - N.log2) = 52 by omega]
 have e2:2 ^ (N.log2 + 1) * 2 ^ (52 - N.log2) = 9007199254740992:=by rw [← Nat.pow_add,show N.log2 + 1 + (52 - N.log2) = 53 by omega]
 constructor
 ·rw [← e1]; exact Nat.mul_le_mul_right _ h1
 ·rw [← e2]; exact Nat.mul_lt_mul_of_pos_right h2 hp
theorem ZyG (s:Bool) {N t:Nat} (h:N ≠ 0) (h':N < 9007199254740992) :
  Kg.read (Kg.nearest s (N * 2 ^ t) (-1 - (t:Int))) = .number s (N * 2 ^ (52 - N.log2)) ((N.log2:Int) - 53):=by
 have hL:=ZlH h h'
 obtain ⟨f1,f2⟩:=ZsD h h'
 have hp:0 < 2 ^ t:=Nat.pow_pos (by omega)
 refine ZlK s (Nat.mul_ne_zero h (by omega)) hL (by rw [Y6 h]; omega) ?_ f1 f2
 by_cases hc:52 - N.log2 ≤ t
 ·have e1:((-1 - (t:Int)) - ((N.log2:Int) - 53)).toNat = 0:=by omega
  have e2:((N.log2:Int) - 53 - (-1 - (t:Int))).toNat = t - (52 - N.log2):=by omega
  rw [e1,e2,Nat.shiftLeft_zero]
  refine Zqa s (by rw [Y6 h]; omega) ?_
  rw [Nat.mul_assoc,← Nat.pow_add]
  congr 2; omega
 ·have e1:((-1 - (t:Int)) - ((N.log2:Int) - 53)).toNat = 52 - N.log2 - t:=by omega
  have e2:((N.log2:Int) - 53 - (-1 - (t:Int))).toNat = 0:=by omega
  rw [e1,e2]
  refine Zqa s (by omega) ?_
  rw [Nat.shiftLeft_eq,Nat.mul_assoc,← Nat.pow_add,Nat.pow_zero,Nat.mul_one]
  congr 2; omega
theorem Zih (s:Bool) {N:Nat} (h:N ≠ 0) (h':N < 4503599627370496) :
  Kg.read (Kg.nearest s N 0) = .number s (2 * N * 2 ^ (52 - (2 * N).log2)) (((2 * N).log2:Int) - 53):=by
 have hl:(2 * N).log2 = N.log2 + 1:=by rw [Nat.mul_comm]; exact Y6 h 1
 have h2:2 * N ≠ 0:=by omega
 have hL:=ZlH h2 (by omega)
 obtain ⟨f1,f2⟩:=ZsD h2 (by omega)
 refine ZlK s h hL (by rw [hl]; omega) ?_ f1 f2
 have e1:((0:Int) - (((2 * N).log2:Int) - 53)).toNat = 53 - (2 * N).log2:=by omega
 have e2:(((2 * N).log2:Int) - 53 - 0).toNat = 0:=by omega
 rw [e1,e2]
 refine Zqa s (by omega) ?_
 rw [Nat.shiftLeft_eq,Nat.pow_zero,Nat.mul_one,show 53 - (2 * N).log2 = 1 + (52 - (2 * N).log2) by omega,Nat.pow_add]
 rw [← Nat.mul_assoc]; congr 1; omega
def Val (x:Nat) (n:Int):Prop:=n.natAbs < 9007199254740992 ∧
 ((n = 0 ∧ ∃ s,Kg.read x = .number s 0 (-1074)) ∨ (n ≠ 0 ∧ Kg.read x = .number (decide (n < 0)) (n.natAbs * 2 ^ (52 - n.natAbs.log2)) ((n.natAbs.log2:Int) - 53)))
theorem ZPa (n:Int):(if decide (n < 0) = true then -(n.natAbs:Int) else (n.natAbs:Int)) = n:=by
 by_cases h:n < 0
 ·rw [Xj h,if_pos rfl]; omega
 ·rw [Wr h,if_neg (by simp)]; omega
theorem Val.num {x:Nat} {n:Int} (h:Val x n):∃ s m e,Kg.read x = .number s m e ∧ e ≤ -1 ∧ -1074 ≤ e ∧ ∀ (b:Int),b ≤ e → Ieee.signed s m (e - b).toNat = n * 2 ^ (-1 - b).toNat:=by
 obtain ⟨hb,⟨rfl,s,hr⟩ | ⟨hn,hr⟩⟩:=h
 ·refine ⟨s,0,_,hr,by omega,by omega,fun b hb => ?_⟩
  unfold Ieee.signed
  cases s <;> simp
 ·have h0:n.natAbs ≠ 0:=by omega
  have hL:=ZlH h0 hb
  refine ⟨_,_,_,hr,by omega,by omega,fun b hb => ?_⟩
  unfold Ieee.signed
  have e1:(n.natAbs * 2 ^ (52 - n.natAbs.log2)) <<< ((n.natAbs.log2:Int) - 53 - b).toNat = n.natAbs * 2 ^ (-1 - b).toNat:=by
   rw [Nat.shiftLeft_eq,Nat.mul_assoc,← Nat.pow_add]
   congr 2; omega
  rw [e1]
  have e2:((n.natAbs * 2 ^ (-1 - b).toNat:Nat):Int) = (n.natAbs:Int) * 2 ^ (-1 - b).toNat:=by rw [Int.natCast_mul,Int.natCast_pow]; rfl
  rw [e2]
  have hs:=ZPa n
  by_cases hlt:n < 0
  ·rw [Xj hlt] at hs ⊢
   simp only [if_true] at hs ⊢
   rw [← Int.neg_mul]; congr 1
  ·rw [Wr hlt] at hs ⊢
   simp only [Bool.false_eq_true,if_false] at hs ⊢
   congr 1
theorem Zdx {s:Bool} {m:Nat} {e:Int} {n:Int} {t:Nat} (he:e = -1 - (t:Int)) (hm:m = n.natAbs * 2 ^ t) (hs:n ≠ 0 → s = decide (n < 0)) (hb:n.natAbs < 9007199254740992):Val (Kg.write (.number s m e)) n:=by
 refine ⟨hb,?_⟩
 show _ ∨ (_ ∧ Kg.read (Kg.nearest s m e) = _)
 by_cases hn:n = 0
 ·left
  refine ⟨hn,s,?_⟩
  show Kg.read (Kg.nearest s m e) = _
  subst hn
  rw [show m = 0 by rw [hm]; simp]
  unfold Ieee.Format.nearest
  rw [if_pos rfl]
  exact Zv0 s
 ·right
  refine ⟨hn,?_⟩
  rw [hm,he,← hs hn]
  exact ZyG s (by omega) hb
theorem Zn2 (n:Int) (hb:n.natAbs < 4503599627370496):Val (FloatKind.f64.nearest n) (2 * n):=by
 show Val (Kg.nearest (decide (n < 0)) n.natAbs 0) (2 * n)
 refine ⟨by omega,?_⟩
 by_cases hn:n = 0
 ·left
  subst hn
  exact ⟨rfl,false,by decide⟩
 ·right
  refine ⟨by omega,?_⟩
  rw [Zih _ (by omega) hb]
  have e1:(2 * n).natAbs = 2 * n.natAbs:=by omega
  have e2:decide (2 * n < 0) = decide (n < 0):=by by_cases h:n < 0 <;> simp [h] <;> omega
  rw [e1,e2]
theorem Zzw {a b:Int} {p:Int} (hp:0 < p):compare (a * p) (b * p) = compare a b:=by
 rcases Int.lt_trichotomy a b with h | h | h
 ·have:=Int.mul_lt_mul_of_pos_right h hp
  rw [Int.compare_eq_lt.2 h,Int.compare_eq_lt.2 this]
 ·subst h; simp
 ·have:=Int.mul_lt_mul_of_pos_right h hp
  rw [Int.compare_eq_gt.2 h,Int.compare_eq_gt.2 this]
theorem Znh {x y:Nat} {a b:Int} (hx:Val x a) (hy:Val y b):FloatKind.f64.format.order x y = some (compare a b):=by
 obtain ⟨s,m,i,h1,h2,_,h3⟩:=hx.num
 obtain ⟨t,n,j,g1,g2,_,g3⟩:=hy.num
 show (Kg.read x).order (Kg.read y) = _
 rw [h1,g1]
 unfold Ieee.Datum.order
 simp only
 rw [h3 _ (Int.min_le_left i j),g3 _ (Int.min_le_right i j),Zzw (Int.pow_pos (by omega))]
theorem ZFg {x y:Nat} {a b:Int} (hx:Val x a) (hy:Val y b) (hb:(a + b).natAbs < 9007199254740992):∃ z,floatBits .add .f64 x y = some z ∧ Val z (a + b):=by
 obtain ⟨s,m,i,h1,h2,h2',h3⟩:=hx.num
 obtain ⟨t,n,j,g1,g2,g2',g3⟩:=hy.num
 show ∃ z,((Kg.read x).sum (Kg.read y)).map Kg.write = some z ∧ _
 rw [h1,g1]
 unfold Ieee.Datum.sum
 simp only
 rw [h3 _ (Int.min_le_left i j),g3 _ (Int.min_le_right i j),← Int.add_mul]
 refine ⟨_,rfl,?_⟩
 have hp:(0:Int) < 2 ^ (-1 - min i j).toNat:=Int.pow_pos (by omega)
 refine Zdx (t:=(-1 - min i j).toNat) (by omega) ?_ (fun hn => ?_) hb
 ·rw [Int.natAbs_mul,Int.natAbs_pow]; rfl
 ·rw [if_neg (by intro h; rcases Int.mul_eq_zero.1 h with h | h <;> omega)]
  by_cases hlt:a + b < 0
  ·rw [Xj hlt,Xj (Int.mul_neg_of_neg_of_pos hlt hp)]
  ·rw [Wr hlt,Wr (by
    have:=Int.mul_nonneg (show 0 ≤ a + b by omega) (Int.le_of_lt hp)
    omega)]
theorem ZSS {x:Nat} {n:Int} (h:Val x n):∃ s m e,(Kg.read x).opposite = .number s m e ∧ e ≤ -1 ∧ ∀ (b:Int),b ≤ e → Ieee.signed s m (e - b).toNat = -n * 2 ^ (-1 - b).toNat:=by
 obtain ⟨s,m,e,h1,h2,_,h3⟩:=h.num
 refine ⟨!s,m,e,by rw [h1]; rfl,h2,fun b hb => ?_⟩
 have:=h3 b hb
 unfold Ieee.signed at this ⊢
 rw [Int.neg_mul,← this]
 cases s <;> simp
theorem ZS4 {x y:Nat} {a b:Int} (hx:Val x a) (hy:Val y b) (hb:(a - b).natAbs < 9007199254740992):∃ z,floatBits .sub .f64 x y = some z ∧ Val z (a - b):=by
 obtain ⟨s,m,i,h1,h2,h2',h3⟩:=hx.num
 obtain ⟨t,n,j,g1,g2,g3⟩:=ZSS hy
 show ∃ z,((Kg.read x).sum (Kg.read y).opposite).map Kg.write = some z ∧ _
 rw [h1,g1]
 unfold Ieee.Datum.sum
 simp only
 rw [h3 _ (Int.min_le_left i j),g3 _ (Int.min_le_right i j),← Int.add_mul,← Int.sub_eq_add_neg]
 refine ⟨_,rfl,?_⟩
 have hp:(0:Int) < 2 ^ (-1 - min i j).toNat:=Int.pow_pos (by omega)
 refine Zdx (t:=(-1 - min i j).toNat) (by omega) ?_ (fun hn => ?_) hb
 ·rw [Int.natAbs_mul,Int.natAbs_pow]; rfl
 ·rw [if_neg (by intro h; rcases Int.mul_eq_zero.1 h with h | h <;> omega)]
  by_cases hlt:a - b < 0
  ·rw [Xj hlt,Xj (Int.mul_neg_of_neg_of_pos hlt hp)]
  ·rw [Wr hlt,Wr (by
    have:=Int.mul_nonneg (show 0 ≤ a - b by omega) (Int.le_of_lt hp)
    omega)]
end Go.Sh
namespace Go.Sh
open Go Go.Proofs
theorem ZOP (s:Bool) (m:Nat):(Ieee.Datum.number s 0 (-1074)) = Ieee.Datum.number s ((0:Int).natAbs * m) (-((1074:Nat):Int)):=by
 rw [show (0:Int).natAbs * m = 0 from Nat.zero_mul m]
 rfl
theorem Val.nat {x:Nat} {n:Int} (h:Val x n):∃ (s:Bool) (t:Nat),Kg.read x = .number s (n.natAbs * 2 ^ (t - 1)) (-(t:Int)) ∧ 1 ≤ t ∧ (n ≠ 0 → s = decide (n < 0) ∧ (n.natAbs * 2 ^ (t - 1)).log2 = 52):=by
 obtain ⟨hb,⟨rfl,s,hr⟩ | ⟨hn,hr⟩⟩:=h
 ·exact ⟨s,1074,hr.trans (ZOP s _),by omega,fun h => absurd rfl h⟩
 ·have h0:n.natAbs ≠ 0:=by omega
  have hL:=ZlH h0 hb
  refine ⟨_,53 - n.natAbs.log2,hr.trans ?_,by omega,fun _ => ⟨rfl,?_⟩⟩
  ·rw [show 53 - n.natAbs.log2 - 1 = 52 - n.natAbs.log2 by omega]
   congr 1
   omega
  ·rw [Y6 h0]; omega
theorem ZOQ:Kg.read 4607182418800017408 = .number false 4503599627370496 (-52):=by decide
theorem ZPo:Kg.read 4611686018427387904 = .number false 4503599627370496 (-51):=by decide
theorem Zn1 {x:Nat} {a:Int} (hx:Val x a):∃ z,floatBits .mul .f64 x 4607182418800017408 = some z ∧ Val z a:=by
 obtain ⟨s,t,hr,h1,hs⟩:=hx.nat
 show ∃ z,((Kg.read x).product (Kg.read 4607182418800017408)).map Kg.write = some z ∧ _
 rw [hr,ZOQ]
 refine ⟨_,rfl,Zdx (t:=t + 51) (by omega) ?_ (fun hn => by rw [(hs hn).1]; simp) hx.1⟩
 rw [Nat.mul_assoc,show (4503599627370496:Nat) = 2 ^ 52 from rfl,← Nat.pow_add]
 congr 2; omega
theorem ZOr {x:Nat} {c:Int} (hx:Val x (2 * c)):∃ z,floatBits .quo .f64 x 4611686018427387904 = some z ∧ Val z c:=by
 obtain ⟨s,t,hr,h1,hs⟩:=hx.nat
 show ∃ z,((Kg.read x).quotient 54 (Kg.read 4611686018427387904)).map Kg.write = some z ∧ _
 rw [hr,ZPo]
 unfold Ieee.Datum.quotient
 simp only
 rw [if_neg (by omega)]
 refine ⟨_,rfl,?_⟩
 have hb:=hx.1
 by_cases hn:c = 0
 ·subst hn
  simp only [Int.mul_zero,Int.natAbs_zero,Nat.zero_mul,Nat.zero_shiftLeft,Nat.zero_div,Nat.zero_mod]
  have e1:(4503599627370496:Nat).log2 = 52:=by decide
  have e2:(0:Nat).log2 = 0:=by decide
  rw [e1,e2]
  exact Zdx (t:=t + 55) (by simp; omega) (by simp) (fun h => absurd rfl h) (by simp)
 ·obtain ⟨h2,h3⟩:=hs (by omega)
  rw [h3,show (4503599627370496:Nat).log2 = 52 from by decide,show 54 + 52 - 52 = 54 from rfl,Nat.shiftLeft_eq]
  have e0:(2 ^ 54:Nat) = 4 * 4503599627370496:=by decide
  rw [e0,← Nat.mul_assoc,Nat.mul_div_cancel _ (by omega),Nat.mul_mod_left]
  refine Zdx (t:=t + 3) (by omega) ?_ (fun _ => ?_) (by omega)
  ·have e1:(2 * c).natAbs = 2 * c.natAbs:=by omega
   rw [e1]
   have e2:2 ^ (t + 3) = 2 ^ (t - 1) * 16:=by rw [show t + 3 = (t - 1) + 4 by omega,Nat.pow_add]
   rw [e2]
   simp
   rw [← Nat.mul_assoc]
   generalize 2 ^ (t - 1) = P
   rw [Nat.mul_assoc 2 c.natAbs P,← Nat.mul_assoc c.natAbs P 16]
   generalize c.natAbs * P = Q
   omega
  ·rw [h2]
   by_cases hlt:c < 0
   ·rw [Xj hlt,Xj (by omega)]; rfl
   ·rw [Wr hlt,Wr (by omega)]; rfl
theorem Zoa {s:Bool} {q:Nat} {n:Int} (hq:q = n.natAbs) (hs:n ≠ 0 → s = decide (n < 0)) (hb:n.natAbs < 4503599627370496):Val (Kg.write (.number s q 0)) (2 * n):=by
 subst hq
 refine ⟨by omega,?_⟩
 show _ ∨ (_ ∧ Kg.read (Kg.nearest s n.natAbs 0) = _)
 by_cases hn:n = 0
 ·left
  refine ⟨by omega,s,?_⟩
  show Kg.read (Kg.nearest s n.natAbs 0) = _
  subst hn
  unfold Ieee.Format.nearest
  rw [if_pos (by rfl)]
  exact Zv0 s
 ·right
  refine ⟨by omega,?_⟩
  rw [Zih _ (by omega) hb,hs hn]
  have e1:(2 * n).natAbs = 2 * n.natAbs:=by omega
  have e2:decide (2 * n < 0) = decide (n < 0):=by by_cases h:n < 0 <;> simp [h] <;> omega
  rw [e1,e2]
theorem Zmm {s:Bool} {a t:Nat} (way:Ieee.Toward) (hway:way = .down ∨ way = .zero) (ht:1 ≤ t) (hl:a ≠ 0 → (a * 2 ^ (t - 1)).log2 = 52) (ht':a ≠ 0 → t ≤ 53) :
  way.cut s (a * 2 ^ (t - 1)) t = a / 2 + (if way = .down then (s && decide (a % 2 ≠ 0)).toNat else 0):=by
 by_cases h0:a = 0
 ·subst h0
  rcases hway with rfl | rfl <;> simp [Ieee.Toward.cut]
 ·unfold Ieee.Toward.cut
  have h1:=hl h0
  have h2:=ht' h0
  simp only [Nat.min_eq_left (show t ≤ (a * 2 ^ (t - 1)).log2 + 2 by omega),Nat.one_shiftLeft]
  have hp:0 < 2 ^ (t - 1):=Nat.pow_pos (by omega)
  have e1:2 ^ t = 2 * 2 ^ (t - 1):=by rw [show t = (t - 1) + 1 by omega,Nat.pow_succ,Nat.add_sub_cancel]; omega
  rw [e1,Nat.mul_div_mul_right _ _ hp,Nat.mul_mod_mul_right]
  have e2:(a % 2 * 2 ^ (t - 1) != 0) = decide (a % 2 ≠ 0):=by
   have:a % 2 < 2:=Nat.mod_lt _ (by omega)
   generalize a % 2 = b at this
   match b,this with
   | 0,_ => simp
   | 1,_ => simp [bne]
  rcases hway with rfl | rfl
  ·simp [e2]
  ·simp
theorem Zy4 {x:Nat} {n:Int} {s:Bool} {t:Nat} (h:n.natAbs ≠ 0) (ht:1 ≤ t) (hl:(n.natAbs * 2 ^ (t - 1)).log2 = 52):t ≤ 53:=by
 rw [Y6 h] at hl; omega
theorem ZJs {x:Nat} {n:Int} (hx:Val x n) (hb:n.natAbs < 4503599627370496):∃ z,WN .down x = some z ∧ Val z (2 * (n / 2)):=by
 obtain ⟨s,t,hr,h1,hs⟩:=hx.nat
 unfold WN
 have hd:FloatKind.f64.decode x = .number s (n.natAbs * 2 ^ (t - 1)) (-(t:Int)):=hr
 rw [hd]
 refine ⟨_,rfl,?_⟩
 show Val (Kg.write (Ieee.Datum.integral .down (.number s (n.natAbs * 2 ^ (t - 1)) (-(t:Int))))) _
 unfold Ieee.Datum.integral
 simp only [Int.neg_neg,Xm,show (-(t:Int)).toNat = 0 by omega,Nat.shiftLeft_zero]
 rw [Zmm .down (.inl rfl) h1 (fun h => (hs (by omega)).2) (fun h => Zy4 (x:=x) (s:=s) h h1 (hs (by omega)).2),if_pos rfl]
 refine Zoa ?_ (fun hne => ?_) (by omega)
 ·by_cases h0:n = 0
  ·subst h0; simp
  ·rw [(hs h0).1]
   by_cases hlt:n < 0
   ·rw [Xj hlt]
    by_cases ho:n.natAbs % 2 = 0
    ·simp [ho]; omega
    ·simp [ho]; omega
   ·rw [Wr hlt]; simp; omega
 ·have h0:n ≠ 0:=by omega
  rw [(hs h0).1]
  by_cases hlt:n < 0
  ·rw [Xj hlt,Xj (by omega)]
  ·rw [Wr hlt,Wr (by omega)]
theorem ZJ2 {x:Nat} {v:Int} (hx:Val x (2 * v)) (hb:v.natAbs < 1125899906842624):∃ z,WN .zero x = some z ∧ Val z (2 * v):=by
 obtain ⟨s,t,hr,h1,hs⟩:=hx.nat
 unfold WN
 have hd:FloatKind.f64.decode x = .number s ((2 * v).natAbs * 2 ^ (t - 1)) (-(t:Int)):=hr
 rw [hd]
 refine ⟨_,rfl,?_⟩
 show Val (Kg.write (Ieee.Datum.integral .zero (.number s ((2 * v).natAbs * 2 ^ (t - 1)) (-(t:Int))))) _
 unfold Ieee.Datum.integral
 simp only [Int.neg_neg,Xm,show (-(t:Int)).toNat = 0 by omega,Nat.shiftLeft_zero]
 rw [Zmm .zero (.inr rfl) h1 (fun h => (hs (by omega)).2) (fun h => Zy4 (x:=x) (s:=s) h h1 (hs (by omega)).2),if_neg (by decide)]
 refine Zoa (by omega) (fun hne => ?_) (by omega)
 rw [(hs (by omega)).1]
 by_cases hlt:v < 0
 ·rw [Xj hlt,Xj (by omega)]
 ·rw [Wr hlt,Wr (by omega)]
theorem ZbX {x:Nat} {v:Int} (hx:Val x (2 * v)) (hb:v.natAbs < 1125899906842624):floatToIntVal .f64 x .i64 = some v:=by
 obtain ⟨s,t,hr,h1,hs⟩:=hx.nat
 unfold floatToIntVal
 have hd:FloatKind.f64.decode x = .number s ((2 * v).natAbs * 2 ^ (t - 1)) (-(t:Int)):=hr
 rw [hd]
 have:Ieee.Datum.toInt .zero (.number s ((2 * v).natAbs * 2 ^ (t - 1)) (-(t:Int))) = some v:=by
  unfold Ieee.Datum.toInt Ieee.Datum.integral
  simp only [Int.neg_neg,Xm,show (-(t:Int)).toNat = 0 by omega,Nat.shiftLeft_zero]
  rw [Zmm .zero (.inr rfl) h1 (fun h => (hs (by omega)).2) (fun h => Zy4 (x:=x) (s:=s) h h1 (hs (by omega)).2),if_neg (by decide)]
  unfold Ieee.signed
  simp only [Nat.shiftLeft_zero,Nat.add_zero]
  by_cases h0:v = 0
  ·subst h0; simp
  ·rw [(hs (by omega)).1]
   by_cases hlt:v < 0
   ·rw [Xj (by omega),if_pos rfl]; congr 1; omega
   ·rw [Wr (by omega),if_neg (by simp)]; congr 1; omega
 rw [this]
 simp only
 rw [if_pos]
 simp only [IntKind.min,IntKind.max,IntKind.signed,IntKind.bits]
 constructor <;> simp <;> omega
theorem ZO0 (x:Nat):Kg.read (x % 9223372036854775808) = match Kg.read x with | .number _ m e => .number false m e | .infinity _ => .infinity false | .nan _ f => .nan false f:=by
 unfold Ieee.Format.read
 simp only [Zjy,ZiB,ZwD,Zmn]
 have e1:x % 9223372036854775808 / 9223372036854775808 = 0:=Nat.div_eq_of_lt (Nat.mod_lt _ (by omega))
 rw [e1,Nat.mod_mod]
 split
 ·rfl
 ·split
  ·rfl
  ·split <;> rfl
theorem Zwk {x:Nat} {n:Int} (hx:Val x n):Val (x % 9223372036854775808) (n.natAbs:Int):=by
 obtain ⟨hb,h⟩:=hx
 refine ⟨by simpa using hb,?_⟩
 rw [ZO0]
 rcases h with ⟨rfl,s,hr⟩ | ⟨hn,hr⟩
 ·left
  rw [hr]
  exact ⟨rfl,false,rfl⟩
 ·right
  rw [hr]
  refine ⟨by omega,?_⟩
  simp only [Int.natAbs_natCast]
  rw [Wr (by omega)]
theorem Zqt (k x:Nat):Zfa k (x,()) = some (x % 9223372036854775808,()):=by
 show Zg5 k _ = _
 simp only [Zg5]
 congr 2
 have e1:BitVec.ofInt 64 (Int.ofNat x) &&& ~~~BitVec.ofInt 64 (9223372036854775808:Int) = BitVec.ofNat 64 (x % 9223372036854775808):=by
  apply BitVec.eq_of_getLsbD_eq
  intro i hi
  have h1:BitVec.ofInt 64 (Int.ofNat x) = BitVec.ofNat 64 x:=BitVec.ofInt_natCast ..
  have h2:BitVec.ofInt 64 (9223372036854775808:Int) = BitVec.twoPow 64 63:=by decide
  rw [h1,h2]
  simp only [BitVec.getLsbD_and,BitVec.getLsbD_not,BitVec.getLsbD_ofNat,BitVec.getLsbD_twoPow,show (9223372036854775808:Nat) = 2 ^ 63 from rfl,Nat.testBit_mod_two_pow]
  by_cases h63:i = 63
  ·subst h63; simp
  ·simp [hi,show i < 63 by omega]
   omega
 rw [e1,BitVec.toNat_ofNat]
 have:x % 9223372036854775808 < 9223372036854775808:=Nat.mod_lt _ (by omega)
 rw [Nat.mod_eq_of_lt (by omega)]
 show (IntKind.u64.wrap ((x % 9223372036854775808:Nat):Int)).toNat = _
 rw [Ztz (by omega),Xm]
end Go.Sh
namespace Go.Sh
open Go Go.Proofs
def Ql (n:Int):Prop := -16777216 ≤ n ∧ n ≤ 16777216
def PV2 (p:Nat × Nat) (l r:Int):Prop:=Val p.1 (2 * l) ∧ Val p.2 (2 * r) ∧ Ql l ∧ Ql r
structure PP (p:List (Nat × Nat)) (L R:List Int):Prop where
 hl:p.length = L.length
 hr:p.length = R.length
 at_:∀ i (h:i < p.length),PV2 p[i] (L[i]'(hl ▸ h)) (R[i]'(hr ▸ h))
def Zf1 (L R:List Int):List (Nat × Nat):=(L.zip R).map fun x => (FloatKind.f64.nearest x.1,FloatKind.f64.nearest x.2)
theorem ZBp {L R:List Int} (h:L.length = R.length) (hL:∀ x ∈ L,Ql x) (hR:∀ x ∈ R,Ql x):PP (Zf1 L R) L R where
 hl:=by simp [Zf1,h]
 hr:=by simp [Zf1,h]
 at_:=fun i hi => by
  simp only [Zf1,List.length_map,List.length_zip] at hi
  have h1:=hL L[i] (List.getElem_mem (by omega))
  have h2:=hR R[i] (List.getElem_mem (by omega))
  simp only [Zf1,List.getElem_map,List.getElem_zip]
  exact ⟨Zn2 _ (by unfold Ql at h1; omega),Zn2 _ (by unfold Ql at h2; omega),h1,h2⟩
theorem ZNP (k:Nat) {L R:List Int} (hk:L.length < k) (h:L.length = R.length) (hn:L.length ≤ 8192) (hL:∀ x ∈ L,Ql x) (hR:∀ x ∈ R,Ql x) :
  Zsl k (L,R,()) = some ((Zf1 L R,0,()),()):=by
 show Zc7 k (Zsm k) _ = _
 simp only [Zc7]
 rw [show (Int.ofNat L.length != Int.ofNat R.length) = false from by rw [h]; simp]
 simp only [cond_false]
 rw [Zk (by simp only [Qv]; omega)]
 have:=Zz (A:=List (Nat × Nat)) (step:=fun L1 => K9 k L1) (fun i acc => (Int.ofNat L.length,Int.ofNat i,L,R,acc)) (L.zip R)
  (fun l acc => some ((acc ++ l.map (fun x => (FloatKind.f64.nearest x.1,FloatKind.f64.nearest x.2)),0,()),())) (fun i acc => acc.length = i)
  (fun L1 acc ha => by
   simp only [K9]
   rw [List.length_zip,← h,Nat.min_self,Zk (Q3 _)]
   simp)
  (fun L1 i hi acc ha hL1 => by
   have hi2:i < L.length:=by simp at hi; omega
   have hi3:i < R.length:=by omega
   have b1:=hL L[i] (List.getElem_mem hi2)
   have b2:=hR R[i] (List.getElem_mem hi3)
   unfold Ql at b1 b2
   simp only [K9]
   rw [Zc (ltR hi2),Zc (Kh hi2),Zc (Kh hi3),ZM hi2,ZM hi3]
   rw [Zk (by omega),Zk (by omega),Zk (by omega),Zk (by omega),Zc (by simp; omega),Qr hi2 (by omega)]
   rw [hL1 _ (by simp [ha])]
   simp) k 0 [] rfl (by simp; omega) (Nat.zero_le _)
 exact Eq.trans this (by rw [List.drop_zero]; rfl)
theorem Zqg (k:Nat) {x y:Nat} {a b:Int} (hx:Val x a) (hy:Val y b) (hb:(a - b).natAbs < 9007199254740992) (hb2:(a + b).natAbs < 9007199254740992):∃ z,ZiD k ((x,y),()) = some (z,()) ∧ Val z (a - b):=by
 show ∃ z,Zgz k _ = _ ∧ _
 simp only [Zgz]
 unfold cMulBits
 obtain ⟨z1,e1,v1⟩:=Zn1 hx
 obtain ⟨z2,e2,v2⟩:=Zn1 hy
 obtain ⟨z3,e3,v3⟩:=ZS4 v1 v2 hb
 obtain ⟨z4,e4,v4⟩:=ZFg v1 v2 hb2
 refine ⟨z3,?_,v3⟩
 simp only [e1,e2,e3,e4,Z1]
theorem ZKJ (k:Nat) {x:Nat} {n:Int} (hx:Val x n) (hb:n.natAbs < 4503599627370496):∃ z,Zqh k (x,()) = some (z,()) ∧ Val z (2 * (n / 2)):=by
 obtain ⟨z,e,v⟩:=ZJs hx hb
 refine ⟨z,?_,v⟩
 show ZgA k _ = _
 simp only [ZgA,e,Z1]
theorem Zz5 (k:Nat) {x:Nat} {v:Int} (hx:Val x (2 * v)) (hb:v.natAbs < 1125899906842624):∃ z,Ze9 k (x,()) = some (z,()) ∧ Val z (2 * v):=by
 obtain ⟨z,e,w⟩:=ZJ2 hx hb
 refine ⟨z,?_,w⟩
 show Zg3 k _ = _
 simp only [Zg3,e,Z1]
theorem ZOG:Kg.read 9218868437227405311 = .number false 9007199254740991 971:=by decide
theorem ZSO {x:Nat} {n:Int} (hx:Val x n) (h0:0 ≤ n):(FloatKind.f64.format.order x 9218868437227405311 == some Ordering.gt) = false:=by
 obtain ⟨s,m,i,h1,h2,h2',h3⟩:=hx.num
 have:FloatKind.f64.format.order x 9218868437227405311 = some Ordering.lt:=by
  show (Kg.read x).order (Kg.read 9218868437227405311) = _
  rw [h1,ZOG]
  unfold Ieee.Datum.order
  simp only
  have hmin:min i 971 = i:=by omega
  rw [hmin,h3 i (Int.le_refl _)]
  congr 1
  rw [Int.compare_eq_lt]
  unfold Ieee.signed
  simp only [Bool.false_eq_true,if_false]
  rw [Nat.shiftLeft_eq,Int.natCast_mul]
  have hp:(0:Int) < 2 ^ (-1 - i).toNat:=Int.pow_pos (by omega)
  obtain ⟨d,hd,hd1⟩:∃ d:Nat,(971 - i).toNat = (-1 - i).toNat + d ∧ d ≠ 0:=⟨972,by omega,by omega⟩
  have hq:(((2 ^ (971 - i).toNat:Nat):Int)) = 2 ^ (-1 - i).toNat * ((2 ^ d:Nat):Int):=by
   rw [hd,Nat.pow_add,Int.natCast_mul,Int.natCast_pow]; rfl
  rw [hq]
  have hb:=hx.1
  have hQ:1 < 2 ^ d:=Nat.one_lt_two_pow hd1
  have e1:n * 2 ^ (-1 - i).toNat ≤ 9007199254740991 * 2 ^ (-1 - i).toNat:=Int.mul_le_mul_of_nonneg_right (by omega) (Int.le_of_lt hp)
  generalize hP:(2:Int) ^ (-1 - i).toNat = P at hp e1
  generalize 2 ^ d = Q at hQ
  have e2:P * 1 < P * (Q:Int):=Int.mul_lt_mul_of_pos_left (by omega) hp
  have e3:(9007199254740991:Int) * P < 9007199254740991 * (P * (Q:Int)):=Int.mul_lt_mul_of_pos_left (by omega) (by omega)
  show _ < ((9007199254740991:Nat):Int) * (P * (Q:Int))
  omega
 rw [this]; rfl
theorem Zz7 (k:Nat) {x:Nat} {n:Int} (hx:Val x n):ZmB k (x,0,()) = some (false,()):=by
 show Zg4 k _ = _
 simp only [Zg4]
 rw [show ((0:Int) == (0:Int)) = true from rfl]
 simp only [cond_true,Zqt,Z1]
 rw [ZSO (Zwk hx) (by omega)]
theorem ZSx:Val 4715268809856909312 33554432:=by
 refine ⟨by decide,.inr ⟨by decide,by decide⟩⟩
theorem ZSI {x y:Nat} {a b:Int} (hx:Val x a) (hy:Val y b):∃ z,ZBu .f64 x y = some z ∧ Val z (max a b):=by
 unfold ZBu
 rw [Znh hx hy]
 rcases Int.lt_trichotomy a b with h | h | h
 ·rw [Int.compare_eq_lt.2 h]; exact ⟨y,rfl,by rw [Int.max_eq_right (by omega)]; exact hy⟩
 ·subst h
  have:compare a a = Ordering.eq:=by simp
  rw [this]
  refine ⟨_,rfl,?_⟩
  rw [Int.max_self]
  split
  ·exact hy
  ·exact hx
 ·rw [Int.compare_eq_gt.2 h]; exact ⟨x,rfl,by rw [Int.max_eq_left (by omega)]; exact hx⟩
theorem ZBx {x y:Nat} {a:Int} (hx:Val x a) (hy:Val y a):(FloatKind.f64.format.order x y != some Ordering.eq) = false:=by
 rw [Znh hx hy]; simp
theorem ZJK {x:Nat} {a:Int} (hx:Val x a) (h:a ≤ 33554432):(FloatKind.f64.format.order x 4715268809856909312 == some Ordering.gt) = false:=by
 rw [Znh hx ZSx]
 have:compare a 33554432 ≠ Ordering.gt:=by
  intro h2
  have:=Int.compare_eq_gt.1 h2
  omega
 cases hc:compare a 33554432 <;> first | rfl | exact absurd hc this
theorem ZCN (k:Nat) (hk:4 < k) (L1:Int × Int × List (Nat × Nat) × List (Nat × Nat) → Option (Int × Unit)) {x y:Nat} {l r:Int} (h:PV2 (x,y) l r) (v3 v4:Int) (v5 v6:List (Nat × Nat)) :
  ZjB k L1 (0,x,y,v3,v4,v5,v6) = L1 (v4,IntKind.i64.wrap (v3 + 1),v5,v6):=by
 obtain ⟨hx,hy,b1,b2⟩:=h
 unfold Ql at b1 b2
 obtain ⟨k,rfl⟩:∃ m,k = m + 3:=⟨k - 3,by omega⟩
 obtain ⟨z1,e1,w1⟩:=Zz5 (k + 3) hx (by omega)
 obtain ⟨z2,e2,w2⟩:=Zz5 (k + 3) hy (by omega)
 show Zm (fun L2 => Kl (k + 3) L1 L2) (k + 3) _ = _
 rw [Ze]
 simp only [Kl]
 rw [Zc (by omega),Zc (by omega)]
 show ((Ze9 (k + 3) (x,())).bind _) = _
 rw [e1]
 simp only [Z1]
 rw [show [x,y].getD (0:Int).toNat (0:Nat) = x from rfl,ZBx w1 hx]
 simp only [cond_false]
 rw [Zz7 _ hx]
 simp only [Z1,cond_false]
 rw [show IntKind.i64.wrap ((0:Int) + 1) = 1 from by rw [Qa (by omega)]; rfl,Ze]
 simp only [Kl]
 rw [Zc (by omega),Zc (by omega)]
 show ((Ze9 (k + 3) (y,())).bind _) = _
 rw [e2]
 simp only [Z1]
 rw [show [x,y].getD (1:Int).toNat (0:Nat) = y from rfl,ZBx w2 hy]
 simp only [cond_false]
 rw [Zz7 _ hy]
 simp only [Z1,cond_false]
 rw [show IntKind.i64.wrap ((1:Int) + 1) = 2 from by rw [Qa (by omega)]; rfl,Ze]
 simp only [Kl]
 rw [Zk (by omega)]
theorem ZHx (k:Nat) {p:List (Nat × Nat)} {L R:List Int} (hp:PP p L R) (hk:p.length + 4 < k) (hn:p.length ≤ 8192):Zqf k (p,()) = some (0,()):=by
 show Zgy k (Zom k) _ = _
 simp only [Zgy]
 rw [Zk (by simp only [Qv]; omega)]
 have h3:ZjC k (Int.ofNat p.length,(0:Int),p) = some (0,()):=by
  have:=QN (A:=Unit) (step:=fun L3 => Zct k L3) (fun i _ => (Int.ofNat p.length,Int.ofNat i,p)) p (fun _ _ => some (0,()))
   (fun L _ => by simp only [Zct]; rw [Zk (Q3 _)])
   (fun L i hi _ hL => by
    obtain ⟨hx,hy,b1,b2⟩:=hp.at_ i hi
    unfold Ql at b1 b2
    simp only [Zct]
    rw [Zc (ltR hi),Zc (Kh hi),ZM hi,Zqt,Zqt]
    simp only [Z1]
    obtain ⟨z,e,w⟩:=ZSI (Zwk hx) (Zwk hy)
    rw [e]
    simp only [Z1]
    rw [ZJK w (by omega)]
    simp only [cond_false]
    rw [Qr hi (by omega),hL ()]) k 0 () (by omega) (Nat.zero_le _)
  exact this
 have:=QN (A:=Unit) (step:=fun L1 => Zcs k (ZjB k L1) (ZjC k) L1) (fun i _ => (Int.ofNat p.length,Int.ofNat i,p,p)) p (fun _ _ => some (0,()))
  (fun L _ => by simp only [Zcs]; rw [Zk (Q3 _)]; exact h3)
  (fun L i hi _ hL => by
   simp only [Zcs]
   rw [Zc (ltR hi),Zc (Kh hi),ZM hi]
   rw [ZCN k (by omega) L (x:=p[i].1) (y:=p[i].2) (hp.at_ i hi),Qr hi (by omega),hL ()]) k 0 () (by omega) (Nat.zero_le _)
 exact this
def apA (m l r:Int):Int:=if m = 9 then l - r else if m = 10 then (l + r) / 2 else l
def apB (m l r:Int):Int:=if m = 8 then l - r else if m = 10 then l - r else r
def ZlG (m:Int):Prop:=m = 0 ∨ m = 8 ∨ m = 9 ∨ m = 10
def WW (m:Int) (L R:List Int):List Int:=(L.zip R).map fun x => apA m x.1 x.2
def WX (m:Int) (L R:List Int):List Int:=(L.zip R).map fun x => apB m x.1 x.2
theorem ZBa (k:Nat) {m:Int} (h:ZlG m):Zvx k (m,()) = some (true,()):=by
 rcases h with rfl | rfl | rfl | rfl <;> rfl
theorem Zsp (k:Nat) {p:List (Nat × Nat)} {L R:List Int} (hp:PP p L R) (hk:p.length + 4 < k) (hn:p.length ≤ 8192) {m:Int} (hm:ZlG m) :
  Zsn k (p,m,()) = some ((WW m L R,WX m L R,0,()),()):=by
 show Zlc k (Zx0 k) _ = _
 simp only [Zlc]
 rw [ZBa k hm]
 simp only [Z1,Bool.not_true,cond_false]
 rw [ZHx k hp hk hn]
 simp only [Z1]
 rw [show ((0:Int) != (0:Int)) = false from rfl]
 simp only [cond_false]
 have hl:=hp.hl
 have hr:=hp.hr
 have:=Zz (A:=List Int × List Int) (step:=fun L1 => ZfF k L1) (fun i a => (Int.ofNat p.length,Int.ofNat i,p,m,a.1,a.2)) (L.zip R)
  (fun l a => some ((a.1 ++ l.map (fun x => apA m x.1 x.2),a.2 ++ l.map (fun x => apB m x.1 x.2),0,()),())) (fun i a => a.1.length = i ∧ a.2.length = i)
  (fun L1 a ha => by
   simp only [ZfF]
   rw [List.length_zip,← hl,← hr,Nat.min_self,Zk (Q3 _)]
   simp)
  (fun L1 i hi a ha hL1 => by
   have hi2:i < p.length:=by simp at hi; omega
   obtain ⟨hx,hy,b1,b2⟩:=hp.at_ i hi2
   unfold Ql at b1 b2
   simp only [ZfF]
   rw [Zc (ltR hi2),Zc (Kh hi2),ZM hi2]
   have s1:(a.1.length + [(0:Int)].length < 2147483648):=by simp; omega
   have s2:(a.2.length + [(0:Int)].length < 2147483648):=by simp; omega
   have hz:(L.zip R)[i] = (L[i]'(by omega),R[i]'(by omega)):=by simp
   rw [hz]
   have fin:∀ (u v:Int),u = apA m (L[i]'(by omega)) (R[i]'(by omega)) → v = apB m (L[i]'(by omega)) (R[i]'(by omega)) →
     L1 (Int.ofNat p.length,IntKind.i64.wrap (Int.ofNat i + 1),p,m,a.1 ++ [u],a.2 ++ [v]) = some ((a.1 ++ List.map (fun x => apA m x.1 x.2) ((L[i]'(by omega),R[i]'(by omega)) :: List.drop (i + 1) (L.zip R)),a.2 ++ List.map (fun x => apB m x.1 x.2) ((L[i]'(by omega),R[i]'(by omega)) :: List.drop (i + 1) (L.zip R)),0,()),()):=by
    intro u v hu hv
    rw [Qr hi2 (by omega)]
    have:=hL1 (a.1 ++ [u],a.2 ++ [v]) ⟨by simp [ha.1],by simp [ha.2]⟩
    simp only at this
    rw [this,hu,hv]
    simp
   rcases hm with rfl | rfl | rfl | rfl
   ·rw [show ((0:Int) == (8:Int)) = false from rfl,show ((0:Int) == (9:Int)) = false from rfl,show ((0:Int) == (10:Int)) = false from rfl]
    simp only [cond_false]
    rw [ZbX hx (by omega)]
    simp only [Z1]
    rw [Zc (by simp; omega),ZbX hy (by omega)]
    simp only [Z1]
    rw [Zc (by simp; omega)]
    exact fin _ _ rfl rfl
   ·rw [show ((8:Int) == (8:Int)) = true from rfl]
    simp only [cond_true]
    obtain ⟨z,e,w⟩:=Zqg k hx hy (by omega) (by omega)
    rw [← Int.mul_sub] at w
    rw [e]
    simp only [Z1]
    rw [ZbX hx (by omega)]
    simp only [Z1]
    rw [Zc (by simp; omega),ZbX w (by omega)]
    simp only [Z1]
    rw [Zc (by simp; omega)]
    exact fin _ _ rfl rfl
   ·rw [show ((9:Int) == (8:Int)) = false from rfl,show ((9:Int) == (9:Int)) = true from rfl]
    simp only [cond_true,cond_false]
    obtain ⟨z,e,w⟩:=Zqg k hx hy (by omega) (by omega)
    rw [← Int.mul_sub] at w
    rw [e]
    simp only [Z1]
    rw [ZbX w (by omega)]
    simp only [Z1]
    rw [Zc (by simp; omega),ZbX hy (by omega)]
    simp only [Z1]
    rw [Zc (by simp; omega)]
    exact fin _ _ rfl rfl
   ·rw [show ((10:Int) == (8:Int)) = false from rfl,show ((10:Int) == (9:Int)) = false from rfl,show ((10:Int) == (10:Int)) = true from rfl]
    simp only [cond_true,cond_false]
    obtain ⟨z1,e1,w1⟩:=ZFg hx hy (by omega)
    rw [← Int.mul_add] at w1
    obtain ⟨z2,e2,w2⟩:=ZOr w1
    obtain ⟨z3,e3,w3⟩:=ZKJ k w2 (by omega)
    obtain ⟨z,e,w⟩:=Zqg k hx hy (by omega) (by omega)
    rw [← Int.mul_sub] at w
    rw [e1]
    simp only [Z1]
    rw [e2]
    simp only [Z1]
    rw [e3]
    simp only [Z1]
    rw [e]
    simp only [Z1]
    rw [ZbX w3 (by omega)]
    simp only [Z1]
    rw [Zc (by simp; omega),ZbX w (by omega)]
    simp only [Z1]
    rw [Zc (by simp; omega)]
    exact fin _ _ rfl rfl) k 0 ([],[]) ⟨rfl,rfl⟩ (by simp; omega) (Nat.zero_le _)
 exact Eq.trans this (by rw [List.drop_zero]; rfl)
end Go.Sh
namespace Go.Sh
open Go Go.Proofs
theorem ZBN (x:Int) {w:Nat} (hw:0 < w):Xp x w = (x.fdiv (2 ^ (w - 1)) == 0 || x.fdiv (2 ^ (w - 1)) == -1):=by
 rw [Bool.eq_iff_iff]
 constructor
 ·intro h
  rcases ZBd hw h with h | h
  ·rw [h]; rfl
  ·rw [h]; rfl
 ·intro h
  unfold Xp
  rw [if_neg (by omega),decide_eq_true_eq]
  have hp:(0:Int) < 2 ^ (w - 1):=Int.pow_pos (by omega)
  rw [Int.fdiv_eq_ediv_of_nonneg _ (by omega)] at h
  have h1:=Int.mul_ediv_add_emod x (2 ^ (w - 1))
  have h2:=Int.emod_nonneg x (show (2:Int) ^ (w - 1) ≠ 0 by omega)
  have h3:=Int.emod_lt_of_pos x hp
  simp only [Bool.or_eq_true,beq_iff_eq] at h
  generalize (2:Int) ^ (w - 1) = P at *
  rcases h with h | h
  ·rw [h] at h1; constructor <;> omega
  ·rw [h] at h1; constructor <;> omega
def Zi6:List Int → Int → Int → Int
 | [],n,_ => n
 | x :: l,n,last => Zi6 l (n + ((x - last).natAbs:Int)) x
def Zcn (l:List Int):Int:=Zi6 l 0 0
def Qy (n:Int):Prop := -67108864 ≤ n ∧ n ≤ 67108864
theorem ZBb (k:Nat) (l:List Int) (hk:l.length < k) (hn:l.length ≤ 8192) (hl:∀ x ∈ l,Qy x):Zvy k (l,()) = some (Zcn l,()):=by
 show Zlz k (Zyq k) _ = _
 simp only [Zlz]
 have:=Zz (A:=Int × Int) (step:=fun L1 => ZfP k L1) (fun i a => (Int.ofNat l.length,Int.ofNat i,l,a.1,a.2)) l
  (fun l' a => some (Zi6 l' a.1 a.2,())) (fun i a => 0 ≤ a.1 ∧ a.1 ≤ (i:Int) * 268435456 ∧ Qy a.2)
  (fun L a _ => by simp only [ZfP]; rw [Zk (Q3 _)]; rfl)
  (fun L i hi a ha hL => by
   have hx:=hl _ (List.getElem_mem hi)
   unfold Qy at hx ha
   simp only [ZfP]
   rw [Zc (ltR hi),Zc (Kh hi),ZM hi,Qr hi (by omega)]
   have e1:IntKind.i64.wrap (l[i] - a.2) = l[i] - a.2:=Qa (by omega)
   have e2:IntKind.i64.wrap (a.2 - l[i]) = a.2 - l[i]:=Qa (by omega)
   rw [e1,e2]
   have e3:(if l[i] - a.2 < a.2 - l[i] then a.2 - l[i] else l[i] - a.2) = (((l[i] - a.2).natAbs:Nat):Int):=by split <;> omega
   rw [e3]
   have hi':(i:Int) ≤ 8192:=by omega
   have e4:IntKind.i64.wrap (a.1 + (((l[i] - a.2).natAbs:Nat):Int)) = a.1 + (((l[i] - a.2).natAbs:Nat):Int):=Qa (by omega)
   rw [e4,hL (a.1 + (((l[i] - a.2).natAbs:Nat):Int),l[i]) ⟨by omega,by push_cast; omega,hx⟩]
   rfl) k 0 (0,0) ⟨by omega,by omega,by unfold Qy; omega⟩ (by omega) (Nat.zero_le _)
 exact this
theorem ZlV:∀ (l:List Int) (n last:Int),(∀ x ∈ l,Qy x) → Qy last → n ≤ Zi6 l n last ∧ Zi6 l n last ≤ n + (l.length:Int) * 134217728
 | [],n,last,_,_ => by simp [Zi6]
 | x :: l,n,last,h,hb => by
  have hx:=h x (List.mem_cons_self ..)
  have:=ZlV l (n + ((x - last).natAbs:Int)) x (fun y hy => h y (List.mem_cons_of_mem _ hy)) hx
  unfold Qy at hx hb
  simp only [Zi6,List.length_cons]
  push_cast
  omega
theorem ZlW {l:List Int} (h:∀ x ∈ l,Qy x) (hn:l.length ≤ 8192):0 ≤ Zcn l ∧ Zcn l ≤ 1099511627776:=by
 have:=ZlV l 0 0 h (by unfold Qy; omega)
 unfold Zcn
 omega
theorem Zzh {m l r:Int} (hl:Ql l) (hr:Ql r):Qy (apA m l r) ∧ Qy (apB m l r):=by
 unfold Ql at hl hr
 unfold Qy apA apB
 constructor
 ·split
  ·omega
  ·split <;> omega
 ·split
  ·omega
  ·split <;> omega
theorem Zzi {m:Int} {L R:List Int} (hL:∀ x ∈ L,Ql x) (hR:∀ x ∈ R,Ql x):(∀ x ∈ WW m L R,Qy x) ∧ (∀ x ∈ WX m L R,Qy x):=by
 constructor
 ·intro x hx
  obtain ⟨⟨l,r⟩,h,rfl⟩:=List.mem_map.1 hx
  exact (Zzh (hL _ (List.of_mem_zip h).1) (hR _ (List.of_mem_zip h).2)).1
 ·intro x hx
  obtain ⟨⟨l,r⟩,h,rfl⟩:=List.mem_map.1 hx
  exact (Zzh (hL _ (List.of_mem_zip h).1) (hR _ (List.of_mem_zip h).2)).2
theorem Zgt {m:Int} {L R:List Int} (h:L.length = R.length):(WW m L R).length = L.length ∧ (WX m L R).length = L.length:=by
 unfold WW WX
 simp [h]
def ZKx (L R:List Int) (m:Int):Int:=Zcn (WW m L R) + Zcn (WX m L R)
def ZlN (L R:List Int) (b:Int × Int) (m:Int):Int × Int:=if b.1 < 0 ∨ ZKx L R m < b.1 then (ZKx L R m,m) else b
def Z8 (L R:List Int):Int:=(ZlN L R (ZlN L R (ZlN L R (ZlN L R (-1,0) 0) 8) 9) 10).2
theorem ZlO {L R:List Int} {b:Int × Int} {m:Int} (hb:ZlG b.2) (hm:ZlG m):ZlG (ZlN L R b m).2:=by
 unfold ZlN; split
 ·exact hm
 ·exact hb
theorem Ziy (L R:List Int):ZlG (Z8 L R):=by
 unfold Z8
 exact ZlO (ZlO (ZlO (ZlO (.inl rfl) (.inl rfl)) (.inr (.inl rfl))) (.inr (.inr (.inl rfl)))) (.inr (.inr (.inr rfl)))
theorem Zlb (k:Nat) (L1:Int × Int × Int × Int × Int × List (Nat × Nat) × Int × Int → Option ((Int × Int × Unit) × Unit)) {p:List (Nat × Nat)} {L R:List Int} (hp:PP p L R) (hLR:L.length = R.length) (hL:∀ x ∈ L,Ql x) (hR:∀ x ∈ R,Ql x)
  (hk:p.length + 4 < k) (hn:p.length ≤ 8192) (j:Nat) (hj:j < 4) (m:Int) (hm:ZlG m) (hg:[(0:Int),8,9,10].getD j 0 = m) (b:Int × Int) :
  Zc8 k L1 ((j:Int),0,8,9,10,p,b.1,b.2) = L1 (((j + 1:Nat):Int),0,8,9,10,p,(ZlN L R b m).1,(ZlN L R b m).2):=by
 have hl:=hp.hl
 obtain ⟨sA,sB⟩:=Zzi (m:=m) hL hR
 obtain ⟨lA,lB⟩:=Zgt (m:=m) hLR
 have bA:=ZlW sA (by omega)
 have bB:=ZlW sB (by omega)
 simp only [Zc8]
 rw [Zc (by omega),Zc (by omega),Xm,hg,Zsp k hp hk hn hm]
 simp only [Z1]
 rw [show ((0:Int) != (0:Int)) = false from rfl]
 simp only [cond_false]
 rw [ZBb k _ (by omega) (by omega) sA]
 simp only [Z1]
 rw [ZBb k _ (by omega) (by omega) sB]
 simp only [Z1]
 rw [Qa (n:=Zcn (WW m L R) + Zcn (WX m L R)) (by omega),Qa (n:=(j:Int) + 1) (by omega)]
 unfold ZlN ZKx
 by_cases h1:b.1 < 0
 ·rw [Zc h1,if_pos (.inl h1)]
  push_cast; rfl
 ·rw [Zk h1]
  by_cases h2:Zcn (WW m L R) + Zcn (WX m L R) < b.1
  ·rw [Zc h2,if_pos (.inr h2)]
   push_cast; rfl
  ·rw [Zk h2,if_neg (by omega)]
   push_cast; rfl
theorem ZNS (k:Nat) {p:List (Nat × Nat)} {L R:List Int} (hp:PP p L R) (hLR:L.length = R.length) (hL:∀ x ∈ L,Ql x) (hR:∀ x ∈ R,Ql x)
  (hk:p.length + 8 < k) (hn:p.length ≤ 8192):ZAW k (p,()) = some ((Z8 L R,0,()),()):=by
 obtain ⟨k,rfl⟩:∃ m,k = m + 5:=⟨k - 5,by omega⟩
 show Zm (fun L1 => Zc8 (k + 5) L1) (k + 5) ((0:Nat),0,8,9,10,p,(-1,(0:Int)).1,(-1,(0:Int)).2) = _
 rw [Ze,Zlb (k + 5) _ hp hLR hL hR (by omega) hn 0 (by omega) 0 (.inl rfl) rfl]
 rw [Ze,Zlb (k + 5) _ hp hLR hL hR (by omega) hn 1 (by omega) 8 (.inr (.inl rfl)) rfl]
 rw [Ze,Zlb (k + 5) _ hp hLR hL hR (by omega) hn 2 (by omega) 9 (.inr (.inr (.inl rfl))) rfl]
 rw [Ze,Zlb (k + 5) _ hp hLR hL hR (by omega) hn 3 (by omega) 10 (.inr (.inr (.inr rfl))) rfl]
 rw [Ze]
 simp only [Zc8]
 rw [Zk (by omega)]
 rfl
def Y3 (ch:List (List Int)):List (List Int) × Int:=match ch with
 | [L,R] => ([WW (Z8 L R) L R,WX (Z8 L R) L R],if Z8 L R = 0 then 1 else Z8 L R)
 | ch => (ch,0)
theorem ZNu (k:Nat) (n:Int) (ch:List (List Int)) (hk:9000 < k) (h:ch.length = 1 ∨ (∃ L R,ch = [L,R] ∧ L.length = R.length ∧ L.length ≤ 8192 ∧ (∀ x ∈ L,Ql x) ∧ ∀ x ∈ R,Ql x)) :
  ZAD k ((n,ch,()),()) = some (((Y3 ch).1,(Y3 ch).2,0,()),()):=by
 show ZkT k _ = _
 simp only [ZkT]
 rcases h with h | ⟨L,R,rfl,hLR,hn,hL,hR⟩
 ·match ch,h with
  | [L],_ => rfl
 ·rw [show (Int.ofNat [L,R].length == (1:Int)) = false from rfl]
  simp only [cond_false]
  rw [Zc (by simp),Zc (by simp)]
  have hp:=ZBp hLR hL hR
  have hpl:(Zf1 L R).length ≤ 8192:=by rw [hp.hl]; exact hn
  rw [show [L,R].getD 0 [] = L from rfl,show [L,R].getD 1 [] = R from rfl,ZNP k (by omega) hLR hn hL hR]
  simp only [Z1]
  rw [show ((0:Int) != (0:Int)) = false from rfl]
  simp only [cond_false]
  rw [ZNS k hp hLR hL hR (by omega) hpl]
  simp only [Z1]
  rw [show ((0:Int) != (0:Int)) = false from rfl]
  simp only [cond_false]
  rw [Zsp k hp (by omega) hpl (Ziy L R)]
  simp only [Z1]
  rw [ZK]
  show (bif decide (Z8 L R = 0) then _ else _) = some ((([_,_],if Z8 L R = 0 then 1 else Z8 L R,0,()),()))
  by_cases h0:Z8 L R = 0
  ·rw [Zc h0,if_pos h0]
  ·rw [Zk h0,if_neg h0]
def Qg (c d m:Int):List Int:=if c = 1 then [d] else if m = 8 ∨ m = 10 then [d,d + 1] else if m = 9 then [d + 1,d] else [d,d]
theorem ZAJ (k:Nat) {c d r m:Int} (hc:c = 1 ∧ m = 0 ∨ c = 2) (hd:0 ≤ d ∧ d ≤ 24):Zvn k ((c,d,r,()),m,()) = some (Qg c d m,()):=by
 show Zk0 k _ = _
 simp only [Zk0]
 have e:IntKind.i64.wrap (d + 1) = d + 1:=Qa (by omega)
 unfold Qg
 rcases hc with ⟨rfl,rfl⟩ | rfl
 ·rw [Zc (by simp)]
  rfl
 ·rw [Zc (by simp),if_neg (by omega)]
  simp only [ZK]
  by_cases h8:m = 8
  ·rw [Zc h8,if_pos (.inl h8),Zc (by simp),Zc (by simp),Zc (by simp)]
   simp [e]
  ·rw [Zk h8]
   by_cases h10:m = 10
   ·rw [Zc h10,if_pos (.inr h10),Zc (by simp),Zc (by simp),Zc (by simp)]
    simp [e]
   ·rw [Zk h10,if_neg (by omega)]
    by_cases h9:m = 9
    ·rw [Zc h9,if_pos h9,Zc (by simp),Zc (by simp),Zc (by simp)]
     simp [e]
    ·rw [Zk h9,if_neg h9,Zc (by simp)]
     rfl
def Zes (c d r:Int):Bool:=decide (1 ≤ c ∧ c ≤ 2 ∧ 4 ≤ d ∧ d ≤ 24 ∧ 1 ≤ r ∧ r ≤ 655350)
theorem ZzT (k:Nat) (c d r:Int):ZjM k ((c,d,r,()),()) = some (if Zes c d r then 0 else 2,()):=by
 show Zcy k _ = _
 simp only [Zcy]
 unfold Zes
 by_cases h1:c < 1
 ·rw [Zc h1,Wr (by omega)]; rfl
 ·rw [Zk h1]
  by_cases h2:2 < c
  ·rw [Zc h2,Wr (by omega)]; rfl
  ·rw [Zk h2]
   by_cases h3:d < 4
   ·rw [Zc h3,Wr (by omega)]; rfl
   ·rw [Zk h3]
    by_cases h4:24 < d
    ·rw [Zc h4,Wr (by omega)]; rfl
    ·rw [Zk h4]
     by_cases h5:r < 1
     ·rw [Zc h5,Wr (by omega)]; rfl
     ·rw [Zk h5]
      by_cases h6:655350 < r
      ·rw [Zc h6,Wr (by omega)]; rfl
      ·rw [Zk h6,Xj (by omega)]; rfl
def ZiW (n:Nat) (l:List Int):Bool:=decide (l.length = n ∧ 1 ≤ n ∧ n ≤ 512)
def Yr (c d r n:Int) (ch:List (List Int)):Int :=
 if Zes c d r = false then 2 else if n < 0 ∨ 2147483647 < n ∨ (ch.length:Int) ≠ c then 1
 else if ch.all (ZiW (ch.headD []).length) = false then 1
 else if ch.all (fun l => l.all fun x => Xp x d.toNat) = false then 12 else 0
theorem ZAC (k:Nat) (c d r n:Int) (ch:List (List Int)) (hk:1000 < k):Zh9 k ((c,d,r,()),(n,ch,()),()) = some (Yr c d r n ch,()):=by
 show ZkS k (Zsc k) _ = _
 simp only [ZkS]
 rw [ZzT]
 simp only [Z1]
 unfold Yr
 cases hs:Zes c d r with
 | false => simp only [if_true,Bool.false_eq_true,if_false]; rfl
 | true =>
  simp only [if_true,Bool.true_eq_false,if_false]
  rw [show ((0:Int) != (0:Int)) = false from rfl]
  simp only [cond_false]
  have hs:=of_decide_eq_true hs
  by_cases h1:n < 0
  ·rw [Zc h1,if_pos (.inl h1)]
  ·rw [Zk h1]
   by_cases h2:2147483647 < n
   ·rw [Zc h2,if_pos (.inr (.inl h2))]
   ·rw [Zk h2,ZL]
    by_cases h3:Int.ofNat ch.length = c
    ·rw [Zk (by simpa using h3),if_neg (by simp only [Qv] at h3; omega)]
     simp only [Qv] at h3
     have hch:ch.length ≤ 2:=by omega
     rw [Zc (by simp only [Qv]; omega)]
     have hhd:ch.getD 0 [] = ch.headD []:=by cases ch <;> rfl
     rw [hhd]
     generalize hN:(ch.headD []).length = N
     have hstep2:ch.all (ZiW N) = true → Zfy k (Int.ofNat ch.length,(0:Int),ch,c,d,r) = some (if ch.all (fun l => l.all fun x => Xp x d.toNat) = false then 12 else 0,()):=by
      intro hall
      have:=ZaQ (step:=fun L2 => Zc4 k (Zsd k L2) L2) (fun i => (Int.ofNat ch.length,Int.ofNat i,ch,c,d,r)) ch (fun l => l.all fun x => Xp x d.toNat) (some ((12:Int),())) (some ((0:Int),()))
       (fun L => by simp only [Zc4]; rw [Zk (Q3 _)])
       (fun L i hi => by
        simp only [Zc4]
        rw [Zc (ltR hi),Zc (Kh hi),ZM hi]
        have hlen:=of_decide_eq_true (List.all_eq_true.1 hall ch[i] (List.getElem_mem hi))
        have:=ZaQ (step:=fun L3 => Zc5 k L L3) (fun j => (Int.ofNat ch[i].length,Int.ofNat j,ch[i],Int.ofNat i,Int.ofNat ch.length,ch,c,d,r)) ch[i] (fun x => Xp x d.toNat) (some ((12:Int),()))
         (L (Int.ofNat ch.length,Int.ofNat (i + 1),ch,c,d,r))
         (fun L3 => by simp only [Zc5]; rw [Zk (Q3 _),Qr hi (by omega)])
         (fun L3 j hj => by
          simp only [Zc5]
          rw [Zc (ltR hj),Zc (Kh hj),ZM hj]
          have ew:IntKind.i64.wrap (d - 1) = ((d.toNat - 1:Nat):Int):=by rw [Qa (by omega)]; omega
          simp only [ew,Xm,Nat.min_eq_left (show d.toNat - 1 ≤ 64 by omega)]
          rw [Zc (by omega),ZBN _ (by omega),Qr hj (by omega)]
          simp only [bne]
          cases h5:(ch[i][j].fdiv (2 ^ (d.toNat - 1)) == 0) with
          | true => rfl
          | false =>
           cases h6:(ch[i][j].fdiv (2 ^ (d.toNat - 1)) == -1) <;> rfl) k (by omega)
        rw [← this]
        rfl) k (by omega)
      rw [show Zfy k (Int.ofNat ch.length,(0:Int),ch,c,d,r) = Zm (fun L2 => Zc4 k (Zsd k L2) L2) k (Int.ofNat ch.length,Int.ofNat 0,ch,c,d,r) from rfl,this]
      cases ch.all (fun l => l.all fun x => Xp x d.toNat) <;> rfl
     have:=ZaQ (step:=fun L1 => Zc3 k (Zfy k) L1) (fun i => (Int.ofNat ch.length,Int.ofNat i,ch,Int.ofNat N,n,ch,c,d,r)) ch (ZiW N) (some ((1:Int),()))
      (Zfy k (Int.ofNat ch.length,(0:Int),ch,c,d,r))
      (fun L => by simp only [Zc3]; rw [Zk (Q3 _)])
      (fun L i hi => by
       simp only [Zc3]
       rw [Zc (ltR hi),Zc (Kh hi),ZM hi,ZL]
       unfold ZiW
       simp only [Qv]
       by_cases e1:ch[i].length = N
       ·rw [Zk (by omega)]
        by_cases e2:N < 1
        ·rw [Zc (by omega),Wr (by omega)]; rfl
        ·rw [Zk (by omega)]
         by_cases e3:512 < N
         ·rw [Zc (by omega),Wr (by omega)]; rfl
         ·rw [Zk (by omega),Xj (by omega),Qa (by omega)]; rfl
       ·rw [Zc (by omega),Wr (by omega)]; rfl) k (by omega)
     rw [show Zsc k (Int.ofNat ch.length,(0:Int),ch,Int.ofNat N,n,ch,c,d,r) = Zm (fun L1 => Zc3 k (Zfy k) L1) k (Int.ofNat ch.length,Int.ofNat 0,ch,Int.ofNat N,n,ch,c,d,r) from rfl,this]
     cases hall:ch.all (ZiW N) with
     | false => simp
     | true =>
      simp only [cond_true,Bool.true_eq_false,if_false]
      exact hstep2 hall
    ·rw [Zc h3,if_pos (.inr (.inr h3))]
end Go.Sh
namespace Go.Sh
open Go Go.Proofs
def Znw:List Int → Int
 | [] => 0
 | x :: l => x + Znw l
def ZeB (x:Int):Bool:=decide (-2048 ≤ x ∧ x ≤ 2047)
def Qw (x:Int):Bool:=decide (x ≤ -2147483648 ∨ 2147483648 ≤ x)
def Zbs (c:List Int) (sh:Int):Bool:=decide (c.length ≤ 8 ∧ 0 ≤ sh ∧ sh ≤ 15) && c.all ZeB
theorem ZIH (k:Nat) (x:Int):ZqV k (x,()) = some (!ZeB x,()):=by
 show Zhu k _ = _
 simp only [Zhu]
 unfold ZeB
 by_cases h:x < -2048
 ·rw [Zc h,Wr (by omega)]; rfl
 ·rw [Zk h]
  by_cases h2:2047 < x
  ·rw [Xj h2,Wr (by omega)]; rfl
  ·rw [Wr h2,Xj (by omega)]; rfl
theorem ZzK (k:Nat) (c:List Int) (hk:c.length < k) (hn:c.length < 4294967296):Ze5 k (c,(),()) = some (!c.all ZeB,()):=by
 show ZbN k _ = _
 simp only [ZbN]
 have key:∃ i:Int,Zff k (c,(),()) = some (i,()) ∧ (0 ≤ i ↔ c.all ZeB = false):=by
  have:=QN (A:=Unit) (R:=Int × Unit) (step:=fun L1 => K2 k L1) (fun i _ => (Int.ofNat c.length,Int.ofNat i,c)) c
   (fun l _ => some (if l.all ZeB then -1 else Int.ofNat (c.length - l.length + (l.takeWhile ZeB).length),()))
   (fun L _ => by simp only [K2]; rw [Zk (Q3 _)]; rfl)
   (fun L i hi _ hL => by
    simp only [K2]
    rw [Zc (ltR hi),Zc (Kh hi),ZM hi,ZIH]
    simp only [Z1]
    have hlen:(List.drop (i + 1) c).length = c.length - (i + 1):=by simp
    cases hc:ZeB c[i] with
    | true =>
     simp only [Bool.not_true,cond_false]
     rw [Qr hi (by omega),hL ()]
     simp only [List.all_cons,hc,Bool.true_and,List.takeWhile_cons,if_true,List.length_cons,hlen]
     split
     ·rfl
     ·congr 3; omega
    | false =>
     simp only [Bool.not_false,cond_true,List.all_cons,hc,Bool.false_and,Bool.false_eq_true,if_false,List.takeWhile_cons,List.length_cons,hlen,List.length_nil]
     congr 3; omega) k 0 () (by omega) (Nat.zero_le _)
  rw [List.drop_zero] at this
  refine ⟨_,this,?_⟩
  cases c.all ZeB <;> simp
 obtain ⟨i,h1,h2⟩:=key
 rw [h1]
 simp only [Z1]
 cases hc:c.all ZeB with
 | false => rw [Xj (h2.2 hc)]; rfl
 | true => rw [Wr (fun h => by have:=h2.1 h; rw [hc] at this; cases this)]; rfl
theorem ZmL (k:Nat) (x:Int):ZiM k (x,()) = some (Qw x,()):=by
 show Zha k _ = _
 simp only [Zha]
 unfold Qw
 by_cases h:x ≤ -2147483648
 ·rw [Zc h,Xj (.inl h)]
 ·rw [Zk h]
  by_cases h2:2147483648 ≤ x
  ·rw [Xj h2,Xj (.inr h2)]
  ·rw [Wr h2,Wr (by omega)]
theorem ZbL (k:Nat) (c:List Int) (hk:c.length < k) (hn:c.length < 4294967296):KV k (c,(),()) = some (c.any Qw,()):=by
 show ZbK k _ = _
 simp only [ZbK]
 have key:∃ i:Int,Zfd k (c,(),()) = some (i,()) ∧ (0 ≤ i ↔ c.any Qw = true):=by
  have:=QN (A:=Unit) (R:=Int × Unit) (step:=fun L1 => K0 k L1) (fun i _ => (Int.ofNat c.length,Int.ofNat i,c)) c
   (fun l _ => some (if l.any Qw then Int.ofNat (c.length - l.length + (l.takeWhile (fun x => !Qw x)).length) else -1,()))
   (fun L _ => by simp only [K0]; rw [Zk (Q3 _)]; rfl)
   (fun L i hi _ hL => by
    simp only [K0]
    rw [Zc (ltR hi),Zc (Kh hi),ZM hi,ZmL]
    simp only [Z1]
    have hlen:(List.drop (i + 1) c).length = c.length - (i + 1):=by simp
    cases hc:Qw c[i] with
    | false =>
     simp only [cond_false]
     rw [Qr hi (by omega),hL ()]
     simp only [List.any_cons,hc,Bool.false_or,List.takeWhile_cons,Bool.not_false,if_true,List.length_cons,hlen]
     split
     ·congr 3; omega
     ·rfl
    | true =>
     simp only [cond_true,List.any_cons,hc,Bool.true_or,if_true,List.takeWhile_cons,Bool.not_true,Bool.false_eq_true,if_false,List.length_cons,hlen,List.length_nil]
     congr 3; omega) k 0 () (by omega) (Nat.zero_le _)
  rw [List.drop_zero] at this
  refine ⟨_,this,?_⟩
  cases c.any Qw <;> simp
 obtain ⟨i,h1,h2⟩:=key
 rw [h1]
 simp only [Z1]
 cases hc:c.any Qw with
 | true => rw [Xj (h2.2 hc)]
 | false => rw [Wr (fun h => by have:=h2.1 h; rw [hc] at this; cases this)]
theorem ZuN (k:Nat) (c:List Int) (sh:Int) (hk:10 < k):ZmR k ((c,sh,()),()) = some (if Zbs c sh then 0 else 2,()):=by
 show Zhm k _ = _
 simp only [Zhm]
 unfold Zbs
 by_cases h1:(8:Int) < Int.ofNat c.length
 ·simp only [Qv] at h1
  rw [Zc (by simp only [Qv]; omega),Wr (by omega)]; rfl
 ·simp only [Qv] at h1
  rw [Zk (by simp only [Qv]; omega)]
  by_cases h2:sh < 0
  ·rw [Zc h2,Wr (by omega)]; rfl
  ·rw [Zk h2]
   by_cases h3:15 < sh
   ·rw [Zc h3,Wr (by omega)]; rfl
   ·rw [Zk h3,ZzK k c (by omega) (by omega),Xj (by omega)]
    simp only [Z1]
    cases c.all ZeB <;> rfl
def ZWZ (c a:List Int):Int:=Znw ((c.zip a.reverse).map fun x => x.1 * x.2)
def ZeG (c:List Int) (sh:Int) (a:List Int):Int:=(ZWZ c a).fdiv (2 ^ sh.toNat)
theorem ZJG {x y:Int} (hx : -2048 ≤ x ∧ x ≤ 2047) (hy : -2147483648 < y ∧ y < 2147483648) : -4398046511104 ≤ x * y ∧ x * y ≤ 4398046511104:=by
 have h1:(x * y).natAbs ≤ 2048 * 2147483648:=by
  rw [Int.natAbs_mul]
  exact Nat.mul_le_mul (by omega) (by omega)
 omega
theorem ZE6 {l:List Int} {b:Int} (h:∀ x ∈ l,-b ≤ x ∧ x ≤ b) : -((l.length:Int) * b) ≤ Znw l ∧ Znw l ≤ (l.length:Int) * b:=by
 induction l with
 | nil => simp [Znw]
 | cons x l ih =>
  have h1:=h x (List.mem_cons_self ..)
  have h2:=ih fun y hy => h y (List.mem_cons_of_mem _ hy)
  simp only [Znw,List.length_cons]
  push_cast
  rw [Int.add_mul]
  omega
def ZFq (x:Int):Prop := -2048 ≤ x ∧ x ≤ 2047
def ZN (x:Int):Prop := -2147483648 < x ∧ x < 2147483648
theorem Zuf {c a:List Int} (hc:∀ x ∈ c,ZFq x) (ha:∀ x ∈ a,ZN x):∀ x ∈ (c.zip a.reverse).map fun x => x.1 * x.2,-4398046511104 ≤ x ∧ x ≤ 4398046511104:=by
 intro x hx
 obtain ⟨⟨u,v⟩,h,rfl⟩:=List.mem_map.1 hx
 exact ZJG (hc _ (List.of_mem_zip h).1) (ha _ (by simpa using (List.of_mem_zip h).2))
theorem ZEv {x:Int} {b:Int} (p:Nat) (h : -b ≤ x ∧ x ≤ b) (hb:0 ≤ b) : -b ≤ x.fdiv (2 ^ p) ∧ x.fdiv (2 ^ p) ≤ b:=by
 have hp:(0:Int) < 2 ^ p:=Int.pow_pos (by omega)
 rw [Int.fdiv_eq_ediv_of_nonneg _ (by omega)]
 constructor
 ·rw [Int.le_ediv_iff_mul_le hp]
  have:b * 1 ≤ b * 2 ^ p:=Int.mul_le_mul_of_nonneg_left (by omega) hb
  rw [Int.neg_mul]
  omega
 ·by_cases hx:0 ≤ x
  ·exact Int.le_trans (Int.ediv_le_self _ hx) h.2
  ·have:x / 2 ^ p < 0:=Int.ediv_neg_of_neg_of_pos (by omega) hp
   omega
theorem Zn5 {c a:List Int} {sh:Int} (hc:∀ x ∈ c,ZFq x) (ha:∀ x ∈ a,ZN x) (hl:c.length ≤ 8) : -35184372088832 ≤ ZeG c sh a ∧ ZeG c sh a ≤ 35184372088832:=by
 unfold ZeG ZWZ
 have h1:=ZE6 (Zuf hc ha)
 have h2:((c.zip a.reverse).map fun x => x.1 * x.2).length ≤ 8:=by simp; omega
 exact ZEv _ (by omega) (by omega)
theorem ZuO (k:Nat) {c a:List Int} {sh:Int} (hk:c.length < k) (hl:c.length ≤ 8) (hla:c.length ≤ a.length) (hn:a.length ≤ 4294967296) (hsh:0 ≤ sh ∧ sh ≤ 15) (hc:∀ x ∈ c,ZFq x) (ha:∀ x ∈ a,ZN x) :
  ZmS k ((c,sh,()),a,()) = some (ZeG c sh a,()):=by
 show Zhn k (Zo7 k) _ = _
 simp only [Zhn]
 have hzl:(c.zip a.reverse).length = c.length:=by simp; omega
 have hterm:=Zuf hc ha
 have:=Zz (A:=Int) (step:=fun L1 => ZcN k L1) (fun i acc => (Int.ofNat c.length,Int.ofNat i,c,acc,a,c,sh)) (c.zip a.reverse)
  (fun l acc => some ((acc + Znw (l.map fun x => x.1 * x.2)).fdiv (2 ^ sh.toNat),())) (fun i acc => -((i:Int) * 4398046511104) ≤ acc ∧ acc ≤ (i:Int) * 4398046511104)
  (fun L acc _ => by
   simp only [ZcN]
   rw [hzl,Zk (Q3 _),Zc hsh.1,Nat.min_eq_left (by omega)]
   simp [Znw])
  (fun L i hi acc hacc hL => by
   have hi2:i < c.length:=by omega
   have hi3:i < a.reverse.length:=by simp; omega
   simp only [ZcN]
   have e1:IntKind.i64.wrap (IntKind.i64.wrap (Int.ofNat a.length - 1) - Int.ofNat i) = ((a.length - 1 - i:Nat):Int):=by
    simp only [Qv]
    rw [Qa (n:=(a.length:Int) - 1) (by omega),Qa (by omega)]; omega
   rw [Zc (ltR hi2),Zc (Kh hi2),e1,Zc (by simp only [Qv]; omega),ZM hi2,Xm]
   have e2:a.getD (a.length - 1 - i) 0 = a.reverse[i]:=by
    rw [List.getElem_reverse,Xc (by omega)]
   rw [e2]
   have hz:(c.zip a.reverse)[i] = (c[i],a.reverse[i]):=by simp
   have ht:=hterm (c[i] * a.reverse[i]) (List.mem_map.2 ⟨(c[i],a.reverse[i]),by rw [← hz]; exact List.getElem_mem _,rfl⟩)
   have hi8:(i:Int) ≤ 8:=by omega
   rw [Qa (n:=c[i] * a.reverse[i]) (by omega),Qa (n:=acc + c[i] * a.reverse[i]) (by omega),Qr hi2 (by omega)]
   rw [hL _ ⟨by push_cast; omega,by push_cast; omega⟩,hz]
   simp only [List.map_cons,Znw]
   rw [Int.add_assoc]) k 0 0 ⟨by omega,by omega⟩ (by omega) (Nat.zero_le _)
 refine Eq.trans this ?_
 rw [List.drop_zero,Int.zero_add]
 rfl
def Ztf (c:List Int) (sh:Int) (s:List Int) (i:Nat):Int:=s.getD i 0 - ZeG c sh (s.take i)
def Ztg (c:List Int) (sh:Int) (s:List Int):Nat → Nat → List Int
 | 0,_ => []
 | d + 1,i => Ztf c sh s i :: Ztg c sh s d (i + 1)
def X1 (c:List Int) (sh:Int) (s:List Int):List Int:=Ztg c sh s (s.length - c.length) c.length
def QV (c:List Int) (sh:Int) (s:List Int):List Int × Int :=
 if Zbs c sh = false then ([],2) else if s.length < c.length then ([],1) else if s.any Qw then ([],12)
 else if (X1 c sh s).any Qw then ([],12) else (X1 c sh s,0)
theorem Zth (c:List Int) (sh:Int) (s:List Int):∀ d i,(Ztg c sh s d i).length = d
 | 0,_ => rfl
 | d + 1,i => by simp [Ztg,Zth c sh s d (i + 1)]
theorem Zf5 {c:List Int} {sh:Int} (h:Zbs c sh = true):c.length ≤ 8 ∧ (0 ≤ sh ∧ sh ≤ 15) ∧ ∀ x ∈ c,ZFq x:=by
 unfold Zbs at h
 simp only [Bool.and_eq_true,decide_eq_true_eq] at h
 refine ⟨h.1.1,h.1.2,fun x hx => ?_⟩
 have:=List.all_eq_true.1 h.2 x hx
 unfold ZeB at this
 rw [decide_eq_true_eq] at this
 exact this
theorem Ky {s:List Int} (h:s.any Qw = false):∀ x ∈ s,ZN x:=by
 intro x hx
 rw [List.any_eq_false] at h
 have:=h x hx
 unfold Qw at this
 simp only [decide_eq_true_eq] at this
 unfold ZN
 omega
theorem ZuC (k:Nat) (c:List Int) (sh:Int) (s:List Int) (hk:s.length + 10 < k) (hn:s.length ≤ 8192):ZmI k ((c,sh,()),s,()) = some (((QV c sh s).1,(QV c sh s).2,()),()):=by
 show Zg8 k (ZoW k) _ = _
 simp only [Zg8]
 rw [ZuN k c sh (by omega)]
 simp only [Z1]
 unfold QV
 cases hm:Zbs c sh with
 | false => simp only [Bool.false_eq_true,if_false,if_true]; rfl
 | true =>
  simp only [if_true,Bool.true_eq_false,if_false]
  rw [show ((0:Int) != (0:Int)) = false from rfl]
  simp only [cond_false,Qv]
  by_cases hl:s.length < c.length
  ·rw [Zc (by omega),if_pos hl]
  ·rw [Zk (by omega),if_neg hl,ZbL k s (by omega) (by omega)]
   simp only [Z1]
   cases hw:s.any Qw with
   | true => simp only [cond_true,if_true]
   | false =>
    simp only [cond_false,Bool.false_eq_true,if_false]
    obtain ⟨hc8,hsh,hcR⟩:=Zf5 hm
    have hnar:=Ky hw
    suffices H:∀ (d i m:Nat) (acc:List Int),i + d = s.length → c.length ≤ i → d < m → acc.length + d ≤ 8192 →
      Zm (fun L1 => ZcG k L1) m ((i:Int),s,c,sh,acc) = some (if (Ztg c sh s d i).any Qw then (([],12,()),()) else ((acc ++ Ztg c sh s d i,0,()),())) by
     have:=H (s.length - c.length) c.length k [] (by omega) (by omega) (by omega) (by simp; omega)
     refine Eq.trans this ?_
     unfold X1
     cases (Ztg c sh s (s.length - c.length) c.length).any Qw <;> simp
    intro d
    induction d with
    | zero =>
     intro i m acc hi hci hm _
     obtain ⟨m,rfl⟩:=ZD hm
     rw [Ze]
     simp only [ZcG]
     rw [Zk (by simp only [Qv]; omega)]
     simp [Ztg]
    | succ d ih =>
     intro i m acc hi hci hm hacc
     obtain ⟨m,rfl⟩:=ZD (show 0 < m by omega)
     rw [Ze]
     simp only [ZcG]
     have hi2:i < s.length:=by omega
     rw [Zc (by simp only [Qv]; omega),Zc (by simp only [Qv]; omega),Zc (by simp only [Qv]; omega),Xm,List.drop_zero]
     have htl:(s.take i).length = i:=by simp; omega
     have htn:∀ x ∈ s.take i,ZN x:=fun x hx => hnar x (List.mem_of_mem_take hx)
     rw [ZuO k (by omega) hc8 (by omega) (by omega) hsh hcR htn]
     simp only [Z1]
     have hpb:=Zn5 (sh:=sh) hcR htn hc8
     have hsi:s.getD i 0 = s[i]:=Xc hi2
     have hsn:=hnar s[i] (List.getElem_mem hi2)
     unfold ZN at hsn
     have e1:IntKind.i64.wrap (s.getD i 0 - ZeG c sh (s.take i)) = Ztf c sh s i:=by unfold Ztf; rw [hsi]; exact Qa (by omega)
     rw [e1,ZmL]
     simp only [Z1,Ztg,List.any_cons]
     by_cases hwi:Qw (Ztf c sh s i) = true
     ·simp only [hwi,cond_true,Bool.true_or,if_true]
     ·have hwi:Qw (Ztf c sh s i) = false:=by simpa using hwi
      simp only [hwi,cond_false,Bool.false_or]
      rw [Zc (by simp; omega),show IntKind.i64.wrap ((i:Int) + 1) = ((i + 1:Nat):Int) from by rw [Qa (by omega)]; omega]
      rw [ih (i + 1) m _ (by omega) (by omega) (by omega) (by simp; omega)]
      simp
def Zar (c:List Int) (sh:Int) (s:List Int):Int × Int:=(Znw ((QV c sh s).1.map fun x => (x.natAbs:Int)),(QV c sh s).2)
theorem Yj (c:List Int) (sh:Int) (s:List Int):∀ x ∈ (QV c sh s).1,ZN x:=by
 unfold QV
 split
 ·simp
 ·split
  ·simp
  ·split
   ·simp
   ·split
    ·simp
    ·rename_i h
     exact Ky (by simpa using h)
theorem ZEV (c:List Int) (sh:Int) (s:List Int):(QV c sh s).1.length ≤ s.length:=by
 unfold QV
 split
 ·simp
 ·split
  ·simp
  ·split
   ·simp
   ·split
    ·simp
    ·simp [X1,Zth]
theorem ZuG (k:Nat) (c:List Int) (sh:Int) (s:List Int) (hk:s.length + 10 < k) (hn:s.length ≤ 8192):ZmM k ((c,sh,()),s,()) = some (((Zar c sh s).1,(Zar c sh s).2,()),()):=by
 show Zhb k (Zo0 k) _ = _
 simp only [Zhb]
 rw [ZuC k c sh s hk hn]
 simp only [Z1]
 have hnar:=Yj c sh s
 have hlen:=ZEV c sh s
 unfold Zar
 generalize (QV c sh s).2 = e
 generalize (QV c sh s).1 = l at hnar hlen
 have:=Zz (A:=Int) (step:=fun L1 => ZcI k L1) (fun i acc => (Int.ofNat l.length,Int.ofNat i,l,acc,e)) l
  (fun l' acc => some ((acc + Znw (l'.map fun x => (x.natAbs:Int)),e,()),())) (fun i acc => 0 ≤ acc ∧ acc ≤ (i:Int) * 2147483648)
  (fun L acc _ => by simp only [ZcI]; rw [Zk (Q3 _)]; simp [Znw])
  (fun L i hi acc hacc hL => by
   have hx:=hnar l[i] (List.getElem_mem hi)
   unfold ZN at hx
   simp only [ZcI]
   rw [Zc (ltR hi),Zc (Kh hi),ZM hi,Qr hi (by omega),Qa (n:=0 - l[i]) (by omega)]
   have e1:(if l[i] < 0 - l[i] then 0 - l[i] else l[i]) = (l[i].natAbs:Int):=by split <;> omega
   have hi8:(i:Int) ≤ 8192:=by omega
   rw [e1,Qa (n:=acc + (l[i].natAbs:Int)) (by omega),hL _ ⟨by omega,by push_cast; omega⟩]
   simp only [List.map_cons,Znw]
   rw [Int.add_assoc]) k 0 0 ⟨by omega,by omega⟩ (by omega) (Nat.zero_le _)
 exact Eq.trans this (by rw [List.drop_zero,Int.zero_add])
def XD (o:Nat):List Int:=match o with
 | 1 => [1]
 | 2 => [2,-1]
 | 3 => [3,-3,1]
 | 4 => [4,-6,4,-1]
 | _ => []
theorem Zms (k:Nat) (o:Nat) (ho:o ≤ 4) (hk:20 < k):Ze6 k ((o:Int),()) = some (((XD o,0,()),0,()),()):=by
 obtain ⟨k,rfl⟩:∃ m,k = m + 20:=⟨k - 20,by omega⟩
 match o,ho with
 | 0,_ => rfl
 | 1,_ => rfl
 | 2,_ => rfl
 | 3,_ => rfl
 | 4,_ => rfl
def W7 (o:Nat):List Int:=match o with
 | 2 => [32,-16]
 | 4 => [64,-96,64,-16]
 | 8 => [64,-96,64,-16,0,0,0,0]
 | _ => []
theorem ZIs (k:Nat) (o:Nat) (ho:o = 2 ∨ o = 4 ∨ o = 8) (hk:40 < k):ZqG k ((o:Int),()) = some ((W7 o,4,()),()):=by
 obtain ⟨k,rfl⟩:∃ m,k = m + 40:=⟨k - 40,by omega⟩
 rcases ho with rfl | rfl | rfl
 ·rfl
 ·rfl
 ·rfl
abbrev Mdl:=List Int × Int × Bool
def Zn7 (s:List Int) (by_:Int) (j:Nat) (M:Mdl):Mdl :=
 if (Zar (M.1.set j (M.1.getD j 0 + by_)) 4 s).2 = 0 ∧ (M.2.2 = false ∨ (Zar (M.1.set j (M.1.getD j 0 + by_)) 4 s).1 < M.2.1)
 then (M.1.set j (M.1.getD j 0 + by_),(Zar (M.1.set j (M.1.getD j 0 + by_)) 4 s).1,true) else M
def Zzo (s:List Int) (st:Int) (j:Nat) (M:Mdl):Mdl:=Zn7 s (-st) j (Zn7 s st j M)
def ZBI (s:List Int) (st:Int):Nat → Nat → Mdl → Mdl
 | 0,_,M => M
 | d + 1,j,M => ZBI s st d (j + 1) (Zzo s st j M)
def ZBJ (s:List Int) (st:Int) (o:Nat) (M:Mdl):Mdl:=ZBI s st o 0 M
def ZS2 (s:List Int) (o:Nat):Mdl:=ZBJ s 1 o (ZBJ s 2 o (ZBJ s 4 o (ZBJ s 8 o (W7 o,(Zar (W7 o) 4 s).1,(Zar (W7 o) 4 s).2 == 0))))
def Zb7 (s:List Int) (o:Nat):List Int:=(ZS2 s o).1
structure MOk (o:Nat) (b:Int) (M:Mdl):Prop where
 len:M.1.length = o
 bd:∀ x ∈ M.1,-b ≤ x ∧ x ≤ b
theorem Ztq {s:List Int} {o:Nat} {b by_:Int} {j:Nat} {M:Mdl} (h:MOk o b M) (hj:j < o) (hby : -8 ≤ by_ ∧ by_ ≤ 8):MOk o (b + 8) (Zn7 s by_ j M):=by
 unfold Zn7
 split
 ·refine ⟨by simp [h.len],fun x hx => ?_⟩
  have hg:M.1.getD j 0 ∈ M.1:=by rw [Xc (by rw [h.len]; exact hj)]; exact List.getElem_mem _
  rcases List.mem_or_eq_of_mem_set hx with hx | rfl
  ·have:=h.bd x hx; omega
  ·have:=h.bd _ hg; omega
 ·exact ⟨h.len,fun x hx => by have:=h.bd x hx; omega⟩
theorem Zzp {s:List Int} {o:Nat} {b st:Int} {j:Nat} {M:Mdl} (h:MOk o b M) (hj:j < o) (hst : -8 ≤ st ∧ st ≤ 8):MOk o (b + 16) (Zzo s st j M):=by
 have:=Ztq (s:=s) (Ztq (s:=s) h hj hst) hj (by_ := -st) (by omega)
 rw [show b + 8 + 8 = b + 16 by omega] at this
 exact this
theorem ZGR {s:List Int} {o:Nat} {st:Int} (hst : -8 ≤ st ∧ st ≤ 8):∀ (d j:Nat) (b:Int) (M:Mdl),MOk o b M → j + d ≤ o → MOk o (b + 16 * (d:Int)) (ZBI s st d j M)
 | 0,j,b,M,h,_ => by simpa [ZBI] using h
 | d + 1,j,b,M,h,hj => by
  simp only [ZBI]
  have hb:=Zzp (s:=s) (j:=j) (st:=st) h (show j < o by omega) hst
  have:=ZGR (s:=s) hst d (j + 1) (b + 16) _ hb (show j + 1 + d ≤ o by omega)
  refine ⟨this.len,fun x hx => ?_⟩
  have:=this.bd x hx
  push_cast
  omega
theorem Zeq {s:List Int} {o:Nat} {st b:Int} (hst : -8 ≤ st ∧ st ≤ 8) (ho:o ≤ 8) {M:Mdl} (h:MOk o b M):MOk o (b + 128) (ZBJ s st o M):=by
 have:=ZGR (s:=s) hst o 0 b M h (by omega)
 refine ⟨this.len,fun x hx => ?_⟩
 have:=this.bd x hx
 omega
theorem ZHL (k:Nat) (s:List Int) (hk:s.length + 20 < k) (hn:s.length ≤ 8192) (L1:Int × Int × List Int × Bool × Int × List Int × Int × Int → Option (((List Int × Int × Unit) × Int × Unit) × Unit)) (L2:Int × Int × Int × List Int × Bool × Int × Int × List Int × Int × Int → Option (((List Int × Int × Unit) × Int × Unit) × Unit))
  {o j:Nat} {st:Int} {M:Mdl} {v13:Int} (hM:MOk o 1000 M) (hj:j < o) (ho:o ≤ 8) (hst:0 ≤ st ∧ st ≤ 8) :
  ZgJ k L1 L2 (0,st,IntKind.i64.wrap (0 - st),(j:Int),s,M.2.2,M.2.1,(j:Int),(o:Int),st,(o:Int),M.1,4,v13) =
   L2 ((o:Int),((j + 1:Nat):Int),st,s,(Zzo s st j M).2.2,(Zzo s st j M).2.1,(o:Int),(Zzo s st j M).1,4,v13):=by
 obtain ⟨k,rfl⟩:∃ m,k = m + 3:=⟨k - 3,by omega⟩
 have e0:IntKind.i64.wrap (0 - st) = -st:=by rw [Qa (by omega)]; omega
 rw [e0]
 have one:∀ (i:Nat) (by_:Int) (L3:Int × Int × Int × Int × List Int × Bool × Int × Int × Int × Int × Int × List Int × Int × Int → Option (((List Int × Int × Unit) × Int × Unit) × Unit)) (M:Mdl),i < 2 → [st,-st].getD i 0 = by_ → -8 ≤ by_ ∧ by_ ≤ 8 → MOk o 1008 M →
   Km (k + 3) L1 L2 L3 ((i:Int),st,-st,(j:Int),s,M.2.2,M.2.1,(j:Int),(o:Int),st,(o:Int),M.1,4,v13) =
    L3 (((i + 1:Nat):Int),st,-st,(j:Int),s,(Zn7 s by_ j M).2.2,(Zn7 s by_ j M).2.1,(j:Int),(o:Int),st,(o:Int),(Zn7 s by_ j M).1,4,v13):=by
  intro i by_ L3 M hi hg hb hM
  simp only [Km]
  rw [Zc (by omega),Zc (by omega)]
  have hl:=hM.len
  rw [show ZmN (k + 3) (M.1,()) = some (M.1,()) from by show YT _ = _; unfold YT; rw [Zc (by rw [hl]; omega)]]
  simp only [Z1,Xm,Qv]
  rw [Zc (by omega),Zc (by omega),Zc (by omega),Zc (by omega),hg]
  have hx:=hM.bd (M.1.getD j 0) (by rw [Xc (by omega)]; exact List.getElem_mem _)
  rw [Qa (n:=M.1.getD j 0 + by_) (by omega),ZuG (k + 3) _ 4 s (by omega) hn]
  simp only [Z1]
  rw [show IntKind.i64.wrap ((i:Int) + 1) = ((i + 1:Nat):Int) from by rw [Qa (by omega)]; omega]
  unfold Zn7
  rw [ZK]
  by_cases h1:(Zar (M.1.set j (M.1.getD j 0 + by_)) 4 s).2 = 0
  ·rw [Zc h1]
   cases h2:M.2.2 with
   | false => rw [if_pos ⟨h1,.inl rfl⟩]; rfl
   | true =>
    simp only [Bool.not_true,cond_false]
    by_cases h3:(Zar (M.1.set j (M.1.getD j 0 + by_)) 4 s).1 < M.2.1
    ·rw [Zc h3,if_pos ⟨h1,.inr h3⟩]
    ·rw [Zk h3,if_neg (by rintro ⟨_,h | h⟩; cases h; exact h3 h),h2]
  ·rw [Zk h1,if_neg (fun h => h1 h.1)]
 show Zm (fun L3 => Km (k + 3) L1 L2 L3) (k + 3) ((0:Nat),st,-st,(j:Int),s,M.2.2,M.2.1,(j:Int),(o:Int),st,(o:Int),M.1,4,v13) = _
 rw [Ze,one 0 st _ M (by omega) rfl (by omega) ⟨hM.len,fun x hx => by have:=hM.bd x hx; omega⟩]
 have h2:=Ztq (s:=s) hM hj (by_:=st) (by omega)
 rw [Ze,one 1 (-st) _ _ (by omega) rfl (by omega) h2,Ze]
 simp only [Km]
 rw [Zk (by omega),show IntKind.i64.wrap ((j:Int) + 1) = ((j + 1:Nat):Int) from by rw [Qa (by omega)]; omega]
 rfl
theorem ZK1 (k:Nat) (s:List Int) (hk:s.length + 20 < k) (hn:s.length ≤ 8192) (L1:Int × Int × List Int × Bool × Int × List Int × Int × Int → Option (((List Int × Int × Unit) × Int × Unit) × Unit))
  {o:Nat} {st:Int} {v9:Int} (ho:o ≤ 8) (hst:0 ≤ st ∧ st ≤ 8):∀ (d j m:Nat) (b:Int) (M:Mdl),j + d = o → d < m → MOk o b M → b + 16 * (d:Int) ≤ 1000 →
  Zm (fun L2 => ZaM k (ZgJ k L1 L2) L1 L2) m ((o:Int),(j:Int),st,s,M.2.2,M.2.1,(o:Int),M.1,4,v9) =
   L1 (IntKind.i64.wrap (st.tdiv 2),(o:Int),s,(ZBI s st d j M).2.2,(ZBI s st d j M).2.1,(ZBI s st d j M).1,4,v9):=by
 intro d
 induction d with
 | zero =>
  intro j m b M hj hm hM hb
  obtain ⟨m,rfl⟩:=ZD hm
  rw [Ze]
  simp only [ZaM]
  rw [Zk (by omega)]
  rfl
 | succ d ih =>
  intro j m b M hj hm hM hb
  obtain ⟨m,rfl⟩:=ZD (show 0 < m by omega)
  rw [Ze]
  simp only [ZaM]
  rw [Zc (by omega)]
  rw [ZHL k s hk hn L1 _ (M:=M) ⟨hM.len,fun x hx => by have:=hM.bd x hx; omega⟩ (by omega) ho hst]
  rw [ih (j + 1) m (b + 16) _ (by omega) (by omega) (Zzp hM (by omega) (by omega)) (by push_cast at hb; omega)]
  rfl
theorem ZHP (k:Nat) (s:List Int) (o:Nat) (ho:o = 2 ∨ o = 4 ∨ o = 8) (hos:o ≤ s.length) (hs:∀ x ∈ s,ZN x) (hk:s.length + 60 < k) (hn:s.length ≤ 8192) :
  Zqo k (s,(o:Int),()) = some (((Zb7 s o,4,()),0,()),()):=by
 show ZgK k (Zox k) _ = _
 simp only [ZgK]
 have hw:s.any Qw = false:=by
  rw [List.any_eq_false]
  intro x hx
  have:=hs x hx
  unfold ZN at this
  unfold Qw
  simp only [decide_eq_true_eq]
  omega
 rw [Zk (by omega),Zk (by omega),Zk (by simp only [Qv]; omega),ZbL k s (by omega) (by omega),hw]
 simp only [Z1,cond_false]
 rw [ZIs k o ho (by omega)]
 simp only [Z1]
 rw [ZuG k _ 4 s (by omega) hn]
 simp only [Z1]
 have hM0:MOk o 96 (W7 o,(Zar (W7 o) 4 s).1,(Zar (W7 o) 4 s).2 == 0):=by
  rcases ho with rfl | rfl | rfl
  ·exact ⟨rfl,show ∀ x ∈ W7 2,-96 ≤ x ∧ x ≤ 96 by decide⟩
  ·exact ⟨rfl,show ∀ x ∈ W7 4,-96 ≤ x ∧ x ≤ 96 by decide⟩
  ·exact ⟨rfl,show ∀ x ∈ W7 8,-96 ≤ x ∧ x ≤ 96 by decide⟩
 have ho8:o ≤ 8:=by omega
 have h1:=Zeq (s:=s) (st:=8) (by omega) ho8 hM0
 have h2:=Zeq (s:=s) (st:=4) (by omega) ho8 h1
 have h3:=Zeq (s:=s) (st:=2) (by omega) ho8 h2
 obtain ⟨k',rfl⟩:∃ m,k = m + 5:=⟨k - 5,by omega⟩
 have row:∀ (L1:Int × Int × List Int × Bool × Int × List Int × Int × Int → Option (((List Int × Int × Unit) × Int × Unit) × Unit)) (st:Int) (b:Int) (M:Mdl),0 < st → st ≤ 8 → MOk o b M → b + 128 ≤ 1000 →
   ZaL (k' + 5) (ZjH (k' + 5) L1) L1 (st,(o:Int),s,M.2.2,M.2.1,M.1,4,0) = L1 (IntKind.i64.wrap (st.tdiv 2),(o:Int),s,(ZBJ s st o M).2.2,(ZBJ s st o M).2.1,(ZBJ s st o M).1,4,0):=by
  intro L1 st b M h0 h8 hM hb
  simp only [ZaL]
  rw [Zc h0]
  exact ZK1 (k' + 5) s (by omega) hn L1 ho8 (by omega) o 0 (k' + 5) b M (by omega) (by omega) hM (by omega)
 show Zm (fun L1 => ZaL (k' + 5) (ZjH (k' + 5) L1) L1) (k' + 5) _ = _
 rw [Ze]
 refine (row _ 8 96 (W7 o,(Zar (W7 o) 4 s).1,(Zar (W7 o) 4 s).2 == 0) (by omega) (by omega) hM0 (by omega)).trans ?_
 rw [show IntKind.i64.wrap ((8:Int).tdiv 2) = 4 from by decide,Ze]
 refine (row _ 4 _ _ (by omega) (by omega) h1 (by omega)).trans ?_
 rw [show IntKind.i64.wrap ((4:Int).tdiv 2) = 2 from by decide,Ze]
 refine (row _ 2 _ _ (by omega) (by omega) h2 (by omega)).trans ?_
 rw [show IntKind.i64.wrap ((2:Int).tdiv 2) = 1 from by decide,Ze]
 refine (row _ 1 _ _ (by omega) (by omega) h3 (by omega)).trans ?_
 rw [show IntKind.i64.wrap ((1:Int).tdiv 2) = 0 from by decide,Ze]
 simp only [ZaL]
 rw [Zk (by omega)]
 rfl
theorem Zjb (s:List Int) (o:Nat) (ho:o = 2 ∨ o = 4 ∨ o = 8):(Zb7 s o).length = o ∧ ∀ x ∈ Zb7 s o,-1000 ≤ x ∧ x ≤ 1000:=by
 have hM0:MOk o 96 (W7 o,(Zar (W7 o) 4 s).1,(Zar (W7 o) 4 s).2 == 0):=by
  rcases ho with rfl | rfl | rfl
  ·exact ⟨rfl,show ∀ x ∈ W7 2,-96 ≤ x ∧ x ≤ 96 by decide⟩
  ·exact ⟨rfl,show ∀ x ∈ W7 4,-96 ≤ x ∧ x ≤ 96 by decide⟩
  ·exact ⟨rfl,show ∀ x ∈ W7 8,-96 ≤ x ∧ x ≤ 96 by decide⟩
 have ho8:o ≤ 8:=by omega
 have h:=Zeq (s:=s) (st:=1) (by omega) ho8 (Zeq (s:=s) (st:=2) (by omega) ho8 (Zeq (s:=s) (st:=4) (by omega) ho8 (Zeq (s:=s) (st:=8) (by omega) ho8 hM0)))
 exact ⟨h.len,fun x hx => by have:=h.bd x hx; omega⟩
end Go.Sh
