/-
  What the row needs, part 11.
-/
import Derived.Test.YtmeahimfdhdggaaGreatDoorXFrameBack10
import Derived.ChangeArms
import Derived.ChangeShapes
import Derived.WideShapes
import Derived.ReadAgain
import Derived.Below
import Derived.ChangeSame
import Derived.RowKit
set_option linter.unusedSimpArgs false
set_option linter.unusedVariables false
set_option linter.unusedSectionVars false
namespace Go.Sh
open Go Go.RowKit Go.WideShapes Go.ChangeShapes
def ZuS (P:Program) (g:TypeId → Ty → Bool):Nat → List Field → Ty → Bool
 | _,[],.unit => true
 | off,f :: l,.pair a b => Nat.beq f.offset off && g f.type a && Nat.beq (P.cellsOf f.type) a.size && ZuS P g (off + a.size) l b
 | _,_,_ => false
def Zcw (P:Program):Nat → TypeId → Ty → Bool
 | 0,_,_ => false
 | n + 1,T,t => match P.underlying T,t with
  | some .bool,.bool => true
  | some (.int k),.int k' => decide (k = k')
  | some .string,.str => true
  | some (.slice e),.sl t => Zcw P n e t && Nat.beq (P.cellsOf e) t.size && Nat.ble 1 t.size
  | some (.struct fs),.pair a b => ZuS P (Zcw P n) 0 fs.toList (.pair a b) && Nat.beq (P.cellsOf T) (Ty.size (.pair a b))
  | some (.struct fs),.unit => ZuS P (Zcw P n) 0 fs.toList .unit && Nat.beq (P.cellsOf T) 0
  | _,_ => false
def Ty.bulk:(t:Ty) → t.den → Nat
 | .str,s => s.size + 1
 | .sl t,xs => (xs.map t.bulk).sum + 1
 | .pair a b,x => a.bulk x.1 + b.bulk x.2
 | .unit,_ => 0
 | .bool,_ => 1
 | .int _,_ => 1
 | .fl _,_ => 1
 | .cx _,_ => 1
 | .raw,_ => 1
def Ty.ok:(t:Ty) → t.den → Prop
 | .int k,n => k.min ≤ n ∧ n ≤ k.max
 | .sl t,xs => ∀ x ∈ xs,t.ok x
 | .pair a b,x => a.ok x.1 ∧ b.ok x.2
 | .bool,_ => True
 | .str,_ => True
 | .fl _,_ => True
 | .cx _,_ => True
 | .raw,_ => True
 | .unit,_ => True
mutual
def bulkD {H:Type}:DataW H → Nat
 | .lit (.string bytes) => bytes.length + 1
 | .lit _ => 1
 | .nil => 1
 | .ptr d => bulkD d + 1
 | .slice elems spare => bulkDs elems + bulkDs spare + 1
 | .agg parts => bulkDs parts + 1
 | .iface _ d => bulkD d + 1
 | .map entries => bulkEs entries + 1
 | .held _ => 1
def bulkDs {H:Type}:List (DataW H) → Nat
 | [] => 0
 | d :: r => bulkD d + bulkDs r
def bulkEs {H:Type}:List (Lit × DataW H) → Nat
 | [] => 0
 | x :: r => bulkE x + bulkEs r
def bulkE {H:Type}:Lit × DataW H → Nat
 | (.string bytes,d) => bytes.length + bulkD d + 1
 | (_,d) => bulkD d + 1
end
def whole (w:World) (b:Nat):Nat:=match w.heap[b]? with
 | some (.cells c _ _) => c.size
 | _ => 0
theorem ZvC {w:World} {b o:Nat} {v:Value} (h:w.cell? ⟨b,o,none⟩ = some v):o < whole w b:=by
 unfold World.cell? at h
 unfold whole
 split at h
 ·rename_i c _ _ hb
  simp only at hb
  rw [hb]
  simp only [Option.isSome_none,Bool.false_eq_true,if_false] at h
  exact (Array.getElem?_eq_some_iff.1 h).1
 ·cases h
theorem ZFf (w:World):∀ b,w.heap.size ≤ b → whole w b = 0:=by
 intro b hb
 unfold whole
 rw [Array.getElem?_eq_none hb]
theorem cells?_at {w:World} {base n:Nat} {a:Addr} {cs:List Value} (h:w.cells? base a n = some cs):cs.length = n ∧ ∀ i v,cs[i]? = some v → w.cell? (a.add i) = some v:=by
 unfold World.cells? at h
 split at h
 ·have hl:=mapM_some_length h
  simp only [List.length_range] at hl
  refine ⟨hl,fun i v hi => ?_⟩
  have hlt:i < n:=by have:=(List.getElem?_eq_some_iff.1 hi).1; omega
  have:=mapM_some_get h i i (by simp [hlt])
  rw [this,hi]
 ·cases h
section
variable {H:Type} {enc:TypeId × Value → H} {P:Program} {w:World} {base:Nat} {spare:Nat → Bool} {held:Bool}
theorem ZpZ {n n':Nat} (ih:∀ (T:TypeId) (t:Ty) (cs:List Value) (x:DataW H × List MemPlace),Zcw P n T t = true → DataW.trod enc P w base spare held n' T cs = some x → ∃ y,Rt w (whole w) t y cs ∧ t.ok y ∧ t.bulk y ≤ bulkD x.1) :
  ∀ (l:List Field) (t:Ty) (off:Nat) (cs:List Value) (xs:List (DataW H × List MemPlace)),ZuS P (Zcw P n) off l t = true → cs.length = off + t.size →
   (∀ (i:Nat) (f:Field),l[i]? = some f → DataW.trod enc P w base spare held n' f.type ((cs.drop f.offset).take (P.cellsOf f.type)) = xs[i]?) → xs.length = l.length →
   ∃ y,Rt w (whole w) t y (cs.drop off) ∧ t.ok y ∧ t.bulk y ≤ bulkDs (xs.map (·.1))
 | [],t,off,cs,xs,h,hl,hx,hn => by
  match t,h with
  | .unit,h =>
   refine ⟨(),?_,trivial,Nat.zero_le _⟩
   simp only [Rt,List.drop_eq_nil_iff]
   simp [Ty.size] at hl; omega
 | f :: l,t,off,cs,xs,h,hl,hx,hn => by
  match t,h with
  | .pair a b,h =>
   simp only [ZuS,Bool.and_eq_true] at h
   obtain ⟨⟨⟨h1,h2⟩,h3⟩,h4⟩:=h
   match xs,hn with
   | x :: xs,hn =>
    have h0:=hx 0 f rfl
    rw [Z0 h1,Z0 h3] at h0
    simp only [List.getElem?_cons_zero] at h0
    obtain ⟨y,e1,e2,e3⟩:=ih f.type a _ x h2 h0
    simp only [Ty.size] at hl
    obtain ⟨z,g1,g2,g3⟩:=ZpZ ih l b (off + a.size) cs xs h4 (by omega) (fun i f' hf' => by simpa using hx (i + 1) f' (by simpa using hf')) (by simpa using hn)
    refine ⟨(y,z),?_,⟨e2,g2⟩,?_⟩
    ·simp only [Rt]
     refine ⟨_,_,?_,e1,g1⟩
     rw [← List.drop_drop,List.take_append_drop]
    ·simp only [Ty.bulk,List.map_cons,bulkDs]; omega
theorem Zf8:∀ (n m:Nat) (T:TypeId) (t:Ty) (cs:List Value) (x:DataW H × List MemPlace),Zcw P m T t = true → DataW.trod enc P w base spare held n T cs = some x →
  ∃ y,Rt w (whole w) t y cs ∧ t.ok y ∧ t.bulk y ≤ bulkD x.1
 | 0,_,_,_,_,_,_,h => by simp [DataW.trod] at h
 | n + 1,0,_,_,_,_,hf,_ => by simp [Zcw] at hf
 | n + 1,m + 1,T,t,cs,x,hf,h => by
  unfold Zcw at hf
  split at hf
  ·rename_i hu
   obtain ⟨b,rfl,rfl⟩:=DataW.trod_bool hu h
   exact ⟨b,rfl,trivial,Nat.le_refl _⟩
  ·rename_i k k' hu
   obtain rfl:k = k':=of_decide_eq_true hf
   obtain ⟨v,rfl,rfl,hw⟩:=DataW.trod_int hu h
   refine ⟨v,rfl,?_,Nat.le_refl _⟩
   simpa [Ty.ok,Lit.wf] using hw
  ·rename_i hu
   obtain ⟨s,rfl,rfl,_⟩:=DataW.trod_string hu h
   refine ⟨s,rfl,trivial,?_⟩
   simp only [Ty.bulk,bulkD,Array.length_toList]
   exact Nat.le_refl _
  ·rename_i e t hu
   simp only [Bool.and_eq_true] at hf
   obtain ⟨⟨hf,hsz⟩,hpos⟩:=hf
   have hsz:=Z0 hsz
   have hpos:1 ≤ t.size:=Nat.le_of_ble_eq_true hpos
   rcases DataW.trod_slice hu h with ⟨rfl,rfl⟩ | ⟨a,len,cap,elems,rest,n',hn',rfl,rfl,hb,hlc,_,hlen,hel,_⟩
   ·refine ⟨[],?_,(by simp [Ty.ok]:Ty.ok (.sl t) []),(by simp [Ty.bulk,bulkD])⟩
    simp only [Rt]
    exact ⟨none,0,0,rfl,rfl,Nat.le_refl _,.inl trivial⟩
   ·obtain rfl:n' = n:=by omega
    have each:∀ i (hi:i < elems.length),∃ cs',w.cells? base (a.add (i * P.cellsOf e)) (P.cellsOf e) = some cs' ∧ ∃ y,Rt w (whole w) t y cs' ∧ t.ok y ∧ t.bulk y ≤ bulkD elems[i].1:=by
     intro i hi
     have h1:=hel i (by omega)
     rw [List.getElem?_eq_getElem hi] at h1
     obtain ⟨cs',h2,h3⟩:=Option.bind_eq_some_iff.1 h1
     exact ⟨cs',h2,Zf8 n' m e t cs' _ hf h3⟩
    -- the list
    have all:∀ (l:List (DataW H × List MemPlace)),(∀ i (hi:i < l.length),∃ y,(∃ cs',w.cells? base (a.add ((elems.length - l.length + i) * P.cellsOf e)) (P.cellsOf e) = some cs' ∧ Rt w (whole w) t y cs') ∧ t.ok y ∧ t.bulk y ≤ bulkD l[i].1) →
      l.length ≤ elems.length → ∃ ys:List t.den,ys.length = l.length ∧ (∀ y ∈ ys,t.ok y) ∧ (ys.map t.bulk).sum ≤ bulkDs (l.map (·.1)) ∧
       ∀ i (hi:i < ys.length),∃ cs',w.cells? base (a.add ((elems.length - l.length + i) * P.cellsOf e)) (P.cellsOf e) = some cs' ∧ Rt w (whole w) t ys[i] cs':=by
     intro l
     induction l with
     | nil => intro _ _; exact ⟨[],rfl,by simp,by simp [bulkDs],fun i hi => by simp at hi⟩
     | cons p l ih =>
      intro hp hle
      simp only [List.length_cons] at hle
      obtain ⟨y,⟨cs',c1,c2⟩,y1,y2⟩:=hp 0 (by simp)
      obtain ⟨ys,k1,k2,k3,k4⟩:=ih (fun i hi => by
       obtain ⟨y,⟨cs',c1,c2⟩,y1,y2⟩:=hp (i + 1) (by simpa using hi)
       refine ⟨y,⟨cs',?_,c2⟩,y1,by simpa using y2⟩
       rw [← c1]; congr 3; simp only [List.length_cons]; omega) (by omega)
      refine ⟨y :: ys,by simp [k1],?_,?_,?_⟩
      ·intro z hz
       rcases List.mem_cons.1 hz with rfl | hz
       ·exact y1
       ·exact k2 z hz
      ·simp only [List.map_cons,List.sum_cons,bulkDs]
       simp only [List.getElem_cons_zero] at y2
       omega
      ·intro i hi
       cases i with
       | zero => exact ⟨cs',c1,c2⟩
       | succ i =>
        obtain ⟨cs'',d1,d2⟩:=k4 i (by simpa using hi)
        refine ⟨cs'',?_,by simpa using d2⟩
        rw [← d1]; congr 3; simp only [List.length_cons]; omega
    obtain ⟨ys,k1,k2,k3,k4⟩:=all elems (fun i hi => by
     obtain ⟨cs',c1,y,c2,c3,c4⟩:=each i hi
     exact ⟨y,⟨cs',by simpa using c1,c2⟩,c3,c4⟩) (Nat.le_refl _)
    simp only [Nat.sub_self,Nat.zero_add] at k4
    refine ⟨ys,?_,k2,?_⟩
    ·simp only [Rt]
     refine ⟨some a,len,cap,rfl,by omega,hlc,?_⟩
     by_cases hnil:ys = []
     ·exact .inl hnil
     ·right
      have h0:0 < ys.length:=List.length_pos_iff.2 hnil
      obtain ⟨c0,z1,z2⟩:=k4 0 h0
      obtain ⟨zl,zc⟩:=cells?_at z1
      obtain ⟨v0,hv0⟩:∃ v0,c0[0]? = some v0:=⟨c0[0]'(by omega),List.getElem?_eq_getElem _⟩
      have hs:=zc 0 v0 hv0
      simp only [Nat.zero_mul,Addr.add,if_true] at hs
      obtain ⟨b,off,spot⟩:=a
      have hspot:spot = none:=by
       cases spot with
       | none => rfl
       | some s =>
        unfold World.cell? at hs
        split at hs
        ·simp at hs
        ·cases hs
      subst hspot
      refine ⟨b,off,rfl,fun i hi => ?_⟩
      obtain ⟨cs',d1,d2⟩:=k4 i hi
      refine ⟨cs',d2,fun j v hj => ?_⟩
      obtain ⟨_,zc⟩:=cells?_at d1
      have hc:=zc j v hj
      have e:((⟨b,off,none⟩:Addr).add (i * P.cellsOf e)).add j = ⟨b,off + i * t.size + j,none⟩:=by
       rw [hsz]
       unfold Addr.add
       split <;> split <;> simp_all <;> omega
      rw [e] at hc
      exact ⟨hc,ZvC hc⟩
    ·simp only [Ty.bulk,bulkD]
     omega
  ·rename_i fs a b hu
   simp only [Bool.and_eq_true] at hf
   obtain ⟨hf,hsz⟩:=hf
   obtain ⟨xs,n',hn',rfl,hl,hxs,hget⟩:=DataW.trod_struct hu h
   obtain rfl:n' = n:=by omega
   obtain ⟨y,e1,e2,e3⟩:=ZpZ (n:=m) (n':=n') (fun T t cs x h1 h2 => Zf8 n' m T t cs x h1 h2) fs.toList (.pair a b) 0 cs xs hf (by rw [hl,Z0 hsz]; omega) (fun i f hi => hget i f (by simpa using hi)) (by simpa using hxs)
   exact ⟨y,by simpa using e1,e2,by simp only [bulkD]; omega⟩
  ·rename_i fs hu
   simp only [Bool.and_eq_true] at hf
   obtain ⟨hf,hsz⟩:=hf
   obtain ⟨xs,n',hn',rfl,hl,hxs,hget⟩:=DataW.trod_struct hu h
   refine ⟨(),?_,trivial,Nat.zero_le _⟩
   simp only [Rt]
   rw [Z0 hsz] at hl
   exact List.length_eq_zero_iff.1 hl
  ·cases hf
end
end Go.Sh
namespace Go.Sh
open Go Go.RowKit Go.WideShapes Go.ChangeShapes
def WU (tys:List Ty):List Kd:=tys.map .view
def ZyM:(tys:List Ty) → Kd.dens (WU tys) → Prop
 | [],_ => True
 | t :: l,x => t.ok x.1 ∧ ZyM l x.2
def Zgn:(tys:List Ty) → Kd.dens (WU tys) → Nat
 | [],_ => 0
 | t :: l,x => t.bulk x.1 + Zgn l x.2
def Za1 (P:Program):List TypeId → List Ty → Bool
 | [],[] => true
 | T :: Ts,t :: ts => Zcw P 16 T t && Za1 P Ts ts
 | _,_ => false
section
variable {H:Type} {enc:TypeId × Value → H} {P:Program} {w:World} {base:Nat} {spare:Nat → Bool} {held:Bool}
theorem Zap {v:Value} (h:∀ cs,v ≠ .agg cs):v.cells = #[v]:=by
 cases v <;> first | rfl | (exact absurd rfl (h _))
theorem ZsO {b0 n:Nat} {r:Reach} {T:TypeId} {t:Ty} {v:Value} {d:DataW H} {ps:List MemPlace} (hval:Value.okWide P w r b0 T v) (h:DataW.Trod enc P w base spare held T v d ps) (hf:Zcw P n T t = true) :
  ∃ y,Zqa w (whole w) t y v ∧ t.ok y ∧ t.bulk y ≤ bulkD d:=by
 obtain ⟨m,hm⟩:=h
 obtain ⟨y,h1,h2,h3⟩:=Zf8 m n T t _ _ hf hm
 refine ⟨y,⟨_,h1,?_⟩,h2,h3⟩
 cases n with
 | zero => simp [Zcw] at hf
 | succ n =>
  unfold Value.okWide at hval
  unfold Zcw at hf
  split at hf <;> rename_i hu <;> try (cases hf; done)
  all_goals
   rw [hu] at hval
   simp only at hval
  ·refine .inr ⟨rfl,?_⟩
   rw [Zap]; rintro cs rfl; simp [Cell.okWide,Cell.ok,hu] at hval
  ·refine .inr ⟨rfl,?_⟩
   rw [Zap]; rintro cs rfl; simp [Cell.okWide,Cell.ok,hu] at hval
  ·refine .inr ⟨rfl,?_⟩
   rw [Zap]; rintro cs rfl; simp [Cell.okWide,Cell.ok,hu] at hval
  ·refine .inr ⟨rfl,?_⟩
   rw [Zap]; rintro cs rfl; simp [Cell.okWide,Cell.ok,hu] at hval
  ·obtain ⟨cs,rfl,_⟩:=hval
   exact .inl ⟨rfl,rfl⟩
  ·obtain ⟨cs,rfl,_⟩:=hval
   exact .inl ⟨rfl,rfl⟩
theorem ZdR {b0:Nat} {r:Reach}:∀ {Ts:List TypeId} {tys:List Ty} {vs:List Value} {ds:List (DataW H)} {ps:List MemPlace},Za1 P Ts tys = true →
  (∀ (j:Nat) t v,Ts[j]? = some t → vs[j]? = some v → Value.okWide P w r b0 t v) → DataW.TrodAll enc P w base spare held Ts vs ds ps →
  ∃ x:Kd.dens (WU tys),TTs w (whole w) (Xe (WU tys) x) vs [] ∧ ZyM tys x ∧ Zgn tys x ≤ bulkDs ds
 | [],[],vs,ds,ps,_,_,h => by
  obtain ⟨rfl,rfl,rfl⟩:=trodAll_nil h
  exact ⟨(),rfl,trivial,Nat.le_refl _⟩
 | T :: Ts,t :: tys,vs,ds,ps,hf,hval,h => by
  simp only [Za1,Bool.and_eq_true] at hf
  obtain ⟨v,vs',d,ds',p,q,rfl,rfl,rfl,h1,h2⟩:=trodAll_cons h
  obtain ⟨y,e1,e2,e3⟩:=ZsO (hval 0 T v rfl rfl) h1 hf.1
  obtain ⟨x,g1,g2,g3⟩:=ZdR hf.2 (fun j t v ht hv => hval (j + 1) t v (by simpa using ht) (by simpa using hv)) h2
  refine ⟨(y,x),?_,⟨e2,g2⟩,?_⟩
  ·exact ⟨[],[],rfl,⟨e1,rfl⟩,g1⟩
  ·simp only [Zgn,bulkDs]; omega
 | [],_ :: _,_,_,_,hf,_,_ => by simp [Za1] at hf
 | _ :: _,[],_,_,_,hf,_,_ => by simp [Za1] at hf
end
section
variable {H:Type} {enc:TypeId × Value → H} {P:Program}
theorem Znx {f:Func} {s:ChangeSpec} {apart fresh handsOn again:Bool} {W W':World} {args:Array Value} {v:Value} {ds gs:List (DataW H)} {before pa pv:List MemPlace}
  (hW:DataW.Whole enc P f.params.toList s.vars apart W args.toList ds gs before)
  (hres:∀ (b:Nat) (sp:Nat → Bool) (hd:Bool),DataW.TrodAll enc P W' b sp hd f.resultTypes.toList (v.resultList f.resultTypes.size) (s.fn H (ds ++ gs)).results [])
  (hargs:∀ sp:Nat → Bool,(∀ p ∈ before,sp p.block = true) → DataW.TrodAll enc P W' 0 sp true f.params.toList args.toList (s.fn H (ds ++ gs)).args pa)
  (hvars:∀ sp:Nat → Bool,(∀ p ∈ before,sp p.block = true) → DataW.TrodVars enc P W' sp s.vars (s.fn H (ds ++ gs)).vars pv)
  (hps:before = pa ++ pv) (hb:Below W.heap.size W W')
  (hok:∀ (j:Nat) (t:TypeId) (r:Value),f.resultTypes[j]? = some t → (v.resultList f.resultTypes.size)[j]? = some r → Value.okWide P W' .any 0 t r) :
  s.post enc P f apart fresh handsOn again W args v W':=by
 have hlt:∀ p ∈ before,p.block < W.heap.size:=fun p hp => hW.lt p hp
 have hold:∀ p ∈ before,(fun b => decide (b < W.heap.size)) p.block = true:=fun p hp => by simpa using hlt p hp
 refine ⟨ds,gs,before,[],pa,pv,hW,hres _ _ _,hargs _ hold,hvars _ hold,World.keptBut_mono (fun p hp => ⟨hp,?_⟩) (hb.frame (· ∈ before)),fun _ => ?_⟩
 ·rw [hps,List.mem_append] at hp
  exact Or.inr hp
 ·obtain ⟨_,_,_,_,_,hz,hn⟩:=hW
  refine ⟨hok,_,_,([] ++ pa) ++ pv,⟨[] ++ pa,pv,trodAll_append (hargs _ (fun _ _ => rfl)) (hres _ _ _),hvars _ (fun _ _ => rfl),rfl,?_,?_⟩,?_⟩
  ·intro b off hp
   have hin:MemPlace.cell b off ∈ before:=by rw [hps]; simpa using hp
   rw [hb.frozen (hlt _ hin)]
   exact hz b off hin
  ·intro ha
   have:=hn ha
   rw [hps] at this
   simpa using this
  ·intro p hp _
   rw [hps]
   simpa using hp
theorem Zfs {w w':World} {base:Nat} {spare:Nat → Bool} {held:Bool}:∀ {ts:List TypeId} {vs:List Value} {ds:List (DataW H)} {ps:List MemPlace},
  DataW.TrodAll enc P w base spare held ts vs ds ps → (∀ p ∈ ps,w.sameAt w' p) → DataW.TrodAll enc P w' base spare held ts vs ds ps
 | [],[],[],_,h,_ => h
 | _ :: _,_ :: _,_ :: _,_,⟨p,q,⟨n,h1⟩,h2,e⟩,hs => ⟨p,q,⟨n,DataW.trod_carry n _ _ _ h1 (fun x hx => hs x (by rw [e]; exact List.mem_append_left _ hx))⟩,
   Zfs h2 (fun x hx => hs x (by rw [e]; exact List.mem_append_right _ hx)),e⟩
variable [Gl]
theorem law_contract {K:FuncId} {fn:Func} {spec:ChangeSpec} {B:TypeId} (tys:List Ty) {F:Nat → Kd.dens (WU tys) → Option (Ans (WU tys) (.view .bool))} {bound:Nat}
  (hl:laidOutB P = true) (hm:mapsRowed P = true) (hz:((List.range P.types.size).all fun t => match P.underlying t with | some (.slice e) => decide (0 < P.cellsOf e) | _ => true) = true)
  (hts:fn.params.toList.all (fun t => decide (t < P.types.size)) = true) (hfit:Za1 P fn.params.toList tys = true) (hres:fn.resultTypes = #[B]) (hB:P.underlying B = some .bool)
  (hvars:spec.vars = []) (hspec:∀ (H:Type) (ds:List (DataW H)),ds.length = tys.length → spec.fn H ds = { results:=[.lit (.bool true)],args:=ds })
  (hctr:∀ k,Ctr P k K (mk (WU tys) (.view .bool) F)) (plain:∀ x:Kd.dens (WU tys),ZyM tys x → Zgn tys x ≤ bound → ∃ k u,F k x = some (true,u))
  (enc:TypeId × Value → H) (W:World) (b0:Nat) (args:Array Value) (ds gs:List (DataW H)) (before:List MemPlace)
  (hval:∀ (j:Nat) t v,fn.params[j]? = some t → args[j]? = some v → Value.okWide P W .any b0 t v)
  (hW:DataW.Whole enc P fn.params.toList spec.vars false W args.toList ds gs before) (hk:bulkDs (ds ++ gs) ≤ bound) (hgl:Zqe W (whole W)) :
  Calls P K args W fun e W' => ∃ v,e = .returned v ∧ spec.post enc P fn false true false false W args v W':=by
 have hW':=hW
 obtain ⟨p,q,hA,hV,he,hfz,hnd⟩:=hW
 rw [hvars] at hV
 have hgs:gs = [] ∧ q = []:=by
  match gs,hV with
  | [],hV => exact ⟨rfl,hV⟩
  | _ :: _,hV => exact hV.elim
 obtain ⟨rfl,rfl⟩:=hgs
 simp only [List.append_nil] at he hk
 obtain rfl:p = before:=he.symm
 obtain ⟨x,h1,h2,h3⟩:=ZdR (tys:=tys) hfit (fun j t v ht hv => hval j t v (by simpa using ht) (by simpa using hv)) hA
 obtain ⟨k,u,hF⟩:=plain x h2 (by omega)
 have hlen:ds.length = tys.length:=by
  have e1:∀ {Ts:List TypeId} {tys:List Ty} {vs:List Value} {ds:List (DataW H)} {ps:List MemPlace},Za1 P Ts tys = true → DataW.TrodAll enc P W 0 (fun _ => true) true Ts vs ds ps → ds.length = tys.length:=by
   intro Ts
   induction Ts with
   | nil =>
    intro tys vs ds ps hf h
    obtain ⟨rfl,rfl,rfl⟩:=trodAll_nil h
    cases tys with
    | nil => rfl
    | cons => simp [Za1] at hf
   | cons T Ts ih =>
    intro tys vs ds ps hf h
    obtain ⟨v,vs',d,ds',p,q,rfl,rfl,rfl,h1,h2⟩:=trodAll_cons h
    cases tys with
    | nil => simp [Za1] at hf
    | cons t tys =>
     simp only [Za1,Bool.and_eq_true] at hf
     simp [ih hf.2 h2]
  exact e1 hfit hA
 have hcall:=(hctr k).calls (Xe (WU tys) x) (true,u) (by
  have hd:Ze5 (WU tys) (Xe (WU tys) x) = some x:=by
   have e2:∀ (l:List Ty) (x:Kd.dens (WU l)),Ze5 (WU l) (Xe (WU l) x) = some x:=by
    intro l
    induction l with
    | nil => intro x; rfl
    | cons t l ih =>
     intro x
     obtain ⟨y,ys⟩:=x
     show ((Zle t (.view t y)).bind fun y => (Ze5 (WU l) (Xe (WU l) ys)).bind fun ys => some (y,ys)) = _
     rw [ih ys]
     simp only [Zle,dite_true]
     rfl
   exact e2 tys x
  show (Ze5 (WU tys) (Xe (WU tys) x)).bind (F k) = some (true,u)
  rw [hd]; exact hF) W (whole W) args.toList [] (ZFf W) hgl h1 List.nodup_nil (by simp)
 rw [Array.toArray_toList] at hcall
 refine hcall.mono fun e W' h => ?_
 obtain ⟨v,lim',b1,b2,rfl,hE,_,⟨ho,ht,hout⟩,hold,hT,_⟩:=h
 have hv:v = .bool true:=by
  have hT:Zqa W' lim' .bool true v ∧ b1 = []:=hT
  obtain ⟨⟨cs,c1,c2⟩,_⟩:=hT
  rcases c2 with ⟨c2,_⟩ | ⟨_,c2⟩
  ·cases c2
  ·simp only [Rt] at c1
   subst c2
   simpa using c1
 subst hv
 have hBel:Below W.heap.size W W':=⟨ho,ht,hout,hE.size,fun b hb => (hold b hb (by simp)).1⟩
 have hlt:∀ x ∈ p,x.block < W.heap.size:=fun x hx => hW'.lt x hx
 refine ⟨_,rfl,Znx (pa:=p) (pv:=[]) hW' (fun b sp hd => ?_) (fun sp hsp => ?_) (fun sp hsp => ?_) (by simp) hBel ?_⟩
 ·rw [List.append_nil,hspec H ds hlen,hres]
  exact ⟨[],[],⟨1,by simp [DataW.trod,Value.cells,hB]⟩,rfl,rfl⟩
 ·rw [List.append_nil,hspec H ds hlen]
  refine Zfs (w:=W) (DataW.TrodAll.respare (kids_rows hl hm) (slices_full_of P hz) (fun t ht => ?_) hA hsp) (fun y hy => hBel.same (hlt y hy))
  simpa using List.all_eq_true.1 hts t ht
 ·rw [List.append_nil,hspec H ds hlen,hvars]
  rfl
 ·exact ok_one hres rfl (okWide_bool_mk hB true)
end
end Go.Sh
namespace Go.Sh
open Go Go.Proofs
theorem Zu5:Qw 1 8 44100 0 [[5,5,5]] = ([255,248,96,0,0,2,228,0,5,227,208],0):=by decide +kernel
theorem Zw5:Zfn 1 8 44100 [255,248,96,0,0,2,228,0,5,227,208] = ((0,[[5,5,5]]),11,0):=by decide +kernel
theorem Ztp (k:Nat) (hk:200000 < k):ZlR k () = some (true,()):=by
 show ZgG k _ = _
 simp only [ZgG]
 refine (Zg (ZtV k (by omega) 1 8 44100 0 [[5,5,5]]) _).trans ?_
 rw [Zu5]
 simp only
 rw [show ((0:Int) != 0) = false from rfl]
 simp only [cond_false]
 rw [show (Int.ofNat [(255:Int),248,96,0,0,2,228,0,5,227,208].length != 11) = false from rfl]
 simp only [cond_false]
 rw [Zc (by simp)]
 rw [show (!(ByteArray.mk (List.map (fun n => UInt8.ofNat n.toNat) (List.drop 0 (List.take 6 [(255:Int),248,96,0,0,2,228,0,5,227,208]))).toArray).toList == (ByteArray.mk #[255,248,96,0,0,2]).toList) = false from by rw [ZIM]; decide +kernel]
 simp only [cond_false]
 refine (Zg (Zmo k 1 8 44100 (b:=[255,248,96,0,0,2,228,0,5,227,208]) (by decide) (by simp) (by simp; omega)) _).trans ?_
 rw [Zw5]
 rfl
def Sm (ch:List (List Int)):Prop:=ch.length ≤ 1048576 ∧ ∀ l ∈ ch,l.length ≤ 1048576
theorem ZCV (k:Nat) (hk:2000000 < k) (n:Int) {ch:List (List Int)} (h:Sm ch):Zt2 k ((n,ch,()),()) = some ((n,ch,()),()):=by
 show ZgT k (Zre k) _ = _
 simp only [ZgT]
 have hs:=h.1
 have:=ZF (A:=List (List Int)) (R:=(Int × List (List Int) × Unit) × Unit) (step:=fun L1 => Zc3 k L1) (fun i out => (Int.ofNat i,n,ch,n,out,(0:Int))) ch
  (fun l' out => some ((n,out ++ l',()),())) (fun i out => out.length = i)
  (fun L out _ => by simp only [Zc3]; rw [Zk (W2 _),List.append_nil])
  (fun L i hi out ho hL => by
   have hl:=h.2 ch[i] (List.getElem_mem hi)
   simp only [Zc3]
   rw [Zc (ltR hi),Zc (inR hi),ZW hi]
   have e1:IntKind.i64.wrap (Int.ofNat (List.length ch[i]) + 2) = ((ch[i].length + 2:Nat):Int):=by rw [Qp (by simp only [QW]; omega)]; rfl
   rw [e1,Zc (by omega),Zc (inR hi),Zc (by omega),Zc (by simp only [List.length_singleton]; omega),QZ hi (by omega),hL _ (by simp; omega)]
   simp)
  k 0 [] rfl (by omega) (Nat.zero_le _)
 rw [List.drop_zero,List.nil_append] at this
 exact this
theorem ZBC:∀ (a b c d e f g h:Bool) (j:Fin 8),(a.toNat * 128 + b.toNat * 64 + c.toNat * 32 + d.toNat * 16 + e.toNat * 8 + f.toNat * 4 + g.toNat * 2 + h.toNat).testBit (7 - j.val) = [a,b,c,d,e,f,g,h].getD j.val false:=by decide +kernel
theorem Zzc (f:Nat → Bool) {j:Nat} (hj:j < 8):(YB f).testBit (7 - j) = f j:=by
 have:=ZBC (f 0) (f 1) (f 2) (f 3) (f 4) (f 5) (f 6) (f 7) ⟨j,hj⟩
 simp only at this
 unfold YB
 rw [this]
 match j,hj with
 | 0,_ => rfl
 | 1,_ => rfl
 | 2,_ => rfl
 | 3,_ => rfl
 | 4,_ => rfl
 | 5,_ => rfl
 | 6,_ => rfl
 | 7,_ => rfl
theorem Zli {B:List Bool} (h:B.length % 8 = 0):ZT (ZL B) = B:=by
 have hl:(ZL B).length = B.length / 8:=by rw [Qc]; omega
 apply List.ext_getElem
 ·rw [Z3,hl]; omega
 ·intro i h1 h2
  rw [Zie (by rw [hl]; omega),XS,WS]
  unfold QV
  rw [Zzc _ (Nat.mod_lt _ (by omega)),show 8 * (i / 8) + i % 8 = i by omega,YZ h2]
theorem ZBE:∀ x:Fin 256,YB (fun j => x.val.testBit (7 - j)) = x.val:=by decide +kernel
theorem X5 {b:List Int} (h:ZM b = true):ZL (ZT b) = b:=by
 apply List.ext_getElem
 ·rw [Qc,Z3]; omega
 ·intro i h1 h2
  obtain ⟨x,hx,hxe⟩:=KY h h2
  rw [XS,hxe]
  have:QV (ZT b) i = YB (fun j => x.testBit (7 - j)):=by
   have key:∀ j,j < 8 → (ZT b).getD (8 * i + j) false = x.testBit (7 - j):=by
    intro j hj
    rw [YZ (by rw [Z3]; omega),Zie (by omega)]
    have:(8 * i + j) / 8 = i:=by omega
    simp only [this,hxe,WS]
    congr 1
    omega
   unfold QV YB
   simp only
   rw [key 0 (by omega),key 1 (by omega),key 2 (by omega),key 3 (by omega),key 4 (by omega),key 5 (by omega),key 6 (by omega),key 7 (by omega)]
  rw [this]
  have:=ZBE ⟨x,hx⟩
  simp only at this
  rw [this]
theorem Zxf (B:List Bool):(XD B).length % 8 = 0 ∧ (XD B).length = B.length + Ky B.length:=by
 unfold XD
 rw [Wm,List.length_replicate]
 unfold Ky
 omega
theorem Zv2 (B:List Bool):(X0 B).length % 8 = 0 ∧ (X0 B).length = B.length + Ky B.length + 16:=by
 have:=Zxf B
 unfold X0
 rw [Wm,Zp]
 omega
theorem Zqp (c a w:Nat):Zb c (a + w) = Zb (c / 2 ^ w) a ++ Zb c w:=by
 induction a with
 | zero => simp [Zb]
 | succ a ih =>
  rw [show a + 1 + w = (a + w) + 1 by omega]
  simp only [Zb,List.cons_append]
  rw [ih,Nat.testBit_div_two_pow]
end Go.Sh
namespace Go.Sh
open Go Go.Proofs
theorem Zsr {c d r num:Int} {pos:Nat} {out:List (List Int)}:((Znp c d r num pos out).2.2 ≠ 0 → (Znp c d r num pos out).2.1 = 0) ∧ ((Znp c d r num pos out).2.2 = 0 → (Znp c d r num pos out).2.1 = ((pos / 8:Nat):Int)):=by
 unfold Znp
 split
 ·rename_i h; exact ⟨fun _ => rfl,fun e => absurd e h⟩
 ·exact ⟨fun e => absurd rfl e,fun _ => rfl⟩
theorem Zvc {c d r num:Int} {pos:Nat} {m:Int} {A B:List Int}:((Zfk c d r num pos m A B).2.2 ≠ 0 → (Zfk c d r num pos m A B).2.1 = 0) ∧ ((Zfk c d r num pos m A B).2.2 = 0 → (Zfk c d r num pos m A B).2.1 = ((pos / 8:Nat):Int)):=by
 unfold Zfk
 split
 ·rename_i h; exact ⟨fun _ => rfl,fun e => absurd e h⟩
 ·exact Zsr
theorem ZHu {c d r:Int} {b:List Int} {mode num:Nat} {chs:List (List Int)} {rr:List Bool}:((ZmW c d r b mode num chs rr).2.2 ≠ 0 → (ZmW c d r b mode num chs rr).2.1 = 0) ∧
  ((ZmW c d r b mode num chs rr).2.2 = 0 → (KM Y4 b 16 ((alS rr).2,(alS rr).1)).2 = 0 ∧ (ZmW c d r b mode num chs rr).2.1 = ((ZR b (KM Y4 b 16 ((alS rr).2,(alS rr).1)).1 / 8:Nat):Int)):=by
 unfold ZmW
 split
 ·rename_i h; exact ⟨fun _ => rfl,fun e => absurd e h⟩
 ·rename_i h
  have h0:(KM Y4 b 16 ((alS rr).2,(alS rr).1)).2 = 0:=by simpa using h
  split
  ·exact ⟨Zvc.1,fun e => ⟨h0,Zvc.2 e⟩⟩
  ·exact ⟨Zsr.1,fun e => ⟨h0,Zsr.2 e⟩⟩
theorem ZES {c d r:Int} {b:List Int} (h:(Zfn c d r b).2.2 ≠ 0):(Zfn c d r b).2.1 = 0:=by
 unfold Zfn at h ⊢
 split
 ·rfl
 ·rename_i h1
  rw [if_neg h1] at h
  unfold Zia at h ⊢
  split
  ·rfl
  ·rename_i h2
   rw [if_neg h2] at h
   split
   ·rfl
   ·rename_i h3
    rw [if_neg h3] at h
    exact ZHu.1 h
theorem ZjP (c d r n:Int) (ch:List (List Int)):ZM (Qw c d r n ch).1 = true:=by
 unfold Qw
 split
 ·exact Xk _
 ·rfl
theorem Zqc (c d r n:Int) (ch:List (List Int)):(Qw c d r n ch).1.length ≤ 5000:=by
 unfold Qw
 split
 ·rename_i h
  obtain ⟨hs,hn,hc,hlen,hsg⟩:=YE h
  obtain ⟨hlay,_,_⟩:=Zw6 h
  have h2:1 ≤ (ch.headD []).length ∧ (ch.headD []).length ≤ 512:=by
   have:0 < ch.length:=by omega
   match ch,this with
   | l :: _,_ => exact (hlen l (by simp)).2
  have h1:=Zlt hlay h2.1 h2.2 (by omega) (by omega)
  have h3:=ZaL (Yr ch).2.toNat n.toNat (ch.headD []).length
  have h4:=Zow n.toNat
  have h5:=ZbE (ch.headD []).length
  have h6:=Zv2 (Z5 (Yr ch).2.toNat n.toNat (ch.headD []).length ++ Z4 (Yr ch).1 (Qd c d (Yr ch).2))
  have h7:Ky (Z5 (Yr ch).2.toNat n.toNat (ch.headD []).length ++ Z4 (Yr ch).1 (Qd c d (Yr ch).2)).length < 8:=by unfold Ky; omega
  simp only
  rw [Qc]
  rw [Wm] at h6 h7
  unfold Z5 at h6 h7 ⊢
  rw [Wm,Zp] at h6 h7
  omega
 ·simp
end Go.Sh
namespace Go.Sh
open Go Go.Proofs
theorem Zxx {α:Type} (f:α → Nat):∀ (l:List α),(∀ x ∈ l,1 ≤ f x) → l.length ≤ (l.map f).sum ∧ ∀ x ∈ l,f x ≤ (l.map f).sum
 | [],_ => ⟨Nat.le_refl _,by simp⟩
 | a :: l,h => by
  obtain ⟨h1,h2⟩:=Zxx f l fun x hx => h x (List.mem_cons_of_mem _ hx)
  have h3:=h a (List.mem_cons_self ..)
  simp only [List.length_cons,List.map_cons,List.sum_cons]
  refine ⟨by omega,fun x hx => ?_⟩
  rcases List.mem_cons.1 hx with rfl | hx
  ·omega
  ·have:=h2 x hx; omega
theorem ZuU {n:Int} {ch:List (List Int)} (h:Ty.bulk frameT (n,ch,()) ≤ 1048576):Sm ch:=by
 have h1:(1:Nat) + (((ch.map (Ty.bulk (.sl (.int .i64)))).sum + 1) + 0) ≤ 1048576:=h
 have s:=Zxx (Ty.bulk (.sl (.int .i64))) ch (fun x _ => by simp only [Ty.bulk]; omega)
 refine ⟨by omega,fun x hx => ?_⟩
 have h2:=s.2 x hx
 have h3:Ty.bulk (.sl (.int .i64)) x = (x.map (Ty.bulk (.int .i64))).sum + 1:=rfl
 have h4:=Zxx (Ty.bulk (.int .i64)) x (fun y _ => by simp only [Ty.bulk]; omega)
 omega
end Go.Sh
namespace Go.Sh
open Go Go.Proofs
theorem ZBg (c d r n:Int) (ch:List (List Int)):(Qw c d r n ch).2 = Xc c d r n ch:=by
 unfold Qw
 split
 ·rename_i h; rw [h]
 ·rfl
end Go.Sh
namespace Go.Sh
open Go Go.Proofs
theorem Yh {A X:List Bool} (h:A.length % 8 = 0):ZL (A ++ X) = ZL A ++ ZL X:=by
 have hA:(ZL A).length = A.length / 8:=by rw [Qc]; omega
 apply List.ext_getElem
 ·rw [Wm,Qc,Qc,Qc,Wm]; omega
 ·intro i h1 h2
  rw [XS]
  by_cases hi:i < (ZL A).length
  ·rw [List.getElem_append_left hi,XS]
   congr 1
   unfold QV YB
   have:∀ j,j < 8 → (A ++ X).getD (8 * i + j) false = A.getD (8 * i + j) false:=by
    intro j hj
    simp only [List.getD_eq_getElem?_getD]
    rw [List.getElem?_append_left (by omega)]
   simp only []
   rw [this 0 (by omega),this 1 (by omega),this 2 (by omega),this 3 (by omega),this 4 (by omega),this 5 (by omega),this 6 (by omega),this 7 (by omega)]
  ·rw [List.getElem_append_right (by omega),XS]
   congr 1
   unfold QV YB
   have:∀ j,j < 8 → (A ++ X).getD (8 * i + j) false = X.getD (8 * (i - (ZL A).length) + j) false:=by
    intro j hj
    simp only [List.getD_eq_getElem?_getD]
    rw [List.getElem?_append_right (by omega)]
    congr 2
    omega
   simp only []
   rw [this 0 (by omega),this 1 (by omega),this 2 (by omega),this 3 (by omega),this 4 (by omega),this 5 (by omega),this 6 (by omega),this 7 (by omega)]
end Go.Sh
namespace Go.Sh
open Go Go.Proofs
def SP (p A:List Bool):Prop:=p <+: A ∧ p.length < A.length
theorem SP.split {p A B:List Bool} (h:SP p (A ++ B)):SP p A ∨ ∃ q,p = A ++ q ∧ SP q B:=by
 obtain ⟨h1,h2⟩:=h
 by_cases hl:p.length < A.length
 ·exact .inl ⟨List.prefix_of_prefix_length_le h1 (List.prefix_append A B) (by omega),hl⟩
 ·right
  obtain ⟨t,ht⟩:=List.prefix_of_prefix_length_le (List.prefix_append A B) h1 (by omega)
  refine ⟨t,ht.symm,?_,?_⟩
  ·rw [← ht] at h1
   exact (List.prefix_append_right_inj A).1 h1
  ·rw [← ht] at h2
   rw [Wm,Wm] at h2
   omega
theorem SP.no {p:List Bool} (h:SP p []):False:=by have:=h.2; simp at this
structure Enc {α:Type} (f:List Bool → α × Int × List Bool) (v:α) (A:List Bool):Prop where
 ok:∀ r,f (A ++ r) = (v,0,r)
 tail:∀ p,SP p A → (f p).2.1 = 10
theorem Kj {n w:Nat} (h:n < 2 ^ w):Enc (ZO w) n (Zb n w) where
 ok:=fun r => by
  have hl:=Zp n w
  unfold ZO
  rw [if_pos (by rw [Wm]; omega),List.take_append_of_le_length (by omega),List.take_of_length_le (by omega),ZaS,Nat.mod_eq_of_lt h,List.drop_append,List.drop_eq_nil_of_le (by omega),List.nil_append,hl,Nat.sub_self,List.drop_zero]
 tail:=fun p hp => by
  have:=hp.2
  rw [Zp] at this
  unfold ZO
  rw [if_neg (by omega)]
theorem Zxo {n:Int} {w:Nat} (h:W9 n w = true):ZHU w (n % 2 ^ w).toNat = n:=by
 unfold W9 at h
 unfold ZHU
 by_cases h0:w = 0
 ·subst h0
  simp only [if_true,decide_eq_true_eq] at h
  subst h
  simp
 ·rw [if_neg h0,decide_eq_true_eq] at h
  have hpw:(2:Int) ^ w = 2 * 2 ^ (w - 1):=by rw [show w = (w - 1) + 1 by omega,Int.pow_succ,Nat.add_sub_cancel,Int.mul_comm]
  have hp:(0:Int) < 2 ^ (w - 1):=Int.pow_pos (by omega)
  have hpn:((2 ^ (w - 1):Nat):Int) = 2 ^ (w - 1):=by rw [Wi]
  rw [hpw]
  by_cases hn:0 ≤ n
  ·have e:n % (2 * 2 ^ (w - 1)) = n:=Int.emod_eq_of_lt hn (by omega)
   rw [e,if_neg (by omega)]
   omega
  ·have e:n % (2 * 2 ^ (w - 1)) = n + 2 * 2 ^ (w - 1):=by
    rw [← Int.add_emod_right,Int.emod_eq_of_lt (by omega) (by omega)]
   rw [e,if_pos ⟨by omega,by omega⟩]
   omega
theorem ZpB {n:Int} {w:Nat} (h:W9 n w = true):Enc (Wr w) n (Wl n w) where
 ok:=fun r => by
  have hl:=KU n w
  unfold Wr
  rw [if_pos (by rw [Wm]; omega),List.take_append_of_le_length (by omega),List.take_of_length_le (by omega),List.drop_append,List.drop_eq_nil_of_le (by omega),List.nil_append,hl,Nat.sub_self,List.drop_zero]
  have hlt:(n % 2 ^ w).toNat < 2 ^ w:=by
   have hp:(0:Int) < 2 ^ w:=Int.pow_pos (by omega)
   have h1:=Int.emod_nonneg n (show (2:Int) ^ w ≠ 0 by omega)
   have h2:=Int.emod_lt_of_pos n hp
   have h3:((2 ^ w:Nat):Int) = 2 ^ w:=by rw [Wi]
   omega
  unfold Wl
  rw [ZaS,Nat.mod_eq_of_lt hlt,Zxo h]
 tail:=fun p hp => by
  have:=hp.2
  rw [KU] at this
  unfold Wr
  rw [if_neg (by omega)]
theorem Zvy:∀ (q n:Nat) (r:List Bool),ZdQ n ((List.replicate q false ++ [true]) ++ r) = some (n + q,r)
 | 0,n,r => rfl
 | q + 1,n,r => by
  rw [List.replicate_succ]
  show ZdQ (n + 1) ((List.replicate q false ++ [true]) ++ r) = _
  rw [Zvy q (n + 1) r]
  congr 2
  omega
theorem Zn0:∀ (p:List Bool) (n:Nat),(∀ x ∈ p,x = false) → ZdQ n p = none
 | [],n,_ => rfl
 | x :: p,n,h => by
  have:=h x (List.mem_cons_self ..)
  subst this
  exact Zn0 p (n + 1) fun y hy => h y (List.mem_cons_of_mem _ hy)
theorem Zh4 (q:Nat):Enc unS q (List.replicate q false ++ [true]) where
 ok:=fun r => by
  unfold unS
  rw [Zvy q 0 r]
  simp
 tail:=fun p hp => by
  have hz:∀ x ∈ p,x = false:=by
   rcases hp.split with h | ⟨t,rfl,h⟩
   ·intro x hx
    exact List.eq_of_mem_replicate (h.1.subset hx)
   ·intro x hx
    have ht:t = []:=by have:=h.2; simp at this; exact this
    subst ht
    rw [List.append_nil] at hx
    exact List.eq_of_mem_replicate hx
  unfold unS
  rw [Zn0 p 0 hz]
theorem Zw0 {n:Int} (h:ZI n):ZZ n < 4294967295:=by
 unfold ZI at h
 unfold ZZ
 split <;> omega
theorem ZEF {n:Int} (h:ZI n) (kk:Nat):Enc (Zal kk) n (Y0 kk n) where
 ok:=fun r => by
  have h1:=(Zh4 (ZZ n / 2 ^ kk)).ok (Zb (ZZ n % 2 ^ kk) kk ++ r)
  have h2:=(Kj (n:=ZZ n % 2 ^ kk) (w:=kk) (Nat.mod_lt _ (Nat.pow_pos (by omega)))).ok r
  unfold Zal Y0
  rw [List.append_assoc,h1]
  simp only
  rw [h2]
  simp only
  have e:ZZ n / 2 ^ kk * 2 ^ kk + ZZ n % 2 ^ kk = ZZ n:=by rw [Nat.mul_comm]; exact Nat.div_add_mod _ _
  have:=Zw0 h
  rw [e,if_neg (by simp),if_neg (by simp),if_neg (by omega),Zvz h]
 tail:=fun p hp => by
  unfold Y0 at hp
  unfold Zal
  rcases hp.split with h1 | ⟨q,rfl,h1⟩
  ·have:=(Zh4 (ZZ n / 2 ^ kk)).tail p h1
   rw [if_pos (by rw [this]; decide)]
   exact this
  ·rw [(Zh4 (ZZ n / 2 ^ kk)).ok q]
   have:=(Kj (n:=ZZ n % 2 ^ kk) (w:=kk) (Nat.mod_lt _ (Nat.pow_pos (by omega)))).tail q h1
   simp only
   rw [if_neg (by simp),if_pos (by rw [this]; decide)]
   exact this
theorem Zi4 {one:ZxB} {g:Int → List Bool}:∀ (xs acc:List Int),(∀ x ∈ xs,Enc one x (g x)) → Enc (fun r => XP one xs.length r acc) (acc ++ xs) (xs.flatMap g)
 | [],acc,_ => ⟨fun r => by simp [XP],fun p hp => (hp.no).elim⟩
 | x :: xs,acc,h => by
  have hx:=h x (List.mem_cons_self ..)
  have ih:=Zi4 xs (acc ++ [x]) fun y hy => h y (List.mem_cons_of_mem _ hy)
  constructor
  ·intro r
   have:=ih.ok r
   rw [List.flatMap_cons,List.append_assoc,List.length_cons]
   unfold XP
   rw [hx.ok]
   simp only
   rw [if_neg (by simp),this,List.append_assoc]
   rfl
  ·intro p hp
   rw [List.flatMap_cons] at hp
   simp only [List.length_cons]
   unfold XP
   rcases hp.split with h1 | ⟨q,rfl,h1⟩
   ·have:=hx.tail p h1
    rw [if_pos (by rw [this]; decide)]
    exact this
   ·rw [hx.ok q]
    simp only
    rw [if_neg (by simp)]
    exact ih.tail q h1
theorem ZA2 {c:List Int} (hc:∀ x ∈ c,ZI x) {m:Nat} (hm:m = 0 ∨ m = 1) {y:Prt} (hy:Ks c m y):Enc (XT m c.length) c (Xl m (c,y)):=by
 obtain ⟨a,w,ha,ha2,hw,hw2⟩:=Zns (m:=(m:Int)) (by omega) hy
 have hA:=Kj (n:=a) (w:=4 + m) (by simpa using ha2)
 have hW:=Kj (n:=w) (w:=5) (by omega)
 have key:∃ B,Xl m (c,y) = Zb a (4 + m) ++ B ∧ Enc (fun r => if a = W7 m then (if (ZO 5 r).2.1 ≠ 0 then (([]:List Int),(ZO 5 r).2.1,(ZO 5 r).2.2) else XP (Wr (ZO 5 r).1) c.length (ZO 5 r).2.2 []) else XP (Zal a) c.length r []) c B:=by
  unfold Xl Ys
  simp only [ha,hw,WS]
  rcases hy with ⟨kk,hkk,hfar,rfl⟩ | ⟨hwid,rfl⟩
  ·simp only at ha
   obtain rfl:kk = a:=by omega
   have hne:¬ kk = W7 m:=by omega
   have hne2:¬ ((kk:Int) = ((W7 (m:Int):Nat):Int)):=by omega
   rw [if_neg hne2,if_neg hne2]
   refine ⟨_,rfl,?_⟩
   rw [List.nil_append]
   have:=Zi4 (one:=Zal kk) (g:=Y0 kk) c [] fun x hx => ZEF (hc x hx) kk
   simp only [if_neg hne]
   exact this
  ·simp only at ha hw
   obtain rfl:W7 (m:Int) = a:=by omega
   obtain rfl:QG c = w:=by omega
   rw [if_pos rfl,if_pos rfl]
   refine ⟨_,rfl,?_⟩
   have hl:=Zi4 (one:=Wr (QG c)) (g:=fun n => Wl n (QG c)) c [] fun x hx => ZpB (Zqb hc x hx)
   constructor
   ·intro r
    have h1:=hl.ok r
    simp only [if_true]
    rw [List.append_assoc,hW.ok]
    simp only
    rw [if_neg (by simp),h1]
    simp
   ·intro p hp
    simp only [if_true]
    rcases hp.split with h1 | ⟨q,rfl,h1⟩
    ·have:=hW.tail p h1
     rw [if_pos (by rw [this]; decide)]
     exact this
    ·rw [hW.ok q]
     simp only
     rw [if_neg (by simp)]
     exact hl.tail q h1
 obtain ⟨B,hB,hE⟩:=key
 rw [hB]
 constructor
 ·intro r
  have:=hE.ok r
  unfold XT
  rw [List.append_assoc,hA.ok]
  simp only at this ⊢
  rw [if_neg (by simp)]
  exact this
 ·intro p hp
  unfold XT
  rcases hp.split with h1 | ⟨q,rfl,h1⟩
  ·have:=hA.tail p h1
   rw [if_pos (by rw [this]; decide)]
   exact this
  ·have:=hE.tail q h1
   rw [hA.ok q]
   simp only at this ⊢
   rw [if_neg (by simp)]
   exact this
theorem Zjo {m n o p:Nat} (hm:m = 0 ∨ m = 1):∀ (cs:List (List Int)) (ys:List Prt) (i:Nat) (acc:List Int),(∀ c ∈ cs,∀ x ∈ c,ZI x) → YX m cs ys → (∀ (j:Nat) (h:j < cs.length),cs[j].length = n / 2 ^ p - if i + j = 0 then o else 0) →
  Enc (fun r => Q2 m n o p cs.length i r acc) (acc ++ cs.flatten) ((cs.zip ys).flatMap (Xl m))
 | [],[],i,acc,_,_,_ => ⟨fun r => by simp [Q2],fun p hp => (hp.no).elim⟩
 | c :: cs,y :: ys,i,acc,hn,hok,hlen => by
  have hc:=ZA2 (hn c (List.mem_cons_self ..)) hm hok.1
  have hl:=hlen 0 (by simp)
  simp only [List.getElem_cons_zero,Nat.add_zero] at hl
  have ih:=Zjo (n:=n) (o:=o) (p:=p) hm cs ys (i + 1) (acc ++ c) (fun d hd => hn d (List.mem_cons_of_mem _ hd)) hok.2 (fun j hj => by
   have:=hlen (j + 1) (by simpa using hj)
   simp only [List.getElem_cons_succ] at this
   rw [this]
   congr 1
   split <;> split <;> omega)
  constructor
  ·intro r
   have:=ih.ok r
   rw [List.zip_cons_cons,List.flatMap_cons,List.append_assoc,List.length_cons]
   unfold Q2
   rw [← hl,hc.ok]
   simp only
   rw [if_neg (by simp),this,List.flatten_cons,List.append_assoc]
  ·intro q hq
   rw [List.zip_cons_cons,List.flatMap_cons] at hq
   simp only [List.length_cons]
   unfold Q2
   rw [← hl]
   rcases hq.split with h1 | ⟨t,rfl,h1⟩
   ·have:=hc.tail q h1
    rw [if_pos (by rw [this]; decide)]
    exact this
   ·rw [hc.ok t]
    simp only
    rw [if_neg (by simp)]
    exact ih.tail t h1
theorem Zjs {size:Nat}:∀ (d:Nat) (r:List Int),r.length = d * size → (YF size d r).flatten = r ∧ ∀ c ∈ YF size d r,c.length = size
 | 0,r,h => by
  have:r = []:=List.length_eq_zero_iff.1 (by omega)
  subst this
  simp [YF]
 | d + 1,r,h => by
  have hs:(d + 1) * size = d * size + size:=by rw [Nat.add_mul,Nat.one_mul]
  obtain ⟨h1,h2⟩:=Zjs (size:=size) d (r.drop size) (by rw [List.length_drop]; omega)
  refine ⟨?_,?_⟩
  ·simp only [YF,List.flatten_cons,h1,List.take_append_drop]
  ·intro c hc
   rcases List.mem_cons.1 hc with rfl | hc
   ·rw [List.length_take]; omega
   ·exact h2 c hc
theorem Zzh {l:List Int} {o p:Nat} (hf:ZcD (l.length + o) o p = true):(X1 l o p).flatten = l ∧ ∀ (j:Nat) (h:j < (X1 l o p).length),(X1 l o p)[j].length = (l.length + o) / 2 ^ p - if 0 + j = 0 then o else 0:=by
 unfold ZcD at hf
 simp only [Bool.and_eq_true,decide_eq_true_eq] at hf
 obtain ⟨hm,ho⟩:=hf
 have h0:0 < 2 ^ p:=Nat.pow_pos (by omega)
 have hd:(l.length + o) / 2 ^ p ≤ l.length + o:=Nat.div_le_self _ _
 have hmul:2 ^ p * ((l.length + o) / 2 ^ p) = l.length + o:=by have:=Nat.div_add_mod (l.length + o) (2 ^ p); omega
 unfold X1
 generalize (l.length + o) / 2 ^ p = size at ho hd hmul
 have e3:(2 ^ p - 1) * size = 2 ^ p * size - size:=by rw [Nat.sub_mul,Nat.one_mul]
 have hps:size ≤ 2 ^ p * size:=Nat.le_mul_of_pos_left _ h0
 obtain ⟨h1,h2⟩:=Zjs (size:=size) (2 ^ p - 1) (l.drop (size - o)) (by
  rw [List.length_drop,e3,hmul]
  omega)
 refine ⟨by rw [List.flatten_cons,h1,List.take_append_drop],?_⟩
 intro j hj
 match j,hj with
 | 0,_ =>
  simp only [List.getElem_cons_zero]
  rw [if_pos trivial,List.length_take]
  clear h1 h2 e3
  generalize 2 ^ p * size = M at hmul hps
  omega
 | j + 1,hj =>
  simp only [List.getElem_cons_succ]
  rw [if_neg (show ¬ 0 + (j + 1) = 0 by omega),Nat.sub_zero]
  exact h2 _ (List.getElem_mem _)
theorem ZA7 {l:List Int} {o:Nat} (h:XZ l (o:Nat) = 0):Enc (Yy (l.length + o) o) l (WY l o):=by
 obtain ⟨h1,h2⟩:=ZdM.1 h
 have hl:=YR h2
 obtain ⟨_,q,hg⟩:=KG hl (o:=o) (by omega) (by omega)
 unfold WY ZdI
 have hys:=hg.ys
 generalize Ws l o = R at hg hys
 obtain ⟨m,p,sz,ys⟩:=R
 obtain ⟨hp,p4,hfit,hm,hparts⟩:=hg
 simp only at hp hm hys
 subst hp
 obtain ⟨mn,hmn⟩:∃ mn:Nat,m = (mn:Int):=⟨m.toNat,by omega⟩
 subst hmn
 simp only [WS]
 have hm':mn = 0 ∨ mn = 1:=by omega
 have hM:=Kj (n:=mn) (w:=2) (by omega)
 have hP:=Kj (n:=q) (w:=4) (by omega)
 obtain ⟨hflat,hlen⟩:=Zzh hfit
 have hB:=Zjo (n:=l.length + o) (o:=o) (p:=q) hm' (X1 l o q) ys 0 [] (fun c hc x hx => hl x (KZ hc x hx)) hys hlen
 rw [List.nil_append,hflat,Zgx] at hB
 have hbb:ZaT ((l.length + o:Nat):Int) ((o:Nat):Int) = true:=WH (by omega)
 rw [List.append_assoc]
 constructor
 ·intro r
  have:=hB.ok r
  unfold Yy
  rw [if_neg (by rw [hbb]; simp),List.append_assoc,hM.ok,List.append_assoc]
  simp only
  rw [if_neg (by simp),if_neg (by omega),hP.ok]
  simp only
  rw [if_neg (by simp),if_neg (by rw [hfit]; simp),this]
 ·intro p hp
  unfold Yy
  rw [if_neg (by rw [hbb]; simp)]
  rcases hp.split with h3 | ⟨t,rfl,h3⟩
  ·have:=hM.tail p h3
   rw [if_pos (by rw [this]; decide)]
   exact this
  ·rw [hM.ok]
   simp only
   rw [if_neg (by simp),if_neg (by omega)]
   rcases h3.split with h4 | ⟨u,rfl,h4⟩
   ·have:=hP.tail t h4
    rw [if_pos (by rw [this]; decide)]
    exact this
   ·rw [hP.ok]
    simp only
    rw [if_neg (by simp),if_neg (by rw [hfit]; simp)]
    exact hB.tail u h4
end Go.Sh
namespace Go.Sh
open Go Go.Proofs
theorem Xi {w:Nat} {s:IS} (h:s.2 ≠ 0):gI w s = (0,s):=by unfold gI; rw [if_neg h]
theorem QH {ok:Bool} {s:IS} {code:Int} (h:s.2 ≠ 0):mI ok s code = s:=by unfold mI; rw [if_neg (fun hh => h hh.1)]
theorem K9 {w:Nat}:∀ (n:Nat) (s:IS) (acc:List Int),s.2 ≠ 0 → (Xx w n s acc).2 = s
 | 0,s,acc,h => rfl
 | n + 1,s,acc,h => by
  unfold Xx
  rw [if_neg h]
  exact K9 n s _ h
theorem Ki {n w:Nat} (h:n < 2 ^ w) (r:List Bool):gI w (Zb n w ++ r,0) = (n,(r,0)):=by
 unfold gI
 rw [if_pos rfl,(Kj h).ok]
theorem KI {n w:Nat} (h:n < 2 ^ w) {p:List Bool} (hp:SP p (Zb n w)):(gI w (p,0)).2.2 = 10:=by
 unfold gI
 rw [if_pos rfl]
 exact (Kj h).tail p hp
structure EncI {α:Type} (f:IS → α × IS) (v:α) (A:List Bool):Prop where
 ok:∀ r,f (A ++ r,0) = (v,(r,0))
 tail:∀ p,SP p A → (f (p,0)).2.2 = 10
theorem ZbG {w:Nat}:∀ (xs acc:List Int),(∀ x ∈ xs,W9 x w = true) → EncI (fun s => Xx w xs.length s acc) (acc ++ xs) (xs.flatMap fun n => Wl n w)
 | [],acc,_ => ⟨fun r => by simp [Xx],fun p hp => (hp.no).elim⟩
 | x :: xs,acc,h => by
  have hx:=ZpB (h x (List.mem_cons_self ..))
  have ih:=ZbG xs (acc ++ [x]) fun y hy => h y (List.mem_cons_of_mem _ hy)
  constructor
  ·intro r
   have:=ih.ok r
   rw [List.flatMap_cons,List.append_assoc,List.length_cons]
   unfold Xx
   rw [if_pos rfl,hx.ok,this,List.append_assoc]
   rfl
  ·intro p hp
   rw [List.flatMap_cons] at hp
   simp only [List.length_cons]
   unfold Xx
   rw [if_pos rfl]
   rcases hp.split with h1 | ⟨q,rfl,h1⟩
   ·have:=hx.tail p h1
    rw [K9 _ _ _ (by simp only; rw [this]; decide)]
    exact this
   ·rw [hx.ok q]
    exact ih.tail q h1
theorem ZH5 {kind:Nat} (h:kind < 64):Zb kind 7 = Zb 0 1 ++ Zb kind 6:=by
 have:kind.testBit 6 = false:=Nat.testBit_lt_two_pow (by omega)
 show kind.testBit 6 :: Zb kind 6 = (0:Nat).testBit 0 :: Zb kind 6
 rw [this]
 rfl
theorem Zvq (r:List Bool):Zai (Zb 0 1 ++ r,0) = (r,0):=by
 unfold Zai
 rw [Ki (n:=0) (w:=1) (by omega)]
 rfl
theorem Zxs {p:List Bool} (hp:SP p (Zb 0 1)):(Zai (p,0)).2 = 10:=by
 have h:=KI (n:=0) (w:=1) (by omega) hp
 unfold Zai
 rw [QH (by rw [h]; decide),h]
theorem Zvr {kind:Nat} (h:kind < 64) (hk:ZbD kind = true) (r:List Bool):Yj (Zb kind 6 ++ r,0) = (kind,(r,0)):=by
 unfold Yj
 rw [Ki (w:=6) (by omega),hk,WP]
theorem Zvs {s:IS} (h:s.2 ≠ 0):(Yj s).2 = s:=by
 unfold Yj
 rw [Xi h]
 exact QH h
theorem Zxt {kind:Nat} (h:kind < 64) {p:List Bool} (hp:SP p (Zb kind 6)):(Yj (p,0)).2.2 = 10:=by
 have h:=KI (w:=6) (by omega) hp
 unfold Yj
 simp only
 rw [QH (by rw [h]; decide),h]
theorem ZjO {kind d:Nat} {s:IS} (h:s.2 ≠ 0):(ZbS kind d s).2.2 = s:=by
 unfold ZbS
 rw [Xi h,if_neg (by simp)]
 exact QH h
def Zk5 (kk:Nat):List Bool:=if 0 < kk then [true] ++ (List.replicate (kk - 1) false ++ [true]) else [false]
theorem ZE2 {kind d kk:Nat} (h:kk < d) (r:List Bool):ZbS kind d (Zk5 kk ++ r,0) = (kind,kk,(r,0)):=by
 unfold ZbS Zk5
 by_cases h0:0 < kk
 ·rw [if_pos h0]
  have e:=Ki (n:=1) (w:=1) (by omega) ((List.replicate (kk - 1) false ++ [true]) ++ r)
  rw [show Zb 1 1 = [true] from rfl] at e
  rw [List.append_assoc,e,if_pos ⟨rfl,rfl⟩]
  simp only
  rw [(Zh4 (kk - 1)).ok r]
  simp only
  rw [show kk - 1 + 1 = kk by omega,WH h,WP]
 ·rw [if_neg h0]
  have e:=Ki (n:=0) (w:=1) (by omega) r
  rw [show Zb 0 1 = [false] from rfl] at e
  obtain rfl:kk = 0:=by omega
  rw [e,if_neg (by simp)]
  simp only
  rw [WH h,WP]
theorem Zxv {kind d kk:Nat} {p:List Bool} (hp:SP p (Zk5 kk)):(ZbS kind d (p,0)).2.2.2 = 10:=by
 unfold Zk5 at hp
 by_cases h0:0 < kk
 ·rw [if_pos h0] at hp
  rcases hp.split with h1 | ⟨q,rfl,h1⟩
  ·have h:=KI (n:=1) (w:=1) (by omega) (show SP p (Zb 1 1) from h1)
   unfold ZbS
   rw [if_neg (fun hh => by rw [h] at hh; exact absurd hh.2 (by decide))]
   simp only
   rw [QH (by rw [h]; decide),h]
  ·have e:=Ki (n:=1) (w:=1) (by omega) q
   rw [show Zb 1 1 = [true] from rfl] at e
   have h:=(Zh4 (kk - 1)).tail q h1
   unfold ZbS
   rw [e,if_pos ⟨rfl,rfl⟩]
   simp only
   rw [QH (by simp only; rw [h]; decide)]
   exact h
 ·rw [if_neg h0] at hp
  have h:=KI (n:=0) (w:=1) (by omega) (show SP p (Zb 0 1) from hp)
  unfold ZbS
  rw [if_neg (fun hh => by rw [h] at hh; exact absurd hh.2 (by decide))]
  simp only
  rw [QH (by rw [h]; decide),h]
theorem ZnU {kind kk d:Nat} (h:kind < 64) (hk:ZbD kind = true) (hd:kk < d) (r:List Bool):ZS d (XM kind kk ++ r,0) = (kind,kk,(r,0)):=by
 unfold ZS XM
 rw [WS,ZH5 h,List.append_assoc,List.append_assoc,Zvq,Zvr h hk]
 exact ZE2 hd r
theorem ZsG {kind kk d:Nat} (h:kind < 64) (hk:ZbD kind = true) {p:List Bool} (hp:SP p (XM kind kk)):(ZS d (p,0)).2.2.2 = 10:=by
 unfold XM at hp
 rw [WS,ZH5 h,List.append_assoc] at hp
 unfold ZS
 rcases hp.split with h1 | ⟨q,rfl,h1⟩
 ·have e:=Zxs h1
  have e2:=Zvs (s:=Zai (p,0)) (by rw [e]; decide)
  rw [e2,ZjO (by rw [e]; decide),e]
 ·rw [Zvq]
  rcases h1.split with h2 | ⟨t,rfl,h2⟩
  ·have e:=Zxt h h2
   rw [ZjO (by rw [e]; decide),e]
  ·rw [Zvr h hk]
   exact Zxv h2
theorem Zvf {c:List Int} {sh:Int} {s:List Int} (hs:s.any Qo = false):∀ (d i:Nat),i + d = s.length → ZhT c sh (ZnF c sh s d i) (s.take i) = (s,0)
 | 0,i,h => by
  rw [List.take_of_length_le (by omega)]
  rfl
 | d + 1,i,h => by
  have hi:i < s.length:=by omega
  simp only [ZnF]
  unfold ZhT
  have e:ZnE c sh s i + Zcx c sh (s.take i) = s[i]:=by
   unfold ZnE
   rw [YZ hi]
   omega
  have hw:Qo s[i] = false:=by
   rw [List.any_eq_false] at hs
   have:=hs s[i] (List.getElem_mem hi)
   simpa using this
  have ht:s.take i ++ [s[i]] = s.take (i + 1):=by rw [List.take_add_one,List.getElem?_eq_getElem hi]; rfl
  rw [e,hw,if_neg (by simp),ht]
  exact Zvf hs d (i + 1) (by omega)
theorem Zsy {c s:List Int} {sh:Int} (h:(QK c sh s).2 = 0):Zaa c sh = true ∧ c.length ≤ s.length ∧ s.any Qo = false ∧ (XE c sh s).any Qo = false:=by
 unfold QK at h
 split at h
 ·simp at h
 ·split at h
  ·simp at h
  ·split at h
   ·simp at h
   ·split at h
    ·simp at h
    ·rename_i h1 h2 h3 h4
     exact ⟨by simpa using h1,by omega,by simpa using h3,by simpa using h4⟩
theorem Zvh {c s:List Int} {sh:Int} (h:(QK c sh s).2 = 0):Kq c sh (s.take c.length) (XE c sh s) = (s,0):=by
 obtain ⟨h1,h2,h3,h4⟩:=Zsy h
 unfold Kq
 have ht:(s.take c.length).any Qo = false:=by
  rw [List.any_eq_false] at h3 ⊢
  exact fun x hx => h3 x (List.mem_of_mem_take hx)
 rw [if_neg (by rw [h1]; simp),if_neg (by rw [List.length_take]; omega),if_neg (by rw [ht]; simp),if_neg (by rw [h4]; simp)]
 exact Zvf h3 (s.length - c.length) c.length (by omega)
theorem Zor {c s:List Int} {sh:Int} (h:(QK c sh s).2 = 0) (h1:1 ≤ s.length) (h2:s.length ≤ 512):EncI (Za5 c sh c.length s.length (s.take c.length)) s (WY (XE c sh s) c.length):=by
 obtain ⟨hl,h8,hr⟩:=Y1 h h1 h2
 obtain ⟨e1,_,_⟩:=ZdO h
 rw [e1] at hl hr
 have hE:=ZA7 hr
 rw [hl] at hE
 constructor
 ·intro r
  unfold Za5
  simp only
  rw [hE.ok r]
  simp only
  rw [if_neg (by simp),Zvh h]
 ·intro p hp
  unfold Za5
  simp only
  have:=hE.tail p hp
  rw [if_pos (by rw [this]; decide)]
  exact this
theorem Zgm {num:Bool} {c n:Nat} {w:List Int × IS} (h:w.2.2 ≠ 0):(Zan num c n w).2 = w.2:=by
 unfold Zan
 split
 ·have e1:Kz w.2 = w.2:=by unfold Kz; rw [Xi h]; exact QH h
  have e2:(Q6 w.2).2 = w.2:=by unfold Q6; rw [Xi h]; exact QH h
  rw [e1,e2]
  have e3:=K9 (w:=12) c w.2 [] h
  unfold Zct
  rw [e3,if_pos h]
 ·first
  | rfl
  | rw [if_pos h]
theorem Zza {s:List Int} {d:Nat} {x:W6} (h1:1 ≤ s.length) (h2:s.length ≤ 512) (hs:∀ y ∈ s,W9 y d = true) (hx:ZcG s d x):∃ kind:Nat,x.1 = (kind:Int) ∧ kind < 64 ∧ ZbD kind = true ∧ EncI (Wy kind s.length d) s (XG s d x):=by
 unfold XG
 rcases hx with ⟨rfl,hall⟩ | rfl | ⟨o,ho,hos,hx⟩ | ⟨o,ho,hos,hx⟩
 ·refine ⟨0,rfl,by omega,rfl,?_⟩
  simp only
  rw [if_pos trivial]
  match s,h1,hall,hs with
  | a :: s',_,hall,hs =>
   have hE:=ZbG (w:=d) [a] [] (fun y hy => hs y (by simp at hy; simp [hy]))
   have hrep:List.replicate (a :: s').length a = a :: s':=by
    symm
    rw [List.eq_replicate_iff]
    refine ⟨rfl,fun y hy => ?_⟩
    have:=List.all_eq_true.1 hall y hy
    simpa using this
   constructor
   ·intro r
    have:=hE.ok r
    show Wy 0 _ _ _ = _
    unfold Wy
    rw [if_pos rfl]
    simp only [List.length_singleton,List.nil_append] at this
    rw [show (a :: s').take 1 = [a] from rfl,this]
    simp only [List.headD_cons]
    rw [hrep]
   ·intro p hp
    have:=hE.tail p hp
    unfold Wy
    rw [if_pos rfl]
    exact this
 ·refine ⟨1,rfl,by omega,rfl,?_⟩
  simp only
  rw [if_neg (by omega),if_pos trivial]
  have hE:=ZbG (w:=d) s [] hs
  rw [List.nil_append] at hE
  constructor
  ·intro r
   unfold Wy
   rw [if_neg (by omega),if_pos rfl]
   exact hE.ok r
  ·intro p hp
   unfold Wy
   rw [if_neg (by omega),if_pos rfl]
   exact hE.tail p hp
 ·obtain ⟨e1,e2,e3,e4,e5,e6,e7,e8,e9,e10⟩:=Yg h1 h2 hx
  refine ⟨8 + o,by rw [e1]; omega,by omega,by unfold ZbD; rw [decide_eq_true_eq]; omega,?_⟩
  rw [e1,e2,e3,e4,if_neg (by omega),if_neg (by omega),if_neg (by omega),List.nil_append]
  have hcl:=ZmY o ho
  have hE:=ZbG (w:=d) (s.take (Xh o).length) [] (fun y hy => hs y (List.mem_of_mem_take hy))
  have hZ:=Zor e10 h1 h2
  have hlen:(s.take (Xh o).length).length = o:=by rw [List.length_take,hcl]; omega
  rw [List.nil_append,hlen] at hE
  rw [hcl] at hZ
  have shape:∀ r,Wy (8 + o) s.length d (r,0) = Zan false o s.length (Xx d o (r,0) []):=by
   intro r
   unfold Wy
   rw [if_neg (by omega),if_neg (by omega),if_neg (by omega),show 8 + o - 8 = o by omega]
   unfold Zfa
   rw [WH hos,WP,if_neg (by simp)]
  constructor
  ·intro r
   have e:=hE.ok (WY (XE (Xh o) 0 s) (Xh o).length ++ r)
   rw [shape,List.append_assoc,e]
   unfold Zan
   rw [if_neg (by simp),if_neg (by simp),Nat.min_eq_right ho]
   rw [hcl]
   exact hZ.ok r
  ·intro p hp
   rw [shape]
   rcases hp.split with h3 | ⟨q,rfl,h3⟩
   ·have:=hE.tail p h3
    rw [Zgm (by rw [this]; decide)]
    exact this
   ·have e:=hE.ok q
    rw [e]
    unfold Zan
    rw [if_neg (by simp),if_neg (by simp),Nat.min_eq_right ho]
    rw [hcl] at h3 ⊢
    exact hZ.tail q h3
 ·obtain ⟨e1,e2,e3,e4,e5,e6,e7,e8,e9,e10⟩:=Yg h1 h2 hx
  obtain ⟨hsl,hsr⟩:=Zga s o ho
  refine ⟨31 + o,by rw [e1]; omega,by omega,by unfold ZbD; rw [decide_eq_true_eq]; omega,?_⟩
  rw [e1,e2,e3,e4,if_neg (by omega),if_neg (by omega),if_pos (by omega)]
  generalize ZaO s o = c at hsl hsr e6 e7 e8 e9 e10
  have hE:=ZbG (w:=d) (s.take c.length) [] (fun y hy => hs y (List.mem_of_mem_take hy))
  have hC:=ZbG (w:=12) c [] (fun y hy => by
   have:=hsr y hy
   unfold W9
   rw [if_neg (by omega),decide_eq_true_eq]
   omega)
  have hZ:=Zor e10 h1 h2
  have hlen:(s.take c.length).length = o:=by rw [List.length_take,hsl]; omega
  rw [List.nil_append,hlen] at hE
  rw [List.nil_append,hsl] at hC
  rw [hsl] at hZ
  have e4':(4:Int).toNat = 4:=rfl
  rw [e4']
  have shape:∀ r,Wy (31 + o) s.length d (r,0) = Zan true o s.length (Xx d o (r,0) []):=by
   intro r
   unfold Wy
   rw [if_neg (by omega),if_neg (by omega),if_pos (by omega),show 31 + o - 31 = o by omega]
   unfold Zfa
   rw [WH (show o ≤ s.length by omega),WP,if_neg (by simp)]
  have cA:∀ r,Kz (Zb 11 4 ++ r,0) = (r,0):=by
   intro r
   unfold Kz
   rw [Ki (n:=11) (w:=4) (by omega)]
   rfl
  have cB:∀ r,Q6 (Zb 4 5 ++ r,0) = (4,(r,0)):=by
   intro r
   unfold Q6
   rw [Ki (n:=4) (w:=5) (by omega)]
   rfl
  have cAs:∀ s:IS,s.2 ≠ 0 → Kz s = s:=fun s h => by unfold Kz; rw [Xi h]; exact QH h
  have cBs:∀ s:IS,s.2 ≠ 0 → (Q6 s).2 = s:=fun s h => by unfold Q6; rw [Xi h]; exact QH h
  constructor
  ·intro r
   have e:=hE.ok (Zb 11 4 ++ (Zb 4 5 ++ (c.flatMap (fun n => Wl n 12) ++ (WY (XE c 4 s) c.length ++ r))))
   rw [shape]
   have ha:((s.take c.length).flatMap (fun n => Wl n d) ++ (Zb 11 4 ++ (Zb 4 5 ++ c.flatMap fun n => Wl n 12) ++ WY (XE c 4 s) c.length)) ++ r = (s.take c.length).flatMap (fun n => Wl n d) ++ (Zb 11 4 ++ (Zb 4 5 ++ (c.flatMap (fun n => Wl n 12) ++ (WY (XE c 4 s) c.length ++ r)))):=by
    simp only [List.append_assoc]
   rw [ha,e]
   unfold Zan
   rw [if_pos rfl]
   simp only
   rw [cA,cB]
   simp only
   rw [hC.ok]
   unfold Zct
   rw [if_neg (by simp)]
   simp only
   have:=hZ.ok r
   rw [hsl]
   exact this
  ·intro p hp
   rw [shape]
   rcases hp.split with h3 | ⟨q,rfl,h3⟩
   ·have:=hE.tail p h3
    rw [Zgm (by rw [this]; decide)]
    exact this
   ·have e:=hE.ok q
    rw [e]
    unfold Zan
    rw [if_pos rfl]
    simp only
    rw [List.append_assoc] at h3
    have fail:∀ t:IS,t.2 = 10 → (Zct o s.length (s.take c.length) (Q6 t).1 (Xx 12 o (Q6 t).2 [])).2.2 = 10:=by
     intro t ht
     have hne:t.2 ≠ 0:=by rw [ht]; decide
     rw [cBs t hne]
     have:=K9 (w:=12) o t [] hne
     unfold Zct
     rw [this,if_pos hne,ht]
    rcases h3.split with h4 | ⟨u,rfl,h4⟩
    ·refine fail _ ?_
     have:=KI (n:=11) (w:=4) (by omega) h4
     unfold Kz
     rw [QH (by rw [this]; decide),this]
    ·rw [cA]
     rw [List.append_assoc] at h4
     rcases h4.split with h5 | ⟨v,rfl,h5⟩
     ·have:=KI (n:=4) (w:=5) (by omega) h5
      have e5:(Q6 (u,0)).2.2 = 10:=by
       unfold Q6
       simp only
       rw [QH (by rw [this]; decide),this]
      have:=K9 (w:=12) o (Q6 (u,0)).2 [] (by rw [e5]; decide)
      unfold Zct
      rw [this,if_pos (by rw [e5]; decide),e5]
     ·rw [cB]
      simp only
      rcases h5.split with h6 | ⟨z,rfl,h6⟩
      ·have:=hC.tail v h6
       unfold Zct
       rw [if_pos (by rw [this]; decide)]
       exact this
      ·rw [hC.ok]
       unfold Zct
       rw [if_neg (by simp)]
       simp only
       rw [hsl] at h6 ⊢
       exact hZ.tail z h6
theorem ZsH {s:List Int} {d:Nat} (h1:1 ≤ s.length) (h2:s.length ≤ 512) (hd:4 ≤ d ∧ d ≤ 25) (hs:∀ y ∈ s,W9 y d = true):Enc (QI s.length d) s (Q3 s d):=by
 obtain ⟨x,_,hok,hsub,_,_⟩:=Zcp s d h1 h2
 have hw:=ZbX (by omega) hs
 have hsg:=Zgb (by omega) hs
 have hsl:=KV s
 have hback:(QQ s).map (fun x => x * 2 ^ ZB s) = s:=by
  unfold QQ
  rw [List.map_map]
  conv => rhs; rw [← List.map_id s]
  apply List.map_congr_left
  intro y hy
  exact ZuO (Zgf y hy)
 obtain ⟨kind,hk1,hk2,hk3,hB⟩:=Zza (by omega) (by omega) hsg hok
 rw [hsub,hk1]
 rw [hsl] at hB
 have hr:¬ ¬ (1 ≤ s.length ∧ s.length ≤ 512 ∧ 4 ≤ d ∧ d ≤ 25):=fun h => h ⟨h1,h2,hd.1,hd.2⟩
 constructor
 ·intro r
  have e:=ZnU hk2 hk3 hw (XG (QQ s) (d - ZB s) x ++ r)
  have e2:=hB.ok r
  unfold QI
  rw [if_neg hr,List.append_assoc,e]
  simp only
  rw [if_neg (by simp),e2]
  simp only
  rw [if_neg (by simp),if_pos (List.all_eq_true.2 hsg),hback]
 ·intro p hp
  unfold QI
  rw [if_neg hr]
  rcases hp.split with h3 | ⟨q,rfl,h3⟩
  ·have e:=ZsG (d:=d) hk2 hk3 h3
   rw [if_pos (by rw [e]; decide)]
   exact e
  ·have e:=ZnU hk2 hk3 hw q
   have e2:=hB.tail q h3
   rw [e]
   simp only
   rw [if_neg (by simp),if_pos (by rw [e2]; decide)]
   exact e2
end Go.Sh
namespace Go.Sh
open Go Go.Proofs
theorem ZfB:∀ (i n:Nat),WF n (i + 1) = (128 + n / 64 ^ i % 64) :: WF n i
 | 0,n => by simp [WF]
 | i + 1,n => by
  rw [show WF n (i + 1 + 1) = WF (n / 64) (i + 1) ++ [128 + n % 64] from rfl,ZfB i (n / 64),show WF n (i + 1) = WF (n / 64) i ++ [128 + n % 64] from rfl,Nat.div_div_eq_div_mul,← Nat.pow_succ']
  rfl
theorem ZlE (n i:Nat):n / 64 ^ (i + 1) * 64 + n / 64 ^ i % 64 = n / 64 ^ i:=by
 rw [Nat.pow_succ,← Nat.div_div_eq_div_mul]
 omega
theorem Zs6:∀ (i n:Nat) (t:List Int) (g:Nat),cgL i (Qr (WF n i) ++ t) (n / 64 ^ i) (n / 64 ^ i) = some (n,n)
 | 0,n,t,g => by simp [cgL,WF,Qr]
 | i + 1,n,t,g => by
  have e:Qr (WF n (i + 1)) ++ t = ((128 + n / 64 ^ i % 64:Nat):Int) :: (Qr (WF n i) ++ t):=by rw [ZfB]; rfl
  rw [e]
  have h:=Nat.mod_lt (n / 64 ^ i) (show 0 < 64 by omega)
  simp only [cgL,WS]
  rw [if_pos (by omega),show (128 + n / 64 ^ i % 64) % 64 = n / 64 ^ i % 64 by omega,ZlE]
  exact Zs6 i n t g
theorem ZxJ:∀ (i n a g:Nat),n / 64 ^ i ≤ g → ∃ a' g',cgL i [] a g = some (a',g') ∧ n ≤ g'
 | 0,n,a,g,h => ⟨a,g,rfl,by simpa using h⟩
 | i + 1,n,a,g,h => by
  refine ZxJ i n (a * 64) (g * 64 + 63) ?_
  have:=ZlE n i
  have h2:=Nat.mod_lt (n / 64 ^ i) (show 0 < 64 by omega)
  omega
theorem Zs7:∀ (i n a g j:Nat),n / 64 ^ i ≤ g → ∃ a' g',cgL i (Qr ((WF n i).take j)) a g = some (a',g') ∧ n ≤ g'
 | 0,n,a,g,j,h => ⟨a,g,by simp [cgL,WF,Qr],by simpa using h⟩
 | i + 1,n,a,g,0,h => by
  rw [List.take_zero]
  exact ZxJ (i + 1) n a g h
 | i + 1,n,a,g,j + 1,h => by
  have e:Qr ((WF n (i + 1)).take (j + 1)) = ((128 + n / 64 ^ i % 64:Nat):Int) :: Qr ((WF n i).take j):=by rw [ZfB]; rfl
  rw [e]
  have h3:=Nat.mod_lt (n / 64 ^ i) (show 0 < 64 by omega)
  simp only [cgL,WS]
  rw [if_pos (by omega),show (128 + n / 64 ^ i % 64) % 64 = n / 64 ^ i % 64 by omega]
  refine Zs7 i n _ _ j ?_
  have:=ZlE n i
  omega
theorem Zpt:∀ (k:Fin 8) (m:Fin 64),2 ≤ k.val → m.val < 2 ^ (7 - k.val) → YS (Za0 k.val m.val) = k.val ∧ Za0 k.val m.val % 2 ^ (7 - k.val) = m.val:=by decide +kernel
theorem Zu6 {n:Nat} (h2:128 ≤ n):2 ^ XV (K8 n - 1) ≤ n:=by
 obtain ⟨r2,r3,r4,r5,r6,r7⟩:=ZnK
 have r1:XV 1 = 7:=rfl
 unfold K8
 rw [if_neg (by omega)]
 repeat' split
 all_goals simp only [Nat.reduceSub,r1,r2,r3,r4,r5,r6]
 all_goals omega
theorem ZpD {kk n:Nat} (h2:2 ≤ kk) (h7:kk ≤ 7) (hlt:n < 2 ^ XV kk):n / 64 ^ (kk - 1) < 2 ^ (7 - kk):=by
 have h64:(64:Nat) = 2 ^ 6:=rfl
 rw [Nat.div_lt_iff_lt_mul (Nat.pow_pos (by omega))]
 refine Nat.lt_of_lt_of_le hlt ?_
 rw [h64,← Nat.pow_mul,← Nat.pow_add]
 refine Nat.pow_le_pow_right (by omega) ?_
 unfold XV
 rw [if_neg (by omega)]
 omega
theorem Zov {n:Nat} (h:128 ≤ n):Z2 n = Za0 (K8 n) (n / 64 ^ (K8 n - 1)) :: WF n (K8 n - 1):=by
 unfold Z2
 rw [if_neg (by omega)]
theorem ZpA {n:Nat} (h:n < 2 ^ 36) (t:List Int):Zaj (Qr (Z2 n) ++ t) = (n,(Z2 n).length,0):=by
 by_cases h128:n < 128
 ·have e:Z2 n = [n]:=by unfold Z2; rw [if_pos h128]
  rw [e]
  show Zaj ((n:Int) :: t) = _
  unfold Zaj
  simp only [WS]
  rw [if_pos (by unfold YS; rw [if_pos h128])]
  rfl
 ·obtain ⟨h1,h2⟩:=Zi2 h (by omega)
  have h7:=(Zk2 n).2
  have hm:=ZpD h1 h7 h2
  have hm64:=Zce h1 h7 h2
  have hlow:=Zu6 (n:=n) (by omega)
  rw [Zov (by omega)]
  generalize hk:K8 n = k at *
  have hft:=Zpt ⟨k,by omega⟩ ⟨n / 64 ^ (k - 1),hm64⟩ h1 hm
  simp only at hft
  show Zaj (((Za0 k (n / 64 ^ (k - 1)):Nat):Int) :: (Qr (WF n (k - 1)) ++ t)) = _
  unfold Zaj
  simp only [WS]
  rw [hft.1,hft.2,if_neg (by omega),if_neg (by omega),if_neg (by omega),Zs6 _ _ _ 0]
  simp only
  rw [if_neg (by omega),if_neg (by simp only [Wm,ZbC,KO]; omega)]
  simp only [List.length_cons,KO]
  congr 2
  omega
theorem ZAL {n:Nat} (h:n < 2 ^ 36) {j:Nat} (hj:j < (Z2 n).length):Zaj (Qr ((Z2 n).take j)) = (0,0,10):=by
 match j with
 | 0 => simp [Qr,Zaj]
 | j + 1 =>
  by_cases h128:n < 128
  ·have e:Z2 n = [n]:=by unfold Z2; rw [if_pos h128]
   rw [e] at hj
   simp at hj
  ·obtain ⟨h1,h2⟩:=Zi2 h (by omega)
   have h7:=(Zk2 n).2
   have hm:=ZpD h1 h7 h2
   have hm64:=Zce h1 h7 h2
   have hlow:=Zu6 (n:=n) (by omega)
   rw [Zov (by omega)] at hj ⊢
   generalize hk:K8 n = k at *
   have hft:=Zpt ⟨k,by omega⟩ ⟨n / 64 ^ (k - 1),hm64⟩ h1 hm
   simp only at hft
   simp only [List.length_cons,KO] at hj
   show Zaj (((Za0 k (n / 64 ^ (k - 1)):Nat):Int) :: Qr ((WF n (k - 1)).take j)) = _
   unfold Zaj
   simp only [WS]
   rw [hft.1,hft.2,if_neg (by omega),if_neg (by omega),if_neg (by omega)]
   obtain ⟨a',g',e1,e2⟩:=Zs7 (k - 1) n (n / 64 ^ (k - 1)) (n / 64 ^ (k - 1)) j (Nat.le_refl _)
   rw [e1]
   simp only
   rw [if_neg (by omega),if_pos (by rw [ZbC,List.length_take,KO]; omega)]
theorem Zif {l:List Nat} (h:∀ x ∈ l,x < 256):ZT (Qr l) = l.flatMap fun x => Zb x 8:=by
 unfold ZT Qr
 rw [List.flatMap_map]
 rfl
theorem Zfy {l:List Nat} (h:∀ x ∈ l,x < 256):ZM (Qr l) = true:=by
 refine List.all_eq_true.2 fun x hx => ?_
 obtain ⟨y,hy,rfl⟩:=List.mem_map.1 hx
 have:=h y hy
 rw [Bool.and_eq_true,decide_eq_true_eq,decide_eq_true_eq]
 omega
theorem ZEr (r:List Bool):hd1 (Zb 32764 15 ++ r,0) = (r,0):=by
 unfold hd1
 rw [Ki (w:=15) (by omega)]
 rfl
theorem ZEs (r:List Bool):hd2 (Zb 0 1 ++ r,0) = (r,0):=by
 unfold hd2
 rw [Ki (w:=1) (by omega)]
 rfl
theorem ZEt {kd:Nat} (h:kd = 6 ∨ kd = 7) (r:List Bool):hd3 (Zb kd 4 ++ r,0) = (kd,(r,0)):=by
 unfold hd3
 rw [Ki (w:=4) (by omega)]
 rcases h with rfl | rfl <;> rfl
theorem Zsd (r:List Bool):hd4 (Zb 0 4 ++ r,0) = (r,0):=by
 unfold hd4
 rw [Ki (w:=4) (by omega)]
 rfl
theorem ZEv {c:Int} {m:Nat} (h:m < 16) (hm:ZbH c m = true) (r:List Bool):hd5 c (Zb m 4 ++ r,0) = (m,(r,0)):=by
 unfold hd5
 rw [Ki (w:=4) (by omega),hm,WP]
theorem ZAP {s:IS} (h:s.2 ≠ 0):hd2 s = s:=by unfold hd2; rw [Xi h]; exact QH h
theorem ZpC {s:IS} (h:s.2 ≠ 0):(hd3 s).2 = s:=by unfold hd3; rw [Xi h]; exact QH h
theorem ZiY {s:IS} (h:s.2 ≠ 0):hd4 s = s:=by unfold hd4; rw [Xi h]; exact QH h
theorem ZAQ {c:Int} {s:IS} (h:s.2 ≠ 0):(hd5 c s).2 = s:=by unfold hd5; rw [Xi h]; exact QH h
theorem ZAR {kd:Nat} {s:IS} (h:s.2 ≠ 0):(hd6 kd s).2 = s:=by unfold hd6; rw [if_neg h]
theorem Zxc {b:List Int} {s:IS} (h:s.2 ≠ 0):(ZbI b s).2 = s:=by unfold ZbI; rw [if_pos h]
theorem ZnV {of:List Int → Nat} {b:List Int} {w:Nat} {s:IS} (h:s.2 ≠ 0):KM of b w s = s:=by unfold KM; rw [Xi h,if_pos h]
theorem Zm6 {b:List Int} {kd mode num:Nat} {s:IS} (h:s.2 ≠ 0):(ZjV b kd mode num s).2.2.2 = s:=by
 unfold ZjV
 rw [ZAR h]
 exact ZnV h
theorem ZfU {b:List Int} {kd mode:Nat} {s:IS} (h:s.2 ≠ 0):(ZuY b kd mode s).2.2.2 = s:=by
 have e:=Zxc (b:=b) h
 unfold ZuY
 rw [Zm6 (by rw [e]; exact h),e]
theorem Zm5 {c:Int} {b:List Int} {kd:Nat} {s:IS} (h:s.2 ≠ 0):(ZuX c b kd s).2.2.2 = s:=by
 have e:=ZAQ (c:=c) h
 unfold ZuX
 rw [e,ZiY h]
 exact ZfU h
theorem ZfT {c:Int} {b:List Int} {kd:Nat} {s:IS} (h:s.2 ≠ 0):(ZjU c b kd s).2.2.2 = s:=by
 unfold ZjU
 rw [ZiY h]
 exact Zm5 h
theorem K5 {w n:Nat} (h:n < 2 ^ w) {p:List Bool} (hp:SP p (Zb n w)) (ok:Bool) (code:Int):(mI ok (gI w (p,0)).2 code).2 = 10:=by
 have:=KI h hp
 rw [QH (by rw [this]; decide),this]
theorem ZnN:∀ (l:List Nat) (r:List Bool),(∀ x ∈ l,x < 256) → Zp2 l.length (l.flatMap (fun x => Zb x 8) ++ r,0) = (r,0)
 | [],r,_ => rfl
 | x :: l,r,h => by
  rw [List.flatMap_cons,List.append_assoc,List.length_cons]
  unfold Zp2
  rw [Ki (h x (List.mem_cons_self ..))]
  exact ZnN l r fun y hy => h y (List.mem_cons_of_mem _ hy)
theorem ZpR {mode num N:Nat} (hm:mode < 16):Z9 mode num N = Zb 32764 15 ++ (Zb 0 1 ++ (Zb (Qg N) 4 ++ (Zb 0 4 ++ (Zb mode 4 ++ (Zb 0 4 ++ ((Z2 num).flatMap (fun x => Zb x 8) ++ Zb (N - 1) (8 * (Qg N - 5)))))))):=by
 have e1:Zb 16382 14 ++ Zb (Qg N) 6 = Zb 32764 15 ++ (Zb 0 1 ++ Zb (Qg N) 4):=by rcases ZbE N with h | h <;> rw [h] <;> decide
 have e2:Zb mode 8 = Zb 0 4 ++ Zb mode 4:=by
  have:=Zqp mode 4 4
  rw [show mode / 2 ^ 4 = 0 from Nat.div_eq_of_lt (by omega)] at this
  exact this
 unfold Z9
 rw [← List.append_assoc,e1,e2]
 simp only [List.append_assoc]
theorem ZBz (mode kd:Nat):(Zb 32764 15 ++ (Zb 0 1 ++ (Zb kd 4 ++ (Zb 0 4 ++ (Zb mode 4 ++ Zb 0 4))))).length = 32:=by simp only [Wm,Zp]
theorem ZuZ {c:Int} {mode num N:Nat} (hm:mode < 16) (hmb:ZbH c mode = true) (hnum:num < 2 ^ 31) (h1:1 ≤ N) (h2:N ≤ 512) {Z:List Int} {r:List Bool} (hZ:ZM Z = true) (hB:ZT Z = Z5 mode num N ++ r) :
  KC c Z (ZT Z,0) = (mode,num,N,(r,0)):=by
 have hk:=ZbE N
 have hclt:=Zgr (n:=num) (by omega)
 have hzl:8 * Z.length = (Z5 mode num N).length + r.length:=by rw [← Z3,hB,Wm]
 have hpl:=ZaL mode num N
 have hhl:(Z5 mode num N).length = (Z9 mode num N).length + 8:=by unfold Z5; rw [Wm,Zp]
 have hpp:ZL (Z5 mode num N ++ r) = Z:=by rw [← hB]; exact X5 hZ
 have hp8:(Z9 mode num N).length % 8 = 0:=by omega
 unfold KC
 have hB2:ZT Z = Zb 32764 15 ++ (Zb 0 1 ++ (Zb (Qg N) 4 ++ (Zb 0 4 ++ (Zb mode 4 ++ (Zb 0 4 ++ ((Z2 num).flatMap (fun x => Zb x 8) ++ (Zb (N - 1) (8 * (Qg N - 5)) ++ (Zb (Zb5 (ZL (Z9 mode num N))) 8 ++ r)))))))):=by
  rw [hB]
  unfold Z5
  generalize Zb5 (ZL (Z9 mode num N)) = c8
  rw [ZpR hm]
  simp only [List.append_assoc]
 rw [hB2,ZEr,ZEs,ZEt hk]
 unfold ZjU
 simp only
 rw [Zsd]
 unfold ZuX
 rw [ZEv hm hmb]
 simp only
 rw [Zsd]
 unfold ZuY
 have hlw:(Zb (N - 1) (8 * (Qg N - 5))).length = 8 * (Qg N - 5):=Zp _ _
 have hnumI:ZbI Z ((Z2 num).flatMap (fun x => Zb x 8) ++ (Zb (N - 1) (8 * (Qg N - 5)) ++ (Zb (Zb5 (ZL (Z9 mode num N))) 8 ++ r)),0) = (num,(Zb (N - 1) (8 * (Qg N - 5)) ++ (Zb (Zb5 (ZL (Z9 mode num N))) 8 ++ r),0)):=by
  unfold ZbI
  rw [if_neg (by simp)]
  have hpos:ZR Z ((Z2 num).flatMap (fun x => Zb x 8) ++ (Zb (N - 1) (8 * (Qg N - 5)) ++ (Zb (Zb5 (ZL (Z9 mode num N))) 8 ++ r))) / 8 = 4:=by
   unfold ZR
   simp only [Wm,YL,Zp]
   omega
  have hdrop:Z.drop 4 = Qr (Z2 num) ++ ZL (Zb (N - 1) (8 * (Qg N - 5)) ++ (Zb (Zb5 (ZL (Z9 mode num N))) 8 ++ r)):=by
   have hb32:=ZBz mode (Qg N)
   have e:ZT Z = (Zb 32764 15 ++ (Zb 0 1 ++ (Zb (Qg N) 4 ++ (Zb 0 4 ++ (Zb mode 4 ++ Zb 0 4))))) ++ (ZT (Qr (Z2 num)) ++ (Zb (N - 1) (8 * (Qg N - 5)) ++ (Zb (Zb5 (ZL (Z9 mode num N))) 8 ++ r))):=by
    rw [hB2,Zif hclt]
    simp only [List.append_assoc]
   have e2:=congrArg ZL e
   rw [X5 hZ,Yh (by rw [hb32]),Yh (A:=ZT (Qr (Z2 num))) (by rw [Z3]; omega),X5 (Zfy hclt)] at e2
   rw [e2,List.drop_append,List.drop_eq_nil_of_le (by rw [Qc,hb32]; omega),List.nil_append,Qc,hb32]
   rfl
  simp only
  rw [hpos,hdrop,ZpA (by omega)]
  simp only
  rw [ZnN _ _ hclt,WH (by omega),WP]
 rw [hnumI]
 unfold ZjV hd6
 simp only
 rw [if_pos trivial]
 have hw:N - 1 < 2 ^ (8 * (Qg N - 5)):=by
  unfold Qg
  split
  ·show N - 1 < 2 ^ 16; omega
  ·show N - 1 < 2 ^ 8; omega
 rw [Ki hw]
 simp only
 rw [show N - 1 + 1 = N by omega,WH h2,WP]
 have hc8:=Zqx (Xk (Z9 mode num N))
 unfold KM
 rw [Ki hc8,if_neg (by simp)]
 have hpos2:ZR Z (Zb (Zb5 (ZL (Z9 mode num N))) 8 ++ r) / 8 = (Z9 mode num N).length / 8:=by
  unfold ZR
  rw [Wm,Zp]
  congr 1
  omega
 have htake:Z.take ((Z9 mode num N).length / 8) = ZL (Z9 mode num N):=by
  rw [← hpp]
  unfold Z5
  rw [List.append_assoc,Yh hp8,List.take_append_of_le_length (by rw [Qc]; omega),List.take_of_length_le (by rw [Qc]; omega)]
 simp only
 rw [hpos2,htake,show (Zb5 (ZL (Z9 mode num N)) == Zb5 (ZL (Z9 mode num N))) = true from by simp,WP]
end Go.Sh
namespace Go.Sh
open Go Go.Proofs
theorem Zlj (b:List Int) (j:Nat):(ZT b).take (8 * j) = ZT (b.take j):=by
 by_cases h:j ≤ b.length
 ·have e:ZT b = ZT (b.take j) ++ ZT (b.drop j):=by rw [← Zgk,List.take_append_drop]
  have hl:(ZT (b.take j)).length = 8 * j:=by rw [Z3,List.length_take]; omega
  rw [e,List.take_append_of_le_length (by omega),List.take_of_length_le (by omega)]
 ·rw [List.take_of_length_le (by rw [Z3]; omega),List.take_of_length_le (by omega)]
theorem ZHG {Z:List Int} {A t:List Bool} {num:Nat} (hZ:ZM Z = true) (hnum:num < 2 ^ 31) (hA:A.length = 32) (hB:ZT Z = A ++ ((Z2 num).flatMap (fun x => Zb x 8) ++ t)) :
  ZbI Z ((Z2 num).flatMap (fun x => Zb x 8) ++ t,0) = (num,(t,0)):=by
 have hclt:=Zgr (n:=num) (by omega)
 have hl:8 * Z.length = 32 + (8 * (Z2 num).length + t.length):=by rw [← Z3,hB,Wm,Wm,YL,hA]
 unfold ZbI
 rw [if_neg (by simp)]
 have hpos:ZR Z ((Z2 num).flatMap (fun x => Zb x 8) ++ t) / 8 = 4:=by
  unfold ZR
  rw [Wm,YL]
  omega
 have hdrop:Z.drop 4 = Qr (Z2 num) ++ ZL t:=by
  have e:ZT Z = A ++ (ZT (Qr (Z2 num)) ++ t):=by rw [hB,Zif hclt]
  have e2:=congrArg ZL e
  rw [X5 hZ,Yh (by rw [hA]),Yh (A:=ZT (Qr (Z2 num))) (by rw [Z3]; omega),X5 (Zfy hclt)] at e2
  rw [e2,List.drop_append,List.drop_eq_nil_of_le (by rw [Qc,hA]; omega),List.nil_append,Qc,hA]
  rfl
 simp only
 rw [hpos,hdrop,ZpA (by omega)]
 simp only
 rw [ZnN _ _ hclt,WH (by omega),WP]
theorem ZEE {Z:List Int} {A q:List Bool} {num:Nat} (hZ:ZM Z = true) (hnum:num < 2 ^ 31) (hA:A.length = 32) (hB:ZT Z = A ++ q) (hq:SP q ((Z2 num).flatMap (fun x => Zb x 8))):(ZbI Z (q,0)).2.2 = 10:=by
 have hclt:=Zgr (n:=num) (by omega)
 have hl:8 * Z.length = 32 + q.length:=by rw [← Z3,hB,Wm,hA]
 have hq2:=hq.2
 rw [YL] at hq2
 have hpos:ZR Z q / 8 = 4:=by unfold ZR; omega
 have hdrop:Z.drop 4 = Qr ((Z2 num).take (Z.length - 4)):=by
  have e1:ZT (Z.drop 4) = q:=by
   rw [← Zfw,hB,List.drop_append,List.drop_eq_nil_of_le (by omega),List.nil_append,hA]
   rfl
  have e2:q = ZT (Qr ((Z2 num).take (Z.length - 4))):=by
   have:=List.prefix_iff_eq_take.1 hq.1
   rw [← Zif hclt,show q.length = 8 * (Z.length - 4) by omega,Zlj] at this
   rw [this]
   unfold Qr
   rw [List.map_take]
  have e3:=congrArg ZL (e1.trans e2)
  rw [X5 (Zjr hZ 4),X5 (Zfy fun x hx => hclt x (List.mem_of_mem_take hx))] at e3
  exact e3
 unfold ZbI
 rw [if_neg (by simp)]
 simp only
 rw [hpos,hdrop,ZAL (n:=num) (by omega) (by omega)]
 simp only
 rw [QH (show (10:Int) ≠ 0 by decide)]
 rfl
theorem ZEx {mode num N:Nat} (hm:mode < 16):Z5 mode num N = Zb 32764 15 ++ (Zb 0 1 ++ (Zb (Qg N) 4 ++ (Zb 0 4 ++ (Zb mode 4 ++ (Zb 0 4 ++ ((Z2 num).flatMap (fun x => Zb x 8) ++ (Zb (N - 1) (8 * (Qg N - 5)) ++ Zb (Zb5 (ZL (Z9 mode num N))) 8))))))):=by
 unfold Z5
 generalize Zb5 (ZL (Z9 mode num N)) = c8
 rw [ZpR hm]
 simp only [List.append_assoc]
theorem ZAS {c:Int} {mode num N:Nat} (hm:mode < 16) (hmb:ZbH c mode = true) (hnum:num < 2 ^ 31) (h1:1 ≤ N) (h2:N ≤ 512) {Z:List Int} (hZ:ZM Z = true) (hp:SP (ZT Z) (Z5 mode num N)) :
  (KC c Z (ZT Z,0)).2.2.2.2 = 10:=by
 have hk:=ZbE N
 rw [ZEx hm] at hp
 have hc8:=Zqx (Xk (Z9 mode num N))
 generalize Zb5 (ZL (Z9 mode num N)) = c8 at hp hc8
 unfold KC
 have d:∀ {s:IS},s.2 = 10 → s.2 ≠ 0:=fun h => by rw [h]; decide
 rcases hp.split with g1 | ⟨q1,e1,k1⟩
 ·have e:(hd1 (ZT Z,0)).2 = 10:=K5 (by omega) g1 _ _
  rw [ZAP (d e),ZpC (d e),ZfT (d e),e]
 rw [e1,ZEr]
 rcases k1.split with g2 | ⟨q2,rfl,k2⟩
 ·have e:(hd2 (q1,0)).2 = 10:=K5 (by omega) g2 _ _
  rw [ZpC (d e),ZfT (d e),e]
 rw [ZEs]
 rcases k2.split with g3 | ⟨q3,rfl,k3⟩
 ·have e:(hd3 (q2,0)).2.2 = 10:=K5 (w:=4) (by omega) g3 _ _
  rw [ZfT (d e),e]
 rw [ZEt hk]
 unfold ZjU
 simp only
 rcases k3.split with g4 | ⟨q4,rfl,k4⟩
 ·have e:(hd4 (q3,0)).2 = 10:=K5 (by omega) g4 _ _
  rw [Zm5 (d e),e]
 rw [Zsd]
 unfold ZuX
 rcases k4.split with g5 | ⟨q5,rfl,k5⟩
 ·have e:(hd5 c (q4,0)).2.2 = 10:=K5 (w:=4) (by omega) g5 _ _
  rw [ZiY (d e),ZfU (d e),e]
 rw [ZEv hm hmb]
 simp only
 rcases k5.split with g6 | ⟨q6,rfl,k6⟩
 ·have e:(hd4 (q5,0)).2 = 10:=K5 (by omega) g6 _ _
  rw [ZfU (d e),e]
 rw [Zsd]
 unfold ZuY
 have hb32:=ZBz mode (Qg N)
 have e32:ZT Z = (Zb 32764 15 ++ (Zb 0 1 ++ (Zb (Qg N) 4 ++ (Zb 0 4 ++ (Zb mode 4 ++ Zb 0 4))))) ++ q6:=by
  rw [e1]
  simp only [List.append_assoc]
 rcases k6.split with g7 | ⟨q7,rfl,k7⟩
 ·have e:=ZEE hZ hnum hb32 e32 g7
  rw [Zm6 (d e),e]
 rw [ZHG hZ hnum hb32 e32]
 unfold ZjV
 have hw:N - 1 < 2 ^ (8 * (Qg N - 5)):=by
  unfold Qg
  split
  ·show N - 1 < 2 ^ 16; omega
  ·show N - 1 < 2 ^ 8; omega
 simp only
 rcases k7.split with g8 | ⟨q8,rfl,k8⟩
 ·have e:(hd6 (Qg N) (q7,0)).2.2 = 10:=by
   unfold hd6
   rw [if_pos rfl]
   exact K5 hw g8 _ _
  rw [ZnV (d e),e]
 have e:(hd6 (Qg N) (Zb (N - 1) (8 * (Qg N - 5)) ++ q8,0)).2 = (q8,0):=by
  unfold hd6
  rw [if_pos rfl,Ki hw]
  simp only
  rw [show N - 1 + 1 = N by omega,WH h2,WP]
 rw [e]
 have e8:=KI hc8 k8
 unfold KM
 rw [if_pos (by rw [e8]; decide),e8]
end Go.Sh
namespace Go.Sh
open Go Go.Proofs
theorem Zqv {N:Nat} (h1:1 ≤ N) (h2:N ≤ 512):∀ (ls:List (List Int)) (ds:List Int) (acc:List (List Int)),ls.length = ds.length →
  (∀ (i:Nat) (h1:i < ls.length) (h2:i < ds.length),ls[i].length = N ∧ (4 ≤ ds[i].toNat ∧ ds[i].toNat ≤ 25) ∧ ∀ x ∈ ls[i],W9 x ds[i].toNat = true) →
  Enc (fun r => Zgq N ds r acc) (acc ++ ls) (Z4 ls ds)
 | [],[],acc,_,_ => ⟨fun r => by simp [Zgq,Z4],fun p hp => (SP.no hp).elim⟩
 | l :: ls,d :: ds,acc,hl,h => by
  obtain ⟨a,b,c⟩:=h 0 (by simp) (by simp)
  simp only [List.getElem_cons_zero] at a b c
  have hE:=ZsH (s:=l) (d:=d.toNat) (by omega) (by omega) b c
  rw [a] at hE
  have ih:=Zqv h1 h2 ls ds (acc ++ [l]) (by simpa using hl) (fun i hi1 hi2 => by
   have:=h (i + 1) (by simpa using hi1) (by simpa using hi2)
   simpa only [List.getElem_cons_succ] using this)
  have hcb:Z4 (l :: ls) (d :: ds) = Q3 l d.toNat ++ Z4 ls ds:=by unfold Z4; rw [List.zip_cons_cons,List.flatMap_cons]
  rw [hcb]
  constructor
  ·intro r
   have:=ih.ok r
   rw [List.append_assoc]
   unfold Zgq
   rw [hE.ok]
   simp only
   rw [if_neg (by simp),this,List.append_assoc]
   rfl
  ·intro p hp
   unfold Zgq
   rcases hp.split with g1 | ⟨q,rfl,g1⟩
   ·have:=hE.tail p g1
    rw [if_pos (by rw [this]; decide)]
    exact this
   ·rw [hE.ok]
    simp only
    rw [if_neg (by simp)]
    exact ih.tail q g1
theorem ZHX {m l r:Int} (hm:ZhH m):tgL m (apA m l r) (apB m l r) = l ∧ tgR m (apA m l r) (apB m l r) = r:=by
 unfold tgL tgR apA apB
 rcases hm with rfl | rfl | rfl | rfl <;> simp <;> omega
theorem Zp8 {m:Int} (hm:ZhH m):∀ (L R:List Int),L.length = R.length → Ze8 m (Ww m L R) (Wx m L R) = L ∧ Ze9 m (Ww m L R) (Wx m L R) = R
 | [],[],_ => ⟨rfl,rfl⟩
 | l :: L,r :: R,h => by
  obtain ⟨e1,e2⟩:=Zp8 hm L R (by simpa using h)
  obtain ⟨e3,e4⟩:=ZHX (l:=l) (r:=r) hm
  constructor
  ·show tgL m (apA m l r) (apB m l r) :: Ze8 m (Ww m L R) (Wx m L R) = _
   rw [e1,e3]
  ·show tgR m (apA m l r) (apB m l r) :: Ze9 m (Ww m L R) (Wx m L R) = _
   rw [e2,e4]
theorem ZH3 {pad:Nat} (hp:pad < 8) {t:List Bool} (ht:t.length % 8 = 0):alS (List.replicate pad false ++ t) = (0,t):=by
 have hl:(List.replicate pad false ++ t).length % 8 = pad:=by rw [Wm,List.length_replicate]; omega
 unfold alS
 rw [hl,List.take_append_of_le_length (by rw [List.length_replicate]; omega),List.take_of_length_le (by rw [List.length_replicate]; omega),if_pos,List.drop_append,List.drop_eq_nil_of_le (by rw [List.length_replicate]; omega),List.length_replicate,Nat.sub_self,List.drop_zero,List.nil_append]
 rw [List.all_eq_true]
 intro x hx
 rw [List.eq_of_mem_replicate hx]
 rfl
structure Made (c d r n:Int) (ch:List (List Int)) (mode num N:Nat) (ls:List (List Int)) (ds:List Int):Prop where
 hm:mode < 16
 hmb:ZbH c mode = true
 hnum:num < 2 ^ 31
 hn:n = (num:Int)
 h1:1 ≤ N
 h2:N ≤ 512
 els:ls = (Yr ch).1
 eds:ds = Qd c d (mode:Int)
 emode:(Yr ch).2 = (mode:Int)
 eN:(ch.headD []).length = N
 len:ls.length = ds.length
 all:∀ (i:Nat) (h1:i < ls.length) (h2:i < ds.length),ls[i].length = N ∧ (4 ≤ ds[i].toNat ∧ ds[i].toNat ≤ 25) ∧ ∀ x ∈ ls[i],W9 x ds[i].toNat = true
 bytes:(Qw c d r n ch).1 = ZL (X0 (Z5 mode num N ++ Z4 ls ds))
theorem ZMi {c d r n:Int} {ch:List (List Int)} (h:Xc c d r n ch = 0):∃ mode num N ls ds,Made c d r n ch mode num N ls ds:=by
 obtain ⟨hs,hn,hc,hlen,hsg⟩:=YE h
 obtain ⟨hlay,⟨mode,hmode,hmc⟩,_⟩:=Zw6 h
 have hN:1 ≤ (ch.headD []).length ∧ (ch.headD []).length ≤ 512:=by
  have:0 < ch.length:=by omega
  match ch,this with
  | l :: _,_ => exact (hlen l (by simp)).2
 refine ⟨mode,n.toNat,(ch.headD []).length,(Yr ch).1,Qd c d mode,?_⟩
 rw [hmode] at hlay
 refine ⟨by omega,?_,by omega,by omega,hN.1,hN.2,rfl,rfl,hmode,rfl,hlay.len,?_,?_⟩
 ·unfold ZbH
  rcases hmc with ⟨rfl,rfl⟩ | ⟨rfl,hm⟩
  ·rfl
  ·rcases hm with rfl | rfl | rfl | rfl <;> rfl
 ·intro i h1 h2
  obtain ⟨a,b,e⟩:=hlay.all i h1 h2
  refine ⟨a,?_,e⟩
  omega
 ·unfold Qw
  rw [if_pos h,hmode,WS]
theorem Made.parts {c d r n:Int} {ch:List (List Int)} {mode num N:Nat} {ls:List (List Int)} {ds:List Int} (M:Made c d r n ch mode num N ls ds) :
  ∃ pad crc:Nat,pad < 8 ∧ crc < 2 ^ 16 ∧ ((Z4 ls ds).length + pad) % 8 = 0 ∧ (Z5 mode num N).length % 8 = 0 ∧ crc = Y4 (ZL (Z5 mode num N ++ (Z4 ls ds ++ List.replicate pad false))) ∧
   X0 (Z5 mode num N ++ Z4 ls ds) = Z5 mode num N ++ (Z4 ls ds ++ (List.replicate pad false ++ Zb crc 16)):=by
 have hh:(Z5 mode num N).length % 8 = 0:=by
  have:=ZaL mode num N
  unfold Z5
  rw [Wm,Zp]
  omega
 refine ⟨Ky (Z5 mode num N ++ Z4 ls ds).length,Y4 (ZL (XD (Z5 mode num N ++ Z4 ls ds))),by unfold Ky; omega,Ztc (Xk _),?_,hh,?_,?_⟩
 ·unfold Ky
  rw [Wm]
  omega
 ·unfold XD
  rw [List.append_assoc]
 ·unfold X0 XD
  simp only [List.append_assoc]
theorem ZA5 {c d r n:Int} {ch:List (List Int)} (h:Xc c d r n ch = 0) {more:List Int} (hm:ZM more = true):Zfn c d r ((Qw c d r n ch).1 ++ more) = ((n,ch),((Qw c d r n ch).1.length:Int),0):=by
 obtain ⟨mode,num,N,ls,ds,M⟩:=ZMi h
 obtain ⟨pad,crc,hp,hcrc,hal,hh,ecrc,eclosed⟩:=M.parts
 obtain ⟨hs,hn,hc,hlen,hsg⟩:=YE h
 have hsh:Zcn c d r = true:=WH hs
 rw [M.bytes,eclosed]
 have hclen:(Z5 mode num N ++ (Z4 ls ds ++ (List.replicate pad false ++ Zb crc 16))).length % 8 = 0:=by
  simp only [Wm,List.length_replicate,Zp]
  omega
 generalize hZ:ZL (Z5 mode num N ++ (Z4 ls ds ++ (List.replicate pad false ++ Zb crc 16))) ++ more = Z
 have hZb:ZM Z = true:=by
  rw [← hZ]
  exact List.all_eq_true.2 fun x hx => by
   rcases List.mem_append.1 hx with hx | hx
   ·exact List.all_eq_true.1 (Xk _) x hx
   ·exact List.all_eq_true.1 hm x hx
 have hB:ZT Z = Z5 mode num N ++ (Z4 ls ds ++ (List.replicate pad false ++ (Zb crc 16 ++ ZT more))):=by
  rw [← hZ,Zgk,Zli hclen]
  simp only [List.append_assoc]
 have hZl:8 * Z.length = (Z5 mode num N).length + ((Z4 ls ds).length + (pad + (16 + 8 * more.length))):=by
  rw [← Z3,hB]
  simp only [Wm,List.length_replicate,Zp,Z3]
 unfold Zfn
 rw [if_neg (by rw [hsh]; simp),ZuZ M.hm M.hmb M.hnum M.h1 M.h2 hZb hB]
 unfold Zia
 simp only
 rw [if_neg (by simp),← M.eds]
 have hch:=(Zqv M.h1 M.h2 ls ds [] M.len M.all).ok (List.replicate pad false ++ (Zb crc 16 ++ ZT more))
 rw [List.nil_append] at hch
 rw [hch]
 simp only
 rw [if_neg (by simp)]
 unfold ZmW
 rw [ZH3 hp (by rw [Wm,Zp,Z3]; omega)]
 have hsum:KM Y4 Z 16 (Zb crc 16 ++ ZT more,0) = (ZT more,0):=by
  unfold KM
  rw [Ki hcrc,if_neg (by simp)]
  have hpos:ZR Z (Zb crc 16 ++ ZT more) / 8 = (Z5 mode num N ++ (Z4 ls ds ++ List.replicate pad false)).length / 8:=by
   unfold ZR
   simp only [Wm,List.length_replicate,Zp,Z3]
   congr 1
   omega
  have htake:Z.take ((Z5 mode num N ++ (Z4 ls ds ++ List.replicate pad false)).length / 8) = ZL (Z5 mode num N ++ (Z4 ls ds ++ List.replicate pad false)):=by
   have hA:(Z5 mode num N ++ (Z4 ls ds ++ List.replicate pad false)).length % 8 = 0:=by
    simp only [Wm,List.length_replicate]
    omega
   have e:Z5 mode num N ++ (Z4 ls ds ++ (List.replicate pad false ++ Zb crc 16)) = (Z5 mode num N ++ (Z4 ls ds ++ List.replicate pad false)) ++ Zb crc 16:=by simp only [List.append_assoc]
   rw [← hZ,e,Yh hA,List.append_assoc,List.take_append_of_le_length (by rw [Qc]; omega),List.take_of_length_le (by rw [Qc]; omega)]
  simp only
  rw [hpos,htake,← ecrc,show (crc == crc) = true from by simp,WP]
 rw [hsum]
 simp only
 rw [if_neg (by simp)]
 have hpos2:ZR Z (ZT more) / 8 = (ZL (Z5 mode num N ++ (Z4 ls ds ++ (List.replicate pad false ++ Zb crc 16)))).length:=by
  unfold ZR
  rw [Qc]
  simp only [Wm,List.length_replicate,Zp,Z3]
  omega
 have hout:∀ out,out = ch → Znp c d r num (ZR Z (ZT more)) out = ((n,ch),(((ZL (Z5 mode num N ++ (Z4 ls ds ++ (List.replicate pad false ++ Zb crc 16)))).length:Nat):Int),0):=by
  intro out ho
  subst ho
  unfold Znp
  rw [← M.hn,if_neg (by simpa using h),hpos2]
 match ch,hc,hlen,hsg,M,hout,h with
 | [],hc,_,_,_,_,_ => simp at hc; omega
 | [l],hc,_,_,M,hout,_ =>
  have hc:c = 1:=by simp at hc; omega
  subst hc
  rw [if_neg (by omega)]
  exact hout ls M.els
 | [L,R],hc,hlen,hsg,M,hout,h =>
  have hc:c = 2:=by simp at hc; omega
  subst hc
  rw [if_pos (by omega)]
  have hlr:L.length = R.length:=by
   have:=(hlen R (by simp)).1
   simpa using this.symm
  have hmd:=ZfA L R
  have hls:ls = [Ww (Z8 L R) L R,Wx (Z8 L R) L R]:=M.els
  have hmo:(if Z8 L R = 0 then 1 else Z8 L R) = (mode:Int):=M.emode
  have hmm:(if mode = 1 then 0 else (mode:Int)) = Z8 L R:=by
   rcases hmd with h | h | h | h <;> rw [h] at hmo ⊢
   ·have:mode = 1:=by simp at hmo; omega
    rw [if_pos this]
   ·have:mode = 8:=by simp at hmo; omega
    rw [if_neg (by omega),this]; rfl
   ·have:mode = 9:=by simp at hmo; omega
    rw [if_neg (by omega),this]; rfl
   ·have:mode = 10:=by simp at hmo; omega
    rw [if_neg (by omega),this]; rfl
  have hg0:ls.getD 0 [] = Ww (Z8 L R) L R:=by rw [hls]; rfl
  have hg1:ls.getD 1 [] = Wx (Z8 L R) L R:=by rw [hls]; rfl
  rw [hmm,hg0,hg1]
  show Zfk 2 d r num _ (Z8 L R) (Ww (Z8 L R) L R) (Wx (Z8 L R) L R) = _
  obtain ⟨e1,e2⟩:=Zp8 hmd L R hlr
  obtain ⟨l1,l2⟩:=ZdU (m:=Z8 L R) hlr
  have htog:(QR (Z8 L R) (Ww (Z8 L R) L R) (Wx (Z8 L R) L R)).2 = 0:=by
   unfold QR
   rw [if_neg (by rw [l1,l2]; simp),e1,e2,if_pos]
   rw [List.all_eq_true]
   intro x hx
   have h1:=hsg L (by simp) x.1 (List.of_mem_zip hx).1
   have h2:=hsg R (by simp) x.2 (List.of_mem_zip hx).2
   have g1:=ZaQ (by omega) h1
   have g2:=ZaQ (by omega) h2
   rw [Bool.and_eq_true]
   unfold Yp
   rw [decide_eq_true_eq,decide_eq_true_eq]
   exact ⟨g1,g2⟩
  unfold Zfk
  rw [if_neg (by rw [htog]; simp),e1,e2]
  exact hout [L,R] rfl
 | _ :: _ :: _ :: _,hc,_,_,_,_,_ => simp at hc; omega
theorem ZER {c d r n:Int} {ch:List (List Int)} (h:Xc c d r n ch = 0) {i:Nat} (hi:i < (Qw c d r n ch).1.length):(Zfn c d r ((Qw c d r n ch).1.take i)).2.2 = 10:=by
 obtain ⟨mode,num,N,ls,ds,M⟩:=ZMi h
 obtain ⟨pad,crc,hp,hcrc,hal,hh,ecrc,eclosed⟩:=M.parts
 obtain ⟨hs,hn,hc,hlen,hsg⟩:=YE h
 have hsh:Zcn c d r = true:=WH hs
 rw [M.bytes,eclosed] at hi ⊢
 have hclen:(Z5 mode num N ++ (Z4 ls ds ++ (List.replicate pad false ++ Zb crc 16))).length % 8 = 0:=by
  simp only [Wm,List.length_replicate,Zp]
  omega
 have hZb:ZM ((ZL (Z5 mode num N ++ (Z4 ls ds ++ (List.replicate pad false ++ Zb crc 16)))).take i) = true:=Zao (Xk _) i
 have hsp:SP (ZT ((ZL (Z5 mode num N ++ (Z4 ls ds ++ (List.replicate pad false ++ Zb crc 16)))).take i)) (Z5 mode num N ++ (Z4 ls ds ++ (List.replicate pad false ++ Zb crc 16))):=by
  rw [Qc] at hi
  rw [← Zlj,Zli hclen]
  refine ⟨List.take_prefix _ _,?_⟩
  rw [List.length_take]
  omega
 generalize (ZL (Z5 mode num N ++ (Z4 ls ds ++ (List.replicate pad false ++ Zb crc 16)))).take i = Z at hZb hsp
 have hZ8:(ZT Z).length % 8 = 0:=by rw [Z3]; omega
 unfold Zfn
 rw [if_neg (by rw [hsh]; simp)]
 rcases hsp.split with g1 | ⟨q1,e1,g1⟩
 ·have e:=ZAS M.hm M.hmb M.hnum M.h1 M.h2 hZb g1
  unfold Zia
  rw [if_pos (by rw [e]; decide)]
  exact e
 ·rw [ZuZ M.hm M.hmb M.hnum M.h1 M.h2 hZb e1]
  rw [e1,Wm] at hZ8
  unfold Zia
  simp only
  rw [if_neg (by simp),← M.eds]
  have hE:=Zqv M.h1 M.h2 ls ds [] M.len M.all
  rw [List.nil_append] at hE
  rcases g1.split with g2 | ⟨q2,rfl,g2⟩
  ·have e:=hE.tail q1 g2
   rw [if_pos (by rw [e]; decide)]
   exact e
  ·rw [hE.ok q2]
   simp only
   rw [if_neg (by simp)]
   rw [Wm] at hZ8
   unfold ZmW
   rcases g2.split with g3 | ⟨q3,rfl,g3⟩
   ·have:=g3.2
    rw [List.length_replicate] at this
    omega
   ·rw [Wm,List.length_replicate] at hZ8
    rw [ZH3 hp (by omega)]
    have e:=KI hcrc g3
    have e2:(KM Y4 Z 16 (q3,0)).2 = 10:=by
     unfold KM
     rw [if_pos (by rw [e]; decide),e]
    rw [if_pos (by rw [e2]; decide)]
    exact e2
end Go.Sh
namespace Go.Sh
open Go Go.Proofs
theorem ZDN (k:Nat) (l:List Int) (hk:2000000 < k) (hl:l.length ≤ 1048576):Zuw k (l,l,()) = some (true,()):=by
 show Zhe k (ZrI k) _ = _
 simp only [Zhe]
 rw [show (Int.ofNat l.length != Int.ofNat l.length) = false from by simp]
 simp only [cond_false]
 have:=WA (A:=Unit) (R:=Bool × Unit) (step:=fun L1 => Zdf k L1) (fun i _ => (Int.ofNat i,l,l)) l (fun _ _ => some (true,()))
  (fun L _ => by simp only [Zdf]; rw [Zk (W2 _)])
  (fun L i hi _ hL => by
   simp only [Zdf]
   rw [Zc (ltR hi),Zc (inR hi),Zc (inR hi),ZY,Zk (by simp),QZ hi (by omega)]
   exact hL ()) k 0 () (by omega) (Nat.zero_le _)
 exact this
theorem ZDo (k:Nat) (n:Int) {ch:List (List Int)} (hk:2000000 < k) (h:Sm ch):Zub k ((n,ch,()),(n,ch,()),()) = some (true,()):=by
 show ZgW k (Zrq k) _ = _
 simp only [ZgW]
 have hs:=h.1
 rw [ZY,Zk (by simp),show (Int.ofNat ch.length != Int.ofNat ch.length) = false from by simp]
 simp only [cond_false]
 have:=WA (A:=Unit) (R:=Bool × Unit) (step:=fun L1 => Zc5 k L1) (fun i _ => (Int.ofNat i,n,ch,n,ch)) ch (fun _ _ => some (true,()))
  (fun L _ => by simp only [Zc5]; rw [Zk (W2 _)])
  (fun L i hi _ hL => by
   simp only [Zc5]
   rw [Zc (ltR hi),Zc (inR hi),Zc (inR hi),ZW hi,ZDN k _ hk (h.2 _ (List.getElem_mem hi))]
   simp only [Qq,Bool.not_true,cond_false]
   rw [QZ hi (by omega)]
   exact hL ()) k 0 () (by omega) (Nat.zero_le _)
 exact this
theorem ZHf (k:Nat) (hk:3000000 < k) {c d r n:Int} {ch:List (List Int)} (h:Xc c d r n ch = 0):∀ (e j i:Nat),(Qw c d r n ch).1.length ≤ i + e → e < j → i ≤ 100000 →
  Zs (fun L1 => ZkV k L1) j ((i:Int),(Qw c d r n ch).1,c,d,r) = some (true,()):=by
 intro e
 have hlen:=Zqc c d r n ch
 induction e using Nat.strongRecOn with
 | ind e ih =>
  intro j i he hj hi
  obtain ⟨j,rfl⟩:=Zv (show 0 < j by omega)
  rw [Zj]
  simp only [ZkV]
  by_cases hlt:i < (Qw c d r n ch).1.length
  ·rw [Zc (by simp only [QW]; omega),Zc (by simp only [QW]; omega),WS,List.drop_zero]
   have hbl:((Qw c d r n ch).1.take i).length ≤ 5000:=by rw [List.length_take]; omega
   refine (Zg (Zmo k c d r (Zao (ZjP c d r n ch) i) (by omega) (by omega)) _).trans ?_
   have e1:=ZER h hlt
   have e2:=ZES (c:=c) (d:=d) (r:=r) (b:=(Qw c d r n ch).1.take i) (by rw [e1]; decide)
   unfold Znr
   simp only
   rw [e1,e2]
   rw [show ((10:Int) != 10) = false from rfl,show ((0:Int) != 0) = false from rfl]
   simp only [cond_false]
   have e3:IntKind.i64.wrap (IntKind.i64.wrap ((i:Int) + (1:Int)) + IntKind.i64.wrap ((Int.ofNat (Qw c d r n ch).1.length).tdiv (20:Int))) = ((i + 1 + (Qw c d r n ch).1.length / 20:Nat):Int):=by
    have a1:(Int.ofNat (Qw c d r n ch).1.length).tdiv 20 = (((Qw c d r n ch).1.length / 20:Nat):Int):=by
     simp only [QW]
     rw [Int.tdiv_eq_ediv_of_nonneg (by omega)]
     omega
    rw [a1,Qp (n:=(i:Int) + 1) (by omega),Qp (n:=(((Qw c d r n ch).1.length / 20:Nat):Int)) (by omega),Qp (by omega)]
    omega
   rw [e3]
   exact ih (e - 1 - (Qw c d r n ch).1.length / 20) (by omega) j _ (by omega) (by omega) (by omega)
  ·rw [Zk (by simp only [QW]; omega)]
theorem ZHg (k:Nat) (hk:3000000 < k) (c d r n:Int) {ch:List (List Int)} (h:Sm ch) {more:List Int} (hm:ZM more = true):f5_F k ((c,d,r,()),(n,ch,()),more,()) = some (true,()):=by
 show ZkU k (Zyd k) _ = _
 simp only [ZkU]
 refine (Zg (Ztp k (by omega)) _).trans ?_
 simp only [Bool.not_true,cond_false]
 by_cases h1000:1000 < more.length
 ·rw [Zc (by simp only [QW]; omega)]
  exact Zg (Ztp k (by omega)) _
 rw [Zk (by simp only [QW]; omega)]
 refine (Zg (ZCV k (by omega) n h) _).trans ?_
 refine (Zg (ZtV k (by omega) c d r n ch) _).trans ?_
 have hlen:=Zqc c d r n ch
 simp only
 rw [ZY,ZBg]
 by_cases he:Xc c d r n ch = 0
 ·rw [Zk (by simpa using he),Zc (by omega),Zc (by simp only [List.nil_append]; omega)]
  have hb:ZM ([] ++ (Qw c d r n ch).1 ++ more) = true:=List.all_eq_true.2 fun x hx => by
   rw [List.nil_append] at hx
   rcases List.mem_append.1 hx with hx | hx
   ·exact List.all_eq_true.1 (ZjP c d r n ch) x hx
   ·exact List.all_eq_true.1 hm x hx
  have hbl:([] ++ (Qw c d r n ch).1 ++ more).length ≤ 6000:=by simp only [List.nil_append,Wm]; omega
  refine (Zg (Zmo k c d r hb (by omega) (by omega)) _).trans ?_
  rw [List.nil_append,ZA5 he hm]
  unfold Znr
  simp only
  rw [show ((0:Int) != 0) = false from rfl]
  simp only [cond_false]
  rw [show ((((Qw c d r n ch).1.length:Nat):Int) != Int.ofNat (Qw c d r n ch).1.length) = false from by simp]
  simp only [cond_false]
  have e21:Zuc k ((n,ch,()),()) = some ((n,ch,()),()):=rfl
  refine (Zg e21 _).trans ?_
  refine (Zg (ZDo k n (by omega) h) _).trans ?_
  simp only [Bool.not_true,cond_false]
  exact ZHf k hk he (Qw c d r n ch).1.length k 0 (by omega) (by omega) (by omega)
 ·rw [Zc he]
  unfold Qw
  rw [if_neg he]
  rfl
theorem ZBF {b:List Int} (h:Ty.ok (.sl (.int .u8)) b):ZM b = true:=by
 refine List.all_eq_true.2 fun x hx => ?_
 have:IntKind.u8.min ≤ x ∧ x ≤ IntKind.u8.max:=h x hx
 have e1:IntKind.u8.min = 0:=rfl
 have e2:IntKind.u8.max = 255:=rfl
 rw [Bool.and_eq_true,decide_eq_true_eq,decide_eq_true_eq]
 omega
theorem back_plain:∀ x:Kd.dens (WU [shapeT,frameT,.sl (.int .u8)]),ZyM [shapeT,frameT,.sl (.int .u8)] x → Zgn [shapeT,frameT,.sl (.int .u8)] x ≤ 1048576 → ∃ k u,f5_F k x = some (true,u):=by
 rintro ⟨⟨c,d,r,⟨⟩⟩,⟨n,ch,⟨⟩⟩,more,⟨⟩⟩ ho hb
 have hb:_ + (Ty.bulk frameT (n,ch,()) + _) ≤ 1048576:=hb
 exact ⟨4000000,(),ZHg 4000000 (by omega) c d r n (ZuU (n:=n) (by omega)) (ZBF ho.2.2.1)⟩
end Go.Sh
