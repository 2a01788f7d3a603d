/-
  What the row needs, part 12.
-/
import Derived.Test.YtmeahimfdhdggaaGreatDoorXFrameWrites11
import Derived.ChangeArms
import Derived.ChangeShapes
import Derived.WideShapes
import Derived.ReadAgain
import Derived.Below
import Derived.ChangeSame
import Derived.RowKit
set_option linter.unusedSimpArgs false
set_option linter.unusedVariables false
set_option linter.unusedSectionVars false
namespace Go.Sh
open Go Go.RowKit Go.WideShapes Go.ChangeShapes
def Zzm (P:Program) (g:TypeId → Ty → Bool):Nat → List Field → Ty → Bool
 | _,[],.unit => true
 | off,f :: l,.pair a b => Nat.beq f.offset off && g f.type a && Nat.beq (P.cellsOf f.type) a.size && Zzm P g (off + a.size) l b
 | _,_,_ => false
def ZdF (P:Program):Nat → TypeId → Ty → Bool
 | 0,_,_ => false
 | n + 1,T,t => match P.underlying T,t with
  | some .bool,.bool => true
  | some (.int k),.int k' => decide (k = k')
  | some .string,.str => true
  | some (.slice e),.sl t => ZdF P n e t && Nat.beq (P.cellsOf e) t.size && Nat.ble 1 t.size
  | some (.struct fs),.pair a b => Zzm P (ZdF P n) 0 fs.toList (.pair a b) && Nat.beq (P.cellsOf T) (Ty.size (.pair a b))
  | some (.struct fs),.unit => Zzm P (ZdF P n) 0 fs.toList .unit && Nat.beq (P.cellsOf T) 0
  | _,_ => false
def Ty.bulk:(t:Ty) → t.den → Nat
 | .str,s => s.size + 1
 | .sl t,xs => (xs.map t.bulk).sum + 1
 | .pair a b,x => a.bulk x.1 + b.bulk x.2
 | .unit,_ => 0
 | .bool,_ => 1
 | .int _,_ => 1
 | .fl _,_ => 1
 | .cx _,_ => 1
 | .raw,_ => 1
def Ty.ok:(t:Ty) → t.den → Prop
 | .int k,n => k.min ≤ n ∧ n ≤ k.max
 | .sl t,xs => ∀ x ∈ xs,t.ok x
 | .pair a b,x => a.ok x.1 ∧ b.ok x.2
 | .bool,_ => True
 | .str,_ => True
 | .fl _,_ => True
 | .cx _,_ => True
 | .raw,_ => True
 | .unit,_ => True
mutual
def bulkD {H:Type}:DataW H → Nat
 | .lit (.string bytes) => bytes.length + 1
 | .lit _ => 1
 | .nil => 1
 | .ptr d => bulkD d + 1
 | .slice elems spare => bulkDs elems + bulkDs spare + 1
 | .agg parts => bulkDs parts + 1
 | .iface _ d => bulkD d + 1
 | .map entries => bulkEs entries + 1
 | .held _ => 1
def bulkDs {H:Type}:List (DataW H) → Nat
 | [] => 0
 | d :: r => bulkD d + bulkDs r
def bulkEs {H:Type}:List (Lit × DataW H) → Nat
 | [] => 0
 | x :: r => bulkE x + bulkEs r
def bulkE {H:Type}:Lit × DataW H → Nat
 | (.string bytes,d) => bytes.length + bulkD d + 1
 | (_,d) => bulkD d + 1
end
def whole (w:World) (b:Nat):Nat:=match w.heap[b]? with
 | some (.cells c _ _) => c.size
 | _ => 0
theorem ZzX {w:World} {b o:Nat} {v:Value} (h:w.cell? ⟨b,o,none⟩ = some v):o < whole w b:=by
 unfold World.cell? at h
 unfold whole
 split at h
 ·rename_i c _ _ hb
  simp only at hb
  rw [hb]
  simp only [Option.isSome_none,Bool.false_eq_true,if_false] at h
  exact (Array.getElem?_eq_some_iff.1 h).1
 ·cases h
theorem ZLU (w:World):∀ b,w.heap.size ≤ b → whole w b = 0:=by
 intro b hb
 unfold whole
 rw [Array.getElem?_eq_none hb]
theorem cells?_at {w:World} {base n:Nat} {a:Addr} {cs:List Value} (h:w.cells? base a n = some cs):cs.length = n ∧ ∀ i v,cs[i]? = some v → w.cell? (a.add i) = some v:=by
 unfold World.cells? at h
 split at h
 ·have hl:=mapM_some_length h
  simp only [List.length_range] at hl
  refine ⟨hl,fun i v hi => ?_⟩
  have hlt:i < n:=by have:=(List.getElem?_eq_some_iff.1 hi).1; omega
  have:=mapM_some_get h i i (by simp [hlt])
  rw [this,hi]
 ·cases h
section
variable {H:Type} {enc:TypeId × Value → H} {P:Program} {w:World} {base:Nat} {spare:Nat → Bool} {held:Bool}
theorem Ztj {n n':Nat} (ih:∀ (T:TypeId) (t:Ty) (cs:List Value) (x:DataW H × List MemPlace),ZdF P n T t = true → DataW.trod enc P w base spare held n' T cs = some x → ∃ y,Rt w (whole w) t y cs ∧ t.ok y ∧ t.bulk y ≤ bulkD x.1) :
  ∀ (l:List Field) (t:Ty) (off:Nat) (cs:List Value) (xs:List (DataW H × List MemPlace)),Zzm P (ZdF P n) off l t = true → cs.length = off + t.size →
   (∀ (i:Nat) (f:Field),l[i]? = some f → DataW.trod enc P w base spare held n' f.type ((cs.drop f.offset).take (P.cellsOf f.type)) = xs[i]?) → xs.length = l.length →
   ∃ y,Rt w (whole w) t y (cs.drop off) ∧ t.ok y ∧ t.bulk y ≤ bulkDs (xs.map (·.1))
 | [],t,off,cs,xs,h,hl,hx,hn => by
  match t,h with
  | .unit,h =>
   refine ⟨(),?_,trivial,Nat.zero_le _⟩
   simp only [Rt,List.drop_eq_nil_iff]
   simp [Ty.size] at hl; omega
 | f :: l,t,off,cs,xs,h,hl,hx,hn => by
  match t,h with
  | .pair a b,h =>
   simp only [Zzm,Bool.and_eq_true] at h
   obtain ⟨⟨⟨h1,h2⟩,h3⟩,h4⟩:=h
   match xs,hn with
   | x :: xs,hn =>
    have h0:=hx 0 f rfl
    rw [Z6 h1,Z6 h3] at h0
    simp only [List.getElem?_cons_zero] at h0
    obtain ⟨y,e1,e2,e3⟩:=ih f.type a _ x h2 h0
    simp only [Ty.size] at hl
    obtain ⟨z,g1,g2,g3⟩:=Ztj ih l b (off + a.size) cs xs h4 (by omega) (fun i f' hf' => by simpa using hx (i + 1) f' (by simpa using hf')) (by simpa using hn)
    refine ⟨(y,z),?_,⟨e2,g2⟩,?_⟩
    ·simp only [Rt]
     refine ⟨_,_,?_,e1,g1⟩
     rw [← List.drop_drop,List.take_append_drop]
    ·simp only [Ty.bulk,List.map_cons,bulkDs]; omega
theorem ZhY:∀ (n m:Nat) (T:TypeId) (t:Ty) (cs:List Value) (x:DataW H × List MemPlace),ZdF P m T t = true → DataW.trod enc P w base spare held n T cs = some x →
  ∃ y,Rt w (whole w) t y cs ∧ t.ok y ∧ t.bulk y ≤ bulkD x.1
 | 0,_,_,_,_,_,_,h => by simp [DataW.trod] at h
 | n + 1,0,_,_,_,_,hf,_ => by simp [ZdF] at hf
 | n + 1,m + 1,T,t,cs,x,hf,h => by
  unfold ZdF at hf
  split at hf
  ·rename_i hu
   obtain ⟨b,rfl,rfl⟩:=DataW.trod_bool hu h
   exact ⟨b,rfl,trivial,Nat.le_refl _⟩
  ·rename_i k k' hu
   obtain rfl:k = k':=of_decide_eq_true hf
   obtain ⟨v,rfl,rfl,hw⟩:=DataW.trod_int hu h
   refine ⟨v,rfl,?_,Nat.le_refl _⟩
   simpa [Ty.ok,Lit.wf] using hw
  ·rename_i hu
   obtain ⟨s,rfl,rfl,_⟩:=DataW.trod_string hu h
   refine ⟨s,rfl,trivial,?_⟩
   simp only [Ty.bulk,bulkD,Array.length_toList]
   exact Nat.le_refl _
  ·rename_i e t hu
   simp only [Bool.and_eq_true] at hf
   obtain ⟨⟨hf,hsz⟩,hpos⟩:=hf
   have hsz:=Z6 hsz
   have hpos:1 ≤ t.size:=Nat.le_of_ble_eq_true hpos
   rcases DataW.trod_slice hu h with ⟨rfl,rfl⟩ | ⟨a,len,cap,elems,rest,n',hn',rfl,rfl,hb,hlc,_,hlen,hel,_⟩
   ·refine ⟨[],?_,(by simp [Ty.ok]:Ty.ok (.sl t) []),(by simp [Ty.bulk,bulkD])⟩
    simp only [Rt]
    exact ⟨none,0,0,rfl,rfl,Nat.le_refl _,.inl trivial⟩
   ·obtain rfl:n' = n:=by omega
    have each:∀ i (hi:i < elems.length),∃ cs',w.cells? base (a.add (i * P.cellsOf e)) (P.cellsOf e) = some cs' ∧ ∃ y,Rt w (whole w) t y cs' ∧ t.ok y ∧ t.bulk y ≤ bulkD elems[i].1:=by
     intro i hi
     have h1:=hel i (by omega)
     rw [List.getElem?_eq_getElem hi] at h1
     obtain ⟨cs',h2,h3⟩:=Option.bind_eq_some_iff.1 h1
     exact ⟨cs',h2,ZhY n' m e t cs' _ hf h3⟩
    -- the list
    have all:∀ (l:List (DataW H × List MemPlace)),(∀ i (hi:i < l.length),∃ y,(∃ cs',w.cells? base (a.add ((elems.length - l.length + i) * P.cellsOf e)) (P.cellsOf e) = some cs' ∧ Rt w (whole w) t y cs') ∧ t.ok y ∧ t.bulk y ≤ bulkD l[i].1) →
      l.length ≤ elems.length → ∃ ys:List t.den,ys.length = l.length ∧ (∀ y ∈ ys,t.ok y) ∧ (ys.map t.bulk).sum ≤ bulkDs (l.map (·.1)) ∧
       ∀ i (hi:i < ys.length),∃ cs',w.cells? base (a.add ((elems.length - l.length + i) * P.cellsOf e)) (P.cellsOf e) = some cs' ∧ Rt w (whole w) t ys[i] cs':=by
     intro l
     induction l with
     | nil => intro _ _; exact ⟨[],rfl,by simp,by simp [bulkDs],fun i hi => by simp at hi⟩
     | cons p l ih =>
      intro hp hle
      simp only [List.length_cons] at hle
      obtain ⟨y,⟨cs',c1,c2⟩,y1,y2⟩:=hp 0 (by simp)
      obtain ⟨ys,k1,k2,k3,k4⟩:=ih (fun i hi => by
       obtain ⟨y,⟨cs',c1,c2⟩,y1,y2⟩:=hp (i + 1) (by simpa using hi)
       refine ⟨y,⟨cs',?_,c2⟩,y1,by simpa using y2⟩
       rw [← c1]; congr 3; simp only [List.length_cons]; omega) (by omega)
      refine ⟨y :: ys,by simp [k1],?_,?_,?_⟩
      ·intro z hz
       rcases List.mem_cons.1 hz with rfl | hz
       ·exact y1
       ·exact k2 z hz
      ·simp only [List.map_cons,List.sum_cons,bulkDs]
       simp only [List.getElem_cons_zero] at y2
       omega
      ·intro i hi
       cases i with
       | zero => exact ⟨cs',c1,c2⟩
       | succ i =>
        obtain ⟨cs'',d1,d2⟩:=k4 i (by simpa using hi)
        refine ⟨cs'',?_,by simpa using d2⟩
        rw [← d1]; congr 3; simp only [List.length_cons]; omega
    obtain ⟨ys,k1,k2,k3,k4⟩:=all elems (fun i hi => by
     obtain ⟨cs',c1,y,c2,c3,c4⟩:=each i hi
     exact ⟨y,⟨cs',by simpa using c1,c2⟩,c3,c4⟩) (Nat.le_refl _)
    simp only [Nat.sub_self,Nat.zero_add] at k4
    refine ⟨ys,?_,k2,?_⟩
    ·simp only [Rt]
     refine ⟨some a,len,cap,rfl,by omega,hlc,?_⟩
     by_cases hnil:ys = []
     ·exact .inl hnil
     ·right
      have h0:0 < ys.length:=List.length_pos_iff.2 hnil
      obtain ⟨c0,z1,z2⟩:=k4 0 h0
      obtain ⟨zl,zc⟩:=cells?_at z1
      obtain ⟨v0,hv0⟩:∃ v0,c0[0]? = some v0:=⟨c0[0]'(by omega),List.getElem?_eq_getElem _⟩
      have hs:=zc 0 v0 hv0
      simp only [Nat.zero_mul,Addr.add,if_true] at hs
      obtain ⟨b,off,spot⟩:=a
      have hspot:spot = none:=by
       cases spot with
       | none => rfl
       | some s =>
        unfold World.cell? at hs
        split at hs
        ·simp at hs
        ·cases hs
      subst hspot
      refine ⟨b,off,rfl,fun i hi => ?_⟩
      obtain ⟨cs',d1,d2⟩:=k4 i hi
      refine ⟨cs',d2,fun j v hj => ?_⟩
      obtain ⟨_,zc⟩:=cells?_at d1
      have hc:=zc j v hj
      have e:((⟨b,off,none⟩:Addr).add (i * P.cellsOf e)).add j = ⟨b,off + i * t.size + j,none⟩:=by
       rw [hsz]
       unfold Addr.add
       split <;> split <;> simp_all <;> omega
      rw [e] at hc
      exact ⟨hc,ZzX hc⟩
    ·simp only [Ty.bulk,bulkD]
     omega
  ·rename_i fs a b hu
   simp only [Bool.and_eq_true] at hf
   obtain ⟨hf,hsz⟩:=hf
   obtain ⟨xs,n',hn',rfl,hl,hxs,hget⟩:=DataW.trod_struct hu h
   obtain rfl:n' = n:=by omega
   obtain ⟨y,e1,e2,e3⟩:=Ztj (n:=m) (n':=n') (fun T t cs x h1 h2 => ZhY n' m T t cs x h1 h2) fs.toList (.pair a b) 0 cs xs hf (by rw [hl,Z6 hsz]; omega) (fun i f hi => hget i f (by simpa using hi)) (by simpa using hxs)
   exact ⟨y,by simpa using e1,e2,by simp only [bulkD]; omega⟩
  ·rename_i fs hu
   simp only [Bool.and_eq_true] at hf
   obtain ⟨hf,hsz⟩:=hf
   obtain ⟨xs,n',hn',rfl,hl,hxs,hget⟩:=DataW.trod_struct hu h
   refine ⟨(),?_,trivial,Nat.zero_le _⟩
   simp only [Rt]
   rw [Z6 hsz] at hl
   exact List.length_eq_zero_iff.1 hl
  ·cases hf
end
end Go.Sh
namespace Go.Sh
open Go Go.RowKit Go.WideShapes Go.ChangeShapes
def Xe (tys:List Ty):List Kd:=tys.map .view
def ZDL:(tys:List Ty) → Kd.dens (Xe tys) → Prop
 | [],_ => True
 | t :: l,x => t.ok x.1 ∧ ZDL l x.2
def Zh9:(tys:List Ty) → Kd.dens (Xe tys) → Nat
 | [],_ => 0
 | t :: l,x => t.bulk x.1 + Zh9 l x.2
def ZbI (P:Program):List TypeId → List Ty → Bool
 | [],[] => true
 | T :: Ts,t :: ts => ZdF P 16 T t && ZbI P Ts ts
 | _,_ => false
section
variable {H:Type} {enc:TypeId × Value → H} {P:Program} {w:World} {base:Nat} {spare:Nat → Bool} {held:Bool}
theorem ZaV {v:Value} (h:∀ cs,v ≠ .agg cs):v.cells = #[v]:=by
 cases v <;> first | rfl | (exact absurd rfl (h _))
theorem ZwL {b0 n:Nat} {r:Reach} {T:TypeId} {t:Ty} {v:Value} {d:DataW H} {ps:List MemPlace} (hval:Value.okWide P w r b0 T v) (h:DataW.Trod enc P w base spare held T v d ps) (hf:ZdF P n T t = true) :
  ∃ y,Ztu w (whole w) t y v ∧ t.ok y ∧ t.bulk y ≤ bulkD d:=by
 obtain ⟨m,hm⟩:=h
 obtain ⟨y,h1,h2,h3⟩:=ZhY m n T t _ _ hf hm
 refine ⟨y,⟨_,h1,?_⟩,h2,h3⟩
 cases n with
 | zero => simp [ZdF] at hf
 | succ n =>
  unfold Value.okWide at hval
  unfold ZdF at hf
  split at hf <;> rename_i hu <;> try (cases hf; done)
  all_goals
   rw [hu] at hval
   simp only at hval
  ·refine .inr ⟨rfl,?_⟩
   rw [ZaV]; rintro cs rfl; simp [Cell.okWide,Cell.ok,hu] at hval
  ·refine .inr ⟨rfl,?_⟩
   rw [ZaV]; rintro cs rfl; simp [Cell.okWide,Cell.ok,hu] at hval
  ·refine .inr ⟨rfl,?_⟩
   rw [ZaV]; rintro cs rfl; simp [Cell.okWide,Cell.ok,hu] at hval
  ·refine .inr ⟨rfl,?_⟩
   rw [ZaV]; rintro cs rfl; simp [Cell.okWide,Cell.ok,hu] at hval
  ·obtain ⟨cs,rfl,_⟩:=hval
   exact .inl ⟨rfl,rfl⟩
  ·obtain ⟨cs,rfl,_⟩:=hval
   exact .inl ⟨rfl,rfl⟩
theorem Zfi {b0:Nat} {r:Reach}:∀ {Ts:List TypeId} {tys:List Ty} {vs:List Value} {ds:List (DataW H)} {ps:List MemPlace},ZbI P Ts tys = true →
  (∀ (j:Nat) t v,Ts[j]? = some t → vs[j]? = some v → Value.okWide P w r b0 t v) → DataW.TrodAll enc P w base spare held Ts vs ds ps →
  ∃ x:Kd.dens (Xe tys),TTs w (whole w) (XE (Xe tys) x) vs [] ∧ ZDL tys x ∧ Zh9 tys x ≤ bulkDs ds
 | [],[],vs,ds,ps,_,_,h => by
  obtain ⟨rfl,rfl,rfl⟩:=trodAll_nil h
  exact ⟨(),rfl,trivial,Nat.le_refl _⟩
 | T :: Ts,t :: tys,vs,ds,ps,hf,hval,h => by
  simp only [ZbI,Bool.and_eq_true] at hf
  obtain ⟨v,vs',d,ds',p,q,rfl,rfl,rfl,h1,h2⟩:=trodAll_cons h
  obtain ⟨y,e1,e2,e3⟩:=ZwL (hval 0 T v rfl rfl) h1 hf.1
  obtain ⟨x,g1,g2,g3⟩:=Zfi hf.2 (fun j t v ht hv => hval (j + 1) t v (by simpa using ht) (by simpa using hv)) h2
  refine ⟨(y,x),?_,⟨e2,g2⟩,?_⟩
  ·exact ⟨[],[],rfl,⟨e1,rfl⟩,g1⟩
  ·simp only [Zh9,bulkDs]; omega
 | [],_ :: _,_,_,_,hf,_,_ => by simp [ZbI] at hf
 | _ :: _,[],_,_,_,hf,_,_ => by simp [ZbI] at hf
end
section
variable {H:Type} {enc:TypeId × Value → H} {P:Program}
theorem ZqI {f:Func} {s:ChangeSpec} {apart fresh handsOn again:Bool} {W W':World} {args:Array Value} {v:Value} {ds gs:List (DataW H)} {before pa pv:List MemPlace}
  (hW:DataW.Whole enc P f.params.toList s.vars apart W args.toList ds gs before)
  (hres:∀ (b:Nat) (sp:Nat → Bool) (hd:Bool),DataW.TrodAll enc P W' b sp hd f.resultTypes.toList (v.resultList f.resultTypes.size) (s.fn H (ds ++ gs)).results [])
  (hargs:∀ sp:Nat → Bool,(∀ p ∈ before,sp p.block = true) → DataW.TrodAll enc P W' 0 sp true f.params.toList args.toList (s.fn H (ds ++ gs)).args pa)
  (hvars:∀ sp:Nat → Bool,(∀ p ∈ before,sp p.block = true) → DataW.TrodVars enc P W' sp s.vars (s.fn H (ds ++ gs)).vars pv)
  (hps:before = pa ++ pv) (hb:Below W.heap.size W W')
  (hok:∀ (j:Nat) (t:TypeId) (r:Value),f.resultTypes[j]? = some t → (v.resultList f.resultTypes.size)[j]? = some r → Value.okWide P W' .any 0 t r) :
  s.post enc P f apart fresh handsOn again W args v W':=by
 have hlt:∀ p ∈ before,p.block < W.heap.size:=fun p hp => hW.lt p hp
 have hold:∀ p ∈ before,(fun b => decide (b < W.heap.size)) p.block = true:=fun p hp => by simpa using hlt p hp
 refine ⟨ds,gs,before,[],pa,pv,hW,hres _ _ _,hargs _ hold,hvars _ hold,World.keptBut_mono (fun p hp => ⟨hp,?_⟩) (hb.frame (· ∈ before)),fun _ => ?_⟩
 ·rw [hps,List.mem_append] at hp
  exact Or.inr hp
 ·obtain ⟨_,_,_,_,_,hz,hn⟩:=hW
  refine ⟨hok,_,_,([] ++ pa) ++ pv,⟨[] ++ pa,pv,trodAll_append (hargs _ (fun _ _ => rfl)) (hres _ _ _),hvars _ (fun _ _ => rfl),rfl,?_,?_⟩,?_⟩
  ·intro b off hp
   have hin:MemPlace.cell b off ∈ before:=by rw [hps]; simpa using hp
   rw [hb.frozen (hlt _ hin)]
   exact hz b off hin
  ·intro ha
   have:=hn ha
   rw [hps] at this
   simpa using this
  ·intro p hp _
   rw [hps]
   simpa using hp
theorem Zhd {w w':World} {base:Nat} {spare:Nat → Bool} {held:Bool}:∀ {ts:List TypeId} {vs:List Value} {ds:List (DataW H)} {ps:List MemPlace},
  DataW.TrodAll enc P w base spare held ts vs ds ps → (∀ p ∈ ps,w.sameAt w' p) → DataW.TrodAll enc P w' base spare held ts vs ds ps
 | [],[],[],_,h,_ => h
 | _ :: _,_ :: _,_ :: _,_,⟨p,q,⟨n,h1⟩,h2,e⟩,hs => ⟨p,q,⟨n,DataW.trod_carry n _ _ _ h1 (fun x hx => hs x (by rw [e]; exact List.mem_append_left _ hx))⟩,
   Zhd h2 (fun x hx => hs x (by rw [e]; exact List.mem_append_right _ hx)),e⟩
variable [Gl]
theorem law_contract {K:FuncId} {fn:Func} {spec:ChangeSpec} {B:TypeId} (tys:List Ty) {F:Nat → Kd.dens (Xe tys) → Option (Ans (Xe tys) (.view .bool))} {bound:Nat}
  (hl:laidOutB P = true) (hm:mapsRowed P = true) (hz:((List.range P.types.size).all fun t => match P.underlying t with | some (.slice e) => decide (0 < P.cellsOf e) | _ => true) = true)
  (hts:fn.params.toList.all (fun t => decide (t < P.types.size)) = true) (hfit:ZbI P fn.params.toList tys = true) (hres:fn.resultTypes = #[B]) (hB:P.underlying B = some .bool)
  (hvars:spec.vars = []) (hspec:∀ (H:Type) (ds:List (DataW H)),ds.length = tys.length → spec.fn H ds = { results:=[.lit (.bool true)],args:=ds })
  (hctr:∀ k,Ctr P k K (mk (Xe tys) (.view .bool) F)) (plain:∀ x:Kd.dens (Xe tys),ZDL tys x → Zh9 tys x ≤ bound → ∃ k u,F k x = some (true,u))
  (enc:TypeId × Value → H) (W:World) (b0:Nat) (args:Array Value) (ds gs:List (DataW H)) (before:List MemPlace)
  (hval:∀ (j:Nat) t v,fn.params[j]? = some t → args[j]? = some v → Value.okWide P W .any b0 t v)
  (hW:DataW.Whole enc P fn.params.toList spec.vars false W args.toList ds gs before) (hk:bulkDs (ds ++ gs) ≤ bound) (hgl:Ztx W (whole W)) :
  Calls P K args W fun e W' => ∃ v,e = .returned v ∧ spec.post enc P fn false true false false W args v W':=by
 have hW':=hW
 obtain ⟨p,q,hA,hV,he,hfz,hnd⟩:=hW
 rw [hvars] at hV
 have hgs:gs = [] ∧ q = []:=by
  match gs,hV with
  | [],hV => exact ⟨rfl,hV⟩
  | _ :: _,hV => exact hV.elim
 obtain ⟨rfl,rfl⟩:=hgs
 simp only [List.append_nil] at he hk
 obtain rfl:p = before:=he.symm
 obtain ⟨x,h1,h2,h3⟩:=Zfi (tys:=tys) hfit (fun j t v ht hv => hval j t v (by simpa using ht) (by simpa using hv)) hA
 obtain ⟨k,u,hF⟩:=plain x h2 (by omega)
 have hlen:ds.length = tys.length:=by
  have e1:∀ {Ts:List TypeId} {tys:List Ty} {vs:List Value} {ds:List (DataW H)} {ps:List MemPlace},ZbI P Ts tys = true → DataW.TrodAll enc P W 0 (fun _ => true) true Ts vs ds ps → ds.length = tys.length:=by
   intro Ts
   induction Ts with
   | nil =>
    intro tys vs ds ps hf h
    obtain ⟨rfl,rfl,rfl⟩:=trodAll_nil h
    cases tys with
    | nil => rfl
    | cons => simp [ZbI] at hf
   | cons T Ts ih =>
    intro tys vs ds ps hf h
    obtain ⟨v,vs',d,ds',p,q,rfl,rfl,rfl,h1,h2⟩:=trodAll_cons h
    cases tys with
    | nil => simp [ZbI] at hf
    | cons t tys =>
     simp only [ZbI,Bool.and_eq_true] at hf
     simp [ih hf.2 h2]
  exact e1 hfit hA
 have hcall:=(hctr k).calls (XE (Xe tys) x) (true,u) (by
  have hd:ZgQ (Xe tys) (XE (Xe tys) x) = some x:=by
   have e2:∀ (l:List Ty) (x:Kd.dens (Xe l)),ZgQ (Xe l) (XE (Xe l) x) = some x:=by
    intro l
    induction l with
    | nil => intro x; rfl
    | cons t l ih =>
     intro x
     obtain ⟨y,ys⟩:=x
     show ((Zn3 t (.view t y)).bind fun y => (ZgQ (Xe l) (XE (Xe l) ys)).bind fun ys => some (y,ys)) = _
     rw [ih ys]
     simp only [Zn3,dite_true]
     rfl
   exact e2 tys x
  show (ZgQ (Xe tys) (XE (Xe tys) x)).bind (F k) = some (true,u)
  rw [hd]; exact hF) W (whole W) args.toList [] (ZLU W) hgl h1 List.nodup_nil (by simp)
 rw [Array.toArray_toList] at hcall
 refine hcall.mono fun e W' h => ?_
 obtain ⟨v,lim',b1,b2,rfl,hE,_,⟨ho,ht,hout⟩,hold,hT,_⟩:=h
 have hv:v = .bool true:=by
  have hT:Ztu W' lim' .bool true v ∧ b1 = []:=hT
  obtain ⟨⟨cs,c1,c2⟩,_⟩:=hT
  rcases c2 with ⟨c2,_⟩ | ⟨_,c2⟩
  ·cases c2
  ·simp only [Rt] at c1
   subst c2
   simpa using c1
 subst hv
 have hBel:Below W.heap.size W W':=⟨ho,ht,hout,hE.size,fun b hb => (hold b hb (by simp)).1⟩
 have hlt:∀ x ∈ p,x.block < W.heap.size:=fun x hx => hW'.lt x hx
 refine ⟨_,rfl,ZqI (pa:=p) (pv:=[]) hW' (fun b sp hd => ?_) (fun sp hsp => ?_) (fun sp hsp => ?_) (by simp) hBel ?_⟩
 ·rw [List.append_nil,hspec H ds hlen,hres]
  exact ⟨[],[],⟨1,by simp [DataW.trod,Value.cells,hB]⟩,rfl,rfl⟩
 ·rw [List.append_nil,hspec H ds hlen]
  refine Zhd (w:=W) (DataW.TrodAll.respare (kids_rows hl hm) (slices_full_of P hz) (fun t ht => ?_) hA hsp) (fun y hy => hBel.same (hlt y hy))
  simpa using List.all_eq_true.1 hts t ht
 ·rw [List.append_nil,hspec H ds hlen,hvars]
  rfl
 ·exact ok_one hres rfl (okWide_bool_mk hB true)
end
end Go.Sh
namespace Go.Sh
open Go Go.Proofs
theorem Zzy:K4 1 8 44100 0 [[5,5,5]] = ([255,248,96,0,0,2,228,0,5,227,208],0):=by decide +kernel
theorem ZBU:ZLA 1 8 44100 [255,248,96,0,0,2,228,0,5,227,208] = ((0,[[5,5,5]]),11,0):=by decide +kernel
theorem ZHE (k:Nat) (hk:200000 < k):Zxo k () = some (true,()):=by
 show Zip k _ = _
 simp only [Zip]
 refine (Zf (Zx3 k (by omega) 1 8 44100 0 [[5,5,5]]) _).trans ?_
 rw [Zzy]
 simp only
 rw [show ((0:Int) != 0) = false from rfl]
 simp only [cond_false]
 rw [show (Int.ofNat [(255:Int),248,96,0,0,2,228,0,5,227,208].length != 11) = false from rfl]
 simp only [cond_false]
 rw [Zb (by simp)]
 rw [show (!(ByteArray.mk (List.map (fun n => UInt8.ofNat n.toNat) (List.drop 0 (List.take 6 [(255:Int),248,96,0,0,2,228,0,5,227,208]))).toArray).toList == (ByteArray.mk #[255,248,96,0,0,2]).toList) = false from by rw [ZG8]; decide +kernel]
 simp only [cond_false]
 refine (Zf (ZJq k 1 8 44100 (b:=[255,248,96,0,0,2,228,0,5,227,208]) (by decide) (by simp) (by simp; omega)) _).trans ?_
 rw [ZBU]
 rfl
def Sm (ch:List (List Int)):Prop:=ch.length ≤ 1048576 ∧ ∀ l ∈ ch,l.length ≤ 1048576
theorem ZIN (k:Nat) (hk:2000000 < k) (n:Int) {ch:List (List Int)} (h:Sm ch):Zyd k ((n,ch,()),()) = some ((n,ch,()),()):=by
 show ZiF k (ZuB k) _ = _
 simp only [ZiF]
 have hs:=h.1
 have:=Zu (A:=List (List Int)) (R:=(Int × List (List Int) × Unit) × Unit) (step:=fun L1 => Zeg k L1) (fun i out => (Int.ofNat i,n,ch,n,out,(0:Int))) ch
  (fun l' out => some ((n,out ++ l',()),())) (fun i out => out.length = i)
  (fun L out _ => by simp only [Zeg]; rw [Zi (QV _),List.append_nil])
  (fun L i hi out ho hL => by
   have hl:=h.2 ch[i] (List.getElem_mem hi)
   simp only [Zeg]
   rw [Zb (KU hi),Zb (Xx hi),ZK hi]
   have e1:IntKind.i64.wrap (Int.ofNat (List.length ch[i]) + 2) = ((ch[i].length + 2:Nat):Int):=by rw [ZQ (by simp only [Qh]; omega)]; rfl
   rw [e1,Zb (by omega),Zb (Xx hi),Zb (by omega),Zb (by simp only [List.length_singleton]; omega),Qq hi (by omega),hL _ (by simp; omega)]
   simp)
  k 0 [] rfl (by omega) (Nat.zero_le _)
 rw [List.drop_zero,List.nil_append] at this
 exact this
theorem ZHb:∀ (a b c d e f g h:Bool) (j:Fin 8),(a.toNat * 128 + b.toNat * 64 + c.toNat * 32 + d.toNat * 16 + e.toNat * 8 + f.toNat * 4 + g.toNat * 2 + h.toNat).testBit (7 - j.val) = [a,b,c,d,e,f,g,h].getD j.val false:=by decide +kernel
theorem ZEc (f:Nat → Bool) {j:Nat} (hj:j < 8):(YE f).testBit (7 - j) = f j:=by
 have:=ZHb (f 0) (f 1) (f 2) (f 3) (f 4) (f 5) (f 6) (f 7) ⟨j,hj⟩
 simp only at this
 unfold YE
 rw [this]
 match j,hj with
 | 0,_ => rfl
 | 1,_ => rfl
 | 2,_ => rfl
 | 3,_ => rfl
 | 4,_ => rfl
 | 5,_ => rfl
 | 6,_ => rfl
 | 7,_ => rfl
theorem ZAg {B:List Bool} (h:B.length % 8 = 0):QL (ZY B) = B:=by
 have hl:(ZY B).length = B.length / 8:=by rw [Q6]; omega
 apply List.ext_getElem
 ·rw [Wu,hl]; omega
 ·intro i h1 h2
  rw [Zkr (by rw [hl]; omega),KQ,QS]
  unfold Ws
  rw [ZEc _ (Nat.mod_lt _ (by omega)),show 8 * (i / 8) + i % 8 = i by omega,WZ h2]
theorem ZHd:∀ x:Fin 256,YE (fun j => x.val.testBit (7 - j)) = x.val:=by decide +kernel
theorem ZqB {b:List Int} (h:ZW b = true):ZY (QL b) = b:=by
 apply List.ext_getElem
 ·rw [Q6,Wu]; omega
 ·intro i h1 h2
  obtain ⟨x,hx,hxe⟩:=Yg h h2
  rw [KQ,hxe]
  have:Ws (QL b) i = YE (fun j => x.testBit (7 - j)):=by
   have key:∀ j,j < 8 → (QL b).getD (8 * i + j) false = x.testBit (7 - j):=by
    intro j hj
    rw [WZ (by rw [Wu]; omega),Zkr (by omega)]
    have:(8 * i + j) / 8 = i:=by omega
    simp only [this,hxe,QS]
    congr 1
    omega
   unfold Ws YE
   simp only
   rw [key 0 (by omega),key 1 (by omega),key 2 (by omega),key 3 (by omega),key 4 (by omega),key 5 (by omega),key 6 (by omega),key 7 (by omega)]
  rw [this]
  have:=ZHd ⟨x,hx⟩
  simp only at this
  rw [this]
theorem ZB4 (B:List Bool):(WR B).length % 8 = 0 ∧ (WR B).length = B.length + Zdr B.length:=by
 unfold WR
 rw [Wq,List.length_replicate]
 unfold Zdr
 omega
theorem YC (c a w:Nat):Zg c (a + w) = Zg (c / 2 ^ w) a ++ Zg c w:=by
 induction a with
 | zero => simp [Zg]
 | succ a ih =>
  rw [show a + 1 + w = (a + w) + 1 by omega]
  simp only [Zg,List.cons_append]
  rw [ih,Nat.testBit_div_two_pow]
theorem ZtN (B:List Bool):ZY (Yh B) = ZY (WR B) ++ [((Ys (ZY (WR B)) / 256:Nat):Int),((Ys (ZY (WR B)) % 256:Nat):Int)]:=by
 have hc:=Zon (Ke (WR B))
 generalize hC:Ys (ZY (WR B)) = c at hc
 have hb:ZW (ZY (WR B) ++ [((c / 256:Nat):Int),((c % 256:Nat):Int)]) = true:=by
  refine List.all_eq_true.2 fun x hx => ?_
  rcases List.mem_append.1 hx with hx | hx
  ·exact List.all_eq_true.1 (Ke (WR B)) x hx
  ·simp only [List.mem_cons,List.mem_nil_iff,or_false] at hx
   rw [Bool.and_eq_true,decide_eq_true_eq,decide_eq_true_eq]
   rcases hx with rfl | rfl <;> omega
 rw [← ZqB hb,ZtH,ZAg (ZB4 B).1]
 unfold Yh
 rw [hC]
 congr 2
 simp only [QL,List.flatMap_cons,List.flatMap_nil,QS,List.append_nil]
 rw [show (16:Nat) = 8 + 8 from rfl,YC c 8 8,show (c % 256) = c % 2 ^ 8 from rfl,Zda c 8 8 (by omega)]
end Go.Sh
namespace Go.Sh
open Go Go.Proofs
theorem ZCg {α:Type} (f:α → Nat):∀ (l:List α),(∀ x ∈ l,1 ≤ f x) → l.length ≤ (l.map f).sum ∧ ∀ x ∈ l,f x ≤ (l.map f).sum
 | [],_ => ⟨Nat.le_refl _,by simp⟩
 | a :: l,h => by
  obtain ⟨h1,h2⟩:=ZCg f l fun x hx => h x (List.mem_cons_of_mem _ hx)
  have h3:=h a (List.mem_cons_self ..)
  simp only [List.length_cons,List.map_cons,List.sum_cons]
  refine ⟨by omega,fun x hx => ?_⟩
  rcases List.mem_cons.1 hx with rfl | hx
  ·omega
  ·have:=h2 x hx; omega
theorem Zzo {n:Int} {ch:List (List Int)} (h:Ty.bulk frameT (n,ch,()) ≤ 1048576):Sm ch:=by
 have h1:(1:Nat) + (((ch.map (Ty.bulk (.sl (.int .i64)))).sum + 1) + 0) ≤ 1048576:=h
 have s:=ZCg (Ty.bulk (.sl (.int .i64))) ch (fun x _ => by simp only [Ty.bulk]; omega)
 refine ⟨by omega,fun x hx => ?_⟩
 have h2:=s.2 x hx
 have h3:Ty.bulk (.sl (.int .i64)) x = (x.map (Ty.bulk (.int .i64))).sum + 1:=rfl
 have h4:=ZCg (Ty.bulk (.int .i64)) x (fun y _ => by simp only [Ty.bulk]; omega)
 omega
end Go.Sh
namespace Go.Sh
open Go Go.Proofs
def ch1 (b:Bool):UInt8:=if b then 49 else 48
def X5 (bs:List Bool):ByteArray:=⟨(bs.map ch1).toArray⟩
theorem Zki (bs:List Bool):(X5 bs).data.toList = bs.map ch1:=by simp [X5]
theorem ZD (bs:List Bool):(X5 bs).size = bs.length:=by rw [← Zh3,Zki,List.length_map]
theorem ZO (a b:List Bool):X5 a ++ X5 b = X5 (a ++ b):=by
 apply ZtG
 simp [X5]
theorem Zfg (bs:List Bool) (i j:Nat):(X5 bs).extract i j = X5 ((bs.take j).drop i):=by
 apply ZtG
 rw [Zki,ByteArray.data_extract]
 simp [X5,List.extract]
 rw [List.drop_take]
theorem ZaU:ByteArray.mk #[] = X5 [] ∧ ByteArray.mk #[48] = X5 [false] ∧ ByteArray.mk #[49] = X5 [true] ∧ ByteArray.mk #[48,48] = X5 [false,false] ∧ ByteArray.mk #[48,48,48,48] = X5 [false,false,false,false] ∧ ByteArray.mk #[49,48] = X5 [true,false] ∧
  ByteArray.mk #[49,49,49,49,49,49,49,49] = X5 (List.replicate 8 true):=⟨rfl,rfl,rfl,rfl,rfl,rfl,rfl⟩
def K6 (bs:List Bool):List Int:=bs.map fun b => if b then 49 else 48
theorem Zqs (bs:List Bool):ByteArray.mk (List.map (fun (n:Int) => UInt8.ofNat n.toNat) (K6 bs)).toArray = X5 bs:=by
 unfold K6 X5
 rw [List.map_map]
 congr 2
 apply List.map_congr_left
 intro b _
 cases b <;> rfl
theorem ZwY (n w:Nat):Zg n (w + 1) = Zg (n / 2) w ++ [n.testBit 0]:=by
 have:=YC n w 1
 rw [Nat.pow_one] at this
 rw [this]
 rfl
theorem ZQx:∀ m:Fin 2,Int.ofNat ((ByteArray.mk #[48,49]).data.toList.getD m.val 0).toNat = if m.val = 1 then 49 else 48:=by decide
theorem ZJO (k:Nat):∀ (j m n:Nat) (suf:List Int),j < m → j + suf.length < 4294967296 → n < 9223372036854775808 →
  Zm (fun L1 => Zer k L1) m ((j:Int) - 1,(n:Int),List.replicate j 0 ++ suf) = some (ByteArray.mk (List.map (fun (n:Int) => UInt8.ofNat n.toNat) (K6 (Zg n j) ++ suf)).toArray,()):=by
 intro j
 induction j with
 | zero =>
  intro m n suf hm hl hn
  obtain ⟨m,rfl⟩:=Zn hm
  rw [Zd]
  simp only [Zer]
  rw [Zi (by omega)]
  rfl
 | succ j ih =>
  intro m n suf hm hl hn
  obtain ⟨m,rfl⟩:=Zn (show 0 < m by omega)
  rw [Zd]
  simp only [Zer]
  have e0:((j + 1:Nat):Int) - 1 = (j:Int):=by omega
  have e1:((n:Int)).tmod 2 = ((n % 2:Nat):Int):=by rw [Int.tmod_eq_emod_of_nonneg (by omega)]; omega
  have e2:((n:Int)).tdiv 2 = ((n / 2:Nat):Int):=by rw [Int.tdiv_eq_ediv_of_nonneg (by omega)]; omega
  have hlen:(List.replicate (j + 1) (0:Int) ++ suf).length = j + 1 + suf.length:=by simp
  rw [e0,e1,e2,Zb (by omega),Zb (by omega),Zb (by rw [hlen]; simp only [Qh]; omega),Zb (by rw [hlen,QS]; omega)]
  have h2:n % 2 < 2:=Nat.mod_lt _ (by omega)
  have ht:=ZQx ⟨n % 2,h2⟩
  simp only at ht
  rw [QS,QS,ht,ZQ (n:=(j:Int) - 1) (by omega),ZQ (n:=((n / 2:Nat):Int)) (by omega)]
  have hset:(List.replicate (j + 1) (0:Int) ++ suf).set j (if n % 2 = 1 then 49 else 48) = List.replicate j 0 ++ ((if n % 2 = 1 then 49 else 48) :: suf):=by
   rw [List.replicate_succ' (n:=j),List.append_assoc,List.set_append_right _ _ (by simp)]
   simp
  have key:K6 (Zg n (j + 1)) ++ suf = K6 (Zg (n / 2) j) ++ ((if n % 2 = 1 then 49 else 48) :: suf):=by
   rw [ZwY]
   unfold K6
   rw [List.map_append,List.append_assoc,List.map_cons,List.map_nil,Nat.testBit_zero]
   by_cases h:n % 2 = 1
   ·simp [h]
   ·simp [h]
  rw [hset,ih m (n / 2) _ (by omega) (by simp; omega) (by omega),key]
theorem Q5 (k n w:Nat) (hk:w < k) (hw:w < 4294967296) (hn:n < 9223372036854775808):Xh k ((n:Int),(w:Int),()) = some (X5 (Zg n w),()):=by
 show Zi2 k (Zu5 k) _ = _
 simp only [Zi2]
 rw [Zb (by omega),ZQ (n:=(w:Int) - 1) (by omega),QS]
 have:=ZJO k w k n [] hk (by simpa using hw) hn
 rw [List.append_nil,List.append_nil,Zqs] at this
 exact this
def Zg2 (f:Nat → Bool):Nat → Nat
 | 0 => 0
 | j + 1 => 2 * Zg2 f j + (f j).toNat
theorem ZVi (f:Nat → Bool):Zg2 f 8 = YE f:=by
 simp only [Zg2,YE]
 omega
theorem ZDE (f:Nat → Bool):∀ j,Zg2 f j < 2 ^ j
 | 0 => by simp [Zg2]
 | j + 1 => by
  have:=ZDE f j
  simp only [Zg2,Nat.pow_succ]
  cases f j <;> simp <;> omega
theorem ZL4 (b:Bool):IntKind.i64.wrap (IntKind.u8.wrap (Int.ofNat (ch1 b).toNat - 48)) = ((b.toNat:Nat):Int):=by cases b <;> rfl
theorem ZGc (k:Nat) (L1:Int × ByteArray × List Int → Option (List Int × Unit)) (bs:List Bool) (hb:bs.length ≤ 4000000000) (i:Nat) (hi:i ≤ 4000000000) (out:List Int) (ho:out.length < 1000000000):∀ (d m j:Nat),j + d = 8 → d < m →
  Zm (fun L2 => Zcu k L1 L2) m (((i + j:Nat):Int),(i:Int),((Zg2 (fun j => bs.getD (i + j) false) j:Nat):Int),X5 bs,out) = L1 (((i + 8:Nat):Int),X5 bs,out ++ [((YE (fun j => bs.getD (i + j) false):Nat):Int)]):=by
 intro d
 induction d with
 | zero =>
  intro m j hj hm
  obtain ⟨m,rfl⟩:=Zn hm
  obtain rfl:j = 8:=by omega
  rw [Zd]
  simp only [Zcu]
  have hlt:=Zof (fun j => bs.getD (i + j) false)
  rw [ZQ (n:=(i:Int) + 8) (by omega),Zi (by omega),Zb (by simp only [List.length_singleton]; omega),ZVi,wu8 (by omega)]
  rfl
 | succ d ih =>
  intro m j hj hm
  obtain ⟨m,rfl⟩:=Zn (show 0 < m by omega)
  rw [Zd]
  simp only [Zcu]
  have hlt:=ZDE (fun j => bs.getD (i + j) false) j
  have h8:2 ^ j ≤ 2 ^ 8:=Nat.pow_le_pow_right (by omega) (by omega)
  have e2:IntKind.i64.wrap (((i + j:Nat):Int) + 1) = ((i + (j + 1):Nat):Int):=by rw [ZQ (by omega)]; omega
  rw [ZQ (n:=(i:Int) + 8) (by omega),Zb (by omega),ZD,e2]
  generalize hv:Zg2 (fun j => bs.getD (i + j) false) j = v at hlt
  by_cases hb2:i + j < bs.length
  ·rw [Zb (by simp only [Qh]; omega),Zb (by simp only [Qh]; omega),QS,Zki]
   have hg:(bs.map ch1).getD (i + j) 0 = ch1 (bs.getD (i + j) false):=by
    rw [WZ (by simpa using hb2),WZ hb2,List.getElem_map]
   have hbt:(bs.getD (i + j) false).toNat ≤ 1:=by cases bs.getD (i + j) false <;> decide
   rw [hg,ZL4,ZQ (n:=2 * (v:Int)) (by omega),ZQ (by omega)]
   have:=ih m (j + 1) (by omega) (by omega)
   simp only [Zg2,hv] at this
   refine Eq.trans ?_ this
   push_cast
   rfl
  ·rw [Zi (by simp only [Qh]; omega),ZQ (n:=2 * (v:Int)) (by omega)]
   have hg:bs.getD (i + j) false = false:=by rw [List.getD_eq_getElem?_getD,List.getElem?_eq_none (by omega)]; rfl
   have:=ih m (j + 1) (by omega) (by omega)
   simp only [Zg2,hv,hg,Bool.toNat_false,Nat.add_zero] at this
   refine Eq.trans ?_ this
   push_cast
   rfl
theorem ZpJ (k:Nat) (bs:List Bool) (hk:bs.length + 100 < k) (hb:bs.length ≤ 3000000000):ZpH k (X5 bs,()) = some (ZY bs,()):=by
 show Zi7 k (Zvc k) _ = _
 simp only [Zi7]
 have H:∀ (d m q:Nat) (out:List Int),q + d = (bs.length + 7) / 8 → d < m → out = (ZY bs).take q →
   Zm (fun L1 => Zct k (ZpI k L1) L1) m (((8 * q:Nat):Int),X5 bs,out) = some (ZY bs,()):=by
  intro d
  induction d with
  | zero =>
   intro m q out hq hm ho
   obtain ⟨m,rfl⟩:=Zn hm
   rw [Zd]
   simp only [Zct]
   rw [ZD,Zi (by simp only [Qh]; omega),ho,List.take_of_length_le (by rw [Q6]; omega)]
  | succ d ih =>
   intro m q out hq hm ho
   obtain ⟨m,rfl⟩:=Zn (show 0 < m by omega)
   rw [Zd]
   simp only [Zct]
   rw [ZD,Zb (by simp only [Qh]; omega)]
   have hol:out.length = q:=by rw [ho,List.length_take,Q6]; omega
   have:=ZGc k (Zm (fun L1 => Zct k (ZpI k L1) L1) m) bs (by omega) (8 * q) (by omega) out (by omega) 8 k 0 (by omega) (by omega)
   refine Eq.trans this ?_
   rw [show 8 * q + 8 = 8 * (q + 1) by omega]
   refine ih m (q + 1) _ (by omega) (by omega) ?_
   rw [List.take_add_one,List.getElem?_eq_getElem (by rw [Q6]; omega),KQ,ho]
   rfl
 exact H ((bs.length + 7) / 8) k 0 [] (by omega) (by omega) (by simp)
theorem ZGt (bs:List Bool):List.map (fun (b:UInt8) => Int.ofNat b.toNat) (X5 bs).data.toList = K6 bs:=by
 rw [Zki,List.map_map]
 unfold K6
 apply List.map_congr_left
 intro b _
 cases b <;> rfl
theorem ZJR (k:Nat) {b:List Int} (hb:ZW b = true) (hk:b.length + 100 < k) (hn:b.length ≤ 100000000):ZyH k (b,()) = some (X5 (QL b),()):=by
 show Zi3 k (Zu7 k) _ = _
 simp only [Zi3]
 have e1:IntKind.i64.wrap ((8:Int) * Int.ofNat b.length) = ((8 * b.length:Nat):Int):=by simp only [Qh]; rw [ZQ (by omega)]; omega
 rw [e1,Zb (by omega)]
 have:=Zu (A:=List Bool) (R:=ByteArray × Unit) (step:=fun L1 => Zes k L1) (fun i a => (Int.ofNat i,b,K6 a)) b
  (fun l' a => some (X5 (a ++ QL l'),())) (fun i a => a.length = 8 * i)
  (fun L a _ => by
   simp only [Zes]
   rw [Zi (QV _),Zqs]
   simp [QL])
  (fun L i hi a ha hL => by
   simp only [Zes]
   obtain ⟨x,hx,hxe⟩:=Yg hb hi
   rw [Zb (KU hi),Zb (Xx hi),ZK hi,hxe,ZQ (n:=(x:Int)) (by omega)]
   have e35:=Q5 k x 8 (by omega) (by omega) (by omega)
   refine (Zf e35 _).trans ?_
   simp only
   rw [ZGt,Zb (by unfold K6; rw [List.length_map,List.length_map,Zl]; omega),Qq hi (by omega)]
   have e2:K6 a ++ K6 (Zg x 8) = K6 (a ++ Zg x 8):=by unfold K6; rw [List.map_append]
   rw [e2,hL (a ++ Zg x 8) (by rw [Wq,Zl]; omega),Zhh,QS,List.append_assoc])
  k 0 [] (by simp) (by omega) (Nat.zero_le _)
 rw [List.drop_zero,List.nil_append] at this
 exact this
end Go.Sh
namespace Go.Sh
open Go Go.Proofs
def Xt (s p r:Nat) (b:Bool):Nat:=if (r / 2 ^ (s - 1) % 2 + b.toNat) % 2 = 1 then (2 * r % 2 ^ s) ^^^ p else 2 * r % 2 ^ s
theorem Zor {s p r:Nat} {b:Bool} (hp:p < 2 ^ s):Xt s p r b < 2 ^ s:=by
 have h:2 * r % 2 ^ s < 2 ^ s:=Nat.mod_lt _ (Nat.pow_pos (by omega))
 unfold Xt
 split
 ·exact Nat.xor_lt_two_pow h hp
 ·exact h
theorem ZGJ {s p r j y:Nat} {b:Bool} (hs:j + 1 ≤ s) (hp:p < 2 ^ s) (hr:r < 2 ^ s) (hy:y < 2 ^ j) :
  ZdW s p (r ^^^ ((b.toNat * 2 ^ j + y) * 2 ^ (s - (j + 1)))) = Xt s p r b ^^^ (y * 2 ^ (s - j)):=by
 obtain ⟨t,rfl⟩:∃ t,s = j + 1 + t:=⟨s - (j + 1),by omega⟩
 have e1:j + 1 + t - (j + 1) = t:=by omega
 have e2:j + 1 + t - 1 = j + t:=by omega
 have e3:j + 1 + t - j = t + 1:=by omega
 unfold ZdW Xt
 rw [e1,e2,e3]
 have hw:(b.toNat * 2 ^ j + y) * 2 ^ t = b.toNat * 2 ^ (j + t) + y * 2 ^ t:=by rw [Nat.add_mul,Nat.mul_assoc,← Nat.pow_add]
 have hyt:y * 2 ^ t < 2 ^ (j + t):=by rw [Nat.pow_add]; exact Nat.mul_lt_mul_of_pos_right hy (Nat.pow_pos (by omega))
 have hy2:y * 2 ^ (t + 1) = y * 2 ^ t * 2:=by rw [Nat.pow_succ,Nat.mul_assoc]
 rw [hw,hy2]
 generalize y * 2 ^ t = z at hyt
 have hbz:b.toNat * 2 ^ (j + t) + z < 2 ^ (j + 1 + t):=by
  rw [show j + 1 + t = (j + t) + 1 by omega,Nat.pow_succ]
  cases b <;> simp <;> omega
 have hxor:(r ^^^ (b.toNat * 2 ^ (j + t) + z)) / 2 ^ (j + t) % 2 = (r / 2 ^ (j + t) % 2 + b.toNat) % 2:=by
  have h1:(r ^^^ (b.toNat * 2 ^ (j + t) + z)).testBit (j + t) = (r.testBit (j + t) ^^ b):=by
   rw [Nat.testBit_xor]
   congr 1
   rw [Nat.testBit_eq_decide_div_mod_eq]
   have:(b.toNat * 2 ^ (j + t) + z) / 2 ^ (j + t) = b.toNat:=by
    rw [Nat.mul_comm,Nat.mul_add_div (Nat.pow_pos (by omega)),Nat.div_eq_of_lt hyt,Nat.add_zero]
   rw [this]
   cases b <;> rfl
  rw [Nat.testBit_eq_decide_div_mod_eq,Nat.testBit_eq_decide_div_mod_eq] at h1
  have m1:(r ^^^ (b.toNat * 2 ^ (j + t) + z)) / 2 ^ (j + t) % 2 < 2:=Nat.mod_lt _ (by omega)
  have m2:r / 2 ^ (j + t) % 2 < 2:=Nat.mod_lt _ (by omega)
  generalize (r ^^^ (b.toNat * 2 ^ (j + t) + z)) / 2 ^ (j + t) % 2 = u at h1 m1 ⊢
  generalize r / 2 ^ (j + t) % 2 = v at h1 m2 ⊢
  match u,v,b,m1,m2,h1 with
  | 0,0,false,_,_,_ => rfl
  | 0,1,true,_,_,_ => rfl
  | 1,1,false,_,_,_ => rfl
  | 1,0,true,_,_,_ => rfl
 have hlow:2 * (r ^^^ (b.toNat * 2 ^ (j + t) + z)) % 2 ^ (j + 1 + t) = (2 * r % 2 ^ (j + 1 + t)) ^^^ (z * 2):=by
  have d1:2 * (r ^^^ (b.toNat * 2 ^ (j + t) + z)) = (2 * r) ^^^ (2 * (b.toNat * 2 ^ (j + t) + z)):=by
   have:=Nat.shiftLeft_xor_distrib (a:=r) (b:=b.toNat * 2 ^ (j + t) + z) (i:=1)
   simp only [Nat.shiftLeft_eq,Nat.pow_one] at this
   rw [Nat.mul_comm 2,this,Nat.mul_comm r,Nat.mul_comm _ 2]
  rw [d1,Nat.xor_mod_two_pow]
  congr 1
  have h2:2 * (b.toNat * 2 ^ (j + t) + z) = b.toNat * 2 ^ (j + 1 + t) + z * 2:=by
   rw [show j + 1 + t = (j + t) + 1 by omega,Nat.pow_succ,Nat.mul_add,Nat.mul_comm z 2,← Nat.mul_assoc,← Nat.mul_assoc,Nat.mul_comm 2 b.toNat,Nat.mul_assoc,Nat.mul_assoc,Nat.mul_comm 2]
  rw [h2,Nat.mul_comm,Nat.mul_add_mod,Nat.mod_eq_of_lt]
  rw [show j + 1 + t = (j + t) + 1 by omega,Nat.pow_succ]
  omega
 rw [hxor,hlow]
 have hfin:∀ w:Nat,w < 2 → (2 * r % 2 ^ (j + 1 + t) ^^^ z * 2) ^^^ w * p = (if w = 1 then (2 * r % 2 ^ (j + 1 + t)) ^^^ p else 2 * r % 2 ^ (j + 1 + t)) ^^^ (z * 2):=by
  intro w hw
  match w,hw with
  | 0,_ => simp
  | 1,_ => rw [if_pos rfl,Nat.one_mul,Nat.xor_assoc,Nat.xor_comm (z * 2) p,← Nat.xor_assoc]
 exact hfin _ (Nat.mod_lt _ (by omega))
theorem ZlU {s p:Nat} (hp:p < 2 ^ s):∀ (j x r:Nat),j ≤ s → r < 2 ^ s → ZaW s p j (r ^^^ ((x % 2 ^ j) * 2 ^ (s - j))) = (Zg x j).foldl (Xt s p) r
 | 0,x,r,_,hr => by simp [ZaW,Zg,Nat.mod_one]
 | j + 1,x,r,hs,hr => by
  have hx:x % 2 ^ (j + 1) = (x.testBit j).toNat * 2 ^ j + x % 2 ^ j:=by
   rw [Nat.mod_pow_succ,Nat.testBit_eq_decide_div_mod_eq]
   have h2:x / 2 ^ j % 2 < 2:=Nat.mod_lt _ (by omega)
   generalize x / 2 ^ j % 2 = m at h2
   match m,h2 with
   | 0,_ => simp
   | 1,_ => simp; omega
  rw [hx]
  show ZaW s p j (ZdW s p _) = _
  rw [ZGJ hs hp hr (Nat.mod_lt _ (Nat.pow_pos (by omega))),ZlU hp j x _ (by omega) (Zor hp)]
  rfl
theorem Zw9 {s p r x:Nat} (hs:8 ≤ s) (hp:p < 2 ^ s) (hr:r < 2 ^ s) (hx:x < 256):(Zg x 8).foldl (Xt s p) r = ZaX s p r x:=by
 have:=ZlU hp 8 x r hs hr
 rw [show x % 2 ^ 8 = x from Nat.mod_eq_of_lt hx] at this
 exact this.symm
theorem ZGf (k:Nat) {s p:Nat} (hs:8 ≤ s) (hs':s ≤ 16) (hp:p < 2 ^ s) (L1:Int × ByteArray × Int × Int × Int → Option (Int × Unit)) (S:ByteArray) {i x:Nat} (hi:i < S.size) (hx:(S.data.toList.getD i 0).toNat = x) (hn:S.size < 4294967296) :
  ∀ (j m r:Nat),j ≤ 8 → j < m → r < 2 ^ s →
  Zm (fun L2 => ZcD k L1 L2) m ((j:Int) - 1,(r:Int),(s:Int),S,(i:Int),(p:Int)) = L1 (((i + 1:Nat):Int),S,(((Zg x j).foldl (Xt s p) r:Nat):Int),(s:Int),(p:Int)):=by
 have hxl:x < 256:=by rw [← hx]; exact (S.data.toList.getD i 0).toNat_lt
 have h16:2 ^ s ≤ 2 ^ 16:=Nat.pow_le_pow_right (by omega) hs'
 intro j
 induction j with
 | zero =>
  intro m r hj hm hr
  obtain ⟨m,rfl⟩:=Zn hm
  rw [Zd]
  simp only [ZcD]
  rw [Zi (by omega),ZQ (n:=(i:Int) + 1) (by omega)]
  rfl
 | succ j ih =>
  intro m r hj hm hr
  obtain ⟨m,rfl⟩:=Zn (show 0 < m by omega)
  rw [Zd]
  simp only [ZcD]
  have e0:((j + 1:Nat):Int) - 1 = (j:Int):=by omega
  have e1:IntKind.i64.wrap ((s:Int) - 1) = ((s - 1:Nat):Int):=by rw [ZQ (by omega)]; omega
  rw [e0,e1,Zb (by omega),Zb (by omega),Zb (by simp only [Qh]; omega),Zb (by omega),Zb (by omega),Ko (by omega)]
  have hne:¬ ((2 ^ s:Nat):Int) = 0:=by
   have:0 < 2 ^ s:=Nat.pow_pos (by omega)
   generalize 2 ^ s = Q at this
   omega
  rw [Zb hne]
  simp only [QS,Nat.min_eq_left (show s - 1 ≤ 64 by omega),Nat.min_eq_left (show j ≤ 64 by omega),KJ]
  have ebit:∀ v:Nat,v < 18446744073709551616 → IntKind.i64.wrap (Int.ofNat (BitVec.ofInt 64 (v:Int) &&& BitVec.ofInt 64 1).toNat) = ((v % 2:Nat):Int):=by
   intro v hv
   rw [show (1:Int) = ((1:Nat):Int) from rfl,Zz8 hv (by omega),Nat.and_one_is_mod,ZQ (by omega)]
  have hd1:r / 2 ^ (s - 1) ≤ r:=Nat.div_le_self _ _
  have hd2:x / 2 ^ j ≤ x:=Nat.div_le_self _ _
  have ex:IntKind.i64.wrap (Int.ofNat (S.data.toList.getD i 0).toNat) = (x:Int):=by rw [hx]; simp only [Qh]; rw [ZQ (by omega)]
  rw [ex,KJ,ebit _ (by omega),ebit _ (by omega)]
  have m1:r / 2 ^ (s - 1) % 2 < 2:=Nat.mod_lt _ (by omega)
  have m2:x / 2 ^ j % 2 < 2:=Nat.mod_lt _ (by omega)
  have htb:x.testBit j = decide (x / 2 ^ j % 2 = 1):=Nat.testBit_eq_decide_div_mod_eq
  have exor:IntKind.i64.wrap (Int.ofNat (BitVec.ofInt 64 ((r / 2 ^ (s - 1) % 2:Nat):Int) ^^^ BitVec.ofInt 64 ((x / 2 ^ j % 2:Nat):Int)).toNat) = (((r / 2 ^ (s - 1) % 2 + (x.testBit j).toNat) % 2:Nat):Int):=by
   rw [htb]
   generalize r / 2 ^ (s - 1) % 2 = u at m1
   generalize x / 2 ^ j % 2 = v at m2
   match u,v,m1,m2 with
   | 0,0,_,_ => rfl
   | 0,1,_,_ => rfl
   | 1,0,_,_ => rfl
   | 1,1,_,_ => rfl
  have e2r:(IntKind.i64.wrap ((2:Int) * (r:Int))).tmod ((2 ^ s:Nat):Int) = ((2 * r % 2 ^ s:Nat):Int):=by
   rw [ZQ (by omega),show (2:Int) * (r:Int) = ((2 * r:Nat):Int) from by push_cast; rfl,Int.tmod_eq_emod_of_nonneg (by omega)]
   rfl
  have ej:IntKind.i64.wrap ((j:Int) - 1) = (j:Int) - 1:=ZQ (by omega)
  rw [exor,e2r,ej,ZB]
  have hmlt:2 * r % 2 ^ s < 2 ^ s:=Nat.mod_lt _ (Nat.pow_pos (by omega))
  have hlt:=Zor (s:=s) (p:=p) (r:=r) (b:=x.testBit j) hp
  have hfold:(Zg x (j + 1)).foldl (Xt s p) r = (Zg x j).foldl (Xt s p) (Xt s p r (x.testBit j)):=rfl
  rw [hfold]
  by_cases h1:(r / 2 ^ (s - 1) % 2 + (x.testBit j).toNat) % 2 = 1
  ·have ed:Xt s p r (x.testBit j) = (2 * r % 2 ^ s) ^^^ p:=by unfold Xt; rw [if_pos h1]
   rw [Zb (by omega),ZTZ (by omega) (by omega),← ed,ZQ (by omega)]
   exact ih m _ (by omega) (by omega) hlt
  ·have ed:Xt s p r (x.testBit j) = 2 * r % 2 ^ s:=by unfold Xt; rw [if_neg h1]
   rw [Zi (by omega),← ed]
   exact ih m _ (by omega) (by omega) hlt
theorem Zy6 (k:Nat) {l:List Int} {s p:Nat} (hs:8 ≤ s) (hs':s ≤ 16) (hp:p < 2 ^ s) (hl:ZW l = true) (hk:l.length + 20 < k) (hk':l.length < 4294967296) :
  ZsM k (KT l,(s:Int),(p:Int),()) = some (((ZHe s p (ZhP l):Nat):Int),()):=by
 show Zjy k (ZvU k) _ = _
 simp only [Zjy]
 have hsz:(KT l).size = l.length:=by rw [← Zh3]; simp
 have:=Zu (A:=Nat) (R:=Int × Unit) (step:=fun L1 => ZeK k (ZvV k L1) L1) (fun i r => (Int.ofNat i,KT l,(r:Int),(s:Int),(p:Int))) l
  (fun l' r => some ((((ZhP l').foldl (ZaX s p) r:Nat):Int),())) (fun i r => r < 2 ^ s)
  (fun L r _ => by
   simp only [ZeK]
   rw [hsz,Zi (QV _)]
   rfl)
  (fun L i hi r hr hL => by
   simp only [ZeK]
   rw [hsz,Zb (KU hi)]
   obtain ⟨x,hx,hxe⟩:=Yg hl hi
   have hg:((KT l).data.toList.getD i 0).toNat = x:=by
    have:(KT l).data.toList.getD i 0 = UInt8.ofNat x:=by
     rw [WZ (by simpa using hi)]
     simp [hxe]
    rw [this,UInt8.toNat_ofNat',Nat.mod_eq_of_lt hx]
   have:=ZGf k hs hs' hp L (KT l) (i:=i) (by omega) hg (by omega) 8 k r (by omega) (by omega) hr
   refine Eq.trans this ?_
   rw [Zw9 hs hp hr hx]
   have h2:=hL (ZaX s p r x) (Zhm hs hp hr hx)
   refine Eq.trans h2 ?_
   rw [hxe]
   rfl)
  k 0 0 (Nat.pow_pos (by omega)) (by omega) (Nat.zero_le _)
 rw [List.drop_zero] at this
 exact this
theorem ZJX (k:Nat) {l:List Int} (hl:ZW l = true) (hk:l.length + 20 < k) (hk':l.length < 4294967296):ZyK k (KT l,()) = some (((Zw8 l:Nat):Int),()):=by
 show Zi5 k _ = _
 simp only [Zi5]
 exact Zf (Zy6 k (s:=8) (p:=7) (by omega) (by omega) (by omega) hl hk hk') _
theorem ZJ9 (k:Nat) {l:List Int} (hl:ZW l = true) (hk:l.length + 20 < k) (hk':l.length < 4294967296):ZyN k (KT l,()) = some (((Ys l:Nat):Int),()):=by
 show Zjb k _ = _
 simp only [Zjb]
 exact Zf (Zy6 k (s:=16) (p:=32773) (by omega) (by omega) (by omega) hl hk hk') _
end Go.Sh
namespace Go.Sh
open Go Go.Proofs
theorem Zp1 (k kk:Nat) (h:kk ≤ 100):ZsL k ((kk:Int),()) = some (((Q9 kk:Nat):Int),()):=by
 show Zjw k _ = _
 simp only [Zjw]
 unfold Q9
 by_cases h1:kk = 1
 ·subst h1; rfl
 ·rw [show (((kk:Nat):Int) == (1:Int)) = false from by rw [ZB]; simp; omega,if_neg h1]
  simp only [cond_false]
  rw [ZQ (n:=5 * (kk:Int)) (by omega),ZQ (by omega)]
  congr 2
theorem ZBO:∀ (k:Fin 8) (m:Fin 64),2 ≤ k.val → m.val < 2 ^ (7 - k.val) → Zg (ZhI k.val m.val) 8 = (List.replicate k.val true ++ [false]) ++ Zg m.val (7 - k.val):=by decide +kernel
theorem ZEg:∀ x:Fin 64,Zg (128 + x.val) 8 = [true,false] ++ Zg x.val 6:=by decide +kernel
def Zmo:Nat → Nat → List (List Bool)
 | _,0 => []
 | n,i + 1 => Zg (n / 64 ^ i) 6 :: Zmo n i
theorem Ztm:∀ (i n:Nat),(Ku n i).flatMap (fun x => Zg x 8) = (Zmo n i).flatMap fun d => [true,false] ++ d
 | 0,n => rfl
 | i + 1,n => by
  rw [conts_cons',List.flatMap_cons,Ztm i n]
  have:=ZEg ⟨n / 64 ^ i % 64,Nat.mod_lt _ (by omega)⟩
  simp only at this
  rw [this,show n / 64 ^ i % 64 = n / 64 ^ i % 2 ^ 6 from rfl,Zda _ 6 6 (by omega)]
  rfl
where
 conts_cons' {i n:Nat}:Ku n (i + 1) = (128 + n / 64 ^ i % 64) :: Ku n i:=by
  induction i generalizing n with
  | zero => simp [Ku]
  | succ i ih =>
   rw [show Ku n (i + 1 + 1) = Ku (n / 64) (i + 1) ++ [128 + n % 64] from rfl,ih,show Ku n (i + 1) = Ku (n / 64) i ++ [128 + n % 64] from rfl,Nat.div_div_eq_div_mul,← Nat.pow_succ']
   rfl
theorem ZlM:∀ (i n a:Nat),Zg n (a + 6 * i) = Zg (n / 64 ^ i) a ++ (Zmo n i).flatten
 | 0,n,a => by simp [Zmo]
 | i + 1,n,a => by
  have e1:a + 6 * (i + 1) = (a + 6) + 6 * i:=by omega
  rw [e1,ZlM i n (a + 6)]
  have:=YC (n / 64 ^ i) a 6
  rw [this,Nat.div_div_eq_div_mul,show (2:Nat) ^ 6 = 64 from rfl,← Nat.pow_succ]
  simp only [Zmo,List.flatten_cons,List.append_assoc]
theorem ZDZ:∀ (i n:Nat),(Zmo n i).length = i ∧ ∀ d ∈ Zmo n i,d.length = 6
 | 0,n => ⟨rfl,by simp [Zmo]⟩
 | i + 1,n => by
  obtain ⟨h1,h2⟩:=ZDZ i n
  refine ⟨by simp [Zmo,h1],?_⟩
  intro d hd
  rcases List.mem_cons.1 hd with rfl | hd
  ·exact Zl _ _
  ·exact h2 d hd
theorem ZAp {n:Nat} (h:n < 2 ^ 36) (h128:128 ≤ n):(Qs n).flatMap (fun x => Zg x 8) = (List.replicate (Xq n) true ++ [false]) ++ (Zg (n / 64 ^ (Xq n - 1)) (7 - Xq n) ++ (Zmo n (Xq n - 1)).flatMap fun d => [true,false] ++ d):=by
 obtain ⟨h1,h2⟩:=Zs0 h h128
 have h7:=(Zwg n).2
 have hm64:=ZhL h1 h7 h2
 have hm:n / 64 ^ (Xq n - 1) < 2 ^ (7 - Xq n):=by
  have h64:(64:Nat) = 2 ^ 6:=rfl
  rw [Nat.div_lt_iff_lt_mul (Nat.pow_pos (by omega))]
  refine Nat.lt_of_lt_of_le h2 ?_
  rw [h64,← Nat.pow_mul,← Nat.pow_add]
  refine Nat.pow_le_pow_right (by omega) ?_
  unfold Q9
  rw [if_neg (by omega)]
  omega
 have e:Qs n = ZhI (Xq n) (n / 64 ^ (Xq n - 1)) :: Ku n (Xq n - 1):=by unfold Qs; rw [if_neg (by omega)]
 rw [e,List.flatMap_cons,Ztm]
 have:=ZBO ⟨Xq n,by omega⟩ ⟨n / 64 ^ (Xq n - 1),hm64⟩ h1 hm
 simp only at this
 rw [this,List.append_assoc]
theorem ZB3 {n:Nat} (h:n < 2 ^ 36):ZY ((Qs n).flatMap fun x => Zg x 8) = Wi (Qs n):=by
 have hlt:=Zok h
 have hb:ZW (Wi (Qs n)) = true:=by
  refine List.all_eq_true.2 fun x hx => ?_
  obtain ⟨y,hy,rfl⟩:=List.mem_map.1 hx
  have:=hlt y hy
  rw [Bool.and_eq_true,decide_eq_true_eq,decide_eq_true_eq]
  omega
 have e:((Qs n).flatMap fun x => Zg x 8) = QL (Wi (Qs n)):=by
  unfold QL Wi
  rw [List.flatMap_map]
  rfl
 rw [e,ZqB hb]
theorem ZJV (k:Nat) (hk:20000 < k) (D:List Bool) (hD:D.length ≤ 100):∀ (ss:List (List Bool)) (m i:Nat) (A:List Bool),ss.length < m → (∀ d ∈ ss,d.length = 6) → D.drop i = ss.flatten → i + 6 * ss.length = D.length → A.length ≤ 10000 - 8 * ss.length → ss.length ≤ 20 →
  Zm (fun L2 => Zet k L2) m ((i:Int),X5 D,X5 A) = some (ZY (A ++ ss.flatMap fun d => [true,false] ++ d),()):=by
 intro ss
 induction ss with
 | nil =>
  intro m i A hm hs hd hi hA _
  obtain ⟨m,rfl⟩:=Zn hm
  simp only [List.length_nil,Nat.mul_zero,Nat.add_zero,Nat.sub_zero] at hi hA
  rw [Zd]
  simp only [Zet]
  rw [ZD,Zi (by simp only [Qh]; omega),ZpJ k A (by omega) (by omega)]
  simp
 | cons d ss ih =>
  intro m i A hm hs hd hi hA h20
  obtain ⟨m,rfl⟩:=Zn (show 0 < m by omega)
  simp only [List.length_cons] at hi hA hm h20
  have hd6:=hs d (List.mem_cons_self ..)
  rw [Zd]
  simp only [Zet]
  have e1:IntKind.i64.wrap ((i:Int) + 6) = ((i + 6:Nat):Int):=by rw [ZQ (by omega)]; rfl
  rw [ZD,ZD,e1,Zb (by simp only [Qh]; omega),Zb (by omega),Zb (by simp only [Qh]; omega)]
  rw [QS,QS,ZaU.2.2.2.2.2.1,ZO,Zfg]
  have hex:(D.take (i + 6)).drop i = d:=by
   rw [List.drop_take,hd,List.flatten_cons,show i + 6 - i = 6 by omega,List.take_append_of_le_length (by omega),List.take_of_length_le (by omega)]
  rw [hex,ZD,ZD,Zb (by simp; omega),ZO]
  rw [ih m (i + 6) _ (by omega) (fun x hx => hs x (List.mem_cons_of_mem _ hx)) (by
   rw [← List.drop_drop,hd,List.flatten_cons,List.drop_append,List.drop_eq_nil_of_le (by omega),List.nil_append,hd6]
   rfl) (by omega) (by simp; omega) (by omega)]
  rw [List.flatMap_cons]
  simp only [List.append_assoc]
theorem ZJW (k:Nat) (hk:20000 < k) {n:Nat} (h:n < 2 ^ 36):ZyJ k ((n:Int),()) = some (Wi (Qs n),()):=by
 show Zi4 k (Zva k) _ = _
 simp only [Zi4]
 obtain ⟨r2,r3,r4,r5,r6,r7⟩:=ZqV
 have r1:Q9 1 = 7:=rfl
 have H:∀ (d kk m:Nat),kk + d = 7 → d < m → 1 ≤ kk → (1 < kk → 2 ^ Q9 (kk - 1) ≤ n) → Zm (fun L1 => YL k (ZhF k) L1) m ((n:Int),(kk:Int)) = some (Wi (Qs n),()):=by
  intro d
  induction d with
  | zero =>
   intro kk m hkk hm h1 hge
   obtain ⟨m,rfl⟩:=Zn hm
   obtain rfl:kk = 7:=by omega
   have hge:=hge (by omega)
   rw [show Q9 (7 - 1) = 31 from r6] at hge
   have hl7:Xq n = 7:=by unfold Xq; rw [if_neg (by omega),if_neg (by omega),if_neg (by omega),if_neg (by omega),if_neg (by omega),if_neg (by omega)]
   rw [Zd]
   exact fin 7 (fun L1 => YL k (ZhF k) L1) m (by omega) (by omega) hl7 (by rw [r7]; exact h)
  | succ d ih =>
   intro kk m hkk hm h1 hge
   obtain ⟨m,rfl⟩:=Zn (show 0 < m by omega)
   have hroom:Q9 kk ≤ 31:=by unfold Q9; split <;> omega
   by_cases hlt:n < 2 ^ Q9 kk
   ·rw [Zd]
    by_cases hk1:kk = 1
    ·subst hk1
     rw [r1] at hlt
     simp only [YL]
     rw [show (1:Int) = ((1:Nat):Int) from rfl,Zp1 k 1 (by omega)]
     simp only [Qb]
     rw [Zb (by omega)]
     have e:IntKind.i64.wrap (((1:Nat):Int) * (2:Int) ^ min (((Q9 1:Nat):Int)).toNat 64) = 128:=by rw [r1]; decide
     rw [e,Zi (by omega),show ((((1:Nat):Int)) == ((1:Nat):Int)) = true from rfl]
     simp only [cond_true]
     have ec:Qs n = [n]:=by unfold Qs; rw [if_pos (by omega)]
     rw [ec,wu8 (by omega)]
     rfl
    ·have hl:Xq n = kk:=by
      have hge:=hge (by omega)
      have hrange:kk = 2 ∨ kk = 3 ∨ kk = 4 ∨ kk = 5 ∨ kk = 6:=by omega
      rcases hrange with rfl | rfl | rfl | rfl | rfl
      ·simp only [Nat.reduceSub,r1,r2] at hge hlt
       unfold Xq; rw [if_neg (by omega),if_pos (by omega)]
      ·simp only [Nat.reduceSub,r2,r3] at hge hlt
       unfold Xq; rw [if_neg (by omega),if_neg (by omega),if_pos (by omega)]
      ·simp only [Nat.reduceSub,r3,r4] at hge hlt
       unfold Xq; rw [if_neg (by omega),if_neg (by omega),if_neg (by omega),if_pos (by omega)]
      ·simp only [Nat.reduceSub,r4,r5] at hge hlt
       unfold Xq; rw [if_neg (by omega),if_neg (by omega),if_neg (by omega),if_neg (by omega),if_pos (by omega)]
      ·simp only [Nat.reduceSub,r5,r6] at hge hlt
       unfold Xq; rw [if_neg (by omega),if_neg (by omega),if_neg (by omega),if_neg (by omega),if_neg (by omega),if_pos (by omega)]
     exact fin kk (fun L1 => YL k (ZhF k) L1) m (by omega) (by omega) hl hlt
   ·rw [Zd]
    simp only [YL]
    rw [Zp1 k kk (by omega)]
    simp only [Qb]
    rw [Zb (by omega),Ko hroom,Zb (by omega),show IntKind.i64.wrap ((kk:Int) + 1) = ((kk + 1:Nat):Int) from by rw [ZQ (by omega)]; rfl]
    exact ih (kk + 1) m (by omega) (by omega) (by omega) (fun _ => by rw [Nat.add_sub_cancel]; omega)
 exact H 6 1 k (by omega) (by omega) (by omega) (fun h => by omega)
where
 fin (kk:Nat) (step:(Int × Int → Option (List Int × Unit)) → Int × Int → Option (List Int × Unit)) (m:Nat) (h2:2 ≤ kk) (h7:kk ≤ 7) (hl:Xq n = kk) (hlt:n < 2 ^ Q9 kk):YL k (ZhF k) (Zm step m) ((n:Int),(kk:Int)) = some (Wi (Qs n),()):=by
  have h128:128 ≤ n:=by
   by_cases hh:n < 128
   ·exfalso
    unfold Xq at hl
    rw [if_pos (by omega)] at hl
    omega
   ·omega
  have hroom:Q9 kk ≤ 36:=by unfold Q9; split <;> omega
  have hre:Q9 kk = (7 - kk) + 6 * (kk - 1):=by unfold Q9; rw [if_neg (by omega)]; omega
  simp only [YL]
  rw [Zp1 k kk (by omega)]
  simp only [Qb]
  have eshl:IntKind.i64.wrap ((1:Int) * (2:Int) ^ min (((Q9 kk:Nat):Int)).toNat 64) = ((2 ^ Q9 kk:Nat):Int):=by
   have h1:2 ^ Q9 kk ≤ 2 ^ 36:=Nat.pow_le_pow_right (by omega) hroom
   rw [QS,Nat.min_eq_left (by omega),Int.one_mul,Qp]
   generalize 2 ^ Q9 kk = Q at h1 ⊢
   rw [ZQ (by omega)]
  rw [Zb (by omega),eshl,Zi (by omega),show ((kk:Int) == (1:Int)) = false from by rw [ZB]; simp; omega]
  simp only [cond_false]
  refine (Zf (Q5 k n (Q9 kk) (by omega) (by omega) (by omega)) _).trans ?_
  rw [Zb (by omega),ZaU.2.2.2.2.2.2,ZaU.2.1,QS,Zfg]
  have e1:((List.replicate 8 true).take kk).drop 0 = List.replicate kk true:=by rw [List.drop_zero,List.take_replicate,Nat.min_eq_left (by omega)]
  simp only [e1,ZO,ZD]
  have hl1:(List.replicate kk true ++ [false]).length = kk + 1:=by simp
  have e2:IntKind.i64.wrap ((8:Int) - Int.ofNat (List.replicate kk true ++ [false]).length) = ((7 - kk:Nat):Int):=by
   rw [hl1,ZQ (by simp only [Qh]; omega)]
   simp only [Qh]
   omega
  rw [e2,Zb (by simp; omega),Zb (by rw [Zl]; simp only [Qh]; omega),QS,Zfg,List.drop_zero]
  have e3:(Zg n (Q9 kk)).take (7 - kk) = Zg (n / 64 ^ (kk - 1)) (7 - kk):=by
   rw [hre,ZlM,List.take_append_of_le_length (by rw [Zl]; omega),List.take_of_length_le (by rw [Zl]; omega)]
  rw [e3,ZD,ZO,Zb (by rw [hl1,Zl]; omega)]
  have h6:=ZDZ (kk - 1) n
  have hdrop:(Zg n (Q9 kk)).drop (7 - kk) = (Zmo n (kk - 1)).flatten:=by
   rw [hre,ZlM,List.drop_append,List.drop_eq_nil_of_le (by rw [Zl]; omega),List.nil_append,Zl,Nat.sub_self,List.drop_zero]
  have:=ZJV k hk (Zg n (Q9 kk)) (by rw [Zl]; omega) (Zmo n (kk - 1)) k (7 - kk) ((List.replicate kk true ++ [false]) ++ Zg (n / 64 ^ (kk - 1)) (7 - kk)) (by omega) h6.2 hdrop (by rw [h6.1,Zl,hre]) (by rw [Wq,hl1,Zl]; omega) (by omega)
  refine Eq.trans this ?_
  have hb:=ZAp h h128
  rw [hl] at hb
  rw [List.append_assoc,← hb,ZB3 h]
end Go.Sh
namespace Go.Sh
open Go Go.Proofs
theorem ZxG (k:Nat) (c d r:Int):Zr8 k ((c,d,r,()),()) = some (YW c d r,()):=by
 show Ziw k _ = _
 simp only [Ziw]
 have rest:(bif decide ((4:Int) ≤ d) then bif decide (d ≤ (24:Int)) then bif decide ((1:Int) ≤ r) then some (decide (r ≤ (655350:Int)),()) else some (false,()) else some (false,()) else some (false,())) = some (decide (4 ≤ d ∧ d ≤ 24 ∧ 1 ≤ r ∧ r ≤ 655350),()):=by
  by_cases h1:4 ≤ d
  ·rw [Zb h1]
   by_cases h2:d ≤ 24
   ·rw [Zb h2]
    by_cases h3:1 ≤ r
    ·rw [Zb h3]
     by_cases h4:r ≤ 655350
     ·rw [QX h4,QX (by omega)]
     ·rw [QN h4,QN (by omega)]
    ·rw [Zi h3,QN (by omega)]
   ·rw [Zi h2,QN (by omega)]
  ·rw [Zi h1,QN (by omega)]
 have fin:∀ b:Bool,b = decide (1 ≤ c ∧ c ≤ 2) → some ((b && decide (4 ≤ d ∧ d ≤ 24 ∧ 1 ≤ r ∧ r ≤ 655350)),()) = some (YW c d r,()):=by
  rintro b rfl
  unfold YW
  congr 2
  rw [← Bool.decide_and]
  by_cases h:1 ≤ c ∧ c ≤ 2 ∧ 4 ≤ d ∧ d ≤ 24 ∧ 1 ≤ r ∧ r ≤ 655350
  ·rw [QX h,QX (by omega)]
  ·rw [QN h,QN (by omega)]
 rw [ZB,ZB]
 by_cases h1:c = 1
 ·rw [Zb h1,rest]
  have:=fin true (by rw [QX (by omega)])
  simpa using this
 ·rw [Zi h1]
  by_cases h2:c = 2
  ·rw [Zb h2,rest]
   have:=fin true (by rw [QX (by omega)])
   simpa using this
  ·rw [Zi h2]
   have:=fin false (by rw [QN (by omega)])
   simpa using this
theorem ZiO (k:Nat) (x:Int) {d:Nat} (hd:d ≤ 40):Zpv k (x,(d:Int),()) = some (WU x d,()):=by
 show ZiN k _ = _
 simp only [ZiN]
 unfold WU
 rw [ZB,ZB]
 by_cases h0:d = 0
 ·rw [Zb (by omega),if_pos h0]
 ·rw [Zi (by omega),if_neg h0]
  have e1:IntKind.i64.wrap ((d:Int) - 1) = ((d - 1:Nat):Int):=by rw [ZQ (by omega)]; omega
  have hp:2 ^ (d - 1) ≤ 2 ^ 39:=Nat.pow_le_pow_right (by omega) (by omega)
  have e2:IntKind.i64.wrap ((1:Int) * (2:Int) ^ min (((d - 1:Nat):Int)).toNat 64) = ((2 ^ (d - 1):Nat):Int):=by
   rw [QS,Nat.min_eq_left (by omega),Int.one_mul,Qp]
   generalize 2 ^ (d - 1) = Q at hp ⊢
   rw [ZQ (by omega)]
  rw [e1,e2,Zb (by omega),Qp]
  generalize 2 ^ (d - 1) = Q at hp ⊢
  rw [ZQ (n:=0 - (Q:Int)) (by omega)]
  by_cases h1:(0:Int) - (Q:Int) ≤ x
  ·rw [Zb h1,Zb (by omega)]
   by_cases h2:x < (Q:Int)
   ·rw [QX h2,QX ⟨by omega,h2⟩]
   ·rw [QN h2,QN (by omega)]
  ·rw [Zi h1,QN (by omega)]
theorem ZxO (k:Nat) (hk:1000 < k) (c d r n:Int) {ch:List (List Int)} (hs:Sm ch):ZoN k ((c,d,r,()),(n,ch,()),()) = some (XC c d r n ch,()):=by
 show ZiA k (Zur k) _ = _
 simp only [ZiA]
 rw [ZxG]
 simp only [Qb]
 unfold XC
 cases hsh:YW c d r with
 | false => rfl
 | true =>
  have hb:=of_decide_eq_true hsh
  simp only [Bool.not_true,cond_false,Bool.true_eq_false,if_false]
  by_cases h1:n < 0
  ·rw [Zb h1,if_pos (.inl h1)]
  rw [Zi h1]
  by_cases h2:2147483647 < n
  ·rw [Zb h2,if_pos (.inr (.inl h2))]
  rw [Zi h2,ZT]
  by_cases h3:(ch.length:Int) = c
  case neg => rw [Zb (by simpa using h3),if_pos (.inr (.inr h3))]
  rw [Zi (by simpa using h3),if_neg (by omega)]
  have hpos:0 < ch.length:=by omega
  have hlast:(IntKind.i64.wrap (c - 1)).toNat = ch.length - 1 ∧ (0:Int) ≤ IntKind.i64.wrap (c - 1) ∧ IntKind.i64.wrap (c - 1) < Int.ofNat ch.length:=by rw [ZQ (by omega)]; simp only [Qh]; omega
  rw [Zb (by simp only [Qh]; omega)]
  have hhd:ch.getD 0 [] = ch.headD []:=by cases ch <;> rfl
  rw [hhd]
  have hlen2:ch.length = 1 ∨ ch.length = 2:=by omega
  have hall:ch.all (K1 (ch.headD []).length) = decide (1 ≤ (ch.headD []).length ∧ (ch.headD []).length ≤ 512 ∧ (ch.getD (ch.length - 1) []).length = (ch.headD []).length):=by
   match ch,hlen2 with
   | [a],_ =>
    simp only [List.all_cons,List.all_nil,Bool.and_true,List.headD_cons,K1,List.length_singleton,Nat.sub_self,List.getD_cons_zero]
    clear hlast hb h3 hk
    by_cases h:1 ≤ a.length ∧ a.length ≤ 512
    ·rw [QX ⟨trivial,h⟩,QX ⟨h.1,h.2,trivial⟩]
    ·rw [QN fun q => h q.2,QN fun q => h ⟨q.1,q.2.1⟩]
   | [a,b],_ =>
    show (K1 a.length a && (K1 a.length b && true)) = decide (1 ≤ a.length ∧ a.length ≤ 512 ∧ b.length = a.length)
    unfold K1
    rw [Bool.and_true,← Bool.decide_and]
    by_cases h:1 ≤ a.length ∧ a.length ≤ 512 ∧ b.length = a.length
    ·rw [QX h,QX (by omega)]
    ·rw [QN h,QN (by omega)]
  rw [hall]
  generalize hN:(ch.headD []).length = N
  by_cases h4:(N:Int) < 1
  ·rw [Zb (by simp only [Qh]; omega),QN (by omega),if_pos rfl]
  rw [Zi (by simp only [Qh]; omega)]
  by_cases h5:512 < N
  ·rw [Zb (by simp only [Qh]; omega),QN (by omega),if_pos rfl]
  rw [Zi (by simp only [Qh]; omega),Zb ⟨hlast.2.1,hlast.2.2⟩,hlast.1,ZT]
  by_cases h6:(ch.getD (ch.length - 1) []).length = N
  case neg => rw [Zb (by simp only [Qh]; omega),QN (by omega),if_pos rfl]
  rw [Zi (by simp only [Qh]; omega),QX (by omega),if_neg (by simp)]
  have hlens:∀ l ∈ ch,l.length = N:=by
   have:ch.all (K1 N) = true:=by rw [← hN,hall,QX (by omega)]
   intro l hl
   have:=of_decide_eq_true (List.all_eq_true.1 this l hl)
   exact this.1
  obtain ⟨dn,hdn⟩:=Int.eq_ofNat_of_zero_le (show 0 ≤ d by omega)
  subst hdn
  rw [QS]
  have hcn:c = ((ch.length:Nat):Int):=h3.symm
  subst hcn
  have inner:∀ (L1:Int × Int × Int × Int × Int × Int × List (List Int) → Option (Int × Unit)) (q:Nat) (hq:q < ch.length),ZoO k L1 ((0:Int),Int.ofNat N,(q:Int),n,ch,((ch.length:Nat):Int),(dn:Int),r) =
    bif ch[q].all (fun x => WU x dn) then L1 (((q + 1:Nat):Int),Int.ofNat N,((ch.length:Nat):Int),(dn:Int),r,n,ch) else some (12,()):=by
   intro L1 q hq
   have hql:=hlens ch[q] (List.getElem_mem hq)
   have hgq:ch.getD q [] = ch[q]:=WZ hq
   exact XZ (R:=Int × Unit) (step:=fun L2 => Zb8 k L1 L2) (fun i => (Int.ofNat i,Int.ofNat N,(q:Int),n,ch,((ch.length:Nat):Int),(dn:Int),r)) ch[q] (fun x => WU x dn) (some (12,())) (L1 (((q + 1:Nat):Int),Int.ofNat N,((ch.length:Nat):Int),(dn:Int),r,n,ch))
    (fun L => by
     simp only [Zb8]
     rw [hql,Zi (QV _),ZQ (n:=(q:Int) + 1) (by omega)]
     rfl)
    (fun L i hi => by
     simp only [Zb8]
     rw [Zb (by rw [← hql]; exact KU hi),Zb (by simp only [Qh]; omega),QS,hgq,Zb (Xx hi),ZK hi,ZiO k _ (by omega)]
     simp only [Qb]
     cases WU ch[q][i] dn with
     | false => rfl
     | true =>
      simp only [Bool.not_true,cond_false,cond_true]
      rw [Qq hi (by omega)]) k (by omega)
  have outer:=XZ (R:=Int × Unit) (step:=fun L1 => Zd7 k (ZoO k L1) L1) (fun i => (Int.ofNat i,Int.ofNat N,((ch.length:Nat):Int),(dn:Int),r,n,ch)) ch (fun l => l.all fun x => WU x dn) (some (12,())) (some (0,()))
   (fun L => by
    simp only [Zd7]
    rw [Zi (by simp only [Qh]; omega)])
   (fun L i hi => by
    simp only [Zd7]
    rw [Zb (by simp only [Qh]; omega)]
    exact inner L i hi) k (by omega)
  refine Eq.trans outer ?_
  cases ch.all (fun l => l.all fun x => WU x dn) <;> rfl
theorem ZI4 (k:Nat) (hk:2000000 < k) (n:Int) {ch:List (List Int)} (hs:Sm ch):Zyl k ((n,ch,()),()) = some (ch.all (fun l => decide (l.length ≤ 300)),()):=by
 show ZiJ k (ZuJ k) _ = _
 simp only [ZiJ]
 have hc:=hs.1
 have:=XZ (R:=Bool × Unit) (step:=fun L1 => Zeh k L1) (fun i => (Int.ofNat i,n,ch)) ch (fun l => decide (l.length ≤ 300)) (some (false,())) (some (true,()))
  (fun L => by simp only [Zeh]; rw [Zi (QV _)])
  (fun L i hi => by
   simp only [Zeh]
   rw [Zb (KU hi),Zb (Xx hi),ZK hi]
   by_cases h:ch[i].length ≤ 300
   ·rw [Zi (by simp only [Qh]; omega),QX h,Qq hi (by omega)]
    rfl
   ·rw [Zb (by simp only [Qh]; omega),QN h]
    rfl) k (by omega)
 refine Eq.trans this ?_
 cases ch.all (fun l => decide (l.length ≤ 300)) <;> rfl
theorem Zq4 (n:Int) : -1 ≤ n.tmod 2 ∧ n.tmod 2 ≤ 1:=by
 rcases Int.le_total 0 n with h | h
 ·rw [Int.tmod_eq_emod_of_nonneg h]
  omega
 ·have:=Int.neg_tmod (a := -n) (b:=2)
  rw [Int.neg_neg] at this
  rw [this,Int.tmod_eq_emod_of_nonneg (by omega)]
  omega
theorem ZK0 (k:Nat) {n:Int} (h : -1000000000000 ≤ n ∧ n ≤ 1000000000000):Zzb k (n,()) = some (n / 2,()):=by
 show ZjD k _ = _
 simp only [ZjD]
 have e1:IntKind.i64.wrap (n.tmod 2 + 2) = n.tmod 2 + 2:=by
  have:=Zq4 n
  exact ZQ (by omega)
 have e2:(n.tmod 2 + 2).tmod 2 = n % 2:=by
  have h1:=Zq4 n
  have h3:=Int.tmod_add_mul_tdiv n 2
  rw [Int.tmod_eq_emod_of_nonneg (by omega)]
  omega
 rw [e1,e2,ZQ (n:=n - n % 2) (by omega)]
 have e3:(n - n % 2).tdiv 2 = n / 2:=by
  have:n - n % 2 = n / 2 * 2:=by omega
  rw [this,Int.mul_tdiv_cancel _ (by omega)]
 rw [e3,ZQ (by omega)]
theorem ZyL (k:Nat) {L R:List Int} {m:Int} (hm:ZjU m) (hl:L.length = R.length) (hn:L.length ≤ 8192) (hk:10000 < k) (hL:∀ x ∈ L,Z0 x) (hR:∀ x ∈ R,Z0 x) :
  ZsD k ((L,R,()),m,()) = some ((XA m L R,XB m L R,()),()):=by
 show Zi9 k (Zvl k) _ = _
 simp only [Zi9]
 have hzl:(L.zip R).length = L.length:=by rw [List.length_zip]; omega
 have:=Zu (A:=List Int × List Int) (R:=(List Int × List Int × Unit) × Unit) (step:=fun L1 => Zcx k L1) (fun i a => (Int.ofNat i,m,L,R,a.1,a.2)) (L.zip R)
  (fun l' a => some ((a.1 ++ l'.map (fun x => apA m x.1 x.2),a.2 ++ l'.map (fun x => apB m x.1 x.2),()),())) (fun i a => a.1.length = i ∧ a.2.length = i)
  (fun L1 a _ => by
   simp only [Zcx]
   rw [hzl,Zi (QV _)]
   simp)
  (fun L1 i hi a ha hL1 => by
   have hi1:i < L.length:=by omega
   have hi2:i < R.length:=by omega
   have b1:=hL L[i] (List.getElem_mem hi1)
   have b2:=hR R[i] (List.getElem_mem hi2)
   unfold Z0 at b1 b2
   have key:Zcx k L1 (Int.ofNat i,m,L,R,a.1,a.2) = L1 (Int.ofNat (i + 1),m,L,R,a.1 ++ [apA m L[i] R[i]],a.2 ++ [apB m L[i] R[i]]):=by
    simp only [Zcx]
    rw [Zb (KU hi1),Zb (Xx hi1),Zb (Xx hi2),ZK hi1,ZK hi2,ZQ (n:=L[i] - R[i]) (by omega),ZQ (n:=L[i] + R[i]) (by omega),ZK0 k (by omega)]
    simp only [Qb]
    have c1:∀ v:Int,a.1.length + [v].length < 2147483648:=fun v => by simp only [List.length_singleton]; omega
    have c2:∀ v:Int,a.2.length + [v].length < 2147483648:=fun v => by simp only [List.length_singleton]; omega
    rw [ZB,ZB,ZB]
    simp only [QX (c1 _),QX (c2 _),cond_true,Qq hi1 (show L.length ≤ 4294967296 by omega)]
    unfold apA apB
    rcases hm with rfl | rfl | rfl | rfl <;> rfl
   have q:=hL1 (a.1 ++ [apA m L[i] R[i]],a.2 ++ [apB m L[i] R[i]]) (by simp; omega)
   refine key.trans (q.trans ?_)
   simp only
   rw [List.map_cons,List.map_cons,List.append_assoc,List.append_assoc,List.getElem_zip]
   rfl)
  k 0 ([],[]) ⟨rfl,rfl⟩ (by omega) (Nat.zero_le _)
 rw [List.drop_zero] at this
 exact this
theorem Zy5 (k:Nat) {l:List Int} (hk:l.length < k) (hn:l.length ≤ 8192) (hl:∀ x ∈ l,Qk x):ZsK k (l,()) = some (Ki l,()):=by
 show Zjv k (ZvS k) _ = _
 simp only [Zjv]
 have:=Zu (A:=Int × Int) (R:=Int × Unit) (step:=fun L1 => ZeJ k L1) (fun i a => (Int.ofNat i,l,a.1,a.2)) l
  (fun l' a => some (Zfb l' a.1 a.2,())) (fun i a => 0 ≤ a.1 ∧ a.1 ≤ (i:Int) * 134217728 ∧ Qk a.2)
  (fun L a _ => by simp only [ZeJ]; rw [Zi (QV _)]; rfl)
  (fun L i hi a ha hL => by
   simp only [ZeJ]
   have hx:=hl l[i] (List.getElem_mem hi)
   have hx2:=hx
   unfold Qk at hx ha
   rw [Zb (KU hi),Zb (Xx hi),Zb (Xx hi),Zb (Xx hi),ZK hi,ZQ (n:=l[i] - a.2) (by omega),ZQ (n:=a.2 - l[i]) (by omega)]
   have hmx:(if l[i] - a.2 < a.2 - l[i] then a.2 - l[i] else l[i] - a.2) = ((l[i] - a.2).natAbs:Int):=by omega
   rw [hmx,ZQ (n:=a.1 + ((l[i] - a.2).natAbs:Int)) (by omega),Qq hi (by omega)]
   exact hL (a.1 + ((l[i] - a.2).natAbs:Int),l[i]) ⟨by omega,by push_cast; omega,hx2⟩)
  k 0 (0,0) ⟨by omega,by omega,by unfold Qk; omega⟩ (by omega) (Nat.zero_le _)
 rw [List.drop_zero] at this
 exact this
theorem ZJM (k:Nat) {L R:List Int} (hl:L.length = R.length) (hn:L.length ≤ 8192) (hk:10000 < k) (hL:∀ x ∈ L,Z0 x) (hR:∀ x ∈ R,Z0 x):Zi0 k ((L,R,()),()) = some (ZU L R,()):=by
 show Zi1 k (Zu3 k) _ = _
 simp only [Zi1]
 obtain ⟨j,rfl⟩:∃ j,k = j + 5:=⟨k - 5,by omega⟩
 have hcost:∀ m,0 ≤ Zig L R m ∧ Zig L R m ≤ 2199023255552:=by
  intro m
  obtain ⟨s1,s2⟩:=ZdR (m:=m) hL hR
  obtain ⟨l1,l2⟩:=ZbN (m:=m) hl
  have h1:=Zak s1 (by omega)
  have h2:=Zak s2 (by omega)
  unfold Zig
  omega
 have one:∀ (e i:Nat) (m:Int) (B:Int × Int),ZjU m → i < 4 → [(0:Int),8,9,10].getD i 0 = m → (i = 0 ∧ B.1 < 0 ∨ i ≠ 0 ∧ 0 ≤ B.1) → ∀ z:Int,(B.1 < 0 → True) → (0 ≤ B.1 → z = B.1) →
   Zm (fun L1 => Zcs (j + 5) L1) (e + 1) ((i:Int),z,B.2,L,R,[0,8,9,10]) = Zm (fun L1 => Zcs (j + 5) L1) e (((i + 1:Nat):Int),(Yy L R B m).1,(Yy L R B m).2,L,R,[0,8,9,10]):=by
  intro e i m B hm hi hg hB z _ hz
  rw [Zd]
  simp only [Zcs]
  have c1:(0:Int) ≤ (i:Int) ∧ (i:Int) < Int.ofNat [(0:Int),8,9,10].length:=by simp only [Qh,List.length_cons,List.length_nil]; omega
  have c2:((i:Int)).toNat < [(0:Int),8,9,10].length:=by simp only [List.length_cons,List.length_nil]; omega
  simp only [QX c1,QX c2,cond_true]
  rw [Zb (by omega),QS,hg]
  obtain ⟨s1,s2⟩:=ZdR (m:=m) hL hR
  obtain ⟨l1,l2⟩:=ZbN (m:=m) hl
  refine (Zf (ZyL (j + 5) hm hl hn hk hL hR) _).trans ?_
  refine (Zf (Zy5 (j + 5) (by omega) (by omega) s1) _).trans ?_
  refine (Zf (Zy5 (j + 5) (by omega) (by omega) s2) _).trans ?_
  have hc:=hcost m
  have ec:IntKind.i64.wrap (Ki (XA m L R) + Ki (XB m L R)) = Zig L R m:=by unfold Zig at hc ⊢; rw [ZQ (by omega)]
  have ei:IntKind.i64.wrap ((i:Int) + 1) = ((i + 1:Nat):Int):=by rw [ZQ (by omega)]; rfl
  simp only
  rw [ec,ei,ZB]
  unfold Yy
  rcases hB with ⟨rfl,hb⟩ | ⟨h0,hb⟩
  ·rw [Zb (by rfl),if_pos (.inl hb)]
  ·rw [Zi (by omega),hz hb]
   by_cases hlt:Zig L R m < B.1
   ·rw [Zb hlt,if_pos (.inr hlt)]
   ·rw [Zi hlt,if_neg (by omega)]
 have nn:∀ (B:Int × Int) (m:Int),(Yy L R B m).1 ≥ 0:=by
  intro B m
  have:=hcost m
  unfold Yy
  split <;> omega
 have s0:=one (j + 4) 0 0 (-1,0) (.inl rfl) (by omega) rfl (.inl ⟨rfl,by decide⟩) 0 (fun _ => trivial) (fun h => by simp at h)
 have s1:=one (j + 3) 1 8 (Yy L R (-1,0) 0) (.inr (.inl rfl)) (by omega) rfl (.inr ⟨by omega,nn _ _⟩) _ (fun _ => trivial) (fun _ => rfl)
 have s2:=one (j + 2) 2 9 (Yy L R (Yy L R (-1,0) 0) 8) (.inr (.inr (.inl rfl))) (by omega) rfl (.inr ⟨by omega,nn _ _⟩) _ (fun _ => trivial) (fun _ => rfl)
 have s3:=one (j + 1) 3 10 (Yy L R (Yy L R (Yy L R (-1,0) 0) 8) 9) (.inr (.inr (.inr rfl))) (by omega) rfl (.inr ⟨by omega,nn _ _⟩) _ (fun _ => trivial) (fun _ => rfl)
 refine s0.trans (s1.trans (s2.trans (s3.trans ?_)))
 rw [Zd]
 simp only [Zcs]
 rw [Zi (by omega)]
 rfl
theorem ZJ8 (k:Nat) (d m:Int) (hd:0 ≤ d ∧ d ≤ 100):ZyM k (d,m,()) = some ((if m = 9 then d + 1 else d,if m = 8 ∨ m = 10 then d + 1 else d,()),()):=by
 show Zja k _ = _
 simp only [Zja]
 rw [ZQ (n:=d + 1) (by omega),ZB,ZB,ZB]
 by_cases h8:m = 8
 ·rw [Zb h8,if_neg (by omega),if_pos (.inl h8)]
 ·rw [Zi h8]
  by_cases h10:m = 10
  ·rw [Zb h10,if_neg (by omega),if_pos (.inr h10)]
  ·rw [Zi h10]
   by_cases h9:m = 9
   ·rw [Zb h9,if_pos h9,if_neg (by omega)]
   ·rw [Zi h9,if_neg h9,if_neg (by omega)]
end Go.Sh
namespace Go.Sh
open Go Go.Proofs
theorem ZFR (k:Nat) (x:Int):Zpd k (x,()) = some (!Qa x,()):=by
 show Zgo k _ = _
 simp only [Zgo]
 unfold Qa
 by_cases h1 : -2147483648 < x
 ·rw [Zb h1]
  by_cases h2:x < 2147483648
  ·rw [QX h2,QN (by omega)]; rfl
  ·rw [QN h2,QX (by omega)]; rfl
 ·rw [Zi h1,QX (by omega)]; rfl
theorem ZlP {l:List Int} {p:Int → Bool}:(l.all fun x => !p x) = !l.any p:=by
 induction l with
 | nil => rfl
 | cons x l ih => simp only [List.all_cons,List.any_cons,ih,Bool.not_or]
theorem ZkO (k:Nat) (l:List Int) (hk:l.length < k) (hn:l.length < 4294967296):Zhy k (l,()) = some (!l.any Qa,()):=by
 show ZfM k (ZmR k) _ = _
 simp only [ZfM]
 have:=XZ (R:=Bool × Unit) (step:=fun L1 => ZbY k L1) (fun i => (Int.ofNat i,l)) l (fun x => !Qa x) (some (false,())) (some (true,()))
  (fun L => by simp only [ZbY]; rw [Zi (QV _)])
  (fun L i hi => by
   simp only [ZbY]
   rw [Zb (KU hi),Zb (Xx hi),ZK hi,ZFR]
   simp only [Qb]
   rw [Qq hi (by omega)]
   cases Qa l[i] <;> rfl) k hk
 refine Eq.trans this ?_
 rw [ZlP]
 cases l.any Qa <;> rfl
theorem ZFD (k:Nat) (c:List Int) (sh:Int) (hk:10 < k):Zo9 k ((c,sh,()),()) = some (Kc c sh,()):=by
 show Zgg k (Znn k) _ = _
 simp only [Zgg]
 unfold Kc
 by_cases h1:(8:Int) < Int.ofNat c.length
 ·simp only [Qh] at h1
  rw [Zb (by simp only [Qh]; omega),QN (by omega)]; rfl
 ·simp only [Qh] at h1
  rw [Zi (by simp only [Qh]; omega)]
  by_cases h2:sh < 0
  ·rw [Zb h2,QN (by omega)]; rfl
  ·rw [Zi h2]
   by_cases h3:15 < sh
   ·rw [Zb h3,QN (by omega)]; rfl
   ·rw [Zi h3,QX (by omega)]
    have:=XZ (R:=Bool × Unit) (step:=fun L1 => Zcf k L1) (fun i => (Int.ofNat i,c,sh)) c Zay (some (false,())) (some (true,()))
     (fun L => by simp only [Zcf]; rw [Zi (QV _)])
     (fun L i hi => by
      simp only [Zcf]
      rw [Zb (KU hi),Zb (Xx hi),Zb (Xx hi),ZK hi,Qq hi (by omega)]
      unfold Zay
      by_cases h4:c[i] < -2048
      ·rw [Zb h4,QN (by omega)]; rfl
      ·rw [Zi h4]
       by_cases h5:2047 < c[i]
       ·rw [Zb h5,QN (by omega)]; rfl
       ·rw [Zi h5,QX (by omega)]; rfl) k (by omega)
    refine Eq.trans this ?_
    rw [Bool.true_and]
    cases c.all Zay <;> rfl
theorem ZLa {a Q:Int} (hQ:0 < Q):a.fdiv Q = if a.tmod Q < 0 then a.tdiv Q - 1 else a.tdiv Q:=by
 rw [Int.fdiv_eq_ediv_of_nonneg _ (by omega)]
 have h1:=Int.tmod_add_mul_tdiv a Q
 have h2 : -Q < a.tmod Q ∧ a.tmod Q < Q:=by
  rcases Int.le_total 0 a with h | h
  ·rw [Int.tmod_eq_emod_of_nonneg h]
   have:=Int.emod_nonneg a (show Q ≠ 0 by omega)
   have:=Int.emod_lt_of_pos a hQ
   omega
  ·have e:=Int.neg_tmod (a := -a) (b:=Q)
   rw [Int.neg_neg] at e
   rw [e,Int.tmod_eq_emod_of_nonneg (by omega)]
   have:=Int.emod_nonneg (-a) (show Q ≠ 0 by omega)
   have:=Int.emod_lt_of_pos (-a) hQ
   omega
 generalize a.tmod Q = r at h1 h2 ⊢
 generalize a.tdiv Q = q at h1 ⊢
 rw [← h1,Int.add_mul_ediv_left _ _ (by omega)]
 split
 ·have h3:(r + Q) / Q = 0:=Int.ediv_eq_zero_of_lt (by omega) (by omega)
  have h4:=Int.add_mul_ediv_left r 1 (show Q ≠ 0 by omega)
  rw [Int.mul_one,h3] at h4
  omega
 ·rw [Int.ediv_eq_zero_of_lt (by omega) (by omega)]
  omega
theorem ZF0 (k:Nat) {x sh:Int} (hx : -140737488355328 ≤ x ∧ x ≤ 140737488355328) (hsh:0 ≤ sh ∧ sh ≤ 15):Zpk k (x,sh,()) = some (x.fdiv (2 ^ sh.toNat),()):=by
 show Zgw k _ = _
 simp only [Zgw]
 have hb:=ZhH (x:=x) (b:=140737488355328) sh.toNat hx (by omega)
 rw [Nat.min_eq_left (by omega),Int.one_mul]
 have hp:2 ^ sh.toNat ≤ 2 ^ 15:=Nat.pow_le_pow_right (by omega) (by omega)
 have hp0:0 < 2 ^ sh.toNat:=Nat.pow_pos (by omega)
 rw [Qp] at hb ⊢
 generalize 2 ^ sh.toNat = Q at *
 have e:=ZLa (a:=x) (Q:=(Q:Int)) (by omega)
 rw [Zb hsh.1,ZQ (n:=(Q:Int)) (by omega),Zb (by omega),Zb (by omega)]
 by_cases h:x.tmod (Q:Int) < 0
 ·rw [if_pos h] at e
  rw [Zb h,ZQ (n:=x.tdiv (Q:Int)) (by omega),ZQ (by omega),e]
 ·rw [if_neg h] at e
  rw [Zi h,ZQ (n:=x.tdiv (Q:Int)) (by omega),e]
theorem ZFF (k:Nat) {c s:List Int} {sh:Int} {p:Nat} (hk:c.length < k) (hl:c.length ≤ 8) (hcp:c.length ≤ p) (hps:p ≤ s.length) (hn:s.length ≤ 4294967296) (hsh:0 ≤ sh ∧ sh ≤ 15) (hc:∀ x ∈ c,ZrF x) (hs:∀ x ∈ s,ZI x) :
  Zpa k ((c,sh,()),s,(p:Int),()) = some (ZcP c sh (s.take p),()):=by
 show Zgh k (Znp k) _ = _
 simp only [Zgh]
 have hta:(s.take p).length = p:=by simp; omega
 have hzl:(c.zip (s.take p).reverse).length = c.length:=by rw [List.length_zip,List.length_reverse]; omega
 have hterm:=Zky hc (fun x hx => hs x (List.mem_of_mem_take hx):∀ x ∈ s.take p,ZI x)
 have hI:=Zu (A:=Int) (R:=Int × Unit) (step:=fun L1 => Zcg k L1) (fun i acc => (Int.ofNat i,acc,s,(p:Int),c,sh)) (c.zip (s.take p).reverse)
  (fun l acc => some ((acc + ZaT (l.map fun x => x.1 * x.2)).fdiv (2 ^ sh.toNat),())) (fun i acc => i ≤ 8 ∧ -((i:Int) * 4398046511104) ≤ acc ∧ acc ≤ (i:Int) * 4398046511104)
  (fun L acc h => by
   simp only [Zcg]
   rw [hzl,Zi (QV _)]
   rw [hzl] at h
   have h8:(c.length:Int) ≤ 8:=by omega
   rw [ZF0 k (by omega) hsh]
   simp [ZaT])
  (fun L i hi acc hacc hL => by
   have hi2:i < c.length:=by omega
   have hi3:i < (s.take p).reverse.length:=by simp; omega
   simp only [Zcg]
   have e1:IntKind.i64.wrap (IntKind.i64.wrap ((p:Int) - 1) - Int.ofNat i) = ((p - 1 - i:Nat):Int):=by
    simp only [Qh]
    rw [ZQ (n:=(p:Int) - 1) (by omega),ZQ (by omega)]; omega
   rw [Zb (KU hi2),Zb (Xx hi2),e1,Zb (by simp only [Qh]; omega),ZK hi2,QS]
   have e2:s.getD (p - 1 - i) 0 = (s.take p).reverse[i]:=by
    rw [List.getElem_reverse,WZ (by omega),List.getElem_take]
    congr 1
    omega
   rw [e2]
   have hz:(c.zip (s.take p).reverse)[i] = (c[i],(s.take p).reverse[i]):=by simp
   have ht:=hterm (c[i] * (s.take p).reverse[i]) (List.mem_map.2 ⟨(c[i],(s.take p).reverse[i]),by rw [← hz]; exact List.getElem_mem _,rfl⟩)
   have hi8:(i:Int) ≤ 8:=by omega
   rw [ZQ (n:=c[i] * (s.take p).reverse[i]) (by omega),ZQ (n:=acc + c[i] * (s.take p).reverse[i]) (by omega),Qq hi2 (by omega)]
   rw [hL _ ⟨by omega,by push_cast; omega,by push_cast; omega⟩,hz]
   simp only [List.map_cons,ZaT]
   rw [Int.add_assoc]) k 0 0 ⟨by omega,by omega,by omega⟩ (by omega) (Nat.zero_le _)
 refine Eq.trans hI ?_
 rw [List.drop_zero,Int.zero_add]
 rfl
theorem Zr3 (k:Nat) (c:List Int) (sh:Int) (s:List Int) (hk:s.length + 10 < k) (hn:s.length ≤ 8192):Zhx k ((c,sh,()),s,()) = some (((QK c sh s).1,(QK c sh s).2,()),()):=by
 show ZfI k (ZmN k) _ = _
 simp only [ZfI]
 rw [ZFD k c sh (by omega)]
 simp only [Qb]
 unfold QK
 cases hm:Kc c sh with
 | false => simp only [Bool.false_eq_true,if_false,if_true]; rfl
 | true =>
  simp only [Bool.true_eq_false,if_false,Bool.not_true,cond_false,Qh]
  by_cases hl:s.length < c.length
  ·rw [Zb (by omega),if_pos hl]
  ·rw [Zi (by omega),if_neg hl,ZkO k s (by omega) (by omega)]
   simp only [Qb,Bool.not_not]
   cases hw:s.any Qa with
   | true => simp only [cond_true,if_true]
   | false =>
    simp only [cond_false,Bool.false_eq_true,if_false]
    obtain ⟨hc8,hsh,hcR⟩:=KP hm
    have hnar:=X2 hw
    suffices H:∀ (d i m:Nat) (acc:List Int),i + d = s.length → c.length ≤ i → d < m → acc.length + d ≤ s.length →
      Zm (fun L1 => ZbW k L1) m ((i:Int),s,acc,c,sh) = some (if (acc ++ Zj6 c sh s d i).any Qa then (([],12,()),()) else ((acc ++ Zj6 c sh s d i,0,()),())) by
     have:=H (s.length - c.length) c.length k [] (by omega) (by omega) (by omega) (by simp)
     refine Eq.trans this ?_
     unfold ZaR
     rw [List.nil_append]
     cases (Zj6 c sh s (s.length - c.length) c.length).any Qa <;> simp
    intro d
    induction d with
    | zero =>
     intro i m acc hi hci hm _
     obtain ⟨m,rfl⟩:=Zn hm
     rw [Zd]
     simp only [ZbW]
     rw [Zi (by simp only [Qh]; omega),ZkO k acc (by omega) (by omega)]
     simp only [Qb,Zj6,List.append_nil]
     cases acc.any Qa <;> rfl
    | succ d ih =>
     intro i m acc hi hci hm hacc
     obtain ⟨m,rfl⟩:=Zn (show 0 < m by omega)
     rw [Zd]
     simp only [ZbW]
     have hi2:i < s.length:=by omega
     rw [Zb (by simp only [Qh]; omega),Zb (by simp only [Qh]; omega),QS]
     have htn:∀ x ∈ s.take i,ZI x:=fun x hx => hnar x (List.mem_of_mem_take hx)
     rw [ZFF k (by omega) hc8 hci (by omega) (by omega) hsh hcR hnar]
     simp only [Qb]
     have hpb:=Ze4 (sh:=sh) hcR htn hc8
     have hsi:s.getD i 0 = s[i]:=WZ hi2
     have hsn:=hnar s[i] (List.getElem_mem hi2)
     unfold ZI at hsn
     have e1:IntKind.i64.wrap (s.getD i 0 - ZcP c sh (s.take i)) = ZqP c sh s i:=by unfold ZqP; rw [hsi]; exact ZQ (by omega)
     rw [e1,Zb (by simp; omega),show IntKind.i64.wrap ((i:Int) + 1) = ((i + 1:Nat):Int) from by rw [ZQ (by omega)]; omega]
     rw [ih (i + 1) m _ (by omega) (by omega) (by omega) (by simp; omega)]
     simp only [Zj6,List.append_assoc,List.singleton_append]
     rfl
theorem Zr7 (k:Nat) (c:List Int) (sh:Int) (s:List Int) (hk:s.length + 10 < k) (hn:s.length ≤ 8192):ZkP k ((c,sh,()),s,()) = some (((QZ c sh s).1,(QZ c sh s).2,()),()):=by
 show ZfN k (ZmU k) _ = _
 simp only [ZfN]
 rw [Zr3 k c sh s hk hn]
 simp only [Qb]
 have hnar:=WS c sh s
 have hlen:=ZhV c sh s
 unfold QZ
 generalize (QK c sh s).2 = e
 generalize (QK c sh s).1 = l at hnar hlen
 have:=Zu (A:=Int) (R:=(Int × Int × Unit) × Unit) (step:=fun L1 => ZbZ k L1) (fun i acc => (Int.ofNat i,l,acc,e)) l
  (fun l' acc => some ((acc + ZaT (l'.map fun x => (x.natAbs:Int)),e,()),())) (fun i acc => 0 ≤ acc ∧ acc ≤ (i:Int) * 2147483648)
  (fun L acc _ => by simp only [ZbZ]; rw [Zi (QV _)]; simp [ZaT])
  (fun L i hi acc hacc hL => by
   have hx:=hnar l[i] (List.getElem_mem hi)
   unfold ZI at hx
   simp only [ZbZ]
   rw [Zb (KU hi),Zb (Xx hi),Zb (Xx hi),ZK hi,Qq hi (by omega),ZQ (n:=0 - l[i]) (by omega)]
   have e1:(if l[i] < 0 - l[i] then 0 - l[i] else l[i]) = (l[i].natAbs:Int):=by split <;> omega
   have hi8:(i:Int) ≤ 8192:=by omega
   rw [e1,ZQ (n:=acc + (l[i].natAbs:Int)) (by omega),hL _ ⟨by omega,by push_cast; omega⟩]
   simp only [List.map_cons,ZaT]
   rw [Int.add_assoc]) k 0 0 ⟨by omega,by omega⟩ (by omega) (Nat.zero_le _)
 exact Eq.trans this (by rw [List.drop_zero,Int.zero_add])
theorem Zw7 (c:List Int) (sh:Int) (s:List Int) (hn:s.length ≤ 8192):0 ≤ (QZ c sh s).1 ∧ (QZ c sh s).1 ≤ 35184372088832:=by
 unfold QZ
 have hnar:=WS c sh s
 have hlen:=ZhV c sh s
 generalize (QK c sh s).1 = l at hnar hlen
 have:∀ l:List Int,(∀ x ∈ l,ZI x) → 0 ≤ ZaT (l.map fun x => (x.natAbs:Int)) ∧ ZaT (l.map fun x => (x.natAbs:Int)) ≤ (l.length:Int) * 2147483648:=by
  intro l h
  induction l with
  | nil => simp [ZaT]
  | cons x l ih =>
   have h1:=h x (List.mem_cons_self ..)
   unfold ZI at h1
   have h2:=ih fun y hy => h y (List.mem_cons_of_mem _ hy)
   simp only [List.map_cons,ZaT,List.length_cons]
   push_cast
   omega
 have:=this l hnar
 omega
theorem ZKT (k:Nat) (o:Nat) (ho:o ≤ 4):ZsN k ((o:Int),()) = some (((Xp o,0,()),0,()),()) :=
 match o,ho with
 | 0,_ => rfl
 | 1,_ => rfl
 | 2,_ => rfl
 | 3,_ => rfl
 | 4,_ => rfl
theorem ZEX (k:Nat) (o:Nat) (ho:o = 2 ∨ o = 4 ∨ o = 8) (hk:40 < k):ZoJ k ((o:Int),()) = some ((Qe o,4,()),()):=by
 obtain ⟨k,rfl⟩:∃ m,k = m + 40:=⟨k - 40,by omega⟩
 rcases ho with rfl | rfl | rfl
 ·rfl
 ·rfl
 ·rfl
def Ks (M:Mdl):Int:=if M.2.2 then M.2.1 else 4611686018427387904
abbrev T80:=((List Int × Int × Unit) × Int × Unit) × Unit
abbrev A80:=Int × Int × List Int × Int × List Int × Int × List Int × Int
abbrev B80:=Int × Int × Int × List Int × Int × List Int × Int × List Int × Int
abbrev C80:=Int × Int × Int × List Int × Int × Int × List Int × Int × List Int × Int
abbrev ZhK:List Int:=[8,4,2,1]
theorem ZKV (k:Nat) (s:List Int) (hk:s.length + 20 < k) (hn:s.length ≤ 8192) (L1:A80 → Option T80) (L2:B80 → Option T80)
  {o j si:Nat} {st:Int} {M:Mdl} {v9:Int} (hM:MOk o 1000 M) (hj:j < o) (ho:o ≤ 8) (hsi:si < 4) (hg:ZhK.getD si 0 = st) (hst:0 ≤ st ∧ st ≤ 8) :
  Zlq k L1 L2 (0,(j:Int),(si:Int),s,Ks M,(o:Int),M.1,4,ZhK,v9) =
   L2 (((j + 1:Nat):Int),(o:Int),(si:Int),s,Ks (Zoa s st j M),(Zoa s st j M).1,4,ZhK,v9):=by
 obtain ⟨k,rfl⟩:∃ m,k = m + 3:=⟨k - 3,by omega⟩
 have one:∀ (i:Nat) (by_:Int) (L3:C80 → Option T80) (M:Mdl),i < 2 → by_ = st * (1 - 2 * (i:Int)) → MOk o 1008 M →
   ZaF (k + 3) L1 L2 L3 ((i:Int),(j:Int),(si:Int),s,Ks M,(o:Int),M.1,4,ZhK,v9) =
    L3 (((i + 1:Nat):Int),(j:Int),(si:Int),s,Ks (Zfe s by_ j M),(o:Int),(Zfe s by_ j M).1,4,ZhK,v9):=by
  intro i by_ L3 M hi hb hM
  have hb8 : -8 ≤ by_ ∧ by_ ≤ 8:=by
   rcases (show i = 0 ∨ i = 1 by omega) with rfl | rfl <;> omega
  simp only [ZaF]
  have hl:=hM.len
  have e1:IntKind.i64.wrap (ZhK.getD si 0 * IntKind.i64.wrap (1 - IntKind.i64.wrap (2 * (i:Int)))) = by_:=by
   rw [hg,ZQ (n:=2 * (i:Int)) (by omega),ZQ (n:=1 - 2 * (i:Int)) (by omega),← hb,ZQ (by omega)]
  simp only [List.nil_append,QS,Qh]
  have h4:ZhK.length = 4:=rfl
  rw [Zb (by omega),Zb (by omega),Zb (by omega),Zb (by omega),Zb (by omega),Zb (by omega),Zb (by omega),Zb (by omega),e1]
  have hx:=hM.bd (M.1.getD j 0) (by rw [WZ (by omega)]; exact List.getElem_mem _)
  rw [ZQ (n:=M.1.getD j 0 + by_) (by omega),Zr7 (k + 3) _ 4 s (by omega) hn]
  simp only [Qb]
  rw [show IntKind.i64.wrap ((i:Int) + 1) = ((i + 1:Nat):Int) from by rw [ZQ (by omega)]; omega]
  have hcb:=Zw7 (M.1.set j (M.1.getD j 0 + by_)) 4 s hn
  unfold Zfe
  rw [ZB]
  by_cases h1:(QZ (M.1.set j (M.1.getD j 0 + by_)) 4 s).2 = 0
  ·rw [Zb h1]
   cases h2:M.2.2 with
   | false =>
    rw [if_pos ⟨h1,.inl rfl⟩]
    unfold Ks
    rw [h2]
    simp only [Bool.false_eq_true,if_false,if_true]
    rw [Zb (by omega)]
   | true =>
    have hv:Ks M = M.2.1:=by unfold Ks; rw [h2]; rfl
    rw [hv]
    by_cases h3:(QZ (M.1.set j (M.1.getD j 0 + by_)) 4 s).1 < M.2.1
    ·rw [Zb h3,if_pos ⟨h1,.inr h3⟩]; rfl
    ·rw [Zi h3,if_neg (by rintro ⟨_,h | h⟩; cases h; exact h3 h),hv]
  ·rw [Zi h1,if_neg (fun h => h1 h.1)]
 show Zm (fun L3 => ZaF (k + 3) L1 L2 L3) (k + 3) ((0:Nat),(j:Int),(si:Int),s,Ks M,(o:Int),M.1,4,ZhK,v9) = _
 rw [Zd,one 0 st _ M (by omega) (by omega) ⟨hM.len,fun x hx => by have:=hM.bd x hx; omega⟩]
 have h2:=Zkc (s:=s) hM hj (by_:=st) (by omega)
 rw [Zd,one 1 (-st) _ _ (by omega) (by omega) h2,Zd]
 simp only [ZaF]
 rw [Zi (by omega),show IntKind.i64.wrap ((j:Int) + 1) = ((j + 1:Nat):Int) from by rw [ZQ (by omega)]; omega]
 rfl
theorem ZOU (k:Nat) (s:List Int) (hk:s.length + 20 < k) (hn:s.length ≤ 8192) (L1:A80 → Option T80)
  {o si:Nat} {st:Int} {v9:Int} (ho:o ≤ 8) (hsi:si < 4) (hg:ZhK.getD si 0 = st) (hst:0 ≤ st ∧ st ≤ 8):∀ (d j m:Nat) (b:Int) (M:Mdl),j + d = o → d < m → MOk o b M → b + 16 * (d:Int) ≤ 1000 →
  Zm (fun L2 => ZcH k (Zlq k L1 L2) L1 L2) m ((j:Int),(o:Int),(si:Int),s,Ks M,M.1,4,ZhK,v9) =
   L1 (((si + 1:Nat):Int),(o:Int),s,Ks (Zrr s st d j M),(Zrr s st d j M).1,4,ZhK,v9):=by
 intro d
 induction d with
 | zero =>
  intro j m b M hj hm hM hb
  obtain ⟨m,rfl⟩:=Zn hm
  rw [Zd]
  simp only [ZcH]
  rw [Zi (by omega),show IntKind.i64.wrap ((si:Int) + 1) = ((si + 1:Nat):Int) from by rw [ZQ (by omega)]; omega]
  rfl
 | succ d ih =>
  intro j m b M hj hm hM hb
  obtain ⟨m,rfl⟩:=Zn (show 0 < m by omega)
  rw [Zd]
  simp only [ZcH]
  rw [Zb (by omega)]
  rw [ZKV k s hk hn L1 _ (M:=M) ⟨hM.len,fun x hx => by have:=hM.bd x hx; omega⟩ (by omega) ho hsi hg hst]
  rw [ih (j + 1) m (b + 16) _ (by omega) (by omega) (Zob hM (by omega) (by omega)) (by push_cast at hb; omega)]
  rfl
theorem ZKZ (k:Nat) (s:List Int) (o:Nat) (ho:o = 2 ∨ o = 4 ∨ o = 8) (hos:o ≤ s.length) (hs:∀ x ∈ s,ZI x) (hk:s.length + 60 < k) (hn:s.length ≤ 8192) :
  Zza k (s,(o:Int),()) = some (((Xw s o,4,()),0,()),()):=by
 show ZjC k (Zp5 k) _ = _
 simp only [ZjC]
 have hw:s.any Qa = false:=by
  rw [List.any_eq_false]
  intro x hx
  have:=hs x hx
  unfold ZI at this
  unfold Qa
  simp only [decide_eq_true_eq]
  omega
 rw [Zi (by omega),Zi (by omega),Zi (by simp only [Qh]; omega),ZkO k s (by omega) (by omega),hw]
 simp only [Qb,cond_false,Bool.not_false,Bool.not_true]
 rw [ZEX k o ho (by omega)]
 simp only [Qb]
 rw [Zr7 k _ 4 s (by omega) hn]
 simp only [Qb]
 have hM0:MOk o 96 (Qe o,(QZ (Qe o) 4 s).1,(QZ (Qe o) 4 s).2 == 0):=by
  rcases ho with rfl | rfl | rfl
  ·exact ⟨rfl,show ∀ x ∈ Qe 2,-96 ≤ x ∧ x ≤ 96 by decide⟩
  ·exact ⟨rfl,show ∀ x ∈ Qe 4,-96 ≤ x ∧ x ≤ 96 by decide⟩
  ·exact ⟨rfl,show ∀ x ∈ Qe 8,-96 ≤ x ∧ x ≤ 96 by decide⟩
 have ho8:o ≤ 8:=by omega
 have h1:=Kp (s:=s) (st:=8) (by omega) ho8 hM0
 have h2:=Kp (s:=s) (st:=4) (by omega) ho8 h1
 have h3:=Kp (s:=s) (st:=2) (by omega) ho8 h2
 obtain ⟨k',rfl⟩:∃ m,k = m + 5:=⟨k - 5,by omega⟩
 have row:∀ (L1:A80 → Option T80) (st:Int) (si:Nat) (b:Int) (M:Mdl),si < 4 → ZhK.getD si 0 = st → 0 < st → st ≤ 8 → MOk o b M → b + 128 ≤ 1000 →
   ZcG (k' + 5) (Zp6 (k' + 5) L1) L1 ((si:Int),(o:Int),s,Ks M,M.1,4,ZhK,0) = L1 (((si + 1:Nat):Int),(o:Int),s,Ks (Zrs s st o M),(Zrs s st o M).1,4,ZhK,0):=by
  intro L1 st si b M hsi hg h0 h8 hM hb
  simp only [ZcG]
  rw [Zb (by omega)]
  exact ZOU (k' + 5) s (by omega) hn L1 ho8 hsi hg (by omega) o 0 (k' + 5) b M (by omega) (by omega) hM (by omega)
 have fin:Zp5 (k' + 5) (((0:Nat):Int),(o:Int),s,Ks (Qe o,(QZ (Qe o) 4 s).1,(QZ (Qe o) 4 s).2 == 0),Qe o,4,ZhK,0) = some (((Xw s o,4,()),0,()),()):=by
  show Zm (fun L1 => ZcG (k' + 5) (Zp6 (k' + 5) L1) L1) (k' + 5) _ = _
  rw [Zd]
  refine (row _ 8 0 96 (Qe o,(QZ (Qe o) 4 s).1,(QZ (Qe o) 4 s).2 == 0) (by omega) rfl (by omega) (by omega) hM0 (by omega)).trans ?_
  rw [Zd]
  refine (row _ 4 1 _ _ (by omega) rfl (by omega) (by omega) h1 (by omega)).trans ?_
  rw [Zd]
  refine (row _ 2 2 _ _ (by omega) rfl (by omega) (by omega) h2 (by omega)).trans ?_
  rw [Zd]
  refine (row _ 1 3 _ _ (by omega) rfl (by omega) (by omega) h3 (by omega)).trans ?_
  rw [Zd]
  simp only [ZcG]
  rw [Zi (by omega)]
  rfl
 rw [ZT,← fin]
 by_cases h:(QZ (Qe o) 4 s).2 = 0
 ·rw [Zi (by simpa using h)]
  have:Ks (Qe o,(QZ (Qe o) 4 s).1,(QZ (Qe o) 4 s).2 == 0) = (QZ (Qe o) 4 s).1:=by unfold Ks; simp [h]
  rw [this]
  rfl
 ·rw [Zb h]
  have:Ks (Qe o,(QZ (Qe o) 4 s).1,(QZ (Qe o) 4 s).2 == 0) = 4611686018427387904:=by unfold Ks; simp [h]
  rw [this]
  rfl
end Go.Sh
namespace Go.Sh
open Go Go.Proofs
theorem ZFX (k:Nat) (n o:Int):Zph k (n,o,()) = some (KW n o,()):=by
 show Zgu k _ = _
 simp only [Zgu]
 unfold KW
 by_cases h1:1 ≤ n
 ·rw [Zb h1]
  by_cases h2:n ≤ 512
  ·rw [Zb h2]
   by_cases h3:0 ≤ o
   ·rw [Zb h3]
    by_cases h4:o ≤ 8
    ·rw [Zb h4]
     by_cases h5:o ≤ n
     ·rw [QX h5,QX (by omega)]
     ·rw [QN h5,QN (by omega)]
    ·rw [Zi h4,QN (by omega)]
   ·rw [Zi h3,QN (by omega)]
  ·rw [Zi h2,QN (by omega)]
 ·rw [Zi h1,QN (by omega)]
theorem ZFH (k:Nat) (l:List Int) (o:Int) (hk:l.length < k) (hn:l.length < 4294967296):Zpb k (l,o,()) = some (Xb l o,()):=by
 show Zgi k (Znr k) _ = _
 simp only [Zgi]
 unfold Xb
 by_cases h1:o < 0
 ·rw [Zb h1,if_pos (.inl h1)]
 rw [Zi h1]
 by_cases h2:8 < o
 ·rw [Zb h2,if_pos (.inr h2)]
 rw [Zi h2,if_neg (by omega)]
 have e:IntKind.i64.wrap (Int.ofNat l.length + o) = (l.length:Int) + o:=by simp only [Qh]; rw [ZQ (by omega)]
 rw [e,ZFX]
 simp only [Qb]
 cases hb:KW ((l.length:Int) + o) o with
 | false => rfl
 | true =>
  simp only [Bool.not_true,cond_false,Bool.true_eq_false,if_false]
  have:=XZ (R:=Int × Unit) (step:=fun L1 => Zch k L1) (fun i => (Int.ofNat i,l)) l (fun x => !Qa x) (some (12,())) (some (0,()))
   (fun L => by simp only [Zch]; rw [Zi (QV _)])
   (fun L i hi => by
    simp only [Zch]
    rw [Zb (KU hi),Zb (Xx hi),Zb (Xx hi),ZK hi,Qq hi (by omega)]
    unfold Qa
    by_cases h3:l[i] ≤ -2147483648
    ·rw [Zb h3,QX (.inl h3)]; rfl
    ·rw [Zi h3]
     by_cases h4:2147483648 ≤ l[i]
     ·rw [Zb h4,QX (.inr h4)]; rfl
     ·rw [Zi h4,QN (by omega)]; rfl) k hk
  refine Eq.trans this ?_
  rw [ZlP]
  cases l.any Qa <;> rfl
theorem ZFO (k:Nat) {p n o size:Nat} (hp:p ≤ 15) (hsz:n / 2 ^ p = size) (hnn:n < 4294967296):∀ (d i m:Nat) (r:List Int) (out:List (List Int)),d < m → i + d = 2 ^ p → 0 < i → out.length = i → r.length = d * size → r.length < 4294967296 →
  Zm (fun L1 => Y6 k L1) m ((i:Int),(p:Int),(n:Int),(o:Int),r,out) = some (out ++ KX size d r,()):=by
 have h15:2 ^ p ≤ 2 ^ 15:=Nat.pow_le_pow_right (by omega) hp
 have hd:size ≤ n:=by rw [← hsz]; exact Nat.div_le_self _ _
 intro d
 induction d with
 | zero =>
  intro i m r out hm hi h0 ho hr hn
  obtain ⟨m,rfl⟩:=Zn hm
  rw [Zd]
  simp only [Y6]
  rw [Zb (by omega),Ko (by omega),Zi (by omega),Zb (by omega)]
  simp [KX]
 | succ d ih =>
  intro i m r out hm hi h0 ho hr hn
  obtain ⟨m,rfl⟩:=Zn (show 0 < m by omega)
  rw [Zd]
  simp only [Y6]
  have hs:(d + 1) * size = d * size + size:=by rw [Nat.add_mul,Nat.one_mul]
  have hle:size ≤ r.length:=by omega
  have e0:(n:Int).fdiv (2 ^ min ((p:Int)).toNat 64) = (size:Int):=by rw [QS,Nat.min_eq_left (by omega),KJ,hsz]
  rw [Zb (by omega),Ko (by omega),Zb (by omega),Zb (by omega),ZB,Zi (by omega),e0]
  rw [Zb (by simp only [Qh]; omega),Zb (by simp only [List.length_singleton]; omega),Zb (by simp only [Qh]; omega)]
  rw [QS,show (Int.ofNat r.length).toNat = r.length from rfl,List.take_length,List.drop_zero,ZQ (n:=(i:Int) + 1) (by omega)]
  have:=ih (i + 1) m (r.drop size) (out ++ [r.take size]) (by omega) (by omega) (by omega) (by simp; omega) (by rw [List.length_drop]; omega) (by rw [List.length_drop]; omega)
  refine Eq.trans this ?_
  simp [KX]
theorem Zsk (k:Nat) {l:List Int} {o p:Nat} (hp:p ≤ 15) (hn:l.length + o < 4294967296) (hk:32768 < k) :
  Zk6 k (l,(o:Int),(p:Int),()) = some (if ZcI (l.length + o) o p = true then WV l o p else [],()):=by
 show Zgl k (Znv k) _ = _
 have h15:2 ^ p ≤ 2 ^ 15:=Nat.pow_le_pow_right (by omega) hp
 have h0:0 < 2 ^ p:=Nat.pow_pos (by omega)
 simp only [Zgl]
 have e1:IntKind.i64.wrap (Int.ofNat l.length + (o:Int)) = ((l.length + o:Nat):Int):=by rw [ZQ (by simp only [Qh]; omega)]; rfl
 have e2:(((l.length + o:Nat):Int)).tmod (((2 ^ p:Nat)):Int) = (((l.length + o) % 2 ^ p:Nat):Int):=by
  rw [Int.tmod_eq_emod_of_nonneg (by omega)]; exact (Int.natCast_emod _ _).symm
 have e3:(((l.length + o:Nat):Int)).fdiv (2 ^ min ((p:Int)).toNat 64) = (((l.length + o) / 2 ^ p:Nat):Int):=by rw [QS,Nat.min_eq_left (by omega),KJ]
 rw [e1,Ko (by omega),e2,e3,Zb (by omega),Zb (by omega),ZT]
 unfold ZcI
 by_cases hm:(l.length + o) % 2 ^ p = 0
 case neg => rw [Zb (by exact_mod_cast hm),QN hm,Bool.false_and]; rfl
 rw [Zi (by rw [hm]; simp),QX hm,Bool.true_and,Zb (by omega)]
 by_cases ho:o ≤ (l.length + o) / 2 ^ p
 case neg => rw [Zb (by omega),QN ho]; rfl
 rw [Zi (by omega),QX ho,if_pos rfl]
 obtain ⟨j,rfl⟩:=Zn (show 0 < k by omega)
 show Zm (fun L1 => Y6 (j + 1) L1) (j + 1) _ = _
 rw [Zd]
 simp only [Y6]
 have hd:(l.length + o) / 2 ^ p ≤ l.length + o:=Nat.div_le_self _ _
 have hmul:2 ^ p * ((l.length + o) / 2 ^ p) = l.length + o:=by have:=Nat.div_add_mod (l.length + o) (2 ^ p); omega
 unfold WV
 rw [e3,Ko (by omega)]
 generalize hsz:(l.length + o) / 2 ^ p = size at ho hd hmul
 have e4:IntKind.i64.wrap ((size:Int) - (o:Int)) = ((size - o:Nat):Int):=by rw [ZQ (by omega)]; omega
 have e5:(2 ^ p - 1) * size = 2 ^ p * size - size:=by rw [Nat.sub_mul,Nat.one_mul]
 have hps:size ≤ 2 ^ p * size:=Nat.le_mul_of_pos_left _ h0
 rw [e4,Zb (by omega),Zb (by omega),Zb (by omega),ZB,Zb (by rfl),Zb (by simp only [Qh]; omega),Zb (by simp),Zb (by simp only [Qh]; omega)]
 rw [QS,show (Int.ofNat l.length).toNat = l.length from rfl,List.take_length,List.drop_zero,show IntKind.i64.wrap ((0:Int) + 1) = ((1:Nat):Int) from by decide]
 exact ZFO (j + 1) hp hsz (by omega) (2 ^ p - 1) 1 j _ _ (by omega) (by omega) (by omega) rfl (by rw [List.length_drop,e5]; omega) (by rw [List.length_drop]; omega)
theorem Zsm (k:Nat) {n:Int} (h:ZI n):Zk8 k (n,()) = some (((Z5 n:Nat):Int),()):=by
 show Zgn k _ = _
 unfold ZI at h
 simp only [Zgn]
 unfold Z5
 by_cases h0:n < 0
 ·rw [Zb h0,if_pos h0,ZQ (n := -2 * n) (by omega),ZQ (by omega)]
  congr 2
  omega
 ·rw [Zi h0,if_neg h0,ZQ (by omega)]
  congr 2
  omega
theorem ZF2 (k:Nat) {l:List Int} (hl:∀ x ∈ l,ZI x) (hn:l.length ≤ 512) (hk:l.length < k) {kk:Nat} (hkk:kk ≤ 31) :
  Zpl k (l,(kk:Int),()) = some (if ZbH l kk = true then -1 else ((XO l kk:Nat):Int),()):=by
 show Zgx k (ZnB k) _ = _
 simp only [Zgx]
 have:=Zu (A:=Int) (R:=Int × Unit) (step:=fun L1 => Zcn k L1) (fun i a => (Int.ofNat i,l,(kk:Int),a)) l
  (fun l' a => some (if ZbH l' kk = true then -1 else a + ((XO l' kk:Nat):Int),())) (fun i a => 0 ≤ a ∧ a ≤ (i:Int) * 70000)
  (fun L a _ => by
   simp only [Zcn]
   rw [Zi (QV _)]
   simp [ZbH,XO,Zff])
  (fun L i hi a ha hL => by
   simp only [Zcn]
   have hx:=hl l[i] (List.getElem_mem hi)
   rw [Zb (KU hi),Zb (Xx hi),ZK hi,Zsm k hx]
   simp only [Qb]
   simp only [QS,Nat.min_eq_left (show kk ≤ 64 by omega),KJ]
   rw [Zb (by omega)]
   have hfar:ZbH (l[i] :: l.drop (i + 1)) kk = (decide (65536 < Z5 l[i] / 2 ^ kk) || ZbH (l.drop (i + 1)) kk):=by unfold ZbH; rw [List.any_cons]
   have hsz:XO (l[i] :: l.drop (i + 1)) kk = Z5 l[i] / 2 ^ kk + 1 + kk + XO (l.drop (i + 1)) kk:=by
    unfold XO
    simp only [List.map_cons,Zff,List.length_cons]
    have:(kk + 1) * ((l.drop (i + 1)).length + 1) = (kk + 1) * (l.drop (i + 1)).length + (kk + 1):=by rw [Nat.mul_add,Nat.mul_one]
    rw [this]
    generalize Z5 l[i] / 2 ^ kk = q
    omega
   rw [hfar,hsz]
   generalize Z5 l[i] / 2 ^ kk = q
   by_cases h6:65536 < q
   ·rw [Zb (by omega),QX h6]
    rfl
   ·have hi5:(i:Int) ≤ 512:=by omega
    rw [Zi (by omega),QN h6,Bool.false_or,Qq hi (by omega),ZQ (n:=a + (q:Int)) (by omega),ZQ (n:=a + (q:Int) + 1) (by omega),ZQ (by omega)]
    refine (hL (a + (q:Int) + 1 + (kk:Int)) ⟨by omega,by push_cast; omega⟩).trans ?_
    split
    ·rfl
    ·congr 2
     push_cast
     omega)
  k 0 0 ⟨by omega,by omega⟩ (by omega) (Nat.zero_le _)
 rw [List.drop_zero] at this
 refine Eq.trans this ?_
 rw [Int.zero_add]
theorem ZGG {x:Int} (hx:ZI x) (h0:x ≠ 0) {w:Nat} (h:WU x w = true):Wb x ≤ w:=by
 unfold WU at h
 unfold ZI at hx
 by_cases hw:w = 0
 ·rw [if_pos hw,decide_eq_true_eq] at h
  exact absurd h h0
 ·rw [if_neg hw,decide_eq_true_eq] at h
  unfold Wb
  have e:(2:Int) ^ (w - 1) = ((2 ^ (w - 1):Nat):Int):=Qp _
  rw [e] at h
  have hm:(if x < 0 then (-x - 1).toNat else x.toNat) < 2 ^ (w - 1):=by
   generalize 2 ^ (w - 1) = Q at h
   split <;> omega
  by_cases hw2:w - 1 ≤ 64
  ·have:=Lib.bitLen_le (if x < 0 then (-x - 1).toNat else x.toNat) (w - 1) hw2 hm
   omega
  ·have:=Lib.bitLen_le (if x < 0 then (-x - 1).toNat else x.toNat) 31 (by omega) (by split <;> omega)
   omega
theorem ZDX {x:Int} (hx:ZI x) (w:Nat):WU x w = decide ((if x = 0 then 0 else Wb x) ≤ w):=by
 by_cases h0:x = 0
 ·subst h0
  rw [if_pos rfl,QX (Nat.zero_le _)]
  unfold WU
  split
  ·exact QX rfl
  ·have:0 < 2 ^ (w - 1):=Nat.pow_pos (by omega)
   rw [Qp]
   generalize 2 ^ (w - 1) = Q at this
   exact QX (by omega)
 ·rw [if_neg h0]
  by_cases h:Wb x ≤ w
  ·rw [QX h]
   exact Zrx hx h
  ·rw [QN h]
   cases hs:WU x w with
   | false => rfl
   | true => exact absurd (ZGG hx h0 hs) h
theorem ZF5 (k:Nat) {l:List Int} (hl:∀ x ∈ l,ZI x) (hn:l.length ≤ 512) (hk:l.length + 50 < k):Zpn k (l,()) = some (((Z7 l:Nat):Int),()):=by
 show Zgy k (ZnD k) _ = _
 simp only [Zgy]
 have inner:∀ (L1:Int × List Int × Int → Option (Int × Unit)) (i:Nat) (hi:i < l.length) (d w m:Nat),w ≤ 32 → max w (if l[i] = 0 then 0 else Wb l[i]) = w + d → d < m →
   Zm (fun L2 => Zas k L1 L2) m (l,Int.ofNat i,(w:Int)) = L1 (Int.ofNat (i + 1),l,((w + d:Nat):Int)):=by
  intro L1 i hi d
  have hx:=hl l[i] (List.getElem_mem hi)
  have hb:=ZdT hx
  induction d with
  | zero =>
   intro w m hw he hm
   obtain ⟨m,rfl⟩:=Zn hm
   rw [Zd]
   simp only [Zas]
   rw [Zb (Xx hi),ZK hi,ZiO k _ (by omega),ZDX hx,QX (by omega)]
   simp only [Qb,Bool.not_true,cond_false]
   rw [Qq hi (by omega)]
   rfl
  | succ d ih =>
   intro w m hw he hm
   obtain ⟨m,rfl⟩:=Zn (show 0 < m by omega)
   have hlt:w < (if l[i] = 0 then 0 else Wb l[i]):=by omega
   have h32:(if l[i] = 0 then 0 else Wb l[i]) ≤ 32:=by split <;> omega
   rw [Zd]
   simp only [Zas]
   rw [Zb (Xx hi),ZK hi,ZiO k _ (by omega),ZDX hx,QN (by omega)]
   simp only [Qb,Bool.not_false,cond_true]
   rw [show IntKind.i64.wrap ((w:Int) + 1) = ((w + 1:Nat):Int) from by rw [ZQ (by omega)]; omega]
   rw [ih (w + 1) m (by omega) (by omega) (by omega),show w + 1 + d = w + (d + 1) by omega]
 have:=Zu (A:=Nat) (R:=Int × Unit) (step:=fun L1 => Zco k (ZnE k L1) L1) (fun i a => (Int.ofNat i,l,((a:Nat):Int))) l
  (fun l' a => some (((l'.foldl (fun w n => if n = 0 then w else max w (Wb n)) a:Nat):Int),())) (fun i a => a ≤ 32)
  (fun L a _ => by simp only [Zco]; rw [Zi (QV _)]; rfl)
  (fun L i hi a ha hL => by
   have hx:=hl l[i] (List.getElem_mem hi)
   have hb:=ZdT hx
   simp only [Zco]
   rw [Zb (KU hi)]
   have h32:(if l[i] = 0 then 0 else Wb l[i]) ≤ 32:=by split <;> omega
   refine (inner L i hi (max a (if l[i] = 0 then 0 else Wb l[i]) - a) a k ha (by omega) (by omega)).trans ?_
   have e:a + (max a (if l[i] = 0 then 0 else Wb l[i]) - a) = if l[i] = 0 then a else max a (Wb l[i]):=by split <;> omega
   rw [e]
   exact hL (if l[i] = 0 then a else max a (Wb l[i])) (by split <;> omega))
  k 0 0 (by omega) (by omega) (Nat.zero_le _)
 rw [List.drop_zero] at this
 exact this
def ZwX (l:List Int) (m:Int):Prt:=if (Qv l m).2 = true then (Qv l m).1 else (-1,0,0,())
def kSt (B:Prt × Bool):Int × Int:=if B.2 = true then (B.1.1,B.1.2.2.1) else (-1,0)
def KOk (B:Prt × Bool):Prop:=B.2 = true → 0 ≤ B.1.1 ∧ B.1.2.1 = 0
theorem Ztb {l:List Int} {B:Prt × Bool} (kk:Nat) (hB:KOk B):KOk (ZaN l B kk):=by
 unfold ZaN KOk
 split
 ·intro _; exact ⟨by simp,rfl⟩
 ·exact hB
theorem ZFQ (k:Nat) {l:List Int} (hl:∀ x ∈ l,ZI x) (hn:l.length ≤ 512) (hk:l.length + 50 < k) {m:Int} (hm:m = 0 ∨ m = 1) :
  ∀ (d kk j:Nat) (B:Prt × Bool),kk + d = QP m → d < j → KOk B → 
  Zm (fun L1 => Zcj k L1) j ((kk:Int),((QP m:Nat):Int),l,(kSt B).1,(kSt B).2) =
   some ((let B:=kF l d kk B; if Z7 l ≤ 31 ∧ (B.2 = false ∨ ((5 + Z7 l * l.length:Nat):Int) < B.1.2.2.1) then (((QP m:Nat):Int),((Z7 l:Nat):Int),((5 + Z7 l * l.length:Nat):Int),()) else ((kSt B).1,0,(kSt B).2,())),()):=by
 have he:QP m ≤ 31:=by unfold QP; split <;> omega
 have hw:=(ZdD l 0 hl (by omega)).2.1
 intro d
 induction d with
 | zero =>
  intro kk j B hkk hj hB
  obtain ⟨j,rfl⟩:=Zn hj
  rw [Zd]
  simp only [Zcj]
  rw [Zi (by omega),ZF5 k hl hn hk]
  simp only [Qb]
  have hwl:Z7 l * l.length ≤ 32 * 512:=Nat.mul_le_mul hw hn
  have e1:IntKind.i64.wrap ((5:Int) + IntKind.i64.wrap (((Z7 l:Nat):Int) * Int.ofNat l.length)) = ((5 + Z7 l * l.length:Nat):Int):=by
   have:((Z7 l:Nat):Int) * Int.ofNat l.length = ((Z7 l * l.length:Nat):Int):=by simp only [Qh]; push_cast; rfl
   rw [this,ZQ (n:=((Z7 l * l.length:Nat):Int)) (by omega),ZQ (by omega)]
   push_cast; rfl
  rw [e1]
  rw [show kF l 0 kk B = B from rfl]
  by_cases h31:Z7 l ≤ 31
  ·rw [Zb (by omega)]
   unfold kSt
   cases hb:B.2 with
   | false => simp only [Bool.false_eq_true,if_false]; rw [Zb (by omega),if_pos ⟨h31,.inl trivial⟩]
   | true =>
    have:=(hB hb).1
    simp only [Bool.true_eq_false,false_or,if_true]
    rw [Zi (by omega)]
    by_cases hlt:((5 + Z7 l * l.length:Nat):Int) < B.1.2.2.1
    ·rw [Zb hlt,if_pos ⟨h31,hlt⟩]
    ·rw [Zi hlt,if_neg (fun h => hlt h.2)]
  ·rw [Zi (by omega),if_neg (fun h => h31 h.1)]
 | succ d ih =>
  intro kk j B hkk hj hB
  obtain ⟨j,rfl⟩:=Zn (show 0 < j by omega)
  rw [Zd]
  simp only [Zcj]
  rw [Zb (by omega),ZF2 k hl hn (by omega) (by omega)]
  simp only [Qb]
  rw [show IntKind.i64.wrap ((kk:Int) + 1) = ((kk + 1:Nat):Int) from by rw [ZQ (by omega)]; omega]
  have hnext:=ih (kk + 1) j (ZaN l B kk) (by omega) (by omega) (Ztb kk hB)
  rw [show kF l (d + 1) kk B = kF l d (kk + 1) (ZaN l B kk) from rfl,← hnext]
  have hsz:(0:Int) ≤ ((XO l kk:Nat):Int):=Int.natCast_nonneg _
  unfold ZaN
  cases hf:ZbH l kk with
  | true => simp only [if_true]; rw [Zi (by omega),if_neg (by simp)]
  | false =>
   simp only [Bool.false_eq_true,if_false]
   rw [Zb hsz]
   cases hb:B.2 with
   | false =>
    have e:kSt B = (-1,0):=by unfold kSt; rw [hb]; rfl
    rw [e,Zb (by decide),if_pos ⟨trivial,.inl rfl⟩]
    rfl
   | true =>
    have e:kSt B = (B.1.1,B.1.2.2.1):=by unfold kSt; rw [hb]; rfl
    have:=(hB hb).1
    rw [e]
    simp only
    rw [Zi (by omega)]
    by_cases hlt:((XO l kk:Nat):Int) < B.1.2.2.1
    ·rw [Zb hlt,if_pos ⟨trivial,.inr hlt⟩]
     rfl
    ·rw [Zi hlt,if_neg (by rintro ⟨_,h | h⟩; cases h; exact hlt h),e]
theorem ZLj {l:List Int}:∀ (d kk:Nat) (B:Prt × Bool),KOk B → KOk (kF l d kk B)
 | 0,_,_,h => h
 | d + 1,kk,B,h => ZLj d (kk + 1) _ (Ztb kk h)
theorem Zsl (k:Nat) {l:List Int} (hl:∀ x ∈ l,ZI x) (hn:l.length ≤ 512) (hk:l.length + 90 < k) {m:Int} (hm:m = 0 ∨ m = 1) :
  Zk7 k (l,m,()) = some (ZwX l m,()):=by
 show Zgm k (Znx k) _ = _
 simp only [Zgm]
 have he:QP m ≤ 31:=by unfold QP; split <;> omega
 have hg:[(15:Int),31].getD m.toNat 0 = ((QP m:Nat):Int):=by rcases hm with rfl | rfl <;> rfl
 rw [Zb (by omega),Zb (by omega),hg]
 refine (ZFQ k hl hn (by omega) hm (QP m) 0 k ((0,0,0,()),false) (by omega) (by omega) (fun h => by cases h)).trans ?_
 have hk0:KOk (kF l (QP m) 0 ((0,0,0,()),false)):=ZLj _ _ _ (fun h => by cases h)
 unfold ZwX Qv
 simp only
 generalize kF l (QP m) 0 ((0,0,0,()),false) = B at hk0
 by_cases h:Z7 l ≤ 31 ∧ (B.2 = false ∨ ((5 + Z7 l * l.length:Nat):Int) < B.1.2.2.1)
 ·rw [if_pos h,if_pos h]; rfl
 ·rw [if_neg h,if_neg h]
  unfold kSt
  obtain ⟨⟨x,y,z,u⟩,b⟩:=B
  cases b with
  | false => rfl
  | true =>
   have:=(hk0 rfl).2
   simp only at this
   subst this
   rfl
end Go.Sh
namespace Go.Sh
open Go Go.Proofs
def rSt (B:WT):Int × Int × Int:=if B.2.2.1 < 0 then (-1,0,0) else (B.2.1,B.2.2.1,B.1)
def ROk (B:WT):Prop:=B.2.2.1 < 0 ∨ 0 ≤ B.2.1
theorem ZlD {l:List Int} {o p:Nat} {m:Int} {B:WT} (hB:ROk B):ROk (W0 l o p m B):=by
 unfold W0
 split
 ·exact .inr (by simp)
 ·exact hB
abbrev ZLZ:=(Int × Int × Int × Unit) × Unit
abbrev ZT4:=Int × List Int × Int × Int × Int × Int
abbrev ZVt:=Int × List (List Int) × Int × Int × Int × List Int × Int × Int
theorem ZA4 (k : Nat) (L1 : ZT4 → Option ZLZ) (L2 : ZVt → Option ZLZ)
    {cs : List (List Int)} (hcs : ∀ c ∈ cs, (∀ x ∈ c, ZI x) ∧ c.length ≤ 512) (hn : cs.length ≤ 16) (hk : 700 < k) {m : Int} (hm : m = 0 ∨ m = 1) {p : Int} (hp : 0 ≤ p) (l : List Int) (o : Int) {B : WT} (hB : ROk B) :
    Zag k L1 L2 ((0 : Int), cs, m, (rSt B).1, (rSt B).2.1, p, l, o, (rSt B).2.2, (6 : Int)) =
      (let B' := if (Qc m cs [] 6).2.2 = true ∧ (B.2.2.1 < 0 ∨ (Qc m cs [] 6).2.1 < B.2.2.1) then (m, p, (Qc m cs [] 6).2.1, (Qc m cs [] 6).1) else B
       L2 (m + 1, cs, (rSt B').1, (rSt B').2.1, p, l, o, (rSt B').2.2)) := by
  have hm1 : IntKind.i64.wrap (m + 1) = m + 1 := by rcases hm with rfl | rfl <;> rfl
  have := Zu (A := Int × List Prt) (R := ZLZ) (step := fun L3 => Zar k L1 L2 L3)
    (fun i a => (Int.ofNat i, cs, m, (rSt B).1, (rSt B).2.1, p, l, o, (rSt B).2.2, a.1)) cs
    (fun cs' a => (let B' := if (Qc m cs' a.2 a.1).2.2 = true ∧ (B.2.2.1 < 0 ∨ (Qc m cs' a.2 a.1).2.1 < B.2.2.1) then (m, p, (Qc m cs' a.2 a.1).2.1, (Qc m cs' a.2 a.1).1) else B
       L2 (m + 1, cs, (rSt B').1, (rSt B').2.1, p, l, o, (rSt B').2.2)))
    (fun i a => 0 ≤ a.1 ∧ a.1 ≤ 6 + (i : Int) * 8796093022208)
    (fun L a ha => by
      simp only [Zar]
      rw [Zi (QV _), hm1, Zb ha.1]
      simp only [Qc, true_and]
      by_cases h1 : B.2.2.1 < 0
      · have e : (rSt B).1 = -1 := by unfold rSt; rw [if_pos h1]
        rw [e, Zb (by omega), if_pos (.inl h1)]
        unfold rSt
        simp only
        rw [if_neg (by omega)]
      · have h0 : 0 ≤ B.2.1 := by rcases hB with h | h; exact absurd h h1; exact h
        have e : rSt B = (B.2.1, B.2.2.1, B.1) := by unfold rSt; rw [if_neg h1]
        rw [e]
        simp only
        rw [Zi (by omega)]
        by_cases h2 : a.1 < B.2.2.1
        · rw [Zb h2, if_pos (.inr h2)]
          unfold rSt
          simp only
          rw [if_neg (by omega)]
        · rw [Zi h2, if_neg (by omega), e])
    (fun L i hi a ha hL => by
      simp only [Zar]
      obtain ⟨hc1, hc2⟩ := hcs cs[i] (List.getElem_mem hi)
      rw [Zb (KU hi), Zb (Xx hi), ZK hi, Zsl k hc1 hc2 (by omega) hm]
      simp only [Qb]
      unfold ZwX
      cases hb : (Qv cs[i] m).2 with
      | false =>
        rw [ZgL _ _ _ hb]
        simp only [Bool.false_eq_true, if_false, false_and, hm1]
        rw [Zb (by decide)]
      | true =>
        rw [Zds _ _ _ hb]
        simp only [if_true]
        have hok := Zax hb
        have hs := hok.size hc1 hc2
        have h0 : 0 ≤ (Qv cs[i] m).1.1 := by rcases hok with ⟨kk, _, _, h⟩ | ⟨_, h⟩ <;> rw [h] <;> simp
        have hi16 : (i : Int) < 16 := by omega
        have hm01 : 0 ≤ m ∧ m ≤ 1 := by rcases hm with rfl | rfl <;> omega
        rw [Zi (by omega), Qq hi (by omega), ZQ (n := a.1 + 4) (by omega), ZQ (n := a.1 + 4 + m) (by omega), ZQ (by omega)]
        have e : a.1 + 4 + m + (Qv cs[i] m).1.2.2.1 = a.1 + (4 + m + (Qv cs[i] m).1.2.2.1) := by omega
        rw [e]
        exact hL (a.1 + (4 + m + (Qv cs[i] m).1.2.2.1), a.2 ++ [(Qv cs[i] m).1]) ⟨by omega, by push_cast; omega⟩)
    k 0 ((6 : Int), []) ⟨by omega, by simp⟩ (by omega) (Nat.zero_le _)
  rw [List.drop_zero] at this
  exact this
theorem ZFI (k:Nat) (L1:ZT4 → Option ZLZ)
  {l:List Int} (hl:∀ x ∈ l,ZI x) {o p:Nat} (hn:l.length + o ≤ 512) (hp:p ≤ 4) (hk:40000 < k) {B:WT} (hB:ROk B) :
  ZiH k L1 ((0:Int),(if ZcI (l.length + o) o p = true then WV l o p else []),(rSt B).1,(rSt B).2.1,(p:Int),l,(o:Int),(rSt B).2.2) =
   L1 (((p + 1:Nat):Int),l,(o:Int),(rSt (Zbv l o B p)).1,(rSt (Zbv l o B p)).2.1,(rSt (Zbv l o B p)).2.2):=by
 obtain ⟨j,rfl⟩:∃ j,k = j + 3:=⟨k - 3,by omega⟩
 have ep:IntKind.i64.wrap ((p:Int) + 1) = ((p + 1:Nat):Int):=by rw [ZQ (by omega)]; rfl
 unfold Zbv
 cases hf:ZcI (l.length + o) o p with
 | false =>
  simp only [Bool.false_eq_true,if_false]
  show Zm (fun L2 => Xl (j + 3) (Zag (j + 3) L1 L2) L1 L2) (j + 3) _ = _
  rw [Zd]
  simp only [Xl]
  rw [Zb (by omega),ep]
  rfl
 | true =>
  simp only [if_true]
  have hcs:∀ c ∈ WV l o p,(∀ x ∈ c,ZI x) ∧ c.length ≤ 512:=fun c hc => ⟨fun x hx => hl x (YF hc x hx),by have:=ZaY hc; omega⟩
  have hlen:(WV l o p).length ≤ 16:=by
   rw [ZbO]
   have:2 ^ p ≤ 2 ^ 4:=Nat.pow_le_pow_right (by omega) hp
   omega
  have hne:(WV l o p).isEmpty = false:=rfl
  have one:∀ (e:Nat) (m:Int) (B:WT),m = 0 ∨ m = 1 → ROk B → Zm (fun L2 => Xl (j + 3) (Zag (j + 3) L1 L2) L1 L2) (e + 1) (m,WV l o p,(rSt B).1,(rSt B).2.1,(p:Int),l,(o:Int),(rSt B).2.2) =
    Zm (fun L2 => Xl (j + 3) (Zag (j + 3) L1 L2) L1 L2) e (m + 1,WV l o p,(rSt (W0 l o p m B)).1,(rSt (W0 l o p m B)).2.1,(p:Int),l,(o:Int),(rSt (W0 l o p m B)).2.2):=by
   intro e m B hm hB
   rw [Zd]
   simp only [Xl]
   rw [Zb (by rcases hm with rfl | rfl <;> omega),hne]
   simp only [Bool.not_false,cond_true]
   exact ZA4 (j + 3) L1 _ hcs hlen (by omega) hm (by omega) l (o:Int) hB
  show Zm (fun L2 => Xl (j + 3) (Zag (j + 3) L1 L2) L1 L2) (j + 3) _ = _
  rw [one (j + 2) 0 B (.inl rfl) hB,show (0:Int) + 1 = 1 from rfl,one (j + 1) 1 _ (.inr rfl) (ZlD hB),Zd]
  simp only [Xl]
  rw [Zi (by omega),ep]
theorem ZFM (k:Nat) {l:List Int} (hl:∀ x ∈ l,ZI x) {o:Nat} (hn:l.length + o ≤ 512) (hk:40000 < k) :
  Zpc k (l,(o:Int),()) = some (((Qx l o).2.1,(Qx l o).1,(Qx l o).2.2.1,()),()):=by
 show Zgk k (Znt k) _ = _
 simp only [Zgk]
 obtain ⟨hnn,_⟩:=XR hl (o:=o) (by omega) (by omega)
 suffices H:∀ (d p m:Nat) (B:WT),d < m → p + d = 5 → ROk B → Zm (fun L1 => Zci k (ZiH k L1) L1) m ((p:Int),l,(o:Int),(rSt B).1,(rSt B).2.1,(rSt B).2.2) =
   some (((rSt (W6 l o d p B)).1,(rSt (W6 l o d p B)).2.2,(rSt (W6 l o d p B)).2.1,()),()) by
  refine (H 5 0 k (0,0,-1,[]) (by omega) rfl (.inl (by decide))).trans ?_
  have e:rSt (Qx l o) = ((Qx l o).2.1,(Qx l o).2.2.1,(Qx l o).1):=by unfold rSt; rw [if_neg (by omega)]
  show some (((rSt (Qx l o)).1,(rSt (Qx l o)).2.2,(rSt (Qx l o)).2.1,()),()) = _
  rw [e]
 intro d
 induction d with
 | zero =>
  intro p m B hm hp _
  obtain ⟨m,rfl⟩:=Zn hm
  rw [Zd]
  simp only [Zci]
  rw [Zi (by omega)]
  rfl
 | succ d ih =>
  intro p m B hm hp hB
  obtain ⟨m,rfl⟩:=Zn (show 0 < m by omega)
  rw [Zd]
  simp only [Zci]
  rw [Zb (by omega),Zsk k (by omega) (by omega) (by omega)]
  simp only [Qb]
  rw [ZFI k _ hl hn (by omega) hk hB,ih (p + 1) m _ (by omega) (by omega) (by
   unfold Zbv
   split
   ·exact ZlD (ZlD hB)
   ·exact hB)]
  rfl
theorem Zsj (k n:Nat) (hn:n ≤ 65536) (hk:70000 < k):Zk5 k ((n:Int),()) = some ((X5 (List.replicate n false ++ [true]),0,()),()):=by
 show Zgf k (Znl k) _ = _
 simp only [Zgf]
 have e1:IntKind.i64.wrap ((n:Int) + 1) = ((n + 1:Nat):Int):=by rw [ZQ (by omega)]; rfl
 rw [e1,Zi (by omega),Zi (by omega),Zb (by omega),QS]
 suffices H:∀ (d i m:Nat),i + d = n → d < m → Zm (fun L1 => Zce k L1) m ((i:Int),(n:Int),List.replicate i (48:Int) ++ List.replicate (d + 1) 0) = some ((X5 (List.replicate n false ++ [true]),0,()),()) by
  exact H n 0 k (by omega) (by omega)
 intro d
 induction d with
 | zero =>
  intro i m hi hm
  obtain ⟨m,rfl⟩:=Zn hm
  obtain rfl:i = n:=by omega
  rw [Zd]
  simp only [Zce]
  have hlen:(List.replicate i (48:Int) ++ List.replicate (0 + 1) 0).length = i + 1:=by simp
  rw [Zi (by omega),Zb (by rw [hlen]; simp only [Qh]; omega),Zb (by rw [hlen,QS]; omega),QS]
  have:(List.replicate i (48:Int) ++ List.replicate (0 + 1) 0).set i 49 = K6 (List.replicate i false ++ [true]):=by
   rw [List.set_append_right _ _ (by simp)]
   simp [K6]
  rw [this,Zqs]
 | succ d ih =>
  intro i m hi hm
  obtain ⟨m,rfl⟩:=Zn (show 0 < m by omega)
  rw [Zd]
  simp only [Zce]
  have hlen:(List.replicate i (48:Int) ++ List.replicate (d + 1 + 1) 0).length = i + d + 2:=by simp; omega
  rw [Zb (by omega),Zb (by rw [hlen]; simp only [Qh]; omega),Zb (by rw [hlen,QS]; omega),QS]
  have:(List.replicate i (48:Int) ++ List.replicate (d + 1 + 1) 0).set i 48 = List.replicate (i + 1) 48 ++ List.replicate (d + 1) 0:=by
   rw [List.set_append_right _ _ (by simp),List.length_replicate,Nat.sub_self,List.replicate_succ (n:=d + 1),List.set_cons_zero,List.replicate_succ' (n:=i),List.append_assoc]
   rfl
  rw [this,show IntKind.i64.wrap ((i:Int) + 1) = ((i + 1:Nat):Int) from by rw [ZQ (by omega)]; omega]
  exact ih (i + 1) m (by omega) (by omega)
theorem Zr2 (k:Nat) {x:Int} {w:Nat} (hw:w ≤ 32) (h:WU x w = true) (hk:100 < k):ZkM k (x,(w:Int),()) = some ((X5 (WL x w),0,()),()):=by
 show ZfH k _ = _
 simp only [ZfH]
 rw [Zi (by omega),Zi (by omega),ZiO k x (by omega),h]
 simp only [Qb,Bool.not_true,cond_false]
 have hb : -(((2 ^ w:Nat)):Int) ≤ x ∧ x < ((2 ^ w:Nat):Int):=by
  have hQ:0 < 2 ^ w:=Nat.pow_pos (by omega)
  unfold WU at h
  by_cases h0:w = 0
  ·rw [if_pos h0,decide_eq_true_eq] at h
   generalize 2 ^ w = Q at hQ ⊢
   omega
  ·rw [if_neg h0,decide_eq_true_eq,Qp] at h
   have:2 ^ (w - 1) ≤ 2 ^ w:=Nat.pow_le_pow_right (by omega) (by omega)
   generalize 2 ^ w = Q at this ⊢
   generalize 2 ^ (w - 1) = P at h this
   omega
 have hP:2 ^ w ≤ 2 ^ 32:=Nat.pow_le_pow_right (by omega) hw
 have e:(x % (2 ^ w:Int)).toNat = if x < 0 then (x + ((2 ^ w:Nat):Int)).toNat else x.toNat:=by
  rw [Qp]
  generalize 2 ^ w = Q at hb ⊢
  split
  ·rw [← Int.add_emod_right,Int.emod_eq_of_lt (by omega) (by omega)]
  ·rw [Int.emod_eq_of_lt (by omega) (by omega)]
 have e2:IntKind.i64.wrap ((1:Int) * (2:Int) ^ min ((w:Int)).toNat 64) = ((2 ^ w:Nat):Int):=by
  rw [QS,Nat.min_eq_left (by omega),Int.one_mul,Qp]
  generalize 2 ^ w = Q at hP ⊢
  rw [ZQ (by omega)]
 unfold WL
 rw [e,e2]
 generalize 2 ^ w = Q at hb hP
 by_cases hx:x < 0
 ·rw [Zb hx,if_pos hx,Zb (by omega),ZQ (n:=x + (Q:Int)) (by omega)]
  obtain ⟨y,hy⟩:=Int.eq_ofNat_of_zero_le (show 0 ≤ x + (Q:Int) by omega)
  rw [hy,QS,Q5 k y w (by omega) (by omega) (by omega)]
  rfl
 ·rw [Zi hx,if_neg hx]
  obtain ⟨y,rfl⟩:=Int.eq_ofNat_of_zero_le (show 0 ≤ x by omega)
  rw [QS,Q5 k y w (by omega) (by omega) (by omega)]
  rfl
theorem ZqD {m:Int}:∀ (cs:List (List Int)) (ps:List Prt) (sz:Int),(Qc m cs ps sz).2.2 = true → ∀ c ∈ cs,(Qv c m).2 = true
 | [],_,_,_ => by simp
 | c :: cs,ps,sz,h => by
  unfold Qc at h
  split at h
  ·rename_i hb
   intro x hx
   rcases List.mem_cons.1 hx with rfl | hx
   ·exact hb
   ·exact ZqD cs _ _ h x hx
  ·cases h
theorem Zkk (f:List Int → Prt) (g:List Int × Prt → List Bool):∀ cs:List (List Int),(cs.zip (cs.map f)).flatMap g = cs.flatMap fun c => g (c,f c)
 | [] => rfl
 | c :: cs => by simp only [List.map_cons,List.zip_cons_cons,List.flatMap_cons,Zkk f g cs]
abbrev ZLY:=(ByteArray × Int × Unit) × Unit
theorem Zr4 (k:Nat) (L1:Int × List (List Int) × Int × ByteArray → Option ZLY)
  {cs:List (List Int)} {i:Nat} (hi:i < cs.length) (hcl:cs.length ≤ 16) (hc:∀ x ∈ cs[i],ZI x) (hn:cs[i].length ≤ 512) (hk:70100 < k) {m:Int} (hm:m = 0 ∨ m = 1) {y:Prt} (hy:KV cs[i] m y)
  (bs:List Bool) (hb:bs.length ≤ 2147483648) :
  ZfK k L1 ((0:Int),cs,Int.ofNat i,y.1 == ((QP m:Nat):Int),y.2.1,X5 bs,y.1,m) = L1 (Int.ofNat (i + 1),cs,m,X5 (bs ++ XK m y cs[i])):=by
 have he:QP m ≤ 31:=by unfold QP; split <;> omega
 have hgi:cs.getD (Int.ofNat i).toNat [] = cs[i]:=ZK hi
 have hfin:∀ (g:Int → List Bool),(∀ x ∈ cs[i],(g x).length ≤ 70000) →
   (∀ (L:Int × List (List Int) × Int × Bool × Int × ByteArray × Int × Int → Option ZLY) (j:Nat) (hj:j < cs[i].length) (a:List Bool),a.length ≤ 2147483648 + j * 70000 →
    Yv k L1 L (Int.ofNat j,cs,Int.ofNat i,y.1 == ((QP m:Nat):Int),y.2.1,X5 a,y.1,m) = L (Int.ofNat (j + 1),cs,Int.ofNat i,y.1 == ((QP m:Nat):Int),y.2.1,X5 (a ++ g cs[i][j]),y.1,m)) →
   ZfK k L1 ((0:Int),cs,Int.ofNat i,y.1 == ((QP m:Nat):Int),y.2.1,X5 bs,y.1,m) = L1 (Int.ofNat (i + 1),cs,m,X5 (bs ++ cs[i].flatMap g)):=by
  intro g hg hstep
  have:=Zu (A:=List Bool) (R:=ZLY) (step:=fun L2 => Yv k L1 L2)
   (fun j a => (Int.ofNat j,cs,Int.ofNat i,y.1 == ((QP m:Nat):Int),y.2.1,X5 a,y.1,m)) cs[i]
   (fun c' a => L1 (Int.ofNat (i + 1),cs,m,X5 (a ++ c'.flatMap g)))
   (fun j a => a.length ≤ 2147483648 + j * 70000)
   (fun L a _ => by
    simp only [Yv]
    rw [Zb (Xx hi),hgi,Zi (QV _),Qq hi (by omega)]
    simp)
   (fun L j hj a ha hL => by
    rw [hstep L j hj a ha,hL (a ++ g cs[i][j]) (by
     have:=hg cs[i][j] (List.getElem_mem hj)
     rw [Wq]; omega)]
    rw [List.flatMap_cons,List.append_assoc])
   k 0 bs (by omega) (by omega) (Nat.zero_le _)
  rw [List.drop_zero] at this
  exact this
 unfold XK
 rcases hy with ⟨kk,hkk,hfar,rfl⟩ | ⟨hw,rfl⟩
 ·simp only
  rw [if_neg (by omega)]
  have hq:∀ x ∈ cs[i],Z5 x / 2 ^ kk ≤ 65536:=by
   intro x hx
   unfold ZbH at hfar
   rw [List.any_eq_false] at hfar
   have:=hfar x hx
   simp only [decide_eq_true_eq] at this
   omega
  rw [QS]
  refine hfin (Zdp kk) (fun x hx => by have:=hq x hx; rw [Zbl]; omega) ?_
  intro L j hj a ha
  have hx:=hc cs[i][j] (List.getElem_mem hj)
  have hxq:=hq cs[i][j] (List.getElem_mem hj)
  simp only [Yv]
  have hne:(((kk:Nat):Int) == ((QP m:Nat):Int)) = false:=by rw [ZB,QN (by omega)]
  rw [Zb (Xx hi),hgi,Zb (KU hj),hne]
  simp only [cond_false]
  rw [Zb (Xx hi),Zb (Xx hj),ZK hj,Zsm k hx]
  simp only [Qb]
  have hf32:=ZjQ hx
  simp only [QS,Nat.min_eq_left (show kk ≤ 64 by omega),KJ]
  rw [Zb (by omega),Zsj k _ hxq (by omega)]
  simp only [Qb]
  have hP:2 ^ kk ≤ 2 ^ 31:=Nat.pow_le_pow_right (by omega) (by omega)
  have hP0:0 < 2 ^ kk:=Nat.pow_pos (by omega)
  have e2:IntKind.i64.wrap ((1:Int) * (2:Int) ^ kk) = ((2 ^ kk:Nat):Int):=by
   rw [Int.one_mul,Qp]
   generalize 2 ^ kk = Q at hP ⊢
   rw [ZQ (by omega)]
  have e3:(((Z5 cs[i][j]:Nat):Int)).tmod ((2 ^ kk:Nat):Int) = ((Z5 cs[i][j] % 2 ^ kk:Nat):Int):=by
   rw [Int.tmod_eq_emod_of_nonneg (by omega)]; exact (Int.natCast_emod _ _).symm
  have hmle:Z5 cs[i][j] % 2 ^ kk ≤ Z5 cs[i][j]:=Nat.mod_le _ _
  rw [Zb (by omega),e2,Zb (by omega),e3,Q5 k _ kk (by omega) (by omega) (by omega)]
  simp only [Qb]
  have hl1:(List.replicate (Z5 cs[i][j] / 2 ^ kk) false ++ [true]).length ≤ 65537:=by simp; omega
  have hl2:(Zg (Z5 cs[i][j] % 2 ^ kk) kk).length ≤ 31:=by rw [Zl]; omega
  have hj5:j < 512:=by omega
  rw [ZO,ZO,Zb (by rw [ZD,ZD]; omega),Zb (by rw [ZD,ZD,Wq]; omega),Qq hj (by omega)]
  rfl
 ·simp only
  rw [if_pos trivial,QS]
  refine hfin (fun n => WL n (Z7 cs[i])) (fun x hx => by simp only [YA]; omega) ?_
  intro L j hj a ha
  have hx:=Ztv hc cs[i][j] (List.getElem_mem hj)
  have hne:(((QP m:Nat):Int) == ((QP m:Nat):Int)) = true:=by rw [ZB,QX rfl]
  simp only [Yv]
  rw [Zb (Xx hi),hgi,Zb (KU hj),hne]
  simp only [cond_true]
  rw [Zb (Xx hi),Zb (Xx hj),ZK hj,Zr2 k (by omega) hx (by omega)]
  simp only [Qb]
  have hl2:(WL cs[i][j] (Z7 cs[i])).length ≤ 31:=by rw [YA]; omega
  have hj5:j < 512:=by omega
  rw [ZO,Zb (by rw [ZD,ZD]; omega),Qq hj (by omega)]
theorem ZEU (k:Nat) {l:List Int} {o:Nat} (hk:70100 < k) (h:Xb l o = 0):ZkN k (l,(o:Int),()) = some ((X5 (YV l o),0,()),()):=by
 show ZfL k (ZmP k) _ = _
 have ⟨h1,h2⟩:=Zbq.1 h
 have hl:=X2 h2
 obtain ⟨hsz,q,hg⟩:=XR hl (o:=o) (by omega) (by omega)
 simp only [ZfL]
 rw [ZFH k l o (by omega) (by omega),h]
 simp only [Qb]
 rw [show ((0:Int) != 0) = false from rfl]
 simp only [cond_false]
 rw [ZFM k hl (by omega) (by omega)]
 simp only [Qb]
 unfold YV ZcO
 generalize Qx l o = R at hg hsz
 have hys:=hg.ys
 have hall:=ZqD (m:=R.1) (WV l o q) [] 6 (by rw [hg.parts])
 obtain ⟨ys',hy1,hy2,hy3⟩:=Zbp (m:=R.1) (WV l o q) [] 6 (by rw [hg.parts])
 rw [hg.parts] at hy1
 simp only [List.nil_append] at hy1
 rw [← hy1] at hy3
 obtain ⟨m,p,sz,ys⟩:=R
 obtain ⟨hp,p4,hfit,hm,hparts⟩:=hg
 simp only at hp hm hparts hys hall hy3
 subst hp
 subst hy3
 simp only [QS]
 have hmn:m = ((m.toNat:Nat):Int):=by rcases hm with rfl | rfl <;> rfl
 have e1:=Q5 k m.toNat 2 (by omega) (by omega) (by rcases hm with rfl | rfl <;> decide)
 rw [← hmn] at e1
 have e2:=Q5 k q 4 (by omega) (by omega) (by omega)
 refine (Zf e1 _).trans ?_
 refine (Zf e2 _).trans ?_
 simp only
 rw [ZO,Zb (by rw [ZD,ZD,Zl,Zl]; omega)]
 refine (Zf (Zsk k (by omega) (by omega) (by omega)) _).trans ?_
 simp only [hfit,if_true]
 rw [Zkk]
 have hcs:∀ c ∈ WV l o q,(∀ x ∈ c,ZI x) ∧ c.length ≤ 512:=fun c hc => ⟨fun x hx => hl x (YF hc x hx),by have:=ZaY hc; omega⟩
 have hclen:(WV l o q).length ≤ 16:=by
  rw [ZbO]
  have:2 ^ q ≤ 2 ^ 4:=Nat.pow_le_pow_right (by omega) p4
  omega
 generalize WV l o q = cs at hcs hclen hall
 have hl2:(Zg m.toNat 2 ++ Zg q 4).length = 6:=by rw [Wq,Zl,Zl]
 have:=Zu (A:=List Bool) (R:=ZLY) (step:=fun L1 => ZbX k (ZfK k L1) L1)
  (fun i a => (Int.ofNat i,cs,m,X5 a)) cs
  (fun l' a => some ((X5 (a ++ l'.flatMap fun c => Xi m (c,(Qv c m).1)),0,()),()))
  (fun i a => a.length ≤ 1073741900 + i * 35900000)
  (fun L a _ => by
   simp only [ZbX]
   rw [Zi (QV _)]
   simp)
  (fun L i hi a ha hL => by
   obtain ⟨hc1,hc2⟩:=hcs cs[i] (List.getElem_mem hi)
   have hb:=hall cs[i] (List.getElem_mem hi)
   have hy:=Zax hb
   simp only [ZbX]
   have hbp:ZwX cs[i] m = (Qv cs[i] m).1:=by unfold ZwX; rw [if_pos hb]
   have hgi:cs.getD (Int.ofNat i).toNat [] = cs[i]:=ZK hi
   have hf:=Zsl k hc1 hc2 (by omega) hm
   rw [hbp] at hf
   rw [Zb (KU hi),Zb (Xx hi),hgi]
   refine (Zf hf _).trans ?_
   generalize hyy:(Qv cs[i] m).1 = y at hy
   obtain ⟨b,w,hb1,hb2,hw1,hw2⟩:=ZqC hm hy
   have hll:=ZeX hc1 hc2 hy
   have e4:IntKind.i64.wrap ((4:Int) + m) = ((4 + m.toNat:Nat):Int):=by rcases hm with rfl | rfl <;> rfl
   have hm1:m.toNat ≤ 1:=by rcases hm with rfl | rfl <;> decide
   have h5:(2:Nat) ^ (4 + m.toNat) ≤ 2 ^ 5:=Nat.pow_le_pow_right (by omega) (by omega)
   have ey:Xh k (y.1,IntKind.i64.wrap ((4:Int) + m),()) = some (X5 (Zg b (4 + m.toNat)),()):=by
    rw [e4,hb1]
    exact Q5 k b (4 + m.toNat) (by omega) (by omega) (by
     generalize (2:Nat) ^ (4 + m.toNat) = Q at hb2 h5
     omega)
   refine (Zf ey _).trans ?_
   simp only
   have hI:i ≤ 16:=by omega
   have hg15:[(15:Int),31].getD m.toNat 0 = ((QP m:Nat):Int):=by rcases hm with rfl | rfl <;> rfl
   have hla:(a ++ Zg b (4 + m.toNat)).length = a.length + (4 + m.toNat):=by rw [Wq,Zl]
   rw [ZO,Zb (by rw [ZD,ZD,Zl]; omega),Zb (by omega),Zb (by omega),hg15]
   have hout:Xi m (cs[i],(Qv cs[i] m).1) = Zg b (4 + m.toNat) ++ ((if (b:Int) = (QP m:Int) then Zg w 5 else []) ++ XK m y cs[i]):=by
    unfold Xi
    simp only [hyy,hb1,hw1,QS]
   rw [List.flatMap_cons,hout]
   by_cases hesc:(b:Int) = (QP m:Int)
   ·have hq:(y.1 == ((QP m:Nat):Int)) = true:=by rw [hb1,ZB,QX hesc]
    have e5:Xh k (y.2.1,5,()) = some (X5 (Zg w 5),()):=by
     rw [hw1]
     exact Q5 k w 5 (by omega) (by omega) (by omega)
    have hlb:(a ++ Zg b (4 + m.toNat) ++ Zg w 5).length = a.length + (4 + m.toNat) + 5:=by rw [Wq,hla,Zl]
    have hN:=Zr4 k L hi hclen hc1 hc2 hk hm hy (a ++ Zg b (4 + m.toNat) ++ Zg w 5) (by omega)
    rw [hq] at hN
    rw [hq,if_pos hesc]
    simp only [cond_true]
    refine (Zf e5 _).trans ?_
    simp only
    rw [ZO,Zb (by rw [ZD,ZD,Zl]; omega)]
    refine hN.trans ?_
    rw [hL _ (by rw [Wq,hlb]; omega)]
    simp
   ·have hq:(y.1 == ((QP m:Nat):Int)) = false:=by rw [hb1,ZB,QN hesc]
    have hN:=Zr4 k L hi hclen hc1 hc2 hk hm hy (a ++ Zg b (4 + m.toNat)) (by omega)
    rw [hq] at hN
    rw [hq,if_neg hesc]
    simp only [cond_false]
    refine hN.trans ?_
    rw [hL _ (by rw [Wq,hla]; omega)]
    simp)
  k 0 (Zg m.toNat 2 ++ Zg q 4) (by omega) (by omega) (Nat.zero_le _)
 rw [List.drop_zero] at this
 exact this
end Go.Sh
namespace Go.Sh
open Go Go.Proofs
theorem ZjB (k:Nat) {l:List Int} {w:Nat} (hk:10000 < k) (hl:l.length ≤ 8192) (hw:w ≤ 32) (hs:∀ x ∈ l,WU x w = true) :
  Zg1 k (l,(w:Int),()) = some (X5 (l.flatMap (fun n => WL n w)),()):=by
 show ZjA k (Zv0 k) _ = _
 simp only [ZjA]
 have:=Zu (A:=List Bool) (R:=ByteArray × Unit) (step:=fun L1 => ZeM k L1)
  (fun i a => (Int.ofNat i,l,(w:Int),X5 a)) l
  (fun l' a => some (X5 (a ++ l'.flatMap (fun n => WL n w)),()))
  (fun i a => a.length ≤ i * 32)
  (fun L a _ => by
   simp only [ZeM]
   rw [Zi (QV _)]
   simp)
  (fun L i hi a ha hL => by
   simp only [ZeM]
   rw [Zb (KU hi),Zb (Xx hi),ZK hi,Zr2 k hw (hs _ (List.getElem_mem hi)) (by omega)]
   simp only [Qb]
   rw [ZO,Zb (by rw [ZD,ZD,YA]; omega),Qq hi (by omega),hL (a ++ WL l[i] w) (by rw [Wq,YA]; omega),List.flatMap_cons,List.append_assoc])
  k 0 [] (by simp) (by omega) (Nat.zero_le _)
 rw [List.drop_zero] at this
 exact this
theorem ZUd {n:Nat} (h:n < 64):Zg n 7 = [false] ++ Zg n 6:=by
 have:=YC n 1 6
 rw [show 1 + 6 = 7 from rfl] at this
 rw [this,Nat.div_eq_of_lt (by omega)]
 rfl
theorem ZEQ (k:Nat) (hk:70000 < k) {n kk:Nat} (hn:n < 64) (hkk:kk ≤ 64):ZkL k ((n:Int),(kk:Int),()) = some (X5 (XJ (n:Int) kk),()):=by
 show ZfG k _ = _
 simp only [ZfG]
 refine (Zf (Q5 k n 6 (by omega) (by omega) (by omega)) _).trans ?_
 simp only
 unfold XJ
 rw [QS,ZUd hn]
 rw [ZaU.2.1,ZaU.2.2.1,ZO,Zb (by rw [ZD,Zl]; omega),ZB]
 by_cases h0:kk = 0
 ·rw [Zb (by omega),Zb (by rw [ZD,Wq,Zl]; simp),ZO,if_neg (by omega)]
 ·rw [Zi (by omega),show IntKind.i64.wrap ((kk:Int) - 1) = ((kk - 1:Nat):Int) from by rw [ZQ (by omega)]; omega]
  refine (Zf (Zsj k (kk - 1) (by omega) (by omega)) _).trans ?_
  simp only
  rw [Zb (by rw [ZD,Wq,Zl]; simp),ZO,ZO,Zb (by rw [ZD,ZD,Wq,Wq,Wq,Zl]; simp; omega),if_pos (by omega)]
  simp only [List.append_assoc]
theorem ZDC {α:Type} {g:α → List Bool} {b:Nat}:∀ l:List α,(∀ x ∈ l,(g x).length ≤ b) → (l.flatMap g).length ≤ l.length * b
 | [],_ => by simp
 | a :: l,h => by
  have h1:=h a (List.mem_cons_self ..)
  have h2:=ZDC l fun x hx => h x (List.mem_cons_of_mem _ hx)
  rw [List.flatMap_cons,Wq,List.length_cons,Nat.add_mul,Nat.one_mul]
  omega
theorem Zfa {l:List Int} {o:Nat} (h:Xb l o = 0):(YV l o).length ≤ 600000000:=by
 have ⟨h1,h2⟩:=Zbq.1 h
 have hl:=X2 h2
 obtain ⟨hsz,q,hg⟩:=XR hl (o:=o) (by omega) (by omega)
 unfold YV ZcO
 generalize Qx l o = R at hg hsz
 have hys:=hg.ys
 obtain ⟨m,p,sz,ys⟩:=R
 obtain ⟨hp,p4,hfit,hm,hparts⟩:=hg
 simp only at hp hm hparts hys
 subst hp
 simp only [QS]
 have hcs:∀ c ∈ WV l o q,(∀ x ∈ c,ZI x) ∧ c.length ≤ 512:=fun c hc => ⟨fun x hx => hl x (YF hc x hx),by have:=ZaY hc; omega⟩
 have hclen:(WV l o q).length ≤ 16:=by
  rw [ZbO]
  have:2 ^ q ≤ 2 ^ 4:=Nat.pow_le_pow_right (by omega) p4
  omega
 have hyl:=hys.len
 generalize WV l o q = cs at hcs hclen hys hyl
 have hzl:(cs.zip ys).length ≤ 16:=by rw [List.length_zip]; omega
 have hm1:m.toNat ≤ 1:=by rcases hm with rfl | rfl <;> decide
 have:=ZDC (g:=Xi m) (b:=35900000) (cs.zip ys) (fun x hx => by
  obtain ⟨i,hi,rfl⟩:=List.getElem_of_mem hx
  have hi1:i < cs.length:=by rw [List.length_zip] at hi; omega
  have hi2:i < ys.length:=by rw [List.length_zip] at hi; omega
  obtain ⟨hc1,hc2⟩:=hcs cs[i] (List.getElem_mem hi1)
  have hll:=ZeX hc1 hc2 (hys.get i hi1 hi2)
  rw [List.getElem_zip]
  unfold Xi
  rw [Wq,Wq,Zl]
  dsimp only
  split
  ·rw [Zl]; omega
  ·rw [List.length_nil]; omega)
 rw [Wq,Wq,Zl,Zl]
 omega
theorem ZwZ {s:List Int} {d:Nat} (h1:1 ≤ s.length) (h2:s.length ≤ 512) (hd:d ≤ 25) {x:Wn} (hx:Zbx s d x):(Q3 s d x).length ≤ 700000000:=by
 have:=Zac h1 h2 hx
 have hm:s.length * d ≤ 512 * 25:=Nat.mul_le_mul h2 hd
 rcases hx with ⟨rfl,_⟩ | rfl | ⟨o,ho,hos,hx⟩ | ⟨o,ho,hos,hx⟩
 ·simp only at this
  omega
 ·simp only at this
  have e:(s.length:Int) * (d:Int) = ((s.length * d:Nat):Int):=by push_cast; rfl
  omega
 ·obtain ⟨e1,e2,e3,e4,e5,e6,e7,e8,e9,e10⟩:=Wz h1 h2 hx
  have hr:=Zfa e6
  have hm:(Xp o).length * d ≤ 8 * 25:=Nat.mul_le_mul e8 hd
  have e:((Xp o).length:Int) * (d:Int) = (((Xp o).length * d:Nat):Int):=by push_cast; rfl
  omega
 ·obtain ⟨e1,e2,e3,e4,e5,e6,e7,e8,e9,e10⟩:=Wz h1 h2 hx
  have hr:=Zfa e6
  have hm:(Xw s o).length * d ≤ 8 * 25:=Nat.mul_le_mul e8 hd
  have e:((Xw s o).length:Int) * (d:Int) = (((Xw s o).length * d:Nat):Int):=by push_cast; rfl
  omega
def Wp (s:List Int) (d kk:Nat):Option Wn → Int × ByteArray × Int × Unit
 | none => (-1,X5 [],(kk:Int),())
 | some x => (x.1,X5 (XJ x.1 kk ++ Q3 s d x),(kk:Int),())
theorem Zp3 (k:Nat) (hk:70000 < k) {s:List Int} (h1:1 ≤ s.length) (h2:s.length ≤ 512) {d kk:Nat} (hd:d ≤ 25) (hkk:kk ≤ 64) {b:Option Wn} (hb:Zav s d b) {x:Wn} (hx:Zbx s d x) :
  Zg0 k (Wp s d kk b,x.1,X5 (Q3 s d x),()) = some (Wp s d kk (Qt b (some x)),()):=by
 have hkind:∃ n:Nat,x.1 = (n:Int) ∧ n < 64:=by
  rcases hx with ⟨rfl,_⟩ | rfl | ⟨o,ho,hos,hx⟩ | ⟨o,ho,hos,hx⟩
  ·exact ⟨0,rfl,by omega⟩
  ·exact ⟨1,rfl,by omega⟩
  ·exact ⟨8 + o,by rw [(Wz h1 h2 hx).1]; omega,by omega⟩
  ·exact ⟨31 + o,by rw [(Wz h1 h2 hx).1]; omega,by omega⟩
 obtain ⟨n,hn1,hn2⟩:=hkind
 have hh:ZkL k (x.1,(kk:Int),()) = some (X5 (XJ x.1 kk),()):=by rw [hn1]; exact ZEQ k hk hn2 hkk
 have hlx:=Zac h1 h2 hx
 have hsm:=ZwZ h1 h2 hd hx
 match b,hb with
 | none,_ =>
  show ZcF k (((-1:Int),X5 [],(kk:Int),()),x.1,X5 (Q3 s d x),()) = _
  simp only [ZcF]
  refine (Zf hh _).trans ?_
  simp only
  rw [ZO,Zb (by rw [ZD,ZD,YP]; omega),Zb (by decide)]
  rfl
 | some b,hb =>
  have hbo:=hb b rfl
  have hlb:=Zac h1 h2 hbo
  show ZcF k ((b.1,X5 (XJ b.1 kk ++ Q3 s d b),(kk:Int),()),x.1,X5 (Q3 s d x),()) = _
  simp only [ZcF]
  refine (Zf hh _).trans ?_
  simp only
  have hb0:¬ b.1 < 0:=by
   obtain ⟨n,hn,_⟩:=hbo.kind h1 h2
   omega
  rw [ZO,Zb (by rw [ZD,ZD,YP]; omega),Zi hb0]
  simp only [Qh]
  rw [ZD,ZD,Wq,Wq,YP,YP]
  unfold Qt
  simp only
  by_cases hlt:x.2.2.2.2 < b.2.2.2.2
  ·rw [Zb (by omega),if_pos hlt]
   rfl
  ·rw [Zi (by omega),if_neg hlt]
   rfl
theorem ZGg (k:Nat) (s:List Int) (d:Int) (c:List Int) (sh:Int) (ad:Bool):Zl4 k (s,d,(c,sh,()),ad,()) =
  (Zhx k ((c,sh,()),s,())).bind fun y => bif y.1.2.1 != (0:Int) then some ((ByteArray.mk #[],false,()),()) else (ZkN k (y.1.1,Int.ofNat c.length,())).bind fun y => bif y.1.2.1 != (0:Int) then some ((ByteArray.mk #[],false,()),()) else bif decide ((0:Int) ≤ (0:Int) ∧ (0:Int) ≤ Int.ofNat c.length ∧ Int.ofNat c.length ≤ Int.ofNat s.length) then (Zg1 k (List.drop (0:Nat) (List.take (Int.ofNat c.length).toNat s),d,())).bind fun y_1 => bif ad then (Xh k (11,4,())).bind fun y_2 => bif decide (ByteArray.size y_1.1 + ByteArray.size y_2.1 < (1099511627776:Nat)) then (Xh k (sh,5,())).bind fun y_3 => bif decide ((y_1.1 ++ y_2.1).size + ByteArray.size y_3.1 < (1099511627776:Nat)) then (Zg1 k (c,12,())).bind fun y_4 => bif decide ((y_1.1 ++ y_2.1 ++ y_3.1).size + ByteArray.size y_4.1 < (1099511627776:Nat)) then bif decide ((y_1.1 ++ y_2.1 ++ y_3.1 ++ y_4.1).size + ByteArray.size y.1.1 < (1099511627776:Nat)) then some ((y_1.1 ++ y_2.1 ++ y_3.1 ++ y_4.1 ++ y.1.1,true,()),()) else none else none else none else none else bif decide (ByteArray.size y_1.1 + ByteArray.size y.1.1 < (1099511627776:Nat)) then some ((y_1.1 ++ y.1.1,true,()),()) else none else none:=rfl
def ZVk (s:List Int) (d:Nat):Option Wn → ByteArray × Bool × Unit
 | none => (X5 [],false,())
 | some x => (X5 (Q3 s d x),true,())
theorem ZKU (k:Nat) (hk:70100 < k) {s:List Int} (h1:1 ≤ s.length) (h2:s.length ≤ 512) {d:Nat} (hd:d ≤ 25) (hs:∀ x ∈ s,WU x d = true) (c:List Int) (sh:Int) {kind head:Int} (hki:2 ≤ kind) (hh:0 ≤ head ∧ head ≤ 1000) :
  Zl4 k (s,(d:Int),(c,sh,()),decide (31 < kind),()) = some (ZVk s d (ZdN s d kind c sh head),()):=by
 rw [ZGg]
 refine (Zf (Zr3 k c sh s (by omega) (by omega)) _).trans ?_
 simp only
 rw [ZT]
 cases hm:ZdN s d kind c sh head with
 | none =>
  have:¬ (QK c sh s).2 = 0:=by
   intro h
   unfold ZdN at hm
   rw [if_pos h] at hm
   cases hm
  rw [Zb this]
  rfl
 | some x =>
  obtain ⟨e1,e2,e3,e4,e5,e6,e7,e8,e9,e10⟩:=Wz h1 h2 hm
  have hz:=(Ze9 e10).1
  have hsz:=Zfa e6
  rw [Zi (by simpa using e10),hz]
  refine (Zf (ZEU k hk e6) _).trans ?_
  obtain ⟨x1,x2,x3,x4,x5⟩:=x
  simp only at e1 e2 e3 e4 e5
  subst e1; subst e2; subst e3; subst e4
  simp only
  have hmul:d * x2.length ≤ 25 * 8:=Nat.mul_le_mul hd e8
  have hlen:=Xm s d x2.length e7
  rw [show ((0:Int) != 0) = false from rfl]
  simp only [cond_false]
  rw [Zb (by simp only [Qh]; omega),List.drop_zero,show (Int.ofNat x2.length).toNat = x2.length from rfl]
  refine (Zf (ZjB k (by omega) (by rw [List.length_take]; omega) (by omega) (fun y hy => hs y (List.mem_of_mem_take hy))) _).trans ?_
  show _ = some ((X5 (Q3 s d (x1,x2,x3,ZaR x2 x3 s,x5)),true,()),())
  unfold Q3
  simp only
  rw [if_neg (by omega),if_neg (by omega)]
  generalize (s.take x2.length).flatMap (fun n => WL n d) = W at hlen
  by_cases h31:31 < x1
  ·rw [Zb h31,if_pos h31]
   obtain ⟨_,hsh,hcR⟩:=KP e9
   refine (Zf (Q5 k 11 4 (by omega) (by omega) (by omega)) _).trans ?_
   simp only
   have hl1:(W ++ Zg 11 4).length ≤ 204:=by rw [Wq,Zl]; omega
   rw [ZO,Zb (by rw [ZD,ZD,Zl]; omega)]
   obtain ⟨shn,hshn⟩:=Int.eq_ofNat_of_zero_le hsh.1
   subst hshn
   rw [QS]
   refine (Zf (Q5 k shn 5 (by omega) (by omega) (by omega)) _).trans ?_
   simp only
   have hl2:(W ++ Zg 11 4 ++ Zg shn 5).length ≤ 209:=by rw [Wq,Zl]; omega
   rw [ZO,Zb (by rw [ZD,ZD,Zl]; omega)]
   refine (Zf (ZjB k (l:=x2) (w:=12) (by omega) (by omega) (by omega) (fun y hy => by
    have:=hcR y hy
    unfold ZrF at this
    unfold WU
    rw [if_neg (by omega),decide_eq_true_eq]
    omega)) _).trans ?_
   simp only
   have hl3:(x2.flatMap (fun n => WL n 12)).length ≤ 96:=by rw [Wl]; omega
   rw [ZO,Zb (by rw [ZD,ZD]; omega),ZO,Zb (by rw [ZD,ZD,Wq]; omega)]
   simp only [List.append_assoc]
  ·rw [Zi h31,if_neg h31,ZO,Zb (by rw [ZD,ZD]; omega),List.nil_append]
theorem ZKQ (k:Nat):∀ (w j:Nat) (V q:Int) (c:Nat),V = 2 ^ w * (2 * q + 1) → -9223372036854775808 ≤ V ∧ V ≤ 9223372036854775807 → w < j → c + w ≤ 1000 →
  Zm (fun L2 => ZcE k L2) j (V,(c:Int)) = some (((c + w:Nat):Int),()):=by
 intro w
 induction w with
 | zero =>
  intro j V q c hV hb hj hc
  obtain ⟨j,rfl⟩:=Zn hj
  rw [Zd]
  simp only [ZcE]
  have hV:V = 2 * q + 1:=by rw [hV]; simp
  have h2:=Zq4 V
  have h3:=Int.tmod_add_mul_tdiv V 2
  rw [ZT,Zb (by omega),ZB,Zi (by omega)]
  rfl
 | succ w ih =>
  intro j V q c hV hb hj hc
  obtain ⟨j,rfl⟩:=Zn (show 0 < j by omega)
  rw [Zd]
  simp only [ZcE]
  have hp:(2:Int) ^ w ≠ 0:=Int.ne_of_gt (Int.pow_pos (by omega))
  have hU:(2:Int) ^ w * (2 * q + 1) ≠ 0:=Int.mul_ne_zero hp (by omega)
  have hVU:V = 2 * (2 ^ w * (2 * q + 1)):=by rw [hV,Int.pow_succ,Int.mul_comm (2 ^ w) 2,Int.mul_assoc]
  generalize hUU:(2:Int) ^ w * (2 * q + 1) = U at hU hVU
  have h0:V.tmod 2 = 0:=by rw [hVU]; exact Int.mul_tmod_right ..
  have h1:V.tdiv 2 = U:=by rw [hVU]; exact Int.mul_tdiv_cancel_left _ (by omega)
  rw [ZT,Zb (by omega),ZB,Zb h0,h1,ZQ (by omega),show IntKind.i64.wrap ((c:Int) + 1) = ((c + 1:Nat):Int) from by rw [ZQ (by omega)]; omega]
  rw [ih j U q (c + 1) hUU.symm (by omega) (by omega) (by omega)]
  congr 3
  omega
theorem ZKP (k:Nat) (s:List Int) (hk:s.length + 100 < k) (hn:s.length < 4294967296):Zy7 k (s,()) = some (((Zq s:Nat):Int),()):=by
 show Zjz k (ZvX k) _ = _
 simp only [Zjz]
 have:=Zu (A:=Nat) (R:=Int × Unit) (step:=fun L1 => ZeL k (Zp2 k) L1) (fun i v => (Int.ofNat i,s,IntKind.i64.wrap (v:Int))) s
  (fun s' v => Zp2 k (IntKind.i64.wrap ((s'.foldl (fun v x => v ||| KM x) v:Nat):Int),0))
  (fun i v => v < 2 ^ 64)
  (fun L v hv => by
   simp only [ZeL]
   rw [Zi (QV _)]
   rfl)
  (fun L i hi v hv hL => by
   simp only [ZeL]
   rw [Zb (KU hi),Zb (Xx hi),ZK hi,BitVec.toNat_or,XL,XL,Zlw hv,Qq hi (by omega),List.foldl_cons]
   exact hL (v ||| KM s[i]) (Nat.or_lt_two_pow hv (Zwi _)))
  k 0 0 (by decide) (by omega) (Nat.zero_le _)
 rw [List.drop_zero] at this
 refine Eq.trans this ?_
 show Zm (fun L2 => ZcE k L2) k (IntKind.i64.wrap ((ZdL s:Nat):Int),((0:Nat):Int)) = _
 by_cases h0:ZdL s = 0
 ·have:Zq s = 0:=by unfold Zq; rw [if_pos h0]
  rw [this,h0]
  obtain ⟨j,rfl⟩:=Zn (show 0 < k by omega)
  rw [Zd]
  rfl
 ·obtain ⟨m,hm,hw⟩:=Zmh h0
  have hlt:=ZCn s
  have hr : -9223372036854775808 ≤ IntKind.i64.wrap ((ZdL s:Nat):Int) ∧ IntKind.i64.wrap ((ZdL s:Nat):Int) ≤ 9223372036854775807:=by
   rw [IntKind.wrap_i64]; omega
  have hcase:IntKind.i64.wrap ((ZdL s:Nat):Int) = ((ZdL s:Nat):Int) ∨ IntKind.i64.wrap ((ZdL s:Nat):Int) = ((ZdL s:Nat):Int) - 18446744073709551616:=by
   rw [IntKind.wrap_i64]; omega
  have hp:((2 ^ Zq s:Nat):Int) = (2:Int) ^ Zq s:=(Qp _).symm
  have key:∃ q:Int,IntKind.i64.wrap ((ZdL s:Nat):Int) = 2 ^ Zq s * (2 * q + 1):=by
   rcases hcase with h | h
   ·refine ⟨(m:Int),?_⟩
    rw [h,hm]
    push_cast
    rfl
   ·refine ⟨(m:Int) - 2 ^ (63 - Zq s),?_⟩
    rw [h,hm]
    have e:(18446744073709551616:Int) = 2 ^ Zq s * (2 * 2 ^ (63 - Zq s)):=by
     rw [← Int.mul_assoc,Int.mul_comm _ 2,Int.mul_assoc,← Int.pow_add,show Zq s + (63 - Zq s) = 63 by omega]
     rfl
    rw [e,show 2 * ((m:Int) - 2 ^ (63 - Zq s)) + 1 = (2 * (m:Int) + 1) - 2 * 2 ^ (63 - Zq s) by omega,Int.mul_sub]
    push_cast
    rfl
  obtain ⟨q,hq⟩:=key
  have:=ZKQ k (Zq s) k _ q 0 hq hr (by omega) (by omega)
  rw [this,Nat.zero_add]
theorem Zg8 {w:Nat} {a:Int} (ha:((2:Int) ^ w) ∣ a):∀ l:List Int,(∀ x ∈ l,((2:Int) ^ w) ∣ x) → ((l.map fun x => x.fdiv (2 ^ w)).all fun y => decide (y = a.fdiv (2 ^ w))) = l.all fun x => decide (x = a)
 | [],_ => rfl
 | b :: l,h => by
  rw [List.map_cons,List.all_cons,List.all_cons,Zg8 ha l fun x hx => h x (List.mem_cons_of_mem _ hx)]
  have hb:=Zqb (h b (List.mem_cons_self ..))
  have ha:=Zqb ha
  congr 1
  by_cases hh:b = a
  ·rw [QX hh,QX (by rw [hh])]
  ·rw [QN hh,QN]
   intro h2
   rw [h2,ha] at hb
   exact hh hb.symm
theorem ZGH {s:List Int} (h:1 ≤ s.length):(QO s).all (fun x => decide (x = (QO s).headD 0)) = s.all (fun x => decide (x = s.headD 0)):=by
 match s,h with
 | a :: l,_ =>
  have hd:=ZdC (s:=a :: l)
  exact Zg8 (hd a (List.mem_cons_self ..)) (a :: l) hd
abbrev T40:=(Int × ByteArray × Unit) × Unit
abbrev C40:=Int × Int × List Int × List Int × Int × ByteArray × Int
theorem ZCX (k:Nat) (hk:70100 < k) {t:List Int} (h1:1 ≤ t.length) (h2:t.length ≤ 512) {d kk:Nat} (hd:d ≤ 25) (hkk:kk ≤ 64) (hs:∀ x ∈ t,WU x d = true) {b:Option Wn} (hb:Zav t d b)
  (c:List Int) (sh:Int) {kind head:Int} (hki:2 ≤ kind) (hh:0 ≤ head ∧ head ≤ 1000) {ad:Bool} (had:ad = decide (31 < kind)) (hx:Zav t d (ZdN t d kind c sh head)) {R:Type} (K:Option Wn → Option R) (Ky:(Int × ByteArray × Int × Unit) × Unit → Option R) (Kn:Option R)
  (hy:∀ b,Ky (Wp t d kk b,()) = K b) (hn:Kn = K b) :
  ((Zl4 k (t,(d:Int),(c,sh,()),ad,())).bind fun y => bif y.1.2.1 then (Zg0 k (((Wp t d kk b).1,(Wp t d kk b).2.1,(Wp t d kk b).2.2.1,()),kind,y.1.1,())).bind Ky else Kn) = K (Qt b (ZdN t d kind c sh head)):=by
 subst had
 refine (Zf (ZKU k hk h1 h2 hd hs c sh hki hh) _).trans ?_
 cases hm:ZdN t d kind c sh head with
 | none =>
  show Kn = _
  rw [hn]
  rfl
 | some x =>
  have hxo:=hx x hm
  have hkx:=(Wz h1 h2 hm).1
  have:=Zp3 k (by omega) h1 h2 hd hkk hb hxo
  rw [hkx] at this
  show (Zg0 k (Wp t d kk b,kind,X5 (Q3 t d x),())).bind Ky = _
  exact (Zf this _).trans (hy _)
theorem ZOw (k:Nat) (hk:70100 < k) {t:List Int} (h1:1 ≤ t.length) (h2:t.length ≤ 512) {d kk:Nat} (hd:d ≤ 25) (hkk:kk ≤ 64) (hs:∀ x ∈ t,WU x d = true) (L3:C40 → Option T40) :
  ∀ (e o m:Nat) (b:Option Wn),o + e = min 4 t.length + 1 → e < m → Zav t d b →
  Zm (fun L2 => Zcv k L3 L2) m ((o:Int),(d:Int),t,(Wp t d kk b).1,(Wp t d kk b).2.1,(Wp t d kk b).2.2.1) =
   L3 ((0:Int),(d:Int),[2,4,8],t,(Wp t d kk (ZhJ t d e o b)).1,(Wp t d kk (ZhJ t d e o b)).2.1,(Wp t d kk (ZhJ t d e o b)).2.2.1):=by
 intro e
 induction e with
 | zero =>
  intro o m b ho hm hb
  obtain ⟨m,rfl⟩:=Zn hm
  rw [Zd]
  simp only [Zcv]
  by_cases h4:o ≤ 4
  ·rw [Zb (by omega),Zi (by simp only [Qh]; omega)]
   rfl
  ·rw [Zi (by omega)]
   rfl
 | succ e ih =>
  intro o m b ho hm hb
  obtain ⟨m,rfl⟩:=Zn (show 0 < m by omega)
  rw [Zd]
  simp only [Zcv]
  rw [Zb (by omega),Zb (by simp only [Qh]; omega)]
  refine (Zf (ZKT k o (by omega)) _).trans ?_
  simp only
  have eo:IntKind.i64.wrap ((o:Int) + 1) = ((o + 1:Nat):Int):=by rw [ZQ (by omega)]; rfl
  rw [eo,ZQ (n:=8 + (o:Int)) (by omega)]
  have hx:Zav t d (ZGj t d o):=fun x hx => .inr (.inr (.inl ⟨o,by omega,by omega,hx⟩))
  have hih:=ih (o + 1) m (Qt b (ZGj t d o)) (by omega) (by omega) (Yf hb hx)
  refine (ZCX k hk h1 h2 hd hkk hs hb (Xp o) 0 (kind:=8 + (o:Int)) (head:=0) (by omega) (by omega) (by rw [QN (by omega)]) hx
   (fun b => Zm (fun L2 => Zcv k L3 L2) m (((o + 1:Nat):Int),(d:Int),t,(Wp t d kk b).1,(Wp t d kk b).2.1,(Wp t d kk b).2.2.1)) _ _ (fun b => rfl) rfl).trans ?_
  exact hih
theorem Zvi (k:Nat) (hk:70100 < k) {t:List Int} (h1:1 ≤ t.length) (h2:t.length ≤ 512) {d kk:Nat} (hd:d ≤ 25) (hkk:kk ≤ 64) (hs:∀ x ∈ t,WU x d = true) (L:C40 → Option T40)
  {i o:Nat} (ho:o = 2 ∨ o = 4 ∨ o = 8) (hi:i < 3) (hg:[(2:Int),4,8].getD i 0 = (o:Int)) {b:Option Wn} (hb:Zav t d b) :
  Zcw k L ((i:Int),(d:Int),[2,4,8],t,(Wp t d kk b).1,(Wp t d kk b).2.1,(Wp t d kk b).2.2.1) =
   L (((i + 1:Nat):Int),(d:Int),[2,4,8],t,(Wp t d kk (Qt b (YZ t d o))).1,(Wp t d kk (Qt b (YZ t d o))).2.1,(Wp t d kk (Qt b (YZ t d o))).2.2.1):=by
 simp only [Zcw]
 have h3:[(2:Int),4,8].length = 3:=rfl
 have eo:IntKind.i64.wrap ((i:Int) + 1) = ((i + 1:Nat):Int):=by rw [ZQ (by omega)]; rfl
 rw [Zb (by omega),Zb (by simp only [Qh]; omega),Zb (by rw [QS]; omega),QS,hg,eo]
 unfold YZ
 by_cases hlt:o < t.length
 ·rw [Zb (by simp only [Qh]; omega),if_pos hlt]
  refine (Zf (ZKZ k t o ho (by omega) (fun x hx => Zh0 (by omega) (hs x hx)) (by omega) (by omega)) _).trans ?_
  simp only
  rw [ZQ (n:=31 + (o:Int)) (by omega)]
  have hx:Zav t d (ZdN t d (31 + (o:Int)) (Xw t o) 4 (9 + 12 * (o:Int))):=fun x hx => .inr (.inr (.inr ⟨o,ho,hlt,hx⟩))
  exact ZCX k hk h1 h2 hd hkk hs hb (Xw t o) 4 (kind:=31 + (o:Int)) (head:=9 + 12 * (o:Int)) (by omega) (by omega) (by rw [QX (by omega)]) hx
   (fun b => L (((i + 1:Nat):Int),(d:Int),[2,4,8],t,(Wp t d kk b).1,(Wp t d kk b).2.1,(Wp t d kk b).2.2.1)) _ _ (fun b => rfl) rfl
 ·rw [Zi (by simp only [Qh]; omega),if_neg hlt]
  rfl
theorem ZJ4 (k : Nat) (hk : 70100 < k) {t : List Int} (h1 : 1 ≤ t.length) (h2 : t.length ≤ 512) {d kk : Nat} (hd : d ≤ 25) (hkk : kk ≤ 64) (hs : ∀ x ∈ t, WU x d = true) {b : Option Wn} (hb : Zav t d b) :
    Zeu k ((0 : Int), (d : Int), t, (Wp t d kk b).1, (Wp t d kk b).2.1, (Wp t d kk b).2.2.1) =
      (let x := Qt (Qt (Qt (Qt (ZhJ t d (min 4 t.length + 1) 0 b) (YZ t d 2)) (YZ t d 4)) (YZ t d 8)) (ZD4 t d)
       some (((Wp t d kk x).1, (Wp t d kk x).2.1, ()), ())) := by
  obtain ⟨j, rfl⟩ : ∃ j, k = j + 4 := ⟨k - 4, by omega⟩
  refine (ZOw (j + 4) hk h1 h2 hd hkk hs (Zvh (j + 4)) (min 4 t.length + 1) 0 (j + 4) b (by omega) (by omega) hb).trans ?_
  have hf := Zwb (s := t) (d := d) (min 4 t.length + 1) 0 b (by omega) hb
  generalize ZhJ t d (min 4 t.length + 1) 0 b = b1 at hf
  show Zm (fun L3 => Zcw (j + 4) L3) (j + 4) (((0 : Nat) : Int), _) = _
  have h2' := Yf hf (ZgK (s := t) (d := d) (o := 2) (.inl rfl))
  have h4' := Yf h2' (ZgK (s := t) (d := d) (o := 4) (.inr (.inl rfl)))
  have h8' := Yf h4' (ZgK (s := t) (d := d) (o := 8) (.inr (.inr rfl)))
  rw [Zd, Zvi (j + 4) hk h1 h2 hd hkk hs _ (o := 2) (.inl rfl) (by omega) rfl hf]
  rw [Zd, Zvi (j + 4) hk h1 h2 hd hkk hs _ (o := 4) (.inr (.inl rfl)) (by omega) rfl h2']
  rw [Zd, Zvi (j + 4) hk h1 h2 hd hkk hs _ (o := 8) (.inr (.inr rfl)) (by omega) rfl h4']
  rw [Zd]
  generalize Qt (Qt (Qt b1 (YZ t d 2)) (YZ t d 4)) (YZ t d 8) = b2 at h8'
  simp only [Zcw]
  rw [Zi (by omega)]
  refine (Zf (ZjB (j + 4) (l := t) (w := d) (by omega) (by omega) (by omega) hs) _).trans ?_
  have := Zp3 (j + 4) (by omega) h1 h2 hd hkk h8' (x := (1, [], 0, [], (t.length : Int) * (d : Int))) (.inr (.inl rfl))
  exact (Zf this _).trans rfl
theorem ZJ5 (k:Nat) (hk:70200 < k) {s:List Int} {d:Nat} (h:Zdw s (d:Int) = 0) :
  ∃ kd:Int,Zl2 k (s,(d:Int),()) = some ((kd,X5 (QT s d),()),()):=by
 obtain ⟨⟨h1,h2,h3,h4⟩,hs⟩:=Zbt.1 h
 have hw:=Zc2 (by omega) hs
 have hsg:=Zh1 (by omega) hs
 have hsl:=Zat s
 have hdv:=ZdC (s:=s)
 obtain ⟨x,hx,hok,hsub,_,_⟩:=Zdy s d h1 h2
 rw [hsub]
 refine ⟨x.1,?_⟩
 show Zi8 k (Zvg k) _ = _
 simp only [Zi8]
 refine (Zf (ZKP k s (by omega) (by omega)) _).trans ?_
 simp only
 have hQ:(2:Int) ^ Zq s = ((2 ^ Zq s:Nat):Int):=Qp _
 have hP:2 ^ Zq s ≤ 2 ^ 25:=Nat.pow_le_pow_right (by omega) (by omega)
 have hP0:0 < 2 ^ Zq s:=Nat.pow_pos (by omega)
 have e2:IntKind.i64.wrap ((1:Int) * (2:Int) ^ min (((Zq s:Nat):Int)).toNat 64) = (2:Int) ^ Zq s:=by
  rw [QS,Nat.min_eq_left (by omega),Int.one_mul,hQ]
  generalize 2 ^ Zq s = Q at hP ⊢
  rw [ZQ (by omega)]
 have hne:¬ (2:Int) ^ Zq s = 0:=by
  rw [hQ]
  generalize 2 ^ Zq s = Q at hP0 ⊢
  omega
 have hhd:s.getD 0 0 = s.headD 0:=by cases s <;> rfl
 have:=Zu (A:=Bool × List Int) (R:=T40) (step:=fun L1 => YN k (Zeu k) L1) (fun i a => (Int.ofNat i,s,((Zq s:Nat):Int),a.1,(d:Int),a.2)) s
  (fun s' a => YN k (Zeu k) (fun _ => none) (Int.ofNat s.length,s,((Zq s:Nat):Int),(a.1 && s'.all fun x => decide (x = s.headD 0)),(d:Int),a.2 ++ s'.map fun x => x.fdiv (2 ^ Zq s)))
  (fun i a => a.2.length = i)
  (fun L a _ => by
   simp only [YN]
   rw [Zi (QV _),Zi (QV _)]
   simp)
  (fun L i hi a ha hL => by
   have hdiv:s[i].tdiv (2 ^ Zq s) = s[i].fdiv (2 ^ Zq s):=by
    rw [Int.fdiv_eq_ediv_of_nonneg _ (by rw [hQ]; exact Int.natCast_nonneg _),Int.tdiv_eq_ediv_of_dvd (hdv s[i] (List.getElem_mem hi))]
   have hnar:=Zh0 (by omega) (hs s[i] (List.getElem_mem hi))
   have hfb:=ZhH (x:=s[i]) (b:=2147483648) (Zq s) (by unfold ZI at hnar; omega) (by omega)
   have key:YN k (Zeu k) L (Int.ofNat i,s,((Zq s:Nat):Int),a.1,(d:Int),a.2) =
     L (Int.ofNat (i + 1),s,((Zq s:Nat):Int),(a.1 && decide (s[i] = s.headD 0)),(d:Int),a.2 ++ [s[i].fdiv (2 ^ Zq s)]):=by
    simp only [YN]
    rw [Zb (KU hi),Zb (Xx hi),Zb (by omega),e2,Zb hne,ZK hi,hdiv,ZQ (n:=s[i].fdiv (2 ^ Zq s)) (by omega),Zb (by simp only [List.length_singleton]; omega),Qq hi (by omega)]
    cases a.1 with
    | false => rfl
    | true =>
     simp only [cond_true,Bool.true_and]
     rw [Zb (Xx hi),Zb (by simp only [Qh]; omega),hhd,ZB]
   refine key.trans ((hL (a.1 && decide (s[i] = s.headD 0),a.2 ++ [s[i].fdiv (2 ^ Zq s)]) (by simp [ha])).trans ?_)
   simp only
   rw [List.all_cons,List.map_cons,List.append_assoc,Bool.and_assoc]
   rfl)
  k 0 (true,[]) rfl (by omega) (Nat.zero_le _)
 rw [List.drop_zero] at this
 refine Eq.trans this ?_
 simp only
 rw [Bool.true_and,List.nil_append,← ZGH h1]
 show YN k (Zeu k) (fun _ => none) (Int.ofNat s.length,s,((Zq s:Nat):Int),(QO s).all (fun x => decide (x = (QO s).headD 0)),(d:Int),QO s) = _
 simp only [YN]
 rw [Zi (QV _),ZQ (n:=(d:Int) - ((Zq s:Nat):Int)) (by omega),show (d:Int) - ((Zq s:Nat):Int) = ((d - Zq s:Nat):Int) by omega]
 have hkk:Zq s ≤ 64:=by omega
 generalize Zq s = kk at hw hsg hok hx hkk ⊢
 generalize QO s = t at hsg hsl hok hx ⊢
 clear this
 have hd1:1 ≤ t.length:=by omega
 have hd2:t.length ≤ 512:=by omega
 have hdd:d - kk ≤ 25:=by omega
 have hrest:=fun (b:Option Wn) (hb:Zav t (d - kk) b) => ZJ4 k (by omega) hd1 hd2 hdd hkk hsg hb
 generalize d - kk = dd at hsg hok hx hrest hdd ⊢
 unfold Zia Zdj at hx
 cases hall:t.all (fun x => decide (x = t.headD 0)) with
 | false =>
  rw [hall] at hx
  refine (hrest none (fun y hy => by cases hy)).trans ?_
  simp only
  rw [show ZhJ t dd (min 4 t.length + 1) 0 none = ZhJ t dd (min 4 t.length + 1) 0 (Qt none (if false = true then some (0,[],0,[],(dd:Int)) else none)) from rfl,hx]
  rfl
 | true =>
  rw [hall] at hx
  simp only [cond_true]
  rw [Zb (by simp only [Qh]; omega),List.drop_zero]
  refine (Zf (ZjB k (w:=dd) (by omega) (by rw [List.length_take]; omega) (by omega) (fun y hy => hsg y (List.mem_of_mem_take hy))) _).trans ?_
  have hco:Zbx t dd (0,[],0,[],(dd:Int)):=.inl ⟨rfl,hall⟩
  have hf:=Zp3 k (by omega) hd1 hd2 hdd hkk (b:=none) (fun y hy => by cases hy) hco
  refine (Zf hf _).trans ?_
  refine (hrest (some (0,[],0,[],(dd:Int))) (fun y hy => by cases hy; exact hco)).trans ?_
  simp only
  rw [show ZhJ t dd (min 4 t.length + 1) 0 (some (0,[],0,[],(dd:Int))) = ZhJ t dd (min 4 t.length + 1) 0 (Qt none (if true = true then some (0,[],0,[],(dd:Int)) else none)) from rfl,hx]
  rfl
end Go.Sh
namespace Go.Sh
open Go Go.Proofs
theorem ZFY (k:Nat) (c d r n:Int) (ch:List (List Int)):Zst k ((c,d,r,()),(n,ch,()),()) =
  (ZoN k ((c,d,r,()),(n,ch,()),())).bind fun y => bif y.1 != (0:Int) then some ((ByteArray.mk #[],y.1,()),()) else
   bif decide ((0:Int) ≤ (0:Int) ∧ (0:Int) < Int.ofNat ch.length) then
    bif decide ((256:Int) < Int.ofNat (List.length (ch.getD (0:Nat) []))) then
     bif c == (2:Int) then bif decide ((0:Int) ≤ (0:Int) ∧ (0:Int) < Int.ofNat ch.length) then bif decide ((0:Int) ≤ (1:Int) ∧ (1:Int) < Int.ofNat ch.length) then
      (Zi0 k ((ch.getD (0:Nat) [],ch.getD (1:Nat) [],()),())).bind fun y => bif c == (2:Int) then bif y.1 == (0:Int) then QR k 7 1 16 c d n ch y.1 else QR k 7 y.1 16 c d n ch y.1 else QR k 7 y.1 16 c d n ch y.1
      else none else none
     else bif c == (2:Int) then QR k 7 1 16 c d n ch 0 else QR k 7 0 16 c d n ch 0
    else
     bif c == (2:Int) then bif decide ((0:Int) ≤ (0:Int) ∧ (0:Int) < Int.ofNat ch.length) then bif decide ((0:Int) ≤ (1:Int) ∧ (1:Int) < Int.ofNat ch.length) then
      (Zi0 k ((ch.getD (0:Nat) [],ch.getD (1:Nat) [],()),())).bind fun y => bif c == (2:Int) then bif y.1 == (0:Int) then QR k 6 1 8 c d n ch y.1 else QR k 6 y.1 8 c d n ch y.1 else QR k 6 y.1 8 c d n ch y.1
      else none else none
     else bif c == (2:Int) then QR k 6 1 8 c d n ch 0 else QR k 6 0 8 c d n ch 0
   else none:=rfl
theorem ZzO (a b:List Int):KT a ++ KT b = KT (a ++ b):=by
 apply ZtG
 simp [KT]
theorem Ztp (a:List Int):(KT a).size = a.length:=by rw [← Zh3]; simp
theorem ZzF (B:List Bool):ZY (WR B) = ZY B:=ZzE B
theorem Zou (k:Nat) {B:List Bool} (hB:B.length ≤ 100000) (hk:200000 < k):ZCu k (X5 B) = some ((KT (ZY (Yh B)),0,()),()):=by
 unfold ZCu
 refine (Zf (ZpJ k B (by omega) (by omega)) _).trans ?_
 have hb:=Ke B
 have hl:(ZY B).length ≤ 100000:=by rw [Q6]; omega
 refine (Zf (ZJ9 k hb (by omega) (by omega)) _).trans ?_
 have hc:=Zon hb
 have e1:(((Ys (ZY B):Nat):Int)).tdiv 256 = ((Ys (ZY B) / 256:Nat):Int):=by rw [Int.tdiv_eq_ediv_of_nonneg (by omega)]; exact (Int.natCast_ediv _ _).symm
 have e2:(((Ys (ZY B):Nat):Int)).tmod 256 = ((Ys (ZY B) % 256:Nat):Int):=by rw [Int.tmod_eq_emod_of_nonneg (by omega)]; exact (Int.natCast_emod _ _).symm
 simp only
 rw [e1,e2,ZQ (n:=((Ys (ZY B) / 256:Nat):Int)) (by omega),wu8 (n:=((Ys (ZY B) / 256:Nat):Int)) (by omega),wu8 (by omega)]
 rw [Zb (by rw [Ztp,Ztp]; simp only [List.length_cons,List.length_nil]; omega),ZzO,ZtN,ZzF]
theorem Zry {n:Nat} (a w:Nat) (h:n < 2 ^ w):Zg n (a + w) = List.replicate a false ++ Zg n w:=by
 rw [YC,Nat.div_eq_of_lt h]
 congr 1
 induction a with
 | zero => rfl
 | succ a ih => rw [show Zg 0 (a + 1) = (0:Nat).testBit a :: Zg 0 a from rfl,ih,Nat.zero_testBit]; rfl
theorem ZAf (l:List Nat):QL (Wi l) = l.flatMap fun x => Zg x 8:=by
 unfold QL Wi
 rw [List.flatMap_map]
 rfl
theorem Zxc (k:Nat) (hk:300000 < k) {kd mode num N:Nat} (hkd:kd = Q7 N) (hm:mode < 16) (hnum:num < 2 ^ 31) (hN:1 ≤ N ∧ N ≤ 512) {w:Int} (hw:w = ((8 * (kd - 5):Nat):Int)) (c d:Int) {ch:List (List Int)} (hch:(ch.getD 0 []).length = N) (md:Int) :
  QR k (kd:Int) (mode:Int) w c d (num:Int) ch md = ZtQ k c d ch md (X5 (ZbJ mode num N)):=by
 subst hkd
 have hkn:=ZjV N
 have hprel:=Ze3 mode num N
 have hcl:=Zkt num
 unfold QR
 refine (Zf (Q5 k 16382 14 (by omega) (by omega) (by omega)) _).trans ?_
 simp only
 rw [ZaU.2.2.2.1,ZaU.2.2.2.2.1,Zb (by rw [ZD,Zl]; omega),ZO]
 refine (Zf (Q5 k (Q7 N) 4 (by omega) (by omega) (by omega)) _).trans ?_
 simp only
 rw [Zb (by simp only [ZD,Zl,Wq,List.length_cons,List.length_nil]; omega),ZO,Zb (by simp only [ZD,Zl,Wq,List.length_cons,List.length_nil]; omega),ZO]
 refine (Zf (Q5 k mode 4 (by omega) (by omega) (by omega)) _).trans ?_
 simp only
 rw [Zb (by simp only [ZD,Zl,Wq,List.length_cons,List.length_nil]; omega),ZO,Zb (by simp only [ZD,Zl,Wq,List.length_cons,List.length_nil]; omega),ZO]
 refine (Zf (ZJW k (by omega) (n:=num) (by omega)) _).trans ?_
 have hbc:ZW (Wi (Qs num)) = true:=by
  have hlt:=Zok (n:=num) (by omega)
  unfold ZW Wi
  rw [List.all_map]
  refine List.all_eq_true.2 fun x hx => ?_
  have:=hlt x hx
  rw [Function.comp_apply,Bool.and_eq_true,decide_eq_true_eq,decide_eq_true_eq]
  omega
 refine (Zf (ZJR k hbc (by rw [ZcK]; omega) (by rw [ZcK]; omega)) _).trans ?_
 simp only
 rw [ZAf]
 have hfl:=ZgH (Qs num)
 rw [Zb (by simp only [ZD,Zl,Wq,List.length_cons,List.length_nil,hfl]; omega),ZO]
 have e1:IntKind.i64.wrap (Int.ofNat (List.length (ch.getD (0:Nat) [])) - (1:Int)) = ((N - 1:Nat):Int):=by rw [hch,ZQ (by simp only [Qh]; omega)]; simp only [Qh]; omega
 rw [e1,hw]
 refine (Zf (Q5 k (N - 1) (8 * (Q7 N - 5)) (by omega) (by omega) (by omega)) _).trans ?_
 simp only
 rw [Zb (by simp only [ZD,Zl,Wq,List.length_cons,List.length_nil,hfl]; omega),ZO]
 have hpre:Zg 16382 14 ++ [false,false] ++ Zg (Q7 N) 4 ++ [false,false,false,false] ++ Zg mode 4 ++ [false,false,false,false] ++ (Qs num).flatMap (fun x => Zg x 8) ++ Zg (N - 1) (8 * (Q7 N - 5)) = WI mode num N:=by
  unfold WI
  rw [show (6:Nat) = 2 + 4 from rfl,Zry 2 4 (by omega),show Zg mode 8 = Zg mode (4 + 4) from rfl,Zry 4 4 hm,show Zg 0 4 = [false,false,false,false] from rfl]
  simp only [List.append_assoc]
  rfl
 rw [hpre]
 refine (Zf (ZpJ k (WI mode num N) (by omega) (by omega)) _).trans ?_
 have hb:=Ke (WI mode num N)
 have hl:(ZY (WI mode num N)).length ≤ 100:=by rw [Q6]; omega
 refine (Zf (ZJX k hb (by omega) (by omega)) _).trans ?_
 have hc8:=ZCr hb
 refine (Zf (Q5 k (Zw8 (ZY (WI mode num N))) 8 (by omega) (by omega) (by omega)) _).trans ?_
 simp only
 rw [Zb (by simp only [ZD,Zl]; omega),ZO]
 rfl
theorem Zvj (k:Nat) (hk:70200 < k) {s:List Int} {d:Int} (hd:4 ≤ d ∧ d ≤ 25) (hl:1 ≤ s.length ∧ s.length ≤ 512) (hs:∀ x ∈ s,WU x d.toNat = true) :
  ∃ kd:Int,Zl2 k (s,d,()) = some ((kd,X5 (QT s d.toNat),()),()):=by
 obtain ⟨e,rfl⟩:=Int.eq_ofNat_of_zero_le (show 0 ≤ d by omega)
 rw [QS] at hs ⊢
 exact ZJ5 k hk (Zbt.2 ⟨by omega,hs⟩)
theorem Zxd (k:Nat) (hk:300000 < k) {c d r n:Int} {ch:List (List Int)} (h:XC c d r n ch = 0) (md:Int) (hmd:c = 2 → md = ZU (ch.getD 0 []) (ch.getD 1 [])) {B:List Bool} (hB:B.length ≤ 200) :
  ZtQ k c d ch md (X5 B) = some ((KT (ZY (Yh (B ++ Xn (Yk ch).1 (Z9 c d (Yk ch).2)))),0,()),()):=by
 obtain ⟨hs,hn,hc,hlen,hsg⟩:=Zdc h
 obtain ⟨hlay,_,_⟩:=ZBV h
 have hdl:((d.toNat:Nat):Int) = d:=by omega
 unfold ZtQ
 match ch,hc,hlen,hsg,hlay,hmd with
 | [],hc,_,_,_,_ => simp at hc; omega
 | [l],hc,hlen,hsg,hlay,_ =>
  have hc:c = 1:=by simp at hc; omega
  subst hc
  obtain ⟨_,h1,h2⟩:=hlen l (by simp)
  have hN:([l].headD []).length = l.length:=rfl
  have hcb:=Zhk hlay (by rw [hN]; omega) (by rw [hN]; omega) (by omega) (by omega)
  rw [ZB,Zb (by rfl),Zb (by simp only [Qh,List.length_singleton]; omega)]
  obtain ⟨kd,hk40⟩:=Zvj k (by omega) (s:=l) (d:=d) (by omega) ⟨h1,h2⟩ (hsg l (by simp))
  have e:Xn (Yk [l]).1 (Z9 1 d (Yk [l]).2) = QT l d.toNat:=by
   show QT l d.toNat ++ [] = _
   rw [List.append_nil]
  rw [e] at hcb ⊢
  refine (Zf hk40 _).trans ?_
  simp only
  rw [Zb (by rw [ZD,ZD]; omega),ZO]
  exact Zou k (by rw [Wq]; omega) (by omega)
 | [l,r'],hc,hlen,hsg,hlay,hmd =>
  have hc:c = 2:=by simp at hc; omega
  subst hc
  have hmd:md = ZU l r':=hmd rfl
  subst hmd
  obtain ⟨_,h1,h2⟩:=hlen l (by simp)
  have hr:=(hlen r' (by simp)).1
  simp only [List.headD_cons] at hr
  have hN:([l,r'].headD []).length = l.length:=rfl
  have hcb:=Zhk hlay (by rw [hN]; omega) (by rw [hN]; omega) (by omega) (by omega)
  have hmm:=Zhl l r'
  have hL:∀ x ∈ l,Z0 x:=fun x hx => YB (by omega) (hsg l (by simp) x hx)
  have hR:∀ x ∈ r',Z0 x:=fun x hx => YB (by omega) (hsg r' (by simp) x hx)
  have hls:(Yk [l,r']).1 = [XA (ZU l r') l r',XB (ZU l r') l r']:=rfl
  have hds:Z9 2 d (Yk [l,r']).2 = [if ZU l r' = 9 then d + 1 else d,if ZU l r' = 8 ∨ ZU l r' = 10 then d + 1 else d]:=by
   show Z9 2 d (if ZU l r' = 0 then 1 else ZU l r') = _
   rcases hmm with h | h | h | h <;> rw [h] <;> rfl
  rw [hls,hds] at hcb hlay ⊢
  rw [ZB,Zi (by omega),Zb (by simp only [Qh,List.length_cons,List.length_nil]; omega),Zb (by simp only [Qh,List.length_cons,List.length_nil]; omega)]
  refine (Zf (ZyL k hmm hr.symm (by omega) (by omega) hL hR) _).trans ?_
  refine (Zf (ZJ8 k d (ZU l r') (by omega)) _).trans ?_
  obtain ⟨a1,a2,a3⟩:=hlay.all 0 (by simp) (by simp)
  obtain ⟨b1,b2,b3⟩:=hlay.all 1 (by simp) (by simp)
  simp only [List.getElem_cons_zero,List.getElem_cons_succ] at a1 a2 a3 b1 b2 b3
  rw [hN] at a1 b1
  simp only
  generalize (if ZU l r' = 9 then d + 1 else d) = d1 at a2 a3 hcb ⊢
  generalize (if ZU l r' = 8 ∨ ZU l r' = 10 then d + 1 else d) = d2 at b2 b3 hcb ⊢
  obtain ⟨k1,hk1⟩:=Zvj k (by omega) (d:=d1) (by omega) (by omega) a3
  obtain ⟨k2,hk2⟩:=Zvj k (by omega) (d:=d2) (by omega) (by omega) b3
  refine (Zf hk1 _).trans ?_
  refine (Zf hk2 _).trans ?_
  have e:Xn [XA (ZU l r') l r',XB (ZU l r') l r'] [d1,d2] = QT (XA (ZU l r') l r') d1.toNat ++ QT (XB (ZU l r') l r') d2.toNat:=by
   show _ ++ (_ ++ []) = _
   rw [List.append_nil]
  rw [e] at hcb ⊢
  rw [Wq] at hcb
  simp only
  rw [Zb (by rw [ZD,ZD]; omega),ZO,Zb (by rw [ZD,ZD,Wq]; omega),ZO,List.append_assoc]
  exact Zou k (by rw [Wq,Wq]; omega) (by omega)
 | _ :: _ :: _ :: _,hc,_,_,_,_ => simp at hc; omega
theorem ZJc (k:Nat) (hk:2100000 < k) (c d r n:Int) {ch:List (List Int)} (hsm:Sm ch) :
  Zst k ((c,d,r,()),(n,ch,()),()) = some ((KT (K4 c d r n ch).1,(K4 c d r n ch).2,()),()):=by
 rw [ZFY]
 refine (Zf (ZxO k (by omega) c d r n hsm) _).trans ?_
 simp only
 unfold K4
 rw [ZT]
 by_cases h:XC c d r n ch = 0
 case neg => rw [Zb h,if_neg h]; rfl
 rw [Zi (by simpa using h),if_pos h]
 obtain ⟨hs,hn,hc,hlen,hsg⟩:=Zdc h
 obtain ⟨_,⟨mode,hmode,hmc⟩,_⟩:=ZBV h
 obtain ⟨num,rfl⟩:=Int.eq_ofNat_of_zero_le hn.1
 have hpos:0 < ch.length:=by omega
 have hhd:ch.getD 0 [] = ch.headD []:=by cases ch <;> rfl
 have hN:1 ≤ (ch.headD []).length ∧ (ch.headD []).length ≤ 512:=by
  match ch,hpos with
  | l :: _,_ => exact (hlen l (by simp)).2
 have hhl:(ZbJ mode num (ch.headD []).length).length ≤ 200:=by
  unfold ZbJ
  rw [Wq,Ze3,Zl]
  have:=Zkt num
  have:=ZjV (ch.headD []).length
  omega
 have hm16:mode < 16:=by omega
 have fin:∀ (kd:Nat) (w md:Int),kd = Q7 (ch.headD []).length → w = ((8 * (kd - 5):Nat):Int) → (c = 2 → md = ZU (ch.getD 0 []) (ch.getD 1 [])) →
   QR k (kd:Int) (mode:Int) w c d ((num:Nat):Int) ch md = some ((KT (ZY (Yh (ZbJ (Yk ch).2.toNat ((num:Nat):Int).toNat (ch.headD []).length ++ Xn (Yk ch).1 (Z9 c d (Yk ch).2)))),0,()),()):=by
  intro kd w md h1 h2 h3
  refine (Zxc k (by omega) h1 hm16 (by omega) hN h2 c d (by rw [hhd]) md).trans ?_
  have:=Zxd k (by omega) h md h3 hhl
  refine this.trans ?_
  rw [hmode,QS,QS]
 rw [Zb (by simp only [Qh]; omega)]
 have both:∀ (kd:Nat) (w:Int),kd = Q7 (ch.headD []).length → w = ((8 * (kd - 5):Nat):Int) →
   (bif c == (2:Int) then bif decide ((0:Int) ≤ (0:Int) ∧ (0:Int) < Int.ofNat ch.length) then bif decide ((0:Int) ≤ (1:Int) ∧ (1:Int) < Int.ofNat ch.length) then
      (Zi0 k ((ch.getD (0:Nat) [],ch.getD (1:Nat) [],()),())).bind fun y => bif c == (2:Int) then bif y.1 == (0:Int) then QR k (kd:Int) 1 w c d ((num:Nat):Int) ch y.1 else QR k (kd:Int) y.1 w c d ((num:Nat):Int) ch y.1 else QR k (kd:Int) y.1 w c d ((num:Nat):Int) ch y.1
      else none else none
     else bif c == (2:Int) then QR k (kd:Int) 1 w c d ((num:Nat):Int) ch 0 else QR k (kd:Int) 0 w c d ((num:Nat):Int) ch 0) =
    some ((KT (ZY (Yh (ZbJ (Yk ch).2.toNat ((num:Nat):Int).toNat (ch.headD []).length ++ Xn (Yk ch).1 (Z9 c d (Yk ch).2)))),0,()),()):=by
  intro kd w h1 h2
  rw [ZB]
  by_cases hc2:c = 2
  ·rw [Zb hc2,Zb (by simp only [Qh]; omega),Zb (by simp only [Qh]; omega)]
   match ch,hc,hlen,hsg,hmode,fin with
   | [],hc,_,_,_,_ => simp at hc; omega
   | [_],hc,_,_,_,_ => simp at hc; omega
   | [l,r'],hc,hlen,hsg,hmode,fin =>
    have hr:=(hlen r' (by simp)).1
    have hl5:=(hlen l (by simp)).2
    simp only [List.headD_cons] at hr
    have hL:∀ x ∈ l,Z0 x:=fun x hx => YB (by omega) (hsg l (by simp) x hx)
    have hR:∀ x ∈ r',Z0 x:=fun x hx => YB (by omega) (hsg r' (by simp) x hx)
    refine (Zf (ZJM k (L:=l) (R:=r') hr.symm (by omega) (by omega) hL hR) _).trans ?_
    simp only
    rw [Zb hc2,ZB]
    have hmo:(if ZU l r' = 0 then (1:Int) else ZU l r') = (mode:Int):=hmode
    have hf:=fin kd w (ZU l r') h1 h2 (fun _ => rfl)
    rw [← hmo] at hf
    by_cases h0:ZU l r' = 0
    ·rw [if_pos h0] at hf
     rw [Zb h0]
     exact hf
    ·rw [if_neg h0] at hf
     rw [Zi h0]
     exact hf
   | _ :: _ :: _ :: _,hc,_,_,_,_ => simp at hc; omega
  ·rw [Zi hc2,Zi hc2]
   have hm0:mode = 0:=by omega
   have hf:=fin kd w 0 h1 h2 (fun h => absurd h hc2)
   rw [hm0] at hf
   exact hf
 rw [hhd]
 unfold Q7 at both
 by_cases h256:256 < (ch.headD []).length
 ·rw [Zb (by simp only [Qh]; omega)]
  have:=both 7 16 (by rw [if_pos h256]) rfl
  rw [hhd] at this
  exact this
 ·rw [Zi (by simp only [Qh]; omega)]
  have:=both 6 8 (by rw [if_neg h256]) rfl
  rw [hhd] at this
  exact this
theorem ZOu (k:Nat) (hk:3000000 < k) (c d r n:Int) {ch:List (List Int)} (h:Sm ch):f3_F k ((c,d,r,()),(n,ch,()),()) = some (true,()):=by
 show ZnJ k _ = _
 simp only [ZnJ]
 refine (Zf (ZHE k (by omega)) _).trans ?_
 refine (Zf (ZoH k c d r) _).trans ?_
 refine (Zf (ZxG k c d r) _).trans ?_
 simp only [Bool.not_true,cond_false]
 have e:(!((if YW c d r = true then (0:Int) else 2) == 0) == YW c d r) = false:=by
  cases YW c d r <;> rfl
 rw [e]
 simp only [cond_false]
 refine (Zf (ZxO k (by omega) c d r n h) _).trans ?_
 refine (Zf (ZIN k (by omega) n h) _).trans ?_
 refine (Zf (Zx3 k (by omega) c d r n ch) _).trans ?_
 simp only
 have he:(K4 c d r n ch).2 = XC c d r n ch:=by
  unfold K4
  split
  ·rename_i hz; rw [hz]
  ·rfl
 rw [he,ZT,Zi (by simp),ZT]
 by_cases hz:XC c d r n ch = 0
 case neg =>
  rw [Zb hz]
  unfold K4
  rw [if_neg hz]
  rfl
 rw [Zi (by simpa using hz)]
 refine (Zf (ZI4 k (by omega) n h) _).trans ?_
 simp only
 cases ch.all (fun l => decide (l.length ≤ 300)) with
 | false => rfl
 | true =>
  simp only [Bool.not_true,cond_false]
  refine (Zf (ZJc k (by omega) c d r n h) _).trans ?_
  show some ((KT (K4 c d r n ch).1).toList == (KT (K4 c d r n ch).1).toList,()) = _
  rw [ZG8,QX rfl]
theorem writes_plain:∀ x:Kd.dens (Xe [shapeT,frameT]),ZDL [shapeT,frameT] x → Zh9 [shapeT,frameT] x ≤ 1048576 → ∃ k u,f3_F k x = some (true,u):=by
 rintro ⟨⟨c,d,r,⟨⟩⟩,⟨n,ch,⟨⟩⟩,⟨⟩⟩ _ hb
 have hb:_ + (Ty.bulk frameT (n,ch,()) + _) ≤ 1048576:=hb
 exact ⟨4000000,(),ZOu 4000000 (by omega) c d r n (Zzo (n:=n) (by omega))⟩
end Go.Sh
