/-
  What the row needs, part 12.
-/
import Derived.Test.YtmeahimfdhdggaaGreatDoorXFrameReads11
import Derived.ChangeArms
import Derived.ChangeShapes
import Derived.WideShapes
import Derived.ReadAgain
import Derived.Below
import Derived.ChangeSame
import Derived.RowKit
set_option linter.unusedSimpArgs false
set_option linter.unusedVariables false
set_option linter.unusedSectionVars false
namespace Go.Sh
open Go Go.RowKit Go.WideShapes Go.ChangeShapes
def Zyz (P:Program) (g:TypeId → Ty → Bool):Nat → List Field → Ty → Bool
 | _,[],.unit => true
 | off,f :: l,.pair a b => Nat.beq f.offset off && g f.type a && Nat.beq (P.cellsOf f.type) a.size && Zyz P g (off + a.size) l b
 | _,_,_ => false
def Zdi (P:Program):Nat → TypeId → Ty → Bool
 | 0,_,_ => false
 | n + 1,T,t => match P.underlying T,t with
  | some .bool,.bool => true
  | some (.int k),.int k' => decide (k = k')
  | some .string,.str => true
  | some (.slice e),.sl t => Zdi P n e t && Nat.beq (P.cellsOf e) t.size && Nat.ble 1 t.size
  | some (.struct fs),.pair a b => Zyz P (Zdi P n) 0 fs.toList (.pair a b) && Nat.beq (P.cellsOf T) (Ty.size (.pair a b))
  | some (.struct fs),.unit => Zyz P (Zdi P n) 0 fs.toList .unit && Nat.beq (P.cellsOf T) 0
  | _,_ => false
def Ty.bulk:(t:Ty) → t.den → Nat
 | .str,s => s.size + 1
 | .sl t,xs => (xs.map t.bulk).sum + 1
 | .pair a b,x => a.bulk x.1 + b.bulk x.2
 | .unit,_ => 0
 | .bool,_ => 1
 | .int _,_ => 1
 | .fl _,_ => 1
 | .cx _,_ => 1
 | .raw,_ => 1
def Ty.ok:(t:Ty) → t.den → Prop
 | .int k,n => k.min ≤ n ∧ n ≤ k.max
 | .sl t,xs => ∀ x ∈ xs,t.ok x
 | .pair a b,x => a.ok x.1 ∧ b.ok x.2
 | .bool,_ => True
 | .str,_ => True
 | .fl _,_ => True
 | .cx _,_ => True
 | .raw,_ => True
 | .unit,_ => True
mutual
def bulkD {H:Type}:DataW H → Nat
 | .lit (.string bytes) => bytes.length + 1
 | .lit _ => 1
 | .nil => 1
 | .ptr d => bulkD d + 1
 | .slice elems spare => bulkDs elems + bulkDs spare + 1
 | .agg parts => bulkDs parts + 1
 | .iface _ d => bulkD d + 1
 | .map entries => bulkEs entries + 1
 | .held _ => 1
def bulkDs {H:Type}:List (DataW H) → Nat
 | [] => 0
 | d :: r => bulkD d + bulkDs r
def bulkEs {H:Type}:List (Lit × DataW H) → Nat
 | [] => 0
 | x :: r => bulkE x + bulkEs r
def bulkE {H:Type}:Lit × DataW H → Nat
 | (.string bytes,d) => bytes.length + bulkD d + 1
 | (_,d) => bulkD d + 1
end
def whole (w:World) (b:Nat):Nat:=match w.heap[b]? with
 | some (.cells c _ _) => c.size
 | _ => 0
theorem Zy9 {w:World} {b o:Nat} {v:Value} (h:w.cell? ⟨b,o,none⟩ = some v):o < whole w b:=by
 unfold World.cell? at h
 unfold whole
 split at h
 ·rename_i c _ _ hb
  simp only at hb
  rw [hb]
  simp only [Option.isSome_none,Bool.false_eq_true,if_false] at h
  exact (Array.getElem?_eq_some_iff.1 h).1
 ·cases h
theorem ZKL (w:World):∀ b,w.heap.size ≤ b → whole w b = 0:=by
 intro b hb
 unfold whole
 rw [Array.getElem?_eq_none hb]
theorem cells?_at {w:World} {base n:Nat} {a:Addr} {cs:List Value} (h:w.cells? base a n = some cs):cs.length = n ∧ ∀ i v,cs[i]? = some v → w.cell? (a.add i) = some v:=by
 unfold World.cells? at h
 split at h
 ·have hl:=mapM_some_length h
  simp only [List.length_range] at hl
  refine ⟨hl,fun i v hi => ?_⟩
  have hlt:i < n:=by have:=(List.getElem?_eq_some_iff.1 hi).1; omega
  have:=mapM_some_get h i i (by simp [hlt])
  rw [this,hi]
 ·cases h
section
variable {H:Type} {enc:TypeId × Value → H} {P:Program} {w:World} {base:Nat} {spare:Nat → Bool} {held:Bool}
theorem ZsH {n n':Nat} (ih:∀ (T:TypeId) (t:Ty) (cs:List Value) (x:DataW H × List MemPlace),Zdi P n T t = true → DataW.trod enc P w base spare held n' T cs = some x → ∃ y,Rt w (whole w) t y cs ∧ t.ok y ∧ t.bulk y ≤ bulkD x.1) :
  ∀ (l:List Field) (t:Ty) (off:Nat) (cs:List Value) (xs:List (DataW H × List MemPlace)),Zyz P (Zdi P n) off l t = true → cs.length = off + t.size →
   (∀ (i:Nat) (f:Field),l[i]? = some f → DataW.trod enc P w base spare held n' f.type ((cs.drop f.offset).take (P.cellsOf f.type)) = xs[i]?) → xs.length = l.length →
   ∃ y,Rt w (whole w) t y (cs.drop off) ∧ t.ok y ∧ t.bulk y ≤ bulkDs (xs.map (·.1))
 | [],t,off,cs,xs,h,hl,hx,hn => by
  match t,h with
  | .unit,h =>
   refine ⟨(),?_,trivial,Nat.zero_le _⟩
   simp only [Rt,List.drop_eq_nil_iff]
   simp [Ty.size] at hl; omega
 | f :: l,t,off,cs,xs,h,hl,hx,hn => by
  match t,h with
  | .pair a b,h =>
   simp only [Zyz,Bool.and_eq_true] at h
   obtain ⟨⟨⟨h1,h2⟩,h3⟩,h4⟩:=h
   match xs,hn with
   | x :: xs,hn =>
    have h0:=hx 0 f rfl
    rw [Z4 h1,Z4 h3] at h0
    simp only [List.getElem?_cons_zero] at h0
    obtain ⟨y,e1,e2,e3⟩:=ih f.type a _ x h2 h0
    simp only [Ty.size] at hl
    obtain ⟨z,g1,g2,g3⟩:=ZsH ih l b (off + a.size) cs xs h4 (by omega) (fun i f' hf' => by simpa using hx (i + 1) f' (by simpa using hf')) (by simpa using hn)
    refine ⟨(y,z),?_,⟨e2,g2⟩,?_⟩
    ·simp only [Rt]
     refine ⟨_,_,?_,e1,g1⟩
     rw [← List.drop_drop,List.take_append_drop]
    ·simp only [Ty.bulk,List.map_cons,bulkDs]; omega
theorem ZhA:∀ (n m:Nat) (T:TypeId) (t:Ty) (cs:List Value) (x:DataW H × List MemPlace),Zdi P m T t = true → DataW.trod enc P w base spare held n T cs = some x →
  ∃ y,Rt w (whole w) t y cs ∧ t.ok y ∧ t.bulk y ≤ bulkD x.1
 | 0,_,_,_,_,_,_,h => by simp [DataW.trod] at h
 | n + 1,0,_,_,_,_,hf,_ => by simp [Zdi] at hf
 | n + 1,m + 1,T,t,cs,x,hf,h => by
  unfold Zdi at hf
  split at hf
  ·rename_i hu
   obtain ⟨b,rfl,rfl⟩:=DataW.trod_bool hu h
   exact ⟨b,rfl,trivial,Nat.le_refl _⟩
  ·rename_i k k' hu
   obtain rfl:k = k':=of_decide_eq_true hf
   obtain ⟨v,rfl,rfl,hw⟩:=DataW.trod_int hu h
   refine ⟨v,rfl,?_,Nat.le_refl _⟩
   simpa [Ty.ok,Lit.wf] using hw
  ·rename_i hu
   obtain ⟨s,rfl,rfl,_⟩:=DataW.trod_string hu h
   refine ⟨s,rfl,trivial,?_⟩
   simp only [Ty.bulk,bulkD,Array.length_toList]
   exact Nat.le_refl _
  ·rename_i e t hu
   simp only [Bool.and_eq_true] at hf
   obtain ⟨⟨hf,hsz⟩,hpos⟩:=hf
   have hsz:=Z4 hsz
   have hpos:1 ≤ t.size:=Nat.le_of_ble_eq_true hpos
   rcases DataW.trod_slice hu h with ⟨rfl,rfl⟩ | ⟨a,len,cap,elems,rest,n',hn',rfl,rfl,hb,hlc,_,hlen,hel,_⟩
   ·refine ⟨[],?_,(by simp [Ty.ok]:Ty.ok (.sl t) []),(by simp [Ty.bulk,bulkD])⟩
    simp only [Rt]
    exact ⟨none,0,0,rfl,rfl,Nat.le_refl _,.inl trivial⟩
   ·obtain rfl:n' = n:=by omega
    have each:∀ i (hi:i < elems.length),∃ cs',w.cells? base (a.add (i * P.cellsOf e)) (P.cellsOf e) = some cs' ∧ ∃ y,Rt w (whole w) t y cs' ∧ t.ok y ∧ t.bulk y ≤ bulkD elems[i].1:=by
     intro i hi
     have h1:=hel i (by omega)
     rw [List.getElem?_eq_getElem hi] at h1
     obtain ⟨cs',h2,h3⟩:=Option.bind_eq_some_iff.1 h1
     exact ⟨cs',h2,ZhA n' m e t cs' _ hf h3⟩
    -- the list
    have all:∀ (l:List (DataW H × List MemPlace)),(∀ i (hi:i < l.length),∃ y,(∃ cs',w.cells? base (a.add ((elems.length - l.length + i) * P.cellsOf e)) (P.cellsOf e) = some cs' ∧ Rt w (whole w) t y cs') ∧ t.ok y ∧ t.bulk y ≤ bulkD l[i].1) →
      l.length ≤ elems.length → ∃ ys:List t.den,ys.length = l.length ∧ (∀ y ∈ ys,t.ok y) ∧ (ys.map t.bulk).sum ≤ bulkDs (l.map (·.1)) ∧
       ∀ i (hi:i < ys.length),∃ cs',w.cells? base (a.add ((elems.length - l.length + i) * P.cellsOf e)) (P.cellsOf e) = some cs' ∧ Rt w (whole w) t ys[i] cs':=by
     intro l
     induction l with
     | nil => intro _ _; exact ⟨[],rfl,by simp,by simp [bulkDs],fun i hi => by simp at hi⟩
     | cons p l ih =>
      intro hp hle
      simp only [List.length_cons] at hle
      obtain ⟨y,⟨cs',c1,c2⟩,y1,y2⟩:=hp 0 (by simp)
      obtain ⟨ys,k1,k2,k3,k4⟩:=ih (fun i hi => by
       obtain ⟨y,⟨cs',c1,c2⟩,y1,y2⟩:=hp (i + 1) (by simpa using hi)
       refine ⟨y,⟨cs',?_,c2⟩,y1,by simpa using y2⟩
       rw [← c1]; congr 3; simp only [List.length_cons]; omega) (by omega)
      refine ⟨y :: ys,by simp [k1],?_,?_,?_⟩
      ·intro z hz
       rcases List.mem_cons.1 hz with rfl | hz
       ·exact y1
       ·exact k2 z hz
      ·simp only [List.map_cons,List.sum_cons,bulkDs]
       simp only [List.getElem_cons_zero] at y2
       omega
      ·intro i hi
       cases i with
       | zero => exact ⟨cs',c1,c2⟩
       | succ i =>
        obtain ⟨cs'',d1,d2⟩:=k4 i (by simpa using hi)
        refine ⟨cs'',?_,by simpa using d2⟩
        rw [← d1]; congr 3; simp only [List.length_cons]; omega
    obtain ⟨ys,k1,k2,k3,k4⟩:=all elems (fun i hi => by
     obtain ⟨cs',c1,y,c2,c3,c4⟩:=each i hi
     exact ⟨y,⟨cs',by simpa using c1,c2⟩,c3,c4⟩) (Nat.le_refl _)
    simp only [Nat.sub_self,Nat.zero_add] at k4
    refine ⟨ys,?_,k2,?_⟩
    ·simp only [Rt]
     refine ⟨some a,len,cap,rfl,by omega,hlc,?_⟩
     by_cases hnil:ys = []
     ·exact .inl hnil
     ·right
      have h0:0 < ys.length:=List.length_pos_iff.2 hnil
      obtain ⟨c0,z1,z2⟩:=k4 0 h0
      obtain ⟨zl,zc⟩:=cells?_at z1
      obtain ⟨v0,hv0⟩:∃ v0,c0[0]? = some v0:=⟨c0[0]'(by omega),List.getElem?_eq_getElem _⟩
      have hs:=zc 0 v0 hv0
      simp only [Nat.zero_mul,Addr.add,if_true] at hs
      obtain ⟨b,off,spot⟩:=a
      have hspot:spot = none:=by
       cases spot with
       | none => rfl
       | some s =>
        unfold World.cell? at hs
        split at hs
        ·simp at hs
        ·cases hs
      subst hspot
      refine ⟨b,off,rfl,fun i hi => ?_⟩
      obtain ⟨cs',d1,d2⟩:=k4 i hi
      refine ⟨cs',d2,fun j v hj => ?_⟩
      obtain ⟨_,zc⟩:=cells?_at d1
      have hc:=zc j v hj
      have e:((⟨b,off,none⟩:Addr).add (i * P.cellsOf e)).add j = ⟨b,off + i * t.size + j,none⟩:=by
       rw [hsz]
       unfold Addr.add
       split <;> split <;> simp_all <;> omega
      rw [e] at hc
      exact ⟨hc,Zy9 hc⟩
    ·simp only [Ty.bulk,bulkD]
     omega
  ·rename_i fs a b hu
   simp only [Bool.and_eq_true] at hf
   obtain ⟨hf,hsz⟩:=hf
   obtain ⟨xs,n',hn',rfl,hl,hxs,hget⟩:=DataW.trod_struct hu h
   obtain rfl:n' = n:=by omega
   obtain ⟨y,e1,e2,e3⟩:=ZsH (n:=m) (n':=n') (fun T t cs x h1 h2 => ZhA n' m T t cs x h1 h2) fs.toList (.pair a b) 0 cs xs hf (by rw [hl,Z4 hsz]; omega) (fun i f hi => hget i f (by simpa using hi)) (by simpa using hxs)
   exact ⟨y,by simpa using e1,e2,by simp only [bulkD]; omega⟩
  ·rename_i fs hu
   simp only [Bool.and_eq_true] at hf
   obtain ⟨hf,hsz⟩:=hf
   obtain ⟨xs,n',hn',rfl,hl,hxs,hget⟩:=DataW.trod_struct hu h
   refine ⟨(),?_,trivial,Nat.zero_le _⟩
   simp only [Rt]
   rw [Z4 hsz] at hl
   exact List.length_eq_zero_iff.1 hl
  ·cases hf
end
end Go.Sh
namespace Go.Sh
open Go Go.RowKit Go.WideShapes Go.ChangeShapes
def W5 (tys:List Ty):List Kd:=tys.map .view
def ZCR:(tys:List Ty) → Kd.dens (W5 tys) → Prop
 | [],_ => True
 | t :: l,x => t.ok x.1 ∧ ZCR l x.2
def ZhN:(tys:List Ty) → Kd.dens (W5 tys) → Nat
 | [],_ => 0
 | t :: l,x => t.bulk x.1 + ZhN l x.2
def Zbr (P:Program):List TypeId → List Ty → Bool
 | [],[] => true
 | T :: Ts,t :: ts => Zdi P 16 T t && Zbr P Ts ts
 | _,_ => false
section
variable {H:Type} {enc:TypeId × Value → H} {P:Program} {w:World} {base:Nat} {spare:Nat → Bool} {held:Bool}
theorem ZaK {v:Value} (h:∀ cs,v ≠ .agg cs):v.cells = #[v]:=by
 cases v <;> first | rfl | (exact absurd rfl (h _))
theorem ZvZ {b0 n:Nat} {r:Reach} {T:TypeId} {t:Ty} {v:Value} {d:DataW H} {ps:List MemPlace} (hval:Value.okWide P w r b0 T v) (h:DataW.Trod enc P w base spare held T v d ps) (hf:Zdi P n T t = true) :
  ∃ y,ZsR w (whole w) t y v ∧ t.ok y ∧ t.bulk y ≤ bulkD d:=by
 obtain ⟨m,hm⟩:=h
 obtain ⟨y,h1,h2,h3⟩:=ZhA m n T t _ _ hf hm
 refine ⟨y,⟨_,h1,?_⟩,h2,h3⟩
 cases n with
 | zero => simp [Zdi] at hf
 | succ n =>
  unfold Value.okWide at hval
  unfold Zdi at hf
  split at hf <;> rename_i hu <;> try (cases hf; done)
  all_goals
   rw [hu] at hval
   simp only at hval
  ·refine .inr ⟨rfl,?_⟩
   rw [ZaK]; rintro cs rfl; simp [Cell.okWide,Cell.ok,hu] at hval
  ·refine .inr ⟨rfl,?_⟩
   rw [ZaK]; rintro cs rfl; simp [Cell.okWide,Cell.ok,hu] at hval
  ·refine .inr ⟨rfl,?_⟩
   rw [ZaK]; rintro cs rfl; simp [Cell.okWide,Cell.ok,hu] at hval
  ·refine .inr ⟨rfl,?_⟩
   rw [ZaK]; rintro cs rfl; simp [Cell.okWide,Cell.ok,hu] at hval
  ·obtain ⟨cs,rfl,_⟩:=hval
   exact .inl ⟨rfl,rfl⟩
  ·obtain ⟨cs,rfl,_⟩:=hval
   exact .inl ⟨rfl,rfl⟩
theorem ZeZ {b0:Nat} {r:Reach}:∀ {Ts:List TypeId} {tys:List Ty} {vs:List Value} {ds:List (DataW H)} {ps:List MemPlace},Zbr P Ts tys = true →
  (∀ (j:Nat) t v,Ts[j]? = some t → vs[j]? = some v → Value.okWide P w r b0 t v) → DataW.TrodAll enc P w base spare held Ts vs ds ps →
  ∃ x:Kd.dens (W5 tys),TTs w (whole w) (Xs (W5 tys) x) vs [] ∧ ZCR tys x ∧ ZhN tys x ≤ bulkDs ds
 | [],[],vs,ds,ps,_,_,h => by
  obtain ⟨rfl,rfl,rfl⟩:=trodAll_nil h
  exact ⟨(),rfl,trivial,Nat.le_refl _⟩
 | T :: Ts,t :: tys,vs,ds,ps,hf,hval,h => by
  simp only [Zbr,Bool.and_eq_true] at hf
  obtain ⟨v,vs',d,ds',p,q,rfl,rfl,rfl,h1,h2⟩:=trodAll_cons h
  obtain ⟨y,e1,e2,e3⟩:=ZvZ (hval 0 T v rfl rfl) h1 hf.1
  obtain ⟨x,g1,g2,g3⟩:=ZeZ hf.2 (fun j t v ht hv => hval (j + 1) t v (by simpa using ht) (by simpa using hv)) h2
  refine ⟨(y,x),?_,⟨e2,g2⟩,?_⟩
  ·exact ⟨[],[],rfl,⟨e1,rfl⟩,g1⟩
  ·simp only [ZhN,bulkDs]; omega
 | [],_ :: _,_,_,_,hf,_,_ => by simp [Zbr] at hf
 | _ :: _,[],_,_,_,hf,_,_ => by simp [Zbr] at hf
end
section
variable {H:Type} {enc:TypeId × Value → H} {P:Program}
theorem Zqb {f:Func} {s:ChangeSpec} {apart fresh handsOn again:Bool} {W W':World} {args:Array Value} {v:Value} {ds gs:List (DataW H)} {before pa pv:List MemPlace}
  (hW:DataW.Whole enc P f.params.toList s.vars apart W args.toList ds gs before)
  (hres:∀ (b:Nat) (sp:Nat → Bool) (hd:Bool),DataW.TrodAll enc P W' b sp hd f.resultTypes.toList (v.resultList f.resultTypes.size) (s.fn H (ds ++ gs)).results [])
  (hargs:∀ sp:Nat → Bool,(∀ p ∈ before,sp p.block = true) → DataW.TrodAll enc P W' 0 sp true f.params.toList args.toList (s.fn H (ds ++ gs)).args pa)
  (hvars:∀ sp:Nat → Bool,(∀ p ∈ before,sp p.block = true) → DataW.TrodVars enc P W' sp s.vars (s.fn H (ds ++ gs)).vars pv)
  (hps:before = pa ++ pv) (hb:Below W.heap.size W W')
  (hok:∀ (j:Nat) (t:TypeId) (r:Value),f.resultTypes[j]? = some t → (v.resultList f.resultTypes.size)[j]? = some r → Value.okWide P W' .any 0 t r) :
  s.post enc P f apart fresh handsOn again W args v W':=by
 have hlt:∀ p ∈ before,p.block < W.heap.size:=fun p hp => hW.lt p hp
 have hold:∀ p ∈ before,(fun b => decide (b < W.heap.size)) p.block = true:=fun p hp => by simpa using hlt p hp
 refine ⟨ds,gs,before,[],pa,pv,hW,hres _ _ _,hargs _ hold,hvars _ hold,World.keptBut_mono (fun p hp => ⟨hp,?_⟩) (hb.frame (· ∈ before)),fun _ => ?_⟩
 ·rw [hps,List.mem_append] at hp
  exact Or.inr hp
 ·obtain ⟨_,_,_,_,_,hz,hn⟩:=hW
  refine ⟨hok,_,_,([] ++ pa) ++ pv,⟨[] ++ pa,pv,trodAll_append (hargs _ (fun _ _ => rfl)) (hres _ _ _),hvars _ (fun _ _ => rfl),rfl,?_,?_⟩,?_⟩
  ·intro b off hp
   have hin:MemPlace.cell b off ∈ before:=by rw [hps]; simpa using hp
   rw [hb.frozen (hlt _ hin)]
   exact hz b off hin
  ·intro ha
   have:=hn ha
   rw [hps] at this
   simpa using this
  ·intro p hp _
   rw [hps]
   simpa using hp
theorem ZgT {w w':World} {base:Nat} {spare:Nat → Bool} {held:Bool}:∀ {ts:List TypeId} {vs:List Value} {ds:List (DataW H)} {ps:List MemPlace},
  DataW.TrodAll enc P w base spare held ts vs ds ps → (∀ p ∈ ps,w.sameAt w' p) → DataW.TrodAll enc P w' base spare held ts vs ds ps
 | [],[],[],_,h,_ => h
 | _ :: _,_ :: _,_ :: _,_,⟨p,q,⟨n,h1⟩,h2,e⟩,hs => ⟨p,q,⟨n,DataW.trod_carry n _ _ _ h1 (fun x hx => hs x (by rw [e]; exact List.mem_append_left _ hx))⟩,
   ZgT h2 (fun x hx => hs x (by rw [e]; exact List.mem_append_right _ hx)),e⟩
variable [Gl]
theorem law_contract {K:FuncId} {fn:Func} {spec:ChangeSpec} {B:TypeId} (tys:List Ty) {F:Nat → Kd.dens (W5 tys) → Option (Ans (W5 tys) (.view .bool))} {bound:Nat}
  (hl:laidOutB P = true) (hm:mapsRowed P = true) (hz:((List.range P.types.size).all fun t => match P.underlying t with | some (.slice e) => decide (0 < P.cellsOf e) | _ => true) = true)
  (hts:fn.params.toList.all (fun t => decide (t < P.types.size)) = true) (hfit:Zbr P fn.params.toList tys = true) (hres:fn.resultTypes = #[B]) (hB:P.underlying B = some .bool)
  (hvars:spec.vars = []) (hspec:∀ (H:Type) (ds:List (DataW H)),ds.length = tys.length → spec.fn H ds = { results:=[.lit (.bool true)],args:=ds })
  (hctr:∀ k,Ctr P k K (mk (W5 tys) (.view .bool) F)) (plain:∀ x:Kd.dens (W5 tys),ZCR tys x → ZhN tys x ≤ bound → ∃ k u,F k x = some (true,u))
  (enc:TypeId × Value → H) (W:World) (b0:Nat) (args:Array Value) (ds gs:List (DataW H)) (before:List MemPlace)
  (hval:∀ (j:Nat) t v,fn.params[j]? = some t → args[j]? = some v → Value.okWide P W .any b0 t v)
  (hW:DataW.Whole enc P fn.params.toList spec.vars false W args.toList ds gs before) (hk:bulkDs (ds ++ gs) ≤ bound) (hgl:ZsT W (whole W)) :
  Calls P K args W fun e W' => ∃ v,e = .returned v ∧ spec.post enc P fn false true false false W args v W':=by
 have hW':=hW
 obtain ⟨p,q,hA,hV,he,hfz,hnd⟩:=hW
 rw [hvars] at hV
 have hgs:gs = [] ∧ q = []:=by
  match gs,hV with
  | [],hV => exact ⟨rfl,hV⟩
  | _ :: _,hV => exact hV.elim
 obtain ⟨rfl,rfl⟩:=hgs
 simp only [List.append_nil] at he hk
 obtain rfl:p = before:=he.symm
 obtain ⟨x,h1,h2,h3⟩:=ZeZ (tys:=tys) hfit (fun j t v ht hv => hval j t v (by simpa using ht) (by simpa using hv)) hA
 obtain ⟨k,u,hF⟩:=plain x h2 (by omega)
 have hlen:ds.length = tys.length:=by
  have e1:∀ {Ts:List TypeId} {tys:List Ty} {vs:List Value} {ds:List (DataW H)} {ps:List MemPlace},Zbr P Ts tys = true → DataW.TrodAll enc P W 0 (fun _ => true) true Ts vs ds ps → ds.length = tys.length:=by
   intro Ts
   induction Ts with
   | nil =>
    intro tys vs ds ps hf h
    obtain ⟨rfl,rfl,rfl⟩:=trodAll_nil h
    cases tys with
    | nil => rfl
    | cons => simp [Zbr] at hf
   | cons T Ts ih =>
    intro tys vs ds ps hf h
    obtain ⟨v,vs',d,ds',p,q,rfl,rfl,rfl,h1,h2⟩:=trodAll_cons h
    cases tys with
    | nil => simp [Zbr] at hf
    | cons t tys =>
     simp only [Zbr,Bool.and_eq_true] at hf
     simp [ih hf.2 h2]
  exact e1 hfit hA
 have hcall:=(hctr k).calls (Xs (W5 tys) x) (true,u) (by
  have hd:Zgt (W5 tys) (Xs (W5 tys) x) = some x:=by
   have e2:∀ (l:List Ty) (x:Kd.dens (W5 l)),Zgt (W5 l) (Xs (W5 l) x) = some x:=by
    intro l
    induction l with
    | nil => intro x; rfl
    | cons t l ih =>
     intro x
     obtain ⟨y,ys⟩:=x
     show ((ZnA t (.view t y)).bind fun y => (Zgt (W5 l) (Xs (W5 l) ys)).bind fun ys => some (y,ys)) = _
     rw [ih ys]
     simp only [ZnA,dite_true]
     rfl
   exact e2 tys x
  show (Zgt (W5 tys) (Xs (W5 tys) x)).bind (F k) = some (true,u)
  rw [hd]; exact hF) W (whole W) args.toList [] (ZKL W) hgl h1 List.nodup_nil (by simp)
 rw [Array.toArray_toList] at hcall
 refine hcall.mono fun e W' h => ?_
 obtain ⟨v,lim',b1,b2,rfl,hE,_,⟨ho,ht,hout⟩,hold,hT,_⟩:=h
 have hv:v = .bool true:=by
  have hT:ZsR W' lim' .bool true v ∧ b1 = []:=hT
  obtain ⟨⟨cs,c1,c2⟩,_⟩:=hT
  rcases c2 with ⟨c2,_⟩ | ⟨_,c2⟩
  ·cases c2
  ·simp only [Rt] at c1
   subst c2
   simpa using c1
 subst hv
 have hBel:Below W.heap.size W W':=⟨ho,ht,hout,hE.size,fun b hb => (hold b hb (by simp)).1⟩
 have hlt:∀ x ∈ p,x.block < W.heap.size:=fun x hx => hW'.lt x hx
 refine ⟨_,rfl,Zqb (pa:=p) (pv:=[]) hW' (fun b sp hd => ?_) (fun sp hsp => ?_) (fun sp hsp => ?_) (by simp) hBel ?_⟩
 ·rw [List.append_nil,hspec H ds hlen,hres]
  exact ⟨[],[],⟨1,by simp [DataW.trod,Value.cells,hB]⟩,rfl,rfl⟩
 ·rw [List.append_nil,hspec H ds hlen]
  refine ZgT (w:=W) (DataW.TrodAll.respare (kids_rows hl hm) (slices_full_of P hz) (fun t ht => ?_) hA hsp) (fun y hy => hBel.same (hlt y hy))
  simpa using List.all_eq_true.1 hts t ht
 ·rw [List.append_nil,hspec H ds hlen,hvars]
  rfl
 ·exact ok_one hres rfl (okWide_bool_mk hB true)
end
end Go.Sh
namespace Go.Sh
open Go Go.Proofs
theorem ZyK:ZqF 1 8 44100 0 [[5,5,5]] = ([255,248,96,0,0,2,228,0,5,227,208],0):=by decide +kernel
theorem ZAZ:ZlW 1 8 44100 [255,248,96,0,0,2,228,0,5,227,208] = ((0,[[5,5,5]]),11,0):=by decide +kernel
theorem ZwI (k:Nat) (hk:200000 < k):Zob k () = some (true,()):=by
 show Zh3 k _ = _
 simp only [Zh3]
 refine (Zc (ZHx k (by omega) 1 8 44100 0 [[5,5,5]]) _).trans ?_
 rw [ZyK]
 simp only
 rw [show ((0:Int) != 0) = false from rfl]
 simp only [cond_false]
 rw [show (Int.ofNat [(255:Int),248,96,0,0,2,228,0,5,227,208].length != 11) = false from rfl]
 simp only [cond_false]
 rw [Zb (by simp)]
 rw [show (!(ByteArray.mk (List.map (fun n => UInt8.ofNat n.toNat) (List.drop 0 (List.take 6 [(255:Int),248,96,0,0,2,228,0,5,227,208]))).toArray).toList == (ByteArray.mk #[255,248,96,0,0,2]).toList) = false from by rw [Zzl]; decide +kernel]
 simp only [cond_false]
 refine (Zc (ZxB k 1 8 44100 (b:=[255,248,96,0,0,2,228,0,5,227,208]) (by decide) (by simp) (by simp; omega)) _).trans ?_
 rw [ZAZ]
 rfl
def Sm (ch:List (List Int)):Prop:=ch.length ≤ 1048576 ∧ ∀ l ∈ ch,l.length ≤ 1048576
theorem Zs6 (c a w:Nat):Zm c (a + w) = Zm (c / 2 ^ w) a ++ Zm c w:=by
 induction a with
 | zero => simp [Zm]
 | succ a ih =>
  rw [show a + 1 + w = (a + w) + 1 by omega]
  simp only [Zm,List.cons_append]
  rw [ih,Nat.testBit_div_two_pow]
end Go.Sh
namespace Go.Sh
open Go Go.Proofs
theorem ZAW (c:Int) (b:List Int) {s:IS} (hs:Zj b s.1):Zj b (YR c b s).2.2.2.1:=by
 unfold YR Zju ZyE ZqP Zk2
 exact ZsM (ZyD (Zla (Qc (Qf (Qc (Qf (Qc (Qf (Qc (Qf (Qc (Qf (Qc (Qf hs _) _ _) _) _ _) _) _ _) _) _ _) _) _ _) _) _ _)) _) _
end Go.Sh
namespace Go.Sh
open Go Go.Proofs
abbrev YN (l:List Int):ByteArray:=ByteArray.mk (List.map (fun n => UInt8.ofNat n.toNat) l).toArray
end Go.Sh
namespace Go.Sh
open Go Go.Proofs
def ch1 (b:Bool):UInt8:=if b then 49 else 48
def txt (bs:List Bool):ByteArray:=⟨(bs.map ch1).toArray⟩
theorem ZeY (bs:List Bool):(txt bs).data.toList = bs.map ch1:=by simp [txt]
theorem YO (bs:List Bool):(txt bs).size = bs.length:=by rw [← ZhE,ZeY,List.length_map]
theorem ZqB (a b:List Bool):txt a ++ txt b = txt (a ++ b):=by
 apply Zs4
 simp [txt]
theorem Zy6 (bs:List Bool) (i j:Nat):(txt bs).extract i j = txt ((bs.take j).drop i):=by
 apply Zs4
 rw [ZeY,ByteArray.data_extract]
 simp [txt,List.extract]
 rw [List.drop_take]
def Za4 (bs:List Bool):List Int:=bs.map fun b => if b then 49 else 48
theorem ZyO (bs:List Bool):ByteArray.mk (List.map (fun (n:Int) => UInt8.ofNat n.toNat) (Za4 bs)).toArray = txt bs:=by
 unfold Za4 txt
 rw [List.map_map]
 congr 2
 apply List.map_congr_left
 intro b _
 cases b <;> rfl
theorem Zwe (n w:Nat):Zm n (w + 1) = Zm (n / 2) w ++ [n.testBit 0]:=by
 have:=Zs6 n w 1
 rw [Nat.pow_one] at this
 rw [this]
 rfl
theorem ZPg:∀ m:Fin 2,Int.ofNat ((ByteArray.mk #[48,49]).data.toList.getD m.val 0).toNat = if m.val = 1 then 49 else 48:=by decide
theorem ZIy (k:Nat):∀ (j m n:Nat) (suf:List Int),j < m → j + suf.length < 4294967296 → n < 9223372036854775808 →
  Zp (fun L1 => Zd6 k L1) m ((j:Int) - 1,(n:Int),List.replicate j 0 ++ suf) = some (ByteArray.mk (List.map (fun (n:Int) => UInt8.ofNat n.toNat) (Za4 (Zm n j) ++ suf)).toArray,()):=by
 intro j
 induction j with
 | zero =>
  intro m n suf hm hl hn
  obtain ⟨m,rfl⟩:=Zk hm
  rw [Zg]
  simp only [Zd6]
  rw [Ze (by omega)]
  rfl
 | succ j ih =>
  intro m n suf hm hl hn
  obtain ⟨m,rfl⟩:=Zk (show 0 < m by omega)
  rw [Zg]
  simp only [Zd6]
  have e0:((j + 1:Nat):Int) - 1 = (j:Int):=by omega
  have e1:((n:Int)).tmod 2 = ((n % 2:Nat):Int):=by rw [Int.tmod_eq_emod_of_nonneg (by omega)]; omega
  have e2:((n:Int)).tdiv 2 = ((n / 2:Nat):Int):=by rw [Int.tdiv_eq_ediv_of_nonneg (by omega)]; omega
  have hlen:(List.replicate (j + 1) (0:Int) ++ suf).length = j + 1 + suf.length:=by simp
  rw [e0,e1,e2,Zb (by omega),Zb (by omega),Zb (by rw [hlen]; simp only [Z8]; omega),Zb (by rw [hlen,QZ]; omega)]
  have h2:n % 2 < 2:=Nat.mod_lt _ (by omega)
  have ht:=ZPg ⟨n % 2,h2⟩
  simp only at ht
  rw [QZ,QZ,ht,ZT (n:=(j:Int) - 1) (by omega),ZT (n:=((n / 2:Nat):Int)) (by omega)]
  have hset:(List.replicate (j + 1) (0:Int) ++ suf).set j (if n % 2 = 1 then 49 else 48) = List.replicate j 0 ++ ((if n % 2 = 1 then 49 else 48) :: suf):=by
   rw [List.replicate_succ' (n:=j),List.append_assoc,List.set_append_right _ _ (by simp)]
   simp
  have key:Za4 (Zm n (j + 1)) ++ suf = Za4 (Zm (n / 2) j) ++ ((if n % 2 = 1 then 49 else 48) :: suf):=by
   rw [Zwe]
   unfold Za4
   rw [List.map_append,List.append_assoc,List.map_cons,List.map_nil,Nat.testBit_zero]
   by_cases h:n % 2 = 1
   ·simp [h]
   ·simp [h]
  rw [hset,ih m (n / 2) _ (by omega) (by simp; omega) (by omega),key]
theorem Zo4 (k n w:Nat) (hk:w < k) (hw:w < 4294967296) (hn:n < 9223372036854775808):ZiA k ((n:Int),(w:Int),()) = some (txt (Zm n w),()):=by
 show ZiB k (Zud k) _ = _
 simp only [ZiB]
 rw [Zb (by omega),ZT (n:=(w:Int) - 1) (by omega),QZ]
 have:=ZIy k w k n [] hk (by simpa using hw) hn
 rw [List.append_nil,List.append_nil,ZyO] at this
 exact this
theorem ZBz (b:Bool):IntKind.i64.wrap (IntKind.u8.wrap (Int.ofNat (ch1 b).toNat - 48)) = ((b.toNat:Nat):Int):=by cases b <;> rfl
theorem ZFr (bs:List Bool):List.map (fun (b:UInt8) => Int.ofNat b.toNat) (txt bs).data.toList = Za4 bs:=by
 rw [ZeY,List.map_map]
 unfold Za4
 apply List.map_congr_left
 intro b _
 cases b <;> rfl
theorem ZIB (k:Nat) {b:List Int} (hb:ZP b = true) (hk:b.length + 100 < k) (hn:b.length ≤ 100000000):ZrZ k (b,()) = some (txt (Qe b),()):=by
 show ZiC k (Zuf k) _ = _
 simp only [ZiC]
 have e1:IntKind.i64.wrap ((8:Int) * Int.ofNat b.length) = ((8 * b.length:Nat):Int):=by simp only [Z8]; rw [ZT (by omega)]; omega
 rw [e1,Zb (by omega)]
 have:=ZI (A:=List Bool) (R:=ByteArray × Unit) (step:=fun L1 => Zd8 k L1) (fun i a => (Int.ofNat i,b,Za4 a)) b
  (fun l' a => some (txt (a ++ Qe l'),())) (fun i a => a.length = 8 * i)
  (fun L a _ => by
   simp only [Zd8]
   rw [Ze (We _),ZyO]
   simp [Qe])
  (fun L i hi a ha hL => by
   simp only [Zd8]
   obtain ⟨x,hx,hxe⟩:=WV hb hi
   rw [Zb (ltR hi),Zb (Y2 hi),ZO hi,hxe,ZT (n:=(x:Int)) (by omega)]
   have e35:=Zo4 k x 8 (by omega) (by omega) (by omega)
   refine (Zc e35 _).trans ?_
   simp only
   rw [ZFr,Zb (by unfold Za4; rw [List.length_map,List.length_map,ZE]; omega),QL hi (by omega)]
   have e2:Za4 a ++ Za4 (Zm x 8) = Za4 (a ++ Zm x 8):=by unfold Za4; rw [List.map_append]
   rw [e2,hL (a ++ Zm x 8) (by rw [Yq,ZE]; omega),ZgY,QZ,List.append_assoc])
  k 0 [] (by simp) (by omega) (Nat.zero_le _)
 rw [List.drop_zero,List.nil_append] at this
 exact this
end Go.Sh
namespace Go.Sh
open Go Go.Proofs
def Xh (s p r:Nat) (b:Bool):Nat:=if (r / 2 ^ (s - 1) % 2 + b.toNat) % 2 = 1 then (2 * r % 2 ^ s) ^^^ p else 2 * r % 2 ^ s
theorem ZnW {s p r:Nat} {b:Bool} (hp:p < 2 ^ s):Xh s p r b < 2 ^ s:=by
 have h:2 * r % 2 ^ s < 2 ^ s:=Nat.mod_lt _ (Nat.pow_pos (by omega))
 unfold Xh
 split
 ·exact Nat.xor_lt_two_pow h hp
 ·exact h
theorem ZFG {s p r j y:Nat} {b:Bool} (hs:j + 1 ≤ s) (hp:p < 2 ^ s) (hr:r < 2 ^ s) (hy:y < 2 ^ j) :
  ZdA s p (r ^^^ ((b.toNat * 2 ^ j + y) * 2 ^ (s - (j + 1)))) = Xh s p r b ^^^ (y * 2 ^ (s - j)):=by
 obtain ⟨t,rfl⟩:∃ t,s = j + 1 + t:=⟨s - (j + 1),by omega⟩
 have e1:j + 1 + t - (j + 1) = t:=by omega
 have e2:j + 1 + t - 1 = j + t:=by omega
 have e3:j + 1 + t - j = t + 1:=by omega
 unfold ZdA Xh
 rw [e1,e2,e3]
 have hw:(b.toNat * 2 ^ j + y) * 2 ^ t = b.toNat * 2 ^ (j + t) + y * 2 ^ t:=by rw [Nat.add_mul,Nat.mul_assoc,← Nat.pow_add]
 have hyt:y * 2 ^ t < 2 ^ (j + t):=by rw [Nat.pow_add]; exact Nat.mul_lt_mul_of_pos_right hy (Nat.pow_pos (by omega))
 have hy2:y * 2 ^ (t + 1) = y * 2 ^ t * 2:=by rw [Nat.pow_succ,Nat.mul_assoc]
 rw [hw,hy2]
 generalize y * 2 ^ t = z at hyt
 have hbz:b.toNat * 2 ^ (j + t) + z < 2 ^ (j + 1 + t):=by
  rw [show j + 1 + t = (j + t) + 1 by omega,Nat.pow_succ]
  cases b <;> simp <;> omega
 have hxor:(r ^^^ (b.toNat * 2 ^ (j + t) + z)) / 2 ^ (j + t) % 2 = (r / 2 ^ (j + t) % 2 + b.toNat) % 2:=by
  have h1:(r ^^^ (b.toNat * 2 ^ (j + t) + z)).testBit (j + t) = (r.testBit (j + t) ^^ b):=by
   rw [Nat.testBit_xor]
   congr 1
   rw [Nat.testBit_eq_decide_div_mod_eq]
   have:(b.toNat * 2 ^ (j + t) + z) / 2 ^ (j + t) = b.toNat:=by
    rw [Nat.mul_comm,Nat.mul_add_div (Nat.pow_pos (by omega)),Nat.div_eq_of_lt hyt,Nat.add_zero]
   rw [this]
   cases b <;> rfl
  rw [Nat.testBit_eq_decide_div_mod_eq,Nat.testBit_eq_decide_div_mod_eq] at h1
  have m1:(r ^^^ (b.toNat * 2 ^ (j + t) + z)) / 2 ^ (j + t) % 2 < 2:=Nat.mod_lt _ (by omega)
  have m2:r / 2 ^ (j + t) % 2 < 2:=Nat.mod_lt _ (by omega)
  generalize (r ^^^ (b.toNat * 2 ^ (j + t) + z)) / 2 ^ (j + t) % 2 = u at h1 m1 ⊢
  generalize r / 2 ^ (j + t) % 2 = v at h1 m2 ⊢
  match u,v,b,m1,m2,h1 with
  | 0,0,false,_,_,_ => rfl
  | 0,1,true,_,_,_ => rfl
  | 1,1,false,_,_,_ => rfl
  | 1,0,true,_,_,_ => rfl
 have hlow:2 * (r ^^^ (b.toNat * 2 ^ (j + t) + z)) % 2 ^ (j + 1 + t) = (2 * r % 2 ^ (j + 1 + t)) ^^^ (z * 2):=by
  have d1:2 * (r ^^^ (b.toNat * 2 ^ (j + t) + z)) = (2 * r) ^^^ (2 * (b.toNat * 2 ^ (j + t) + z)):=by
   have:=Nat.shiftLeft_xor_distrib (a:=r) (b:=b.toNat * 2 ^ (j + t) + z) (i:=1)
   simp only [Nat.shiftLeft_eq,Nat.pow_one] at this
   rw [Nat.mul_comm 2,this,Nat.mul_comm r,Nat.mul_comm _ 2]
  rw [d1,Nat.xor_mod_two_pow]
  congr 1
  have h2:2 * (b.toNat * 2 ^ (j + t) + z) = b.toNat * 2 ^ (j + 1 + t) + z * 2:=by
   rw [show j + 1 + t = (j + t) + 1 by omega,Nat.pow_succ,Nat.mul_add,Nat.mul_comm z 2,← Nat.mul_assoc,← Nat.mul_assoc,Nat.mul_comm 2 b.toNat,Nat.mul_assoc,Nat.mul_assoc,Nat.mul_comm 2]
  rw [h2,Nat.mul_comm,Nat.mul_add_mod,Nat.mod_eq_of_lt]
  rw [show j + 1 + t = (j + t) + 1 by omega,Nat.pow_succ]
  omega
 rw [hxor,hlow]
 have hfin:∀ w:Nat,w < 2 → (2 * r % 2 ^ (j + 1 + t) ^^^ z * 2) ^^^ w * p = (if w = 1 then (2 * r % 2 ^ (j + 1 + t)) ^^^ p else 2 * r % 2 ^ (j + 1 + t)) ^^^ (z * 2):=by
  intro w hw
  match w,hw with
  | 0,_ => simp
  | 1,_ => rw [if_pos rfl,Nat.one_mul,Nat.xor_assoc,Nat.xor_comm (z * 2) p,← Nat.xor_assoc]
 exact hfin _ (Nat.mod_lt _ (by omega))
theorem ZlC {s p:Nat} (hp:p < 2 ^ s):∀ (j x r:Nat),j ≤ s → r < 2 ^ s → ZaL s p j (r ^^^ ((x % 2 ^ j) * 2 ^ (s - j))) = (Zm x j).foldl (Xh s p) r
 | 0,x,r,_,hr => by simp [ZaL,Zm,Nat.mod_one]
 | j + 1,x,r,hs,hr => by
  have hx:x % 2 ^ (j + 1) = (x.testBit j).toNat * 2 ^ j + x % 2 ^ j:=by
   rw [Nat.mod_pow_succ,Nat.testBit_eq_decide_div_mod_eq]
   have h2:x / 2 ^ j % 2 < 2:=Nat.mod_lt _ (by omega)
   generalize x / 2 ^ j % 2 = m at h2
   match m,h2 with
   | 0,_ => simp
   | 1,_ => simp; omega
  rw [hx]
  show ZaL s p j (ZdA s p _) = _
  rw [ZFG hs hp hr (Nat.mod_lt _ (Nat.pow_pos (by omega))),ZlC hp j x _ (by omega) (ZnW hp)]
  rfl
theorem Zws {s p r x:Nat} (hs:8 ≤ s) (hp:p < 2 ^ s) (hr:r < 2 ^ s) (hx:x < 256):(Zm x 8).foldl (Xh s p) r = ZaM s p r x:=by
 have:=ZlC hp 8 x r hs hr
 rw [show x % 2 ^ 8 = x from Nat.mod_eq_of_lt hx] at this
 exact this.symm
theorem ZE8 (k:Nat) {s p:Nat} (hs:8 ≤ s) (hs':s ≤ 16) (hp:p < 2 ^ s) (L1:Int × ByteArray × Int × Int × Int → Option (Int × Unit)) (S:ByteArray) {i x:Nat} (hi:i < S.size) (hx:(S.data.toList.getD i 0).toNat = x) (hn:S.size < 4294967296) :
  ∀ (j m r:Nat),j ≤ 8 → j < m → r < 2 ^ s →
  Zp (fun L2 => Zcf k L1 L2) m ((j:Int) - 1,(r:Int),(s:Int),S,(i:Int),(p:Int)) = L1 (((i + 1:Nat):Int),S,(((Zm x j).foldl (Xh s p) r:Nat):Int),(s:Int),(p:Int)):=by
 have hxl:x < 256:=by rw [← hx]; exact (S.data.toList.getD i 0).toNat_lt
 have h16:2 ^ s ≤ 2 ^ 16:=Nat.pow_le_pow_right (by omega) hs'
 intro j
 induction j with
 | zero =>
  intro m r hj hm hr
  obtain ⟨m,rfl⟩:=Zk hm
  rw [Zg]
  simp only [Zcf]
  rw [Ze (by omega),ZT (n:=(i:Int) + 1) (by omega)]
  rfl
 | succ j ih =>
  intro m r hj hm hr
  obtain ⟨m,rfl⟩:=Zk (show 0 < m by omega)
  rw [Zg]
  simp only [Zcf]
  have e0:((j + 1:Nat):Int) - 1 = (j:Int):=by omega
  have e1:IntKind.i64.wrap ((s:Int) - 1) = ((s - 1:Nat):Int):=by rw [ZT (by omega)]; omega
  rw [e0,e1,Zb (by omega),Zb (by omega),Zb (by simp only [Z8]; omega),Zb (by omega),Zb (by omega),K6 (by omega)]
  have hne:¬ ((2 ^ s:Nat):Int) = 0:=by
   have:0 < 2 ^ s:=Nat.pow_pos (by omega)
   generalize 2 ^ s = Q at this
   omega
  rw [Zb hne]
  simp only [QZ,Nat.min_eq_left (show s - 1 ≤ 64 by omega),Nat.min_eq_left (show j ≤ 64 by omega),Zas]
  have ebit:∀ v:Nat,v < 18446744073709551616 → IntKind.i64.wrap (Int.ofNat (BitVec.ofInt 64 (v:Int) &&& BitVec.ofInt 64 1).toNat) = ((v % 2:Nat):Int):=by
   intro v hv
   rw [show (1:Int) = ((1:Nat):Int) from rfl,Zzj hv (by omega),Nat.and_one_is_mod,ZT (by omega)]
  have hd1:r / 2 ^ (s - 1) ≤ r:=Nat.div_le_self _ _
  have hd2:x / 2 ^ j ≤ x:=Nat.div_le_self _ _
  have ex:IntKind.i64.wrap (Int.ofNat (S.data.toList.getD i 0).toNat) = (x:Int):=by rw [hx]; simp only [Z8]; rw [ZT (by omega)]
  rw [ex,Zas,ebit _ (by omega),ebit _ (by omega)]
  have m1:r / 2 ^ (s - 1) % 2 < 2:=Nat.mod_lt _ (by omega)
  have m2:x / 2 ^ j % 2 < 2:=Nat.mod_lt _ (by omega)
  have htb:x.testBit j = decide (x / 2 ^ j % 2 = 1):=Nat.testBit_eq_decide_div_mod_eq
  have exor:IntKind.i64.wrap (Int.ofNat (BitVec.ofInt 64 ((r / 2 ^ (s - 1) % 2:Nat):Int) ^^^ BitVec.ofInt 64 ((x / 2 ^ j % 2:Nat):Int)).toNat) = (((r / 2 ^ (s - 1) % 2 + (x.testBit j).toNat) % 2:Nat):Int):=by
   rw [htb]
   generalize r / 2 ^ (s - 1) % 2 = u at m1
   generalize x / 2 ^ j % 2 = v at m2
   match u,v,m1,m2 with
   | 0,0,_,_ => rfl
   | 0,1,_,_ => rfl
   | 1,0,_,_ => rfl
   | 1,1,_,_ => rfl
  have e2r:(IntKind.i64.wrap ((2:Int) * (r:Int))).tmod ((2 ^ s:Nat):Int) = ((2 * r % 2 ^ s:Nat):Int):=by
   rw [ZT (by omega),show (2:Int) * (r:Int) = ((2 * r:Nat):Int) from by push_cast; rfl,Int.tmod_eq_emod_of_nonneg (by omega)]
   rfl
  have ej:IntKind.i64.wrap ((j:Int) - 1) = (j:Int) - 1:=ZT (by omega)
  rw [exor,e2r,ej,Zw]
  have hmlt:2 * r % 2 ^ s < 2 ^ s:=Nat.mod_lt _ (Nat.pow_pos (by omega))
  have hlt:=ZnW (s:=s) (p:=p) (r:=r) (b:=x.testBit j) hp
  have hfold:(Zm x (j + 1)).foldl (Xh s p) r = (Zm x j).foldl (Xh s p) (Xh s p r (x.testBit j)):=rfl
  rw [hfold]
  by_cases h1:(r / 2 ^ (s - 1) % 2 + (x.testBit j).toNat) % 2 = 1
  ·have ed:Xh s p r (x.testBit j) = (2 * r % 2 ^ s) ^^^ p:=by unfold Xh; rw [if_pos h1]
   rw [Zb (by omega),ZSK (by omega) (by omega),← ed,ZT (by omega)]
   exact ih m _ (by omega) (by omega) hlt
  ·have ed:Xh s p r (x.testBit j) = 2 * r % 2 ^ s:=by unfold Xh; rw [if_neg h1]
   rw [Ze (by omega),← ed]
   exact ih m _ (by omega) (by omega) hlt
theorem Zyd (k:Nat) {l:List Int} {s p:Nat} (hs:8 ≤ s) (hs':s ≤ 16) (hp:p < 2 ^ s) (hl:ZP l = true) (hk:l.length + 20 < k) (hk':l.length < 4294967296) :
  Zr8 k (YN l,(s:Int),(p:Int),()) = some (((ZGe s p (Zhp l):Nat):Int),()):=by
 show Zi7 k (ZuY k) _ = _
 simp only [Zi7]
 have hsz:(YN l).size = l.length:=by rw [← ZhE]; simp
 have:=ZI (A:=Nat) (R:=Int × Unit) (step:=fun L1 => Zep k (ZuZ k L1) L1) (fun i r => (Int.ofNat i,YN l,(r:Int),(s:Int),(p:Int))) l
  (fun l' r => some ((((Zhp l').foldl (ZaM s p) r:Nat):Int),())) (fun i r => r < 2 ^ s)
  (fun L r _ => by
   simp only [Zep]
   rw [hsz,Ze (We _)]
   rfl)
  (fun L i hi r hr hL => by
   simp only [Zep]
   rw [hsz,Zb (ltR hi)]
   obtain ⟨x,hx,hxe⟩:=WV hl hi
   have hg:((YN l).data.toList.getD i 0).toNat = x:=by
    have:(YN l).data.toList.getD i 0 = UInt8.ofNat x:=by
     rw [Wt (by simpa using hi)]
     simp [hxe]
    rw [this,UInt8.toNat_ofNat',Nat.mod_eq_of_lt hx]
   have:=ZE8 k hs hs' hp L (YN l) (i:=i) (by omega) hg (by omega) 8 k r (by omega) (by omega) hr
   refine Eq.trans this ?_
   rw [Zws hs hp hr hx]
   have h2:=hL (ZaM s p r x) (Zg3 hs hp hr hx)
   refine Eq.trans h2 ?_
   rw [hxe]
   rfl)
  k 0 0 (Nat.pow_pos (by omega)) (by omega) (Nat.zero_le _)
 rw [List.drop_zero] at this
 exact this
theorem ZIC (k:Nat) {l:List Int} (hl:ZP l = true) (hk:l.length + 20 < k) (hk':l.length < 4294967296):Kq k (YN l,()) = some (((Zj9 l:Nat):Int),()):=by
 show ZiD k _ = _
 simp only [ZiD]
 exact Zc (Zyd k (s:=8) (p:=7) (by omega) (by omega) (by omega) hl hk hk') _
theorem ZIE (k:Nat) {l:List Int} (hl:ZP l = true) (hk:l.length + 20 < k) (hk':l.length < 4294967296):Zo5 k (YN l,()) = some (((YQ l:Nat):Int),()):=by
 show ZiF k _ = _
 simp only [ZiF]
 exact Zc (Zyd k (s:=16) (p:=32773) (by omega) (by omega) (by omega) hl hk hk') _
end Go.Sh
namespace Go.Sh
open Go Go.Proofs
theorem Zpo (k kk:Nat) (h:kk ≤ 100):Zr7 k ((kk:Int),()) = some (((WE kk:Nat):Int),()):=by
 show Zi5 k _ = _
 simp only [Zi5]
 unfold WE
 by_cases h1:kk = 1
 ·subst h1; rfl
 ·rw [show (((kk:Nat):Int) == (1:Int)) = false from by rw [Zw]; simp; omega,if_neg h1]
  simp only [cond_false]
  rw [ZT (n:=5 * (kk:Int)) (by omega),ZT (by omega)]
  congr 2
end Go.Sh
namespace Go.Sh
open Go Go.Proofs
theorem ZwV (k:Nat) (c d r:Int):Zoe k ((c,d,r,()),()) = some (KN c d r,()):=by
 show Zh9 k _ = _
 simp only [Zh9]
 have rest:(bif decide ((4:Int) ≤ d) then bif decide (d ≤ (24:Int)) then bif decide ((1:Int) ≤ r) then some (decide (r ≤ (655350:Int)),()) else some (false,()) else some (false,()) else some (false,())) = some (decide (4 ≤ d ∧ d ≤ 24 ∧ 1 ≤ r ∧ r ≤ 655350),()):=by
  by_cases h1:4 ≤ d
  ·rw [Zb h1]
   by_cases h2:d ≤ 24
   ·rw [Zb h2]
    by_cases h3:1 ≤ r
    ·rw [Zb h3]
     by_cases h4:r ≤ 655350
     ·rw [QS h4,QS (by omega)]
     ·rw [QG h4,QG (by omega)]
    ·rw [Ze h3,QG (by omega)]
   ·rw [Ze h2,QG (by omega)]
  ·rw [Ze h1,QG (by omega)]
 have fin:∀ b:Bool,b = decide (1 ≤ c ∧ c ≤ 2) → some ((b && decide (4 ≤ d ∧ d ≤ 24 ∧ 1 ≤ r ∧ r ≤ 655350)),()) = some (KN c d r,()):=by
  rintro b rfl
  unfold KN
  congr 2
  rw [← Bool.decide_and]
  by_cases h:1 ≤ c ∧ c ≤ 2 ∧ 4 ≤ d ∧ d ≤ 24 ∧ 1 ≤ r ∧ r ≤ 655350
  ·rw [QS h,QS (by omega)]
  ·rw [QG h,QG (by omega)]
 rw [Zw,Zw]
 by_cases h1:c = 1
 ·rw [Zb h1,rest]
  have:=fin true (by rw [QS (by omega)])
  simpa using this
 ·rw [Ze h1]
  by_cases h2:c = 2
  ·rw [Zb h2,rest]
   have:=fin true (by rw [QS (by omega)])
   simpa using this
  ·rw [Ze h2]
   have:=fin false (by rw [QG (by omega)])
   simpa using this
theorem ZxH (k:Nat) (x:Int) {d:Nat} (hd:d ≤ 40):ZrU k (x,(d:Int),()) = some (W6 x d,()):=by
 show Zio k _ = _
 simp only [Zio]
 unfold W6
 rw [Zw,Zw]
 by_cases h0:d = 0
 ·rw [Zb (by omega),if_pos h0]
 ·rw [Ze (by omega),if_neg h0]
  have e1:IntKind.i64.wrap ((d:Int) - 1) = ((d - 1:Nat):Int):=by rw [ZT (by omega)]; omega
  have hp:2 ^ (d - 1) ≤ 2 ^ 39:=Nat.pow_le_pow_right (by omega) (by omega)
  have e2:IntKind.i64.wrap ((1:Int) * (2:Int) ^ min (((d - 1:Nat):Int)).toNat 64) = ((2 ^ (d - 1):Nat):Int):=by
   rw [QZ,Nat.min_eq_left (by omega),Int.one_mul,QC]
   generalize 2 ^ (d - 1) = Q at hp ⊢
   rw [ZT (by omega)]
  rw [e1,e2,Zb (by omega),QC]
  generalize 2 ^ (d - 1) = Q at hp ⊢
  rw [ZT (n:=0 - (Q:Int)) (by omega)]
  by_cases h1:(0:Int) - (Q:Int) ≤ x
  ·rw [Zb h1,Zb (by omega)]
   by_cases h2:x < (Q:Int)
   ·rw [QS h2,QS ⟨by omega,h2⟩]
   ·rw [QG h2,QG (by omega)]
  ·rw [Ze h1,QG (by omega)]
theorem ZHg (k:Nat) (hk:1000 < k) (c d r n:Int) {ch:List (List Int)} (hs:Sm ch):Zic k ((c,d,r,()),(n,ch,()),()) = some (Ya c d r n ch,()):=by
 show Zie k (ZtK k) _ = _
 simp only [Zie]
 rw [ZwV]
 simp only [Qr]
 unfold Ya
 cases hsh:KN c d r with
 | false => rfl
 | true =>
  have hb:=of_decide_eq_true hsh
  simp only [Bool.not_true,cond_false,Bool.true_eq_false,if_false]
  by_cases h1:n < 0
  ·rw [Zb h1,if_pos (.inl h1)]
  rw [Ze h1]
  by_cases h2:2147483647 < n
  ·rw [Zb h2,if_pos (.inr (.inl h2))]
  rw [Ze h2,Zo]
  by_cases h3:(ch.length:Int) = c
  case neg => rw [Zb (by simpa using h3),if_pos (.inr (.inr h3))]
  rw [Ze (by simpa using h3),if_neg (by omega)]
  have hpos:0 < ch.length:=by omega
  have hlast:(IntKind.i64.wrap (c - 1)).toNat = ch.length - 1 ∧ (0:Int) ≤ IntKind.i64.wrap (c - 1) ∧ IntKind.i64.wrap (c - 1) < Int.ofNat ch.length:=by rw [ZT (by omega)]; simp only [Z8]; omega
  rw [Zb (by simp only [Z8]; omega)]
  have hhd:ch.getD 0 [] = ch.headD []:=by cases ch <;> rfl
  rw [hhd]
  have hlen2:ch.length = 1 ∨ ch.length = 2:=by omega
  have hall:ch.all (KM (ch.headD []).length) = decide (1 ≤ (ch.headD []).length ∧ (ch.headD []).length ≤ 512 ∧ (ch.getD (ch.length - 1) []).length = (ch.headD []).length):=by
   match ch,hlen2 with
   | [a],_ =>
    simp only [List.all_cons,List.all_nil,Bool.and_true,List.headD_cons,KM,List.length_singleton,Nat.sub_self,List.getD_cons_zero]
    clear hlast hb h3 hk
    by_cases h:1 ≤ a.length ∧ a.length ≤ 512
    ·rw [QS ⟨trivial,h⟩,QS ⟨h.1,h.2,trivial⟩]
    ·rw [QG fun q => h q.2,QG fun q => h ⟨q.1,q.2.1⟩]
   | [a,b],_ =>
    show (KM a.length a && (KM a.length b && true)) = decide (1 ≤ a.length ∧ a.length ≤ 512 ∧ b.length = a.length)
    unfold KM
    rw [Bool.and_true,← Bool.decide_and]
    by_cases h:1 ≤ a.length ∧ a.length ≤ 512 ∧ b.length = a.length
    ·rw [QS h,QS (by omega)]
    ·rw [QG h,QG (by omega)]
  rw [hall]
  generalize hN:(ch.headD []).length = N
  by_cases h4:(N:Int) < 1
  ·rw [Zb (by simp only [Z8]; omega),QG (by omega),if_pos rfl]
  rw [Ze (by simp only [Z8]; omega)]
  by_cases h5:512 < N
  ·rw [Zb (by simp only [Z8]; omega),QG (by omega),if_pos rfl]
  rw [Ze (by simp only [Z8]; omega),Zb ⟨hlast.2.1,hlast.2.2⟩,hlast.1,Zo]
  by_cases h6:(ch.getD (ch.length - 1) []).length = N
  case neg => rw [Zb (by simp only [Z8]; omega),QG (by omega),if_pos rfl]
  rw [Ze (by simp only [Z8]; omega),QS (by omega),if_neg (by simp)]
  have hlens:∀ l ∈ ch,l.length = N:=by
   have:ch.all (KM N) = true:=by rw [← hN,hall,QS (by omega)]
   intro l hl
   have:=of_decide_eq_true (List.all_eq_true.1 this l hl)
   exact this.1
  obtain ⟨dn,hdn⟩:=Int.eq_ofNat_of_zero_le (show 0 ≤ d by omega)
  subst hdn
  rw [QZ]
  have hcn:c = ((ch.length:Nat):Int):=h3.symm
  subst hcn
  have inner:∀ (L1:Int × Int × Int × Int × Int × Int × List (List Int) → Option (Int × Unit)) (q:Nat) (hq:q < ch.length),Zoj k L1 ((0:Int),Int.ofNat N,(q:Int),n,ch,((ch.length:Nat):Int),(dn:Int),r) =
    bif ch[q].all (fun x => W6 x dn) then L1 (((q + 1:Nat):Int),Int.ofNat N,((ch.length:Nat):Int),(dn:Int),r,n,ch) else some (12,()):=by
   intro L1 q hq
   have hql:=hlens ch[q] (List.getElem_mem hq)
   have hgq:ch.getD q [] = ch[q]:=Wt hq
   exact Xd (R:=Int × Unit) (step:=fun L2 => ZbW k L1 L2) (fun i => (Int.ofNat i,Int.ofNat N,(q:Int),n,ch,((ch.length:Nat):Int),(dn:Int),r)) ch[q] (fun x => W6 x dn) (some (12,())) (L1 (((q + 1:Nat):Int),Int.ofNat N,((ch.length:Nat):Int),(dn:Int),r,n,ch))
    (fun L => by
     simp only [ZbW]
     rw [hql,Ze (We _),ZT (n:=(q:Int) + 1) (by omega)]
     rfl)
    (fun L i hi => by
     simp only [ZbW]
     rw [Zb (by rw [← hql]; exact ltR hi),Zb (by simp only [Z8]; omega),QZ,hgq,Zb (Y2 hi),ZO hi,ZxH k _ (by omega)]
     simp only [Qr]
     cases W6 ch[q][i] dn with
     | false => rfl
     | true =>
      simp only [Bool.not_true,cond_false,cond_true]
      rw [QL hi (by omega)]) k (by omega)
  have outer:=Xd (R:=Int × Unit) (step:=fun L1 => ZdM k (Zoj k L1) L1) (fun i => (Int.ofNat i,Int.ofNat N,((ch.length:Nat):Int),(dn:Int),r,n,ch)) ch (fun l => l.all fun x => W6 x dn) (some (12,())) (some (0,()))
   (fun L => by
    simp only [ZdM]
    rw [Ze (by simp only [Z8]; omega)])
   (fun L i hi => by
    simp only [ZdM]
    rw [Zb (by simp only [Z8]; omega)]
    exact inner L i hi) k (by omega)
  refine Eq.trans outer ?_
  cases ch.all (fun l => l.all fun x => W6 x dn) <;> rfl
theorem Zqy (n:Int) : -1 ≤ n.tmod 2 ∧ n.tmod 2 ≤ 1:=by
 rcases Int.le_total 0 n with h | h
 ·rw [Int.tmod_eq_emod_of_nonneg h]
  omega
 ·have:=Int.neg_tmod (a := -n) (b:=2)
  rw [Int.neg_neg] at this
  rw [this,Int.tmod_eq_emod_of_nonneg (by omega)]
  omega
theorem Zyf (k:Nat) {n:Int} (h : -1000000000000 ≤ n ∧ n ≤ 1000000000000):Zr9 k (n,()) = some (n / 2,()):=by
 show Zi8 k _ = _
 simp only [Zi8]
 have e1:IntKind.i64.wrap (n.tmod 2 + 2) = n.tmod 2 + 2:=by
  have:=Zqy n
  exact ZT (by omega)
 have e2:(n.tmod 2 + 2).tmod 2 = n % 2:=by
  have h1:=Zqy n
  have h3:=Int.tmod_add_mul_tdiv n 2
  rw [Int.tmod_eq_emod_of_nonneg (by omega)]
  omega
 rw [e1,e2,ZT (n:=n - n % 2) (by omega)]
 have e3:(n - n % 2).tdiv 2 = n / 2:=by
  have:n - n % 2 = n / 2 * 2:=by omega
  rw [this,Int.mul_tdiv_cancel _ (by omega)]
 rw [e3,ZT (by omega)]
theorem ZID (k:Nat) (d m:Int) (hd:0 ≤ d ∧ d ≤ 100):Zr0 k (d,m,()) = some ((if m = 9 then d + 1 else d,if m = 8 ∨ m = 10 then d + 1 else d,()),()):=by
 show ZiE k _ = _
 simp only [ZiE]
 rw [ZT (n:=d + 1) (by omega),Zw,Zw,Zw]
 by_cases h8:m = 8
 ·rw [Zb h8,if_neg (by omega),if_pos (.inl h8)]
 ·rw [Ze h8]
  by_cases h10:m = 10
  ·rw [Zb h10,if_neg (by omega),if_pos (.inr h10)]
  ·rw [Ze h10]
   by_cases h9:m = 9
   ·rw [Zb h9,if_pos h9,if_neg (by omega)]
   ·rw [Ze h9,if_neg h9,if_neg (by omega)]
end Go.Sh
namespace Go.Sh
open Go Go.Proofs
theorem ZrG (k:Nat) (x:Int):ZkL k (x,()) = some (!Qi x,()):=by
 show Zf0 k _ = _
 simp only [Zf0]
 unfold Qi
 by_cases h1 : -2147483648 < x
 ·rw [Zb h1]
  by_cases h2:x < 2147483648
  ·rw [QS h2,QG (by omega)]; rfl
  ·rw [QG h2,QS (by omega)]; rfl
 ·rw [Ze h1,QS (by omega)]; rfl
theorem Zv4 {l:List Int} {p:Int → Bool}:(l.all fun x => !p x) = !l.any p:=by
 induction l with
 | nil => rfl
 | cons x l ih => simp only [List.all_cons,List.any_cons,ih,Bool.not_or]
theorem Zrv (k:Nat) (l:List Int) (hk:l.length < k) (hn:l.length < 4294967296):Zks k (l,()) = some (!l.any Qi,()):=by
 show Zfn k (Zmy k) _ = _
 simp only [Zfn]
 have:=Xd (R:=Bool × Unit) (step:=fun L1 => ZbL k L1) (fun i => (Int.ofNat i,l)) l (fun x => !Qi x) (some (false,())) (some (true,()))
  (fun L => by simp only [ZbL]; rw [Ze (We _)])
  (fun L i hi => by
   simp only [ZbL]
   rw [Zb (ltR hi),Zb (Y2 hi),ZO hi,ZrG]
   simp only [Qr]
   rw [QL hi (by omega)]
   cases Qi l[i] <;> rfl) k hk
 refine Eq.trans this ?_
 rw [Zv4]
 cases l.any Qi <;> rfl
theorem ZEJ (k:Nat) (c:List Int) (sh:Int) (hk:10 < k):ZoE k ((c,sh,()),()) = some (Y5 c sh,()):=by
 show ZfX k (Zm4 k) _ = _
 simp only [ZfX]
 unfold Y5
 by_cases h1:(8:Int) < Int.ofNat c.length
 ·simp only [Z8] at h1
  rw [Zb (by simp only [Z8]; omega),QG (by omega)]; rfl
 ·simp only [Z8] at h1
  rw [Ze (by simp only [Z8]; omega)]
  by_cases h2:sh < 0
  ·rw [Zb h2,QG (by omega)]; rfl
  ·rw [Ze h2]
   by_cases h3:15 < sh
   ·rw [Zb h3,QG (by omega)]; rfl
   ·rw [Ze h3,QS (by omega)]
    have:=Xd (R:=Bool × Unit) (step:=fun L1 => Zb2 k L1) (fun i => (Int.ofNat i,c,sh)) c Zal (some (false,())) (some (true,()))
     (fun L => by simp only [Zb2]; rw [Ze (We _)])
     (fun L i hi => by
      simp only [Zb2]
      rw [Zb (ltR hi),Zb (Y2 hi),Zb (Y2 hi),ZO hi,QL hi (by omega)]
      unfold Zal
      by_cases h4:c[i] < -2048
      ·rw [Zb h4,QG (by omega)]; rfl
      ·rw [Ze h4]
       by_cases h5:2047 < c[i]
       ·rw [Zb h5,QG (by omega)]; rfl
       ·rw [Ze h5,QS (by omega)]; rfl) k (by omega)
    refine Eq.trans this ?_
    rw [Bool.true_and]
    cases c.all Zal <;> rfl
theorem ZJX {a Q:Int} (hQ:0 < Q):a.fdiv Q = if a.tmod Q < 0 then a.tdiv Q - 1 else a.tdiv Q:=by
 rw [Int.fdiv_eq_ediv_of_nonneg _ (by omega)]
 have h1:=Int.tmod_add_mul_tdiv a Q
 have h2 : -Q < a.tmod Q ∧ a.tmod Q < Q:=by
  rcases Int.le_total 0 a with h | h
  ·rw [Int.tmod_eq_emod_of_nonneg h]
   have:=Int.emod_nonneg a (show Q ≠ 0 by omega)
   have:=Int.emod_lt_of_pos a hQ
   omega
  ·have e:=Int.neg_tmod (a := -a) (b:=Q)
   rw [Int.neg_neg] at e
   rw [e,Int.tmod_eq_emod_of_nonneg (by omega)]
   have:=Int.emod_nonneg (-a) (show Q ≠ 0 by omega)
   have:=Int.emod_lt_of_pos (-a) hQ
   omega
 generalize a.tmod Q = r at h1 h2 ⊢
 generalize a.tdiv Q = q at h1 ⊢
 rw [← h1,Int.add_mul_ediv_left _ _ (by omega)]
 split
 ·have h3:(r + Q) / Q = 0:=Int.ediv_eq_zero_of_lt (by omega) (by omega)
  have h4:=Int.add_mul_ediv_left r 1 (show Q ≠ 0 by omega)
  rw [Int.mul_one,h3] at h4
  omega
 ·rw [Int.ediv_eq_zero_of_lt (by omega) (by omega)]
  omega
theorem ZEW (k:Nat) {x sh:Int} (hx : -140737488355328 ≤ x ∧ x ≤ 140737488355328) (hsh:0 ≤ sh ∧ sh ≤ 15):ZoN k (x,sh,()) = some (x.fdiv (2 ^ sh.toNat),()):=by
 show Zf8 k _ = _
 simp only [Zf8]
 have hb:=Zpx (x:=x) (b:=140737488355328) sh.toNat hx (by omega)
 rw [Nat.min_eq_left (by omega),Int.one_mul]
 have hp:2 ^ sh.toNat ≤ 2 ^ 15:=Nat.pow_le_pow_right (by omega) (by omega)
 have hp0:0 < 2 ^ sh.toNat:=Nat.pow_pos (by omega)
 rw [QC] at hb ⊢
 generalize 2 ^ sh.toNat = Q at *
 have e:=ZJX (a:=x) (Q:=(Q:Int)) (by omega)
 rw [Zb hsh.1,ZT (n:=(Q:Int)) (by omega),Zb (by omega),Zb (by omega)]
 by_cases h:x.tmod (Q:Int) < 0
 ·rw [if_pos h] at e
  rw [Zb h,ZT (n:=x.tdiv (Q:Int)) (by omega),ZT (by omega),e]
 ·rw [if_neg h] at e
  rw [Ze h,ZT (n:=x.tdiv (Q:Int)) (by omega),e]
theorem ZEL (k:Nat) {c s:List Int} {sh:Int} {p:Nat} (hk:c.length < k) (hl:c.length ≤ 8) (hcp:c.length ≤ p) (hps:p ≤ s.length) (hn:s.length ≤ 4294967296) (hsh:0 ≤ sh ∧ sh ≤ 15) (hc:∀ x ∈ c,Zwn x) (hs:∀ x ∈ s,ZV x) :
  ZoF k ((c,sh,()),s,(p:Int),()) = some (Zbb c sh (s.take p),()):=by
 show ZfY k (Zm6 k) _ = _
 simp only [ZfY]
 have hta:(s.take p).length = p:=by simp; omega
 have hzl:(c.zip (s.take p).reverse).length = c.length:=by rw [List.length_zip,List.length_reverse]; omega
 have hterm:=Zke hc (fun x hx => hs x (List.mem_of_mem_take hx):∀ x ∈ s.take p,ZV x)
 have hI:=ZI (A:=Int) (R:=Int × Unit) (step:=fun L1 => Zb3 k L1) (fun i acc => (Int.ofNat i,acc,s,(p:Int),c,sh)) (c.zip (s.take p).reverse)
  (fun l acc => some ((acc + Zgz (l.map fun x => x.1 * x.2)).fdiv (2 ^ sh.toNat),())) (fun i acc => i ≤ 8 ∧ -((i:Int) * 4398046511104) ≤ acc ∧ acc ≤ (i:Int) * 4398046511104)
  (fun L acc h => by
   simp only [Zb3]
   rw [hzl,Ze (We _)]
   rw [hzl] at h
   have h8:(c.length:Int) ≤ 8:=by omega
   rw [ZEW k (by omega) hsh]
   simp [Zgz])
  (fun L i hi acc hacc hL => by
   have hi2:i < c.length:=by omega
   have hi3:i < (s.take p).reverse.length:=by simp; omega
   simp only [Zb3]
   have e1:IntKind.i64.wrap (IntKind.i64.wrap ((p:Int) - 1) - Int.ofNat i) = ((p - 1 - i:Nat):Int):=by
    simp only [Z8]
    rw [ZT (n:=(p:Int) - 1) (by omega),ZT (by omega)]; omega
   rw [Zb (ltR hi2),Zb (Y2 hi2),e1,Zb (by simp only [Z8]; omega),ZO hi2,QZ]
   have e2:s.getD (p - 1 - i) 0 = (s.take p).reverse[i]:=by
    rw [List.getElem_reverse,Wt (by omega),List.getElem_take]
    congr 1
    omega
   rw [e2]
   have hz:(c.zip (s.take p).reverse)[i] = (c[i],(s.take p).reverse[i]):=by simp
   have ht:=hterm (c[i] * (s.take p).reverse[i]) (List.mem_map.2 ⟨(c[i],(s.take p).reverse[i]),by rw [← hz]; exact List.getElem_mem _,rfl⟩)
   have hi8:(i:Int) ≤ 8:=by omega
   rw [ZT (n:=c[i] * (s.take p).reverse[i]) (by omega),ZT (n:=acc + c[i] * (s.take p).reverse[i]) (by omega),QL hi2 (by omega)]
   rw [hL _ ⟨by omega,by push_cast; omega,by push_cast; omega⟩,hz]
   simp only [List.map_cons,Zgz]
   rw [Int.add_assoc]) k 0 0 ⟨by omega,by omega,by omega⟩ (by omega) (Nat.zero_le _)
 refine Eq.trans hI ?_
 rw [List.drop_zero,Int.zero_add]
 rfl
theorem ZJx (k:Nat) (o:Nat) (ho:o ≤ 4):Zpp k ((o:Int),()) = some (((Yc o,0,()),0,()),()) :=
 match o,ho with
 | 0,_ => rfl
 | 1,_ => rfl
 | 2,_ => rfl
 | 3,_ => rfl
 | 4,_ => rfl
end Go.Sh
namespace Go.Sh
open Go Go.Proofs
theorem ZEU (k:Nat) (n o:Int):ZoK k (n,o,()) = some (KG n o,()):=by
 show Zf6 k _ = _
 simp only [Zf6]
 unfold KG
 by_cases h1:1 ≤ n
 ·rw [Zb h1]
  by_cases h2:n ≤ 512
  ·rw [Zb h2]
   by_cases h3:0 ≤ o
   ·rw [Zb h3]
    by_cases h4:o ≤ 8
    ·rw [Zb h4]
     by_cases h5:o ≤ n
     ·rw [QS h5,QS (by omega)]
     ·rw [QG h5,QG (by omega)]
    ·rw [Ze h4,QG (by omega)]
   ·rw [Ze h3,QG (by omega)]
  ·rw [Ze h2,QG (by omega)]
 ·rw [Ze h1,QG (by omega)]
theorem ZEN (k:Nat) {p n o size:Nat} (hp:p ≤ 15) (hsz:n / 2 ^ p = size) (hnn:n < 4294967296):∀ (d i m:Nat) (r:List Int) (out:List (List Int)),d < m → i + d = 2 ^ p → 0 < i → out.length = i → r.length = d * size → r.length < 4294967296 →
  Zp (fun L1 => YY k L1) m ((i:Int),(p:Int),(n:Int),(o:Int),r,out) = some (out ++ XQ size d r,()):=by
 have h15:2 ^ p ≤ 2 ^ 15:=Nat.pow_le_pow_right (by omega) hp
 have hd:size ≤ n:=by rw [← hsz]; exact Nat.div_le_self _ _
 intro d
 induction d with
 | zero =>
  intro i m r out hm hi h0 ho hr hn
  obtain ⟨m,rfl⟩:=Zk hm
  rw [Zg]
  simp only [YY]
  rw [Zb (by omega),K6 (by omega),Ze (by omega),Zb (by omega)]
  simp [XQ]
 | succ d ih =>
  intro i m r out hm hi h0 ho hr hn
  obtain ⟨m,rfl⟩:=Zk (show 0 < m by omega)
  rw [Zg]
  simp only [YY]
  have hs:(d + 1) * size = d * size + size:=by rw [Nat.add_mul,Nat.one_mul]
  have hle:size ≤ r.length:=by omega
  have e0:(n:Int).fdiv (2 ^ min ((p:Int)).toNat 64) = (size:Int):=by rw [QZ,Nat.min_eq_left (by omega),Zas,hsz]
  rw [Zb (by omega),K6 (by omega),Zb (by omega),Zb (by omega),Zw,Ze (by omega),e0]
  rw [Zb (by simp only [Z8]; omega),Zb (by simp only [List.length_singleton]; omega),Zb (by simp only [Z8]; omega)]
  rw [QZ,show (Int.ofNat r.length).toNat = r.length from rfl,List.take_length,List.drop_zero,ZT (n:=(i:Int) + 1) (by omega)]
  have:=ih (i + 1) m (r.drop size) (out ++ [r.take size]) (by omega) (by omega) (by omega) (by simp; omega) (by rw [List.length_drop]; omega) (by rw [List.length_drop]; omega)
  refine Eq.trans this ?_
  simp [XQ]
theorem ZEO (k:Nat) {l:List Int} {o p:Nat} (hp:p ≤ 15) (hn:l.length + o < 4294967296) (hk:32768 < k) :
  ZoG k (l,(o:Int),(p:Int),()) = some (if Zbq (l.length + o) o p = true then XR l o p else [],()):=by
 show ZfZ k (Zm8 k) _ = _
 have h15:2 ^ p ≤ 2 ^ 15:=Nat.pow_le_pow_right (by omega) hp
 have h0:0 < 2 ^ p:=Nat.pow_pos (by omega)
 simp only [ZfZ]
 have e1:IntKind.i64.wrap (Int.ofNat l.length + (o:Int)) = ((l.length + o:Nat):Int):=by rw [ZT (by simp only [Z8]; omega)]; rfl
 have e2:(((l.length + o:Nat):Int)).tmod (((2 ^ p:Nat)):Int) = (((l.length + o) % 2 ^ p:Nat):Int):=by
  rw [Int.tmod_eq_emod_of_nonneg (by omega)]; exact (Int.natCast_emod _ _).symm
 have e3:(((l.length + o:Nat):Int)).fdiv (2 ^ min ((p:Int)).toNat 64) = (((l.length + o) / 2 ^ p:Nat):Int):=by rw [QZ,Nat.min_eq_left (by omega),Zas]
 rw [e1,K6 (by omega),e2,e3,Zb (by omega),Zb (by omega),Zo]
 unfold Zbq
 by_cases hm:(l.length + o) % 2 ^ p = 0
 case neg => rw [Zb (by exact_mod_cast hm),QG hm,Bool.false_and]; rfl
 rw [Ze (by rw [hm]; simp),QS hm,Bool.true_and,Zb (by omega)]
 by_cases ho:o ≤ (l.length + o) / 2 ^ p
 case neg => rw [Zb (by omega),QG ho]; rfl
 rw [Ze (by omega),QS ho,if_pos rfl]
 obtain ⟨j,rfl⟩:=Zk (show 0 < k by omega)
 show Zp (fun L1 => YY (j + 1) L1) (j + 1) _ = _
 rw [Zg]
 simp only [YY]
 have hd:(l.length + o) / 2 ^ p ≤ l.length + o:=Nat.div_le_self _ _
 have hmul:2 ^ p * ((l.length + o) / 2 ^ p) = l.length + o:=by have:=Nat.div_add_mod (l.length + o) (2 ^ p); omega
 unfold XR
 rw [e3,K6 (by omega)]
 generalize hsz:(l.length + o) / 2 ^ p = size at ho hd hmul
 have e4:IntKind.i64.wrap ((size:Int) - (o:Int)) = ((size - o:Nat):Int):=by rw [ZT (by omega)]; omega
 have e5:(2 ^ p - 1) * size = 2 ^ p * size - size:=by rw [Nat.sub_mul,Nat.one_mul]
 have hps:size ≤ 2 ^ p * size:=Nat.le_mul_of_pos_left _ h0
 rw [e4,Zb (by omega),Zb (by omega),Zb (by omega),Zw,Zb (by rfl),Zb (by simp only [Z8]; omega),Zb (by simp),Zb (by simp only [Z8]; omega)]
 rw [QZ,show (Int.ofNat l.length).toNat = l.length from rfl,List.take_length,List.drop_zero,show IntKind.i64.wrap ((0:Int) + 1) = ((1:Nat):Int) from by decide]
 exact ZEN (j + 1) hp hsz (by omega) (2 ^ p - 1) 1 j _ _ (by omega) (by omega) (by omega) rfl (by rw [List.length_drop,e5]; omega) (by rw [List.length_drop]; omega)
end Go.Sh
namespace Go.Sh
open Go Go.Proofs
theorem Zag (a:List Int):(YN a).size = a.length:=by rw [← ZhE]; simp
end Go.Sh
namespace Go.Sh
open Go Go.Proofs
abbrev dst (b:List Int) (r:List Bool):ByteArray × Int × Unit:=(txt (Qe b),((Zz b r:Nat):Int),())
theorem ZGh {b:List Int} {r:List Bool} (hr:Zj b r) (h:0 < r.length):(txt (Qe b)).data.toList.getD (Zz b r) 0 = ch1 r[0]:=by
 have hl:=hr.len
 have hp:Zz b r < 8 * b.length:=by unfold Zz; omega
 have hg:=hr.get (i:=0) h
 simp only [Nat.add_zero] at hg
 rw [ZeY,Wt (by rw [List.length_map,Q9]; exact hp),List.getElem_map,hg]
theorem Zrb (b:List Int):(txt (Qe b)).size = 8 * b.length:=by rw [YO,Q9]
theorem ZsF {r:List Bool} (h:0 < r.length):r = r[0] :: r.drop 1:=by
 have:=List.drop_eq_getElem_cons (l:=r) (i:=0) h
 rwa [List.drop_zero] at this
theorem ZPh {b:List Int} {r:List Bool} (hr:Zj b r) (hn:b.length < 536870912) (h:0 < r.length):IntKind.i64.wrap (((Zz b r:Nat):Int) + 1) = ((Zz b (r.drop 1):Nat):Int):=by
 have hl:=hr.len
 have hp:Zz b r < 8 * b.length:=by unfold Zz; omega
 rw [QY hr (by omega),ZT (by omega)]; rfl
theorem ZIY (k:Nat) {b:List Int} (hn:b.length < 536870912):∀ (w m i v:Nat) (r:List Bool),Zj b r → w ≤ r.length → w < m → i + w ≤ 32 → v < 2 ^ i →
  Zp (fun L1 => Zed k L1) m ((i:Int),((i + w:Nat):Int),(v:Int),txt (Qe b),((Zz b r:Nat):Int)) = some (((((r.take w).foldl (fun a b => 2 * a + b.toNat) v:Nat):Int),0,()),dst b (r.drop w),()):=by
 intro w
 induction w with
 | zero =>
  intro m i v r hr hw hm hi hv
  obtain ⟨m,rfl⟩:=Zk hm
  rw [Zg]
  simp only [Zed]
  rw [Ze (by omega)]
  simp
 | succ w ih =>
  intro m i v r hr hw hm hi hv
  obtain ⟨m,rfl⟩:=Zk (show 0 < m by omega)
  rw [Zg]
  simp only [Zed]
  have hl:=hr.len
  have hp:Zz b r < 8 * b.length:=by unfold Zz; omega
  have h0:0 < r.length:=by omega
  rw [Zb (by omega),Zb (by rw [Zrb]; simp only [Z8]; omega),QZ,ZGh hr h0,ZBz,ZPh hr hn h0]
  have hv2:v < 2 ^ 32:=Nat.lt_of_lt_of_le hv (Nat.pow_le_pow_right (by omega) (by omega))
  have hb1:r[0].toNat < 2:=by cases r[0] <;> decide
  have e1:IntKind.i64.wrap (IntKind.i64.wrap ((2:Int) * (v:Int)) + ((r[0].toNat:Nat):Int)) = ((2 * v + r[0].toNat:Nat):Int):=by
   rw [ZT (n:=(2:Int) * (v:Int)) (by omega),ZT (by omega)]
   omega
  have e2:IntKind.i64.wrap ((i:Int) + 1) = ((i + 1:Nat):Int):=by rw [ZT (by omega)]; rfl
  rw [e1,e2]
  have hp2:2 * v + r[0].toNat < 2 ^ (i + 1):=by
   rw [Nat.pow_succ]
   omega
  have:=ih m (i + 1) (2 * v + r[0].toNat) (r.drop 1) (hr.drop 1) (by rw [List.length_drop]; omega) (by omega) (by omega) hp2
  rw [show i + 1 + w = i + (w + 1) by omega] at this
  rw [this]
  have e4:(r.drop 1).drop w = r.drop (w + 1):=by rw [List.drop_drop]; congr 1; omega
  have e5:r.take (w + 1) = r[0] :: (r.drop 1).take w:=by
   conv => lhs; rw [ZsF h0]
   rfl
  rw [e4,e5,List.foldl_cons]
theorem QH (k:Nat) {b:List Int} (hn:b.length < 536870912) {r:List Bool} (hr:Zj b r) {w:Nat} (hw:w ≤ 32) (hk:100 < k) :
  ZR k (dst b r,(w:Int),()) = some (((((Zr w r).1:Nat):Int),(Zr w r).2.1,()),dst b (Zr w r).2.2,()):=by
 show ZiO k (Zuu k) _ = _
 simp only [ZiO]
 have hl:=hr.len
 rw [Ze (by omega),Ze (by omega)]
 have e1:IntKind.i64.wrap (Int.ofNat (txt (Qe b)).size - ((Zz b r:Nat):Int)) = (r.length:Int):=by
  rw [Zrb]
  unfold Zz
  simp only [Z8]
  rw [ZT (by omega)]
  omega
 rw [e1]
 unfold Zr
 by_cases h:w ≤ r.length
 ·rw [Ze (by omega),if_pos h]
  have:=ZIY k hn w k 0 0 r hr h (by omega) (by omega) (by simp)
  rw [Nat.zero_add] at this
  exact this
 ·rw [Zb (by omega),if_neg h]
  rfl
theorem Zku (k:Nat) {b:List Int} (hn:b.length < 536870912) {r:List Bool} (hr:Zj b r) {w:Nat} (hw:w ≤ 32) (hk:100 < k) :
  ZdK k (dst b r,(w:Int),()) = some (((Z2 w r).1,(Z2 w r).2.1,()),dst b (Z2 w r).2.2,()):=by
 show ZfB k _ = _
 simp only [ZfB]
 refine (Zc (QH k hn hr hw hk) _).trans ?_
 unfold Zr Z2
 by_cases h:w ≤ r.length
 ·rw [if_pos h,if_pos h]
  simp only
  rw [show ((0:Int) == 0) = true from rfl]
  simp only [cond_true]
  have hlt:=ZbA (r.take w)
  rw [List.length_take,Nat.min_eq_left h] at hlt
  generalize Qv (r.take w) = v at hlt
  unfold ZSG
  by_cases h0:0 < w
  ·have e1:IntKind.i64.wrap ((w:Int) - 1) = ((w - 1:Nat):Int):=by rw [ZT (by omega)]; omega
   have h32:2 ^ w ≤ 2 ^ 32:=Nat.pow_le_pow_right (by omega) hw
   have h31:2 ^ (w - 1) ≤ 2 ^ 31:=Nat.pow_le_pow_right (by omega) (by omega)
   have e2:IntKind.i64.wrap ((1:Int) * (2:Int) ^ min (((w - 1:Nat):Int)).toNat 64) = ((2 ^ (w - 1):Nat):Int):=by
    rw [QZ,Nat.min_eq_left (by omega),Int.one_mul,QC]
    generalize 2 ^ (w - 1) = P at h31 ⊢
    rw [ZT (by omega)]
   rw [Zb (by omega),e1,Zb (by omega),e2]
   by_cases hle:2 ^ (w - 1) ≤ v
   ·rw [Zb (by exact_mod_cast hle),if_pos ⟨h0,hle⟩,Zb (by omega),QZ,Nat.min_eq_left (by omega),Int.one_mul,QC]
    generalize 2 ^ w = Q at h32 hlt ⊢
    rw [ZT (n:=(Q:Int)) (by omega),ZT (by omega)]
   ·rw [if_neg (fun h => hle h.2),Ze (fun h => hle (by exact_mod_cast h))]
  ·rw [Ze (by omega),if_neg (by omega)]
 ·rw [if_neg h,if_neg h]
  rfl
theorem ZJL (k:Nat) {b:List Int} (hn:b.length < 536870912) {r0:List Bool} (hr0:Zj b r0):∀ (r:List Bool) (m n:Nat),Zj b r → r.length < m → n + r.length = r0.length →
  Zp (fun L1 => Zeu k L1) m (((Zz b r:Nat):Int),txt (Qe b),((Zz b r0:Nat):Int)) = some (((match Zdo n r with | some (n,r') => (n:Int) | none => 0),(match Zdo n r with | some (n,r') => 0 | none => 10),()),dst b (match Zdo n r with | some (n,r') => r' | none => r0),()):=by
 intro r
 induction r with
 | nil =>
  intro m n hr hm hl
  obtain ⟨m,rfl⟩:=Zk hm
  rw [Zg]
  simp only [Zeu]
  rw [Ze (by rw [Zrb]; unfold Zz; simp only [Z8,List.length_nil]; omega)]
  rfl
 | cons x r ih =>
  intro m n hr hm hl
  obtain ⟨m,rfl⟩:=Zk (show 0 < m by omega)
  rw [Zg]
  simp only [Zeu]
  have hlen:=hr.len
  have hlen0:=hr0.len
  simp only [List.length_cons] at hlen hl hm
  have hp:Zz b (x :: r) < 8 * b.length:=by unfold Zz; simp only [List.length_cons]; omega
  have h0:0 < (x :: r).length:=by simp
  have hd:=ZGh hr h0
  have e2:=ZPh hr hn h0
  simp only [List.getElem_cons_zero] at hd
  rw [List.drop_one,List.tail_cons] at e2
  have hr':Zj b r:=by have:=hr.drop 1; rwa [List.drop_one,List.tail_cons] at this
  rw [Zb (by rw [Zrb]; simp only [Z8]; omega),Zb (by rw [Zrb]; simp only [Z8]; omega),QZ,hd,e2]
  cases x with
  | true =>
   rw [show (Int.ofNat (ch1 true).toNat == (49:Int)) = true from rfl]
   simp only [cond_true]
   have e3:IntKind.i64.wrap (((Zz b (true :: r):Nat):Int) - ((Zz b r0:Nat):Int)) = (n:Int):=by
    unfold Zz at hp ⊢
    simp only [List.length_cons] at hp ⊢
    rw [ZT (by omega)]
    omega
   rw [e3]
   rfl
  | false =>
   rw [show (Int.ofNat (ch1 false).toNat == (49:Int)) = false from rfl]
   simp only [cond_false]
   exact ih m (n + 1) hr' (by omega) (by omega)
theorem Zyo (k:Nat) {b:List Int} (hn:b.length < 536870912) {r:List Bool} (hr:Zj b r) (hk:8 * b.length < k) :
  ZgH k (dst b r,()) = some (((((YP r).1:Nat):Int),(YP r).2.1,()),dst b (YP r).2.2,()):=by
 show Zjn k (Zvd k) _ = _
 simp only [Zjn]
 have hl:=hr.len
 refine (ZJL k hn hr r k 0 hr (by omega) (by omega)).trans ?_
 unfold YP
 cases Zdo 0 r with
 | none => rfl
 | some x => rfl
theorem ZIV (k:Nat) {b:List Int} (hn:b.length < 536870912) {r0:List Bool}:∀ (p m:Nat) (r:List Bool),Zj b r → p ≤ r.length → p < m →
  Zp (fun L1 => Zec k L1) m (((Zz b r:Nat):Int),((Zz b r + p:Nat):Int),txt (Qe b),((Zz b r0:Nat):Int)) = some (if (r.take p).all (fun x => !x) then (0,dst b (r.drop p),()) else (2,dst b r0,())):=by
 intro p
 induction p with
 | zero =>
  intro m r hr hp hm
  obtain ⟨m,rfl⟩:=Zk hm
  rw [Zg]
  simp only [Zec]
  rw [Ze (by omega)]
  simp
 | succ p ih =>
  intro m r hr hp hm
  obtain ⟨m,rfl⟩:=Zk (show 0 < m by omega)
  rw [Zg]
  simp only [Zec]
  have hlen:=hr.len
  have hpos:Zz b r < 8 * b.length:=by unfold Zz; omega
  have h0:0 < r.length:=by omega
  rw [Zb (by omega),Zb (by rw [Zrb]; simp only [Z8]; omega),QZ,ZGh hr h0,ZPh hr hn h0]
  have e5:r.take (p + 1) = r[0] :: (r.drop 1).take p:=by
   conv => lhs; rw [ZsF h0]
   rfl
  rw [e5,List.all_cons]
  cases hx:r[0] with
  | true => rfl
  | false =>
   rw [show (Int.ofNat (ch1 false).toNat == (49:Int)) = false from rfl]
   simp only [cond_false]
   have e4:Zz b r + (p + 1) = Zz b (r.drop 1) + p:=by rw [QY hr (by omega)]; omega
   rw [e4,ih m (r.drop 1) (hr.drop 1) (by rw [List.length_drop]; omega) (by omega)]
   have e6:(r.drop 1).drop p = r.drop (p + 1):=by rw [List.drop_drop]; congr 1; omega
   rw [e6]
   simp only [Bool.not_false,Bool.true_and]
theorem ZIW (k:Nat) {b:List Int} (hn:b.length < 536870912) {r:List Bool} (hr:Zj b r) (hk:10 < k) :
  Zo9 k (dst b r,()) = some ((alS r).1,dst b (alS r).2,()):=by
 show ZiN k (Zus k) _ = _
 simp only [ZiN]
 have hlen:=hr.len
 have hp:Zz b r ≤ 8 * b.length:=by unfold Zz; omega
 have e0:(((Zz b r:Nat):Int) + 7).tdiv 8 = (((Zz b r + 7) / 8:Nat):Int):=by
  rw [show ((Zz b r:Nat):Int) + 7 = ((Zz b r + 7:Nat):Int) from rfl,Int.tdiv_eq_ediv_of_nonneg (by omega)]; exact (Int.natCast_ediv _ _).symm
 have e:(Zz b r + 7) / 8 * 8 = Zz b r + r.length % 8:=by unfold Zz; omega
 rw [ZT (n:=((Zz b r:Nat):Int) + 7) (by omega),e0,ZT (n:=(((Zz b r + 7) / 8:Nat):Int)) (by omega),ZT (by omega)]
 rw [show (((Zz b r + 7) / 8:Nat):Int) * 8 = (((Zz b r + 7) / 8 * 8:Nat):Int) by omega,e]
 refine (ZIV k hn (r.length % 8) k r hr (Nat.mod_le _ _) (by omega)).trans ?_
 unfold alS
 split <;> rfl
theorem ZME (k:Nat) {b:List Int} (hn:b.length < 268435456) {r:List Bool} (hr:Zj b r) {w:Nat} (hw:w ≤ 32) (hk:100 < k) (a:Int) :
  ZdV k (dst b r,a,true,(w:Int),()) = some (((Z2 w r).1,(Z2 w r).2.1,()),dst b (Z2 w r).2.2,()):=by
 show Zae k _ = _
 simp only [Zae,cond_true]
 exact Zc (Zku k (by omega) hr hw hk) _
theorem ZHY (k:Nat) {b:List Int} (hn:b.length < 268435456) {r:List Bool} (hr:Zj b r) {kk:Nat} (hkk:kk ≤ 30) (hk:8 * b.length + 100 < k) (a:Int) :
  ZdV k (dst b r,(kk:Int),false,a,()) = some (((ZaH kk r).1,(ZaH kk r).2.1,()),dst b (ZaH kk r).2.2,()):=by
 show Zae k _ = _
 simp only [Zae,cond_false]
 refine (Zc (Zyo k (by omega) hr (by omega)) _).trans ?_
 unfold ZaH
 have hu:=ZvY (r:=r)
 have hl:=hr.len
 simp only
 rw [Zo]
 by_cases h1:(YP r).2.1 = 0
 case neg => rw [Zb h1,if_pos h1]
 rw [Ze (by simpa using h1),if_neg (by simpa using h1)]
 refine (Zc (QH k (by omega) (KD hr) (w:=kk) (by omega) (by omega)) _).trans ?_
 simp only
 rw [Zo]
 by_cases h2:(Zr kk (YP r).2.2).2.1 = 0
 case neg => rw [Zb h2,if_pos h2]
 rw [Ze (by simpa using h2),if_neg (by simpa using h2)]
 have hP:2 ^ kk ≤ 2 ^ 30:=Nat.pow_le_pow_right (by omega) hkk
 have hg:=WI kk (YP r).2.2
 have hq:(YP r).1 * 2 ^ kk ≤ 4294967296 * 2 ^ 30:=Nat.mul_le_mul (by omega) hP
 have e1:IntKind.i64.wrap (IntKind.i64.wrap ((((YP r).1:Nat):Int) * (2:Int) ^ min ((kk:Int)).toNat 64) + (((Zr kk (YP r).2.2).1:Nat):Int)) = (((YP r).1 * 2 ^ kk + (Zr kk (YP r).2.2).1:Nat):Int):=by
  rw [QZ,Nat.min_eq_left (by omega),QC,← Int.natCast_mul]
  generalize (YP r).1 * 2 ^ kk = X at hq ⊢
  generalize (2:Nat) ^ kk = Q at hP hg
  rw [ZT (n:=(X:Int)) (by omega),ZT (by omega)]
  omega
 have hF:(YP r).1 * 2 ^ kk + (Zr kk (YP r).2.2).1 ≤ 4611686018427387904 + 1073741824:=by
  generalize (YP r).1 * 2 ^ kk = X at hq ⊢
  generalize (2:Nat) ^ kk = Q at hP hg
  omega
 rw [Zb (by omega),e1]
 generalize (YP r).1 * 2 ^ kk + (Zr kk (YP r).2.2).1 = F at hF
 by_cases h3:4294967295 ≤ F
 ·rw [Zb (by omega),if_pos h3]
 ·rw [Ze (by omega),if_neg h3]
  have e2:((F:Nat):Int).tmod 2 = ((F % 2:Nat):Int):=by rw [Int.tmod_eq_emod_of_nonneg (by omega)]; omega
  rw [e2,Zw]
  unfold Znr
  by_cases h4:F % 2 = 1
  ·rw [Zb (by omega),if_pos h4,ZT (n:=((F:Nat):Int) + 1) (by omega),ZT (n:=0 - (((F:Nat):Int) + 1)) (by omega)]
   have e3:(0 - (((F:Nat):Int) + 1)).tdiv 2 = -(((F:Nat):Int) + 1) / 2:=by
    rw [show (0:Int) - (((F:Nat):Int) + 1) = (-(((F:Nat):Int) + 1) / 2) * 2 by omega,Int.mul_tdiv_cancel _ (by omega)]
   rw [e3,ZT (by omega)]
  ·rw [Ze (by omega),if_neg h4]
   have e3:(((F:Nat):Int)).tdiv 2 = ((F:Nat):Int) / 2:=Int.tdiv_eq_ediv_of_nonneg (by omega)
   rw [e3,ZT (by omega)]
theorem Zkv (k:Nat) {b:List Int} (hn:b.length < 268435456) {w n:Nat} (hw:w ≤ 32) (hnn:n ≤ 4096) (hk:5000 < k) {r:List Bool} (hr:Zj b r) :
  Yy k (dst b r,(n:Int),(w:Int),()) = some (((QA (Z2 w) n r []).1,(QA (Z2 w) n r []).2.1,()),dst b (QA (Z2 w) n r []).2.2,()):=by
 show ZfC k (ZmO k) _ = _
 simp only [ZfC]
 suffices H:∀ (d m i:Nat) (r:List Bool) (acc:List Int),Zj b r → d < m → i + d ≤ 4096 → acc.length ≤ i →
   Zp (fun L1 => ZbU k L1) m ((i:Int),((i + d:Nat):Int),(w:Int),txt (Qe b),((Zz b r:Nat):Int),acc) = some (((QA (Z2 w) d r acc).1,(QA (Z2 w) d r acc).2.1,()),dst b (QA (Z2 w) d r acc).2.2,()) by
  have:=H n k 0 r [] hr (by omega) (by omega) (by simp)
  rw [Nat.zero_add] at this
  exact this
 intro d
 induction d with
 | zero =>
  intro m i r acc hr hm hi ha
  obtain ⟨m,rfl⟩:=Zk hm
  rw [Zg]
  simp only [ZbU]
  rw [Ze (by omega)]
  rfl
 | succ d ih =>
  intro m i r acc hr hm hi ha
  obtain ⟨m,rfl⟩:=Zk (show 0 < m by omega)
  rw [Zg]
  simp only [ZbU]
  rw [Zb (by omega)]
  refine (Zc (Zku k (by omega) hr hw (by omega)) _).trans ?_
  simp only
  unfold QA
  rw [Zo]
  by_cases h:(Z2 w r).2.1 = 0
  ·rw [Ze (by simpa using h),if_neg (by simpa using h),Zb (by simp only [List.length_singleton]; omega),show IntKind.i64.wrap ((i:Int) + 1) = ((i + 1:Nat):Int) from by rw [ZT (by omega)]; omega]
   have:=ih m (i + 1) (Z2 w r).2.2 (acc ++ [(Z2 w r).1]) (Xw hr w) (by omega) (by omega) (by simp; omega)
   rw [show i + 1 + d = i + (d + 1) by omega] at this
   exact this
  ·rw [Zb h,if_pos h]
end Go.Sh
namespace Go.Sh
open Go Go.Proofs
theorem Zjx {one:Zlr} {n:Nat} {r:List Bool} {acc:List Int} (h:(one r).2.1 = 0):QA one (n + 1) r acc = QA one n (one r).2.2 (acc ++ [(one r).1]):=if_neg (by simpa using h)
theorem Zgj {one:Zlr} {n:Nat} {r:List Bool} {acc:List Int} (h:(one r).2.1 ≠ 0):QA one (n + 1) r acc = ([],(one r).2.1,(one r).2.2):=if_pos h
def ZC9 (acc:List Int) (x:List Int × Int × List Bool):List Int × Int × List Bool:=if x.2.1 ≠ 0 then ([],x.2.1,x.2.2) else (acc ++ x.1,0,x.2.2)
theorem ZhK {acc:List Int} {x:List Int × Int × List Bool} (h:x.2.1 = 0):ZC9 acc x = (acc ++ x.1,0,x.2.2):=if_neg (by simpa using h)
theorem Zdv {acc:List Int} {x:List Int × Int × List Bool} (h:x.2.1 ≠ 0):ZC9 acc x = ([],x.2.1,x.2.2):=if_pos h
theorem ZDa (acc l:List Int) (x:List Int × Int × List Bool):ZC9 acc (ZC9 l x) = ZC9 (acc ++ l) x:=by
 by_cases h:x.2.1 = 0
 ·rw [ZhK h,ZhK h,ZhK (by rfl),List.append_assoc]
 ·rw [Zdv h,Zdv h]
  exact Zdv h
theorem Zk6 {one:Zlr}:∀ (n:Nat) (r:List Bool) (acc:List Int),QA one n r acc = ZC9 acc (QA one n r [])
 | 0,r,acc => by rw [ZhK (by rfl)]; simp [QA]
 | n + 1,r,acc => by
  by_cases h:(one r).2.1 = 0
  ·rw [Zjx h,Zjx h,Zk6 n _ (acc ++ [(one r).1]),Zk6 n _ ([] ++ [(one r).1]),ZDa,List.nil_append]
  ·rw [Zgj h,Zgj h,Zdv h]
theorem Zlz {size:Nat}:∀ (d:Nat) (r:List Int),r.length = d * size → ∀ (i:Nat) (h:i < (XQ size d r).length),((XQ size d r)[i]).length = size
 | 0,r,_,i,h => by simp [XQ] at h
 | d + 1,r,hr,0,h => by
  show (r.take size).length = size
  rw [Nat.add_mul,Nat.one_mul] at hr
  rw [List.length_take]
  omega
 | d + 1,r,hr,i + 1,h => by
  rw [Nat.add_mul,Nat.one_mul] at hr
  exact Zlz d (r.drop size) (by rw [List.length_drop]; omega) i (by simpa [XQ] using h)
theorem ZDn {l:List Int} {n o p:Nat} (hn:l.length + o = n) (hf:Zbq n o p = true) (i:Nat) (h:i < (XR l o p).length):((XR l o p)[i]).length = n / 2 ^ p - if i = 0 then o else 0:=by
 subst hn
 unfold Zbq at hf
 simp only [Bool.and_eq_true,decide_eq_true_eq] at hf
 obtain ⟨hm,ho⟩:=hf
 have h0:0 < 2 ^ p:=Nat.pow_pos (by omega)
 have hmul:2 ^ p * ((l.length + o) / 2 ^ p) = l.length + o:=by have:=Nat.div_add_mod (l.length + o) (2 ^ p); omega
 have e3:(2 ^ p - 1) * ((l.length + o) / 2 ^ p) = 2 ^ p * ((l.length + o) / 2 ^ p) - (l.length + o) / 2 ^ p:=by rw [Nat.sub_mul,Nat.one_mul]
 have hps:(l.length + o) / 2 ^ p ≤ 2 ^ p * ((l.length + o) / 2 ^ p):=Nat.le_mul_of_pos_left _ h0
 match i with
 | 0 =>
  show (l.take _).length = _
  rw [List.length_take,if_pos rfl]
  omega
 | i + 1 =>
  rw [if_neg (by omega),Nat.sub_zero]
  exact Zlz (2 ^ p - 1) _ (by rw [List.length_drop,e3]; omega) i (by simpa [XR] using h)
abbrev Zl4:=(List Int × Int × Unit) × (ByteArray × Int × Unit) × Unit
theorem ZEj (k:Nat) {b:List Int} (hn:b.length < 268435456) (hk:8 * b.length + 5000 < k) (L1:Int × List (List Int) × Int × ByteArray × Int × List Int → Option Zl4)
  {cs:List (List Int)} {i:Nat} (hi:i < cs.length) (hcl:cs.length ≤ 32768) (hc:cs[i].length ≤ 512) (m:Int) (val:Int) (fl:Bool) (wd:Int) (one:Zlr) (hone:∀ r,Zj b r → ZdV k (dst b r,val,fl,wd,()) = some (((one r).1,(one r).2.1,()),dst b (one r).2.2,())) (hrest:∀ r,Zj b r → Zj b (one r).2.2) :
  ∀ (d j q:Nat) (r:List Bool) (acc:List Int),Zj b r → d < j → q + d = cs[i].length → acc.length ≤ i * 512 + q →
  Zp (fun L2 => Zac k L1 L2) j ((q:Int),cs,(i:Int),val,fl,wd,m,txt (Qe b),((Zz b r:Nat):Int),acc) =
   if (QA one d r acc).2.1 ≠ 0 then some (([],(QA one d r acc).2.1,()),dst b (QA one d r acc).2.2,()) else L1 (((i + 1:Nat):Int),cs,m,txt (Qe b),((Zz b (QA one d r acc).2.2:Nat):Int),(QA one d r acc).1):=by
 intro d
 have hgi:cs.getD i [] = cs[i]:=Wt hi
 induction d with
 | zero =>
  intro j q r acc hr hj hq ha
  obtain ⟨j,rfl⟩:=Zk hj
  rw [Zg]
  simp only [Zac]
  rw [Zb (by simp only [Z8]; omega),QZ,hgi,Ze (by simp only [Z8]; omega),show IntKind.i64.wrap ((i:Int) + 1) = ((i + 1:Nat):Int) from by rw [ZT (by omega)]; omega]
  simp [QA]
 | succ d ih =>
  intro j q r acc hr hj hq ha
  obtain ⟨j,rfl⟩:=Zk (show 0 < j by omega)
  rw [Zg]
  simp only [Zac]
  rw [Zb (by simp only [Z8]; omega),QZ,hgi,Zb (by simp only [Z8]; omega)]
  refine (Zc (hone r hr) _).trans ?_
  simp only
  rw [Zo]
  by_cases h:(one r).2.1 = 0
  ·rw [Zjx h,Ze (by simpa using h),Zb (by simp only [List.length_singleton]; omega),show IntKind.i64.wrap ((q:Int) + 1) = ((q + 1:Nat):Int) from by rw [ZT (by omega)]; omega]
   exact ih j (q + 1) (one r).2.2 (acc ++ [(one r).1]) (hrest r hr) (by omega) (by omega) (by simp; omega)
  ·rw [Zgj h,Zb h,if_pos h]
theorem Zzp {m n o p d i:Nat} {r:List Bool} {acc:List Int} (h:(Q7 m (n / 2 ^ p - if i = 0 then o else 0) r).2.1 = 0):QI m n o p (d + 1) i r acc = QI m n o p d (i + 1) (Q7 m (n / 2 ^ p - if i = 0 then o else 0) r).2.2 (acc ++ (Q7 m (n / 2 ^ p - if i = 0 then o else 0) r).1):=if_neg (by simpa using h)
theorem Zlt {m n o p d i:Nat} {r:List Bool} {acc:List Int} (h:(Q7 m (n / 2 ^ p - if i = 0 then o else 0) r).2.1 ≠ 0):QI m n o p (d + 1) i r acc = ([],(Q7 m (n / 2 ^ p - if i = 0 then o else 0) r).2.1,(Q7 m (n / 2 ^ p - if i = 0 then o else 0) r).2.2):=if_pos h
theorem ZEi (k:Nat) {b:List Int} (hn:b.length < 268435456) (hk:8 * b.length + 5000 < k) {cs:List (List Int)} {n o p m:Nat} (hm:m = 0 ∨ m = 1) (hcl:cs.length ≤ 32768) (hnn:n ≤ 512) (hcs:∀ (i:Nat) (h:i < cs.length),cs[i].length = n / 2 ^ p - if i = 0 then o else 0) :
  ∀ (d j i:Nat) (r:List Bool) (acc:List Int),Zj b r → d < j → i + d = cs.length → acc.length ≤ i * 512 →
  Zp (fun L1 => YX k (ZcN k L1) L1) j ((i:Int),cs,(m:Int),txt (Qe b),((Zz b r:Nat):Int),acc) = some (((QI m n o p d i r acc).1,(QI m n o p d i r acc).2.1,()),dst b (QI m n o p d i r acc).2.2,()):=by
 intro d
 have hdiv:n / 2 ^ p ≤ n:=Nat.div_le_self _ _
 induction d with
 | zero =>
  intro j i r acc hr hj hi ha
  obtain ⟨j,rfl⟩:=Zk hj
  rw [Zg]
  simp only [YX]
  rw [Ze (by simp only [Z8]; omega)]
  rfl
 | succ d ih =>
  intro j i r acc hr hj hi ha
  obtain ⟨j,rfl⟩:=Zk (show 0 < j by omega)
  rw [Zg]
  simp only [YX]
  have hi2:i < cs.length:=by omega
  have hci:=hcs i hi2
  have hc5:cs[i].length ≤ 512:=by rw [hci]; exact Nat.le_trans (Nat.sub_le _ _) (Nat.le_trans hdiv hnn)
  have hq1:cs[i].length < k:=by clear hci hcs; omega
  have he4:IntKind.i64.wrap ((4:Int) + (m:Int)) = ((4 + m:Nat):Int):=by rw [ZT (by omega)]; omega
  rw [Zb (by simp only [Z8]; omega),he4]
  refine (Zc (QH k (by omega) hr (w:=4 + m) (by omega) (by omega)) _).trans ?_
  simp only
  have hg15:[(15:Int),31].getD ((m:Int)).toNat 0 = ((Xe (m:Int):Nat):Int):=by rcases hm with rfl | rfl <;> rfl
  have hlt:=WI (4 + m) r
  rw [Zb (by omega),Zb (by omega),hg15,Zw,Zo]
  -- what a part gives
  have fin:∀ (one:Zlr) (r':List Bool) (val:Int) (fl:Bool) (wd:Int),(∀ r,Zj b r → ZdV k (dst b r,val,fl,wd,()) = some (((one r).1,(one r).2.1,()),dst b (one r).2.2,())) → (∀ r,Zj b r → Zj b (one r).2.2) → Zj b r' →
    Q7 m (n / 2 ^ p - if i = 0 then o else 0) r = QA one (n / 2 ^ p - if i = 0 then o else 0) r' [] →
    ZcN k (Zp (fun L1 => YX k (ZcN k L1) L1) j) ((0:Int),cs,(i:Int),val,fl,wd,(m:Int),txt (Qe b),((Zz b r':Nat):Int),acc) = some (((QI m n o p (d + 1) i r acc).1,(QI m n o p (d + 1) i r acc).2.1,()),dst b (QI m n o p (d + 1) i r acc).2.2,()):=by
   intro one r' val fl wd hone hrest hr' hp
   have hN:=ZEj k hn hk (Zp (fun L1 => YX k (ZcN k L1) L1) j) hi2 hcl hc5 (m:Int) val fl wd one hone hrest cs[i].length k 0 r' acc hr' hq1 (Nat.zero_add _) (Nat.le_trans ha (Nat.le_add_right _ _))
   refine hN.trans ?_
   rw [hci,Zk6,← hp]
   have hlen:=Zle m (n / 2 ^ p - if i = 0 then o else 0) r
   have hprest:=Zc2 hr m (n / 2 ^ p - if i = 0 then o else 0)
   by_cases h:(Q7 m (n / 2 ^ p - if i = 0 then o else 0) r).2.1 = 0
   ·rw [Zzp h,ZhK h,if_neg (by simp)]
    generalize Q7 m (n / 2 ^ p - if i = 0 then o else 0) r = P at hlen hprest
    exact ih j (i + 1) P.2.2 (acc ++ P.1) hprest (by omega) (by omega) (by rw [Yq]; omega)
   ·rw [Zlt h,Zdv h,if_pos h]
  have err:∀ (e:Int) (r':List Bool),e ≠ 0 → Q7 m (n / 2 ^ p - if i = 0 then o else 0) r = ([],e,r') → QI m n o p (d + 1) i r acc = ([],e,r'):=by
   intro e r' he hp
   rw [Zlt (by rw [hp]; exact he),hp]
  by_cases h1:(Zr (4 + m) r).2.1 = 0
  ·rw [Zb h1]
   by_cases h2:(Zr (4 + m) r).1 = Xe m
   ·rw [Zw,Zb (by omega)]
    refine (Zc (QH k (by omega) (ZJ hr _) (w:=5) (by omega) (by omega)) _).trans ?_
    simp only
    rw [Zo]
    have hlt5:=WI 5 (Zr (4 + m) r).2.2
    by_cases h3:(Zr 5 (Zr (4 + m) r).2.2).2.1 = 0
    ·rw [Ze (by simpa using h3),QS (show (((Zr (4 + m) r).1:Nat):Int) = ((Xe (m:Int):Nat):Int) by omega)]
     refine fin (Z2 (Zr 5 (Zr (4 + m) r).2.2).1) (Zr 5 (Zr (4 + m) r).2.2).2.2 _ true _ (fun r hr => ZME k hn hr (by omega) (by omega) _) (fun r hr => Xw hr _) (ZJ (ZJ hr _) _) ?_
     unfold Q7
     rw [if_neg (by simpa using h1),if_pos h2,if_neg (by simpa using h3)]
    ·rw [Zb h3]
     rw [err _ _ h3 (by unfold Q7; rw [if_neg (by simpa using h1),if_pos h2,if_pos h3])]
   ·rw [Zw,Ze (by omega),Ze (by simpa using h1),QG (show ¬ (((Zr (4 + m) r).1:Nat):Int) = ((Xe (m:Int):Nat):Int) by omega)]
    have h30:(Zr (4 + m) r).1 ≤ 30:=by
     rcases hm with rfl | rfl
     ·have:(Zr (4 + 0) r).1 < 16:=hlt
      omega
     ·have h32:(Zr (4 + 1) r).1 < 32:=hlt
      have:Xe (1:Nat) = 31:=rfl
      omega
    refine fin (ZaH (Zr (4 + m) r).1) (Zr (4 + m) r).2.2 _ false _ (fun r hr => ZHY k hn hr h30 (by omega) _) (fun r hr => Zlb hr _) (ZJ hr _) ?_
    unfold Q7
    rw [if_neg (by simpa using h1),if_neg h2]
  ·rw [Ze h1,Zb h1]
   rw [err _ _ h1 (by unfold Q7; rw [if_pos h1])]
theorem ZEk (k:Nat) {b:List Int} (hn:b.length < 268435456) {r:List Bool} (hr:Zj b r) (hk:8 * b.length + 50000 < k) (n o:Nat) :
  ZcM k (dst b r,(n:Int),(o:Int),()) = some (((XA n o r).1,(XA n o r).2.1,()),dst b (XA n o r).2.2,()):=by
 show ZfE k (ZmQ k) _ = _
 simp only [ZfE]
 refine (Zc (ZEU k n o) _).trans ?_
 unfold XA
 simp only
 cases hb:KG (n:Int) (o:Int) with
 | false => rfl
 | true =>
  have hbb:=of_decide_eq_true hb
  simp only [Bool.not_true,cond_false,Bool.true_eq_false,if_false]
  refine (Zc (QH k (by omega) hr (w:=2) (by omega) (by omega)) _).trans ?_
  simp only
  rw [Zo]
  by_cases h1:(Zr 2 r).2.1 = 0
  case neg => rw [Zb h1,if_pos h1]
  rw [Ze (by simpa using h1),if_neg (by simpa using h1)]
  by_cases h2:1 < (Zr 2 r).1
  ·rw [Zb (by omega),if_pos h2]
  rw [Ze (by omega),if_neg h2]
  refine (Zc (QH k (by omega) (ZJ hr _) (w:=4) (by omega) (by omega)) _).trans ?_
  simp only
  rw [Zo]
  have hlt4:=WI 4 (Zr 2 r).2.2
  have hr2:=ZJ (ZJ hr 2) 4
  have hm:(Zr 2 r).1 = 0 ∨ (Zr 2 r).1 = 1:=by omega
  generalize (Zr 2 r).1 = m at hm h2 ⊢
  generalize Zr 4 (Zr 2 r).2.2 = G at hlt4 hr2 ⊢
  by_cases h3:G.2.1 = 0
  case neg => rw [Zb h3,if_pos h3]
  rw [Ze (by simpa using h3),if_neg (by simpa using h3)]
  have e1:IntKind.i64.wrap ((n:Int) - (o:Int)) = ((n - o:Nat):Int):=by rw [ZT (by omega)]; omega
  have hlen:(List.replicate (n - o) (0:Int)).length = n - o:=List.length_replicate
  rw [e1,Zb (by omega),QZ]
  refine (Zc (ZEO k (l:=List.replicate (n - o) (0:Int)) (o:=o) (p:=G.1) (by omega) (by rw [hlen]; omega) (by omega)) _).trans ?_
  simp only
  rw [hlen,show n - o + o = n by omega]
  cases hf:Zbq n o G.1 with
  | false => rfl
  | true =>
   simp only [if_true,Bool.true_eq_false,if_false]
   have hne:(XR (List.replicate (n - o) (0:Int)) o G.1).isEmpty = false:=rfl
   rw [hne]
   simp only [cond_false]
   have hcl:=ZhT (List.replicate (n - o) (0:Int)) o G.1
   have h15:2 ^ G.1 ≤ 2 ^ 15:=Nat.pow_le_pow_right (by omega) (by omega)
   have:=ZEi k hn (by omega) (cs:=XR (List.replicate (n - o) (0:Int)) o G.1) (n:=n) (o:=o) (p:=G.1) (m:=m) hm (by omega) (by omega) (fun i h => ZDn (by rw [hlen]; omega) hf i h) (2 ^ G.1) k 0 G.2.2 [] hr2 (by omega) (by omega) (by simp)
   exact this
theorem ZEm (k:Nat) {c warm res:List Int} {sh:Int} (hk:1000 < k) (hc:c.length ≤ 8192) (hw:warm.length ≤ 900) (hr:res.length ≤ 900) :
  ZcO k ((c,sh,()),warm,res,()) = some (((YK c sh warm res).1,(YK c sh warm res).2,()),()):=by
 show ZfF k (ZmR k) _ = _
 simp only [ZfF]
 refine (Zc (ZEJ k c sh (by omega)) _).trans ?_
 unfold YK
 simp only
 cases hm:Y5 c sh with
 | false => rfl
 | true =>
  simp only [Bool.not_true,cond_false,Bool.true_eq_false,if_false]
  rw [Zo]
  by_cases hl:warm.length = c.length
  case neg => rw [Zb (by simp only [Z8]; omega),if_pos hl]
  rw [Ze (by simp only [Z8]; omega),if_neg (by simpa using hl)]
  refine (Zc (Zrv k warm (by omega) (by omega)) _).trans ?_
  simp only
  cases hww:warm.any Qi with
  | true => rfl
  | false =>
   simp only [Bool.not_false,Bool.not_true,cond_false,Bool.false_eq_true,if_false]
   refine (Zc (Zrv k res (by omega) (by omega)) _).trans ?_
   simp only
   cases hwr:res.any Qi with
   | true => rfl
   | false =>
    simp only [Bool.not_false,Bool.not_true,cond_false,Bool.false_eq_true,if_false]
    rw [Zb (by omega),List.nil_append]
    obtain ⟨hc8,hsh,hcR⟩:=Za7 hm
    have hnw:=Yr hww
    have hnr:=Yr hwr
    suffices H:∀ (d i m:Nat) (out:List Int),i + d = res.length → d < m → out.length = warm.length + i → (∀ x ∈ out,ZV x) →
      Zp (fun L1 => ZbV k L1) m ((i:Int),res,c,sh,out) = some (((ZgO c sh (res.drop i) out).1,(ZgO c sh (res.drop i) out).2,()),()) by
     have:=H res.length 0 k warm (by omega) (by omega) (by omega) hnw
     rw [List.drop_zero] at this
     exact this
    intro d
    induction d with
    | zero =>
     intro i m out hi hm2 ho hout
     obtain ⟨m,rfl⟩:=Zk hm2
     rw [Zg]
     simp only [ZbV]
     rw [Ze (by simp only [Z8]; omega),List.drop_eq_nil_of_le (by omega)]
     rfl
    | succ d ih =>
     intro i m out hi hm2 ho hout
     obtain ⟨m,rfl⟩:=Zk (show 0 < m by omega)
     rw [Zg]
     simp only [ZbV]
     have hi2:i < res.length:=by omega
     rw [Zb (by simp only [Z8]; omega),Zb (by simp only [Z8]; omega),QZ,Wt hi2]
     have hf:=ZEL k (c:=c) (s:=out) (sh:=sh) (p:=out.length) (by omega) hc8 (by omega) (Nat.le_refl _) (by omega) hsh hcR hout
     rw [List.take_length] at hf
     refine (Zc hf _).trans ?_
     simp only
     have hpb:=ZeQ (sh:=sh) hcR hout hc8
     have hx:=hnr res[i] (List.getElem_mem hi2)
     unfold ZV at hx
     rw [ZT (n:=res[i] + Zbb c sh out) (by omega)]
     refine (Zc (ZrG k _) _).trans ?_
     simp only
     rw [List.drop_eq_getElem_cons hi2]
     unfold ZgO
     cases hwx:Qi (res[i] + Zbb c sh out) with
     | true => rfl
     | false =>
      simp only [Bool.not_false,Bool.not_true,cond_false,Bool.false_eq_true,if_false]
      rw [Zb (by simp only [List.length_singleton]; omega),show IntKind.i64.wrap ((i:Int) + 1) = ((i + 1:Nat):Int) from by rw [ZT (by omega)]; omega]
      refine ih (i + 1) m _ (by omega) (by omega) (by simp; omega) ?_
      intro y hy
      rcases List.mem_append.1 hy with hy | hy
      ·exact hout y hy
      ·rw [List.mem_singleton.1 hy]; exact Zl2 hwx
end Go.Sh
namespace Go.Sh
open Go Go.Proofs
theorem Zhn {w:Nat}:∀ (n:Nat) (s:IS) (acc:List Int),s.2 ≠ 0 → (Xl w n s acc).2 = s
 | 0,s,acc,_ => rfl
 | n + 1,s,acc,h => by
  unfold Xl
  rw [if_neg h]
  exact Zhn n s _ h
theorem Zgk {w:Nat}:∀ (n:Nat) (r:List Bool) (acc:List Int),((QA (Z2 w) n r acc).2.1 = 0 → Xl w n (r,0) acc = ((QA (Z2 w) n r acc).1,((QA (Z2 w) n r acc).2.2,0))) ∧
  ((QA (Z2 w) n r acc).2.1 ≠ 0 → (Xl w n (r,0) acc).2 = ((QA (Z2 w) n r acc).2.2,(QA (Z2 w) n r acc).2.1))
 | 0,r,acc => ⟨fun _ => rfl,fun h => absurd rfl h⟩
 | n + 1,r,acc => by
  have e:Xl w (n + 1) (r,0) acc = Xl w n ((Z2 w r).2.2,(Z2 w r).2.1) (acc ++ [(Z2 w r).1]):=if_pos rfl
  rw [e]
  by_cases h:(Z2 w r).2.1 = 0
  ·rw [Zjx h,h]
   exact Zgk n _ _
  ·rw [Zgj h]
   exact ⟨fun h2 => absurd h2 h,fun _ => Zhn n _ _ h⟩
def Zlv (x:List Int × IS):List Int × Int × List Bool:=(x.1,x.2.2,x.2.1)
def Wc (o:Option Zl4) (b:List Int) (x:List Int × Int × List Bool):Prop :=
 ∃ (L:List Int) (st:ByteArray × Int × Unit),o = some ((L,x.2.1,()),st,()) ∧ (x.2.1 = 0 → L = x.1 ∧ st = dst b x.2.2)
theorem Qq {o:Option Zl4} {b:List Int} {x:List Int × Int × List Bool} {L:List Int} {e:Int} {st:ByteArray × Int × Unit} (h:o = some ((L,e,()),st,())) (hx:x.2.1 = e) (he:e ≠ 0):Wc o b x :=
 ⟨L,st,by rw [h,hx],fun h0 => absurd (hx.symm.trans h0) he⟩
theorem ZcY {o:Option Zl4} {b:List Int} {x:List Int × Int × List Bool} (h:o = some ((x.1,x.2.1,()),dst b x.2.2,())):Wc o b x :=
 ⟨x.1,dst b x.2.2,h,fun _ => ⟨rfl,rfl⟩⟩
def dbZ (k:Nat) (n c:Int) (coefs:List Int) (sh:Int) (warm:List Int) (st:ByteArray × Int × Unit):Option Zl4 :=
 (ZcM k (st,n,c,())).bind fun y_5 => bif y_5.1.2.1 != (0:Int) then some (([],y_5.1.2.1,()),(y_5.2.1.1,y_5.2.1.2.1,()),()) else (ZcO k ((coefs,sh,()),warm,y_5.1.1,())).bind fun y => some ((y.1.1,y.1.2.1,()),(y_5.2.1.1,y_5.2.1.2.1,()),())
def dbN (k:Nat) (n c:Int) (warm:List Int) (st:ByteArray × Int × Unit):Option Zl4 :=
 (ZR k (st,4,())).bind fun y_2 => bif y_2.1.2.1 != (0:Int) then some (([],y_2.1.2.1,()),(y_2.2.1.1,y_2.2.1.2.1,()),()) else bif y_2.1.1 != (11:Int) then some (([],2,()),(y_2.2.1.1,y_2.2.1.2.1,()),()) else (ZR k ((y_2.2.1.1,y_2.2.1.2.1,()),5,())).bind fun y_3 => bif y_3.1.2.1 != (0:Int) then some (([],y_3.1.2.1,()),(y_3.2.1.1,y_3.2.1.2.1,()),()) else bif decide ((15:Int) < y_3.1.1) then some (([],2,()),(y_3.2.1.1,y_3.2.1.2.1,()),()) else
  (Yy k ((y_3.2.1.1,y_3.2.1.2.1,()),c,12,())).bind fun y_4 => bif y_4.1.2.1 != (0:Int) then some (([],y_4.1.2.1,()),(y_4.2.1.1,y_4.2.1.2.1,()),()) else dbZ k n c y_4.1.1 y_3.1.1 warm (y_4.2.1.1,y_4.2.1.2.1,())
def dbM (k:Nat) (n d kind c:Int) (st:ByteArray × Int × Unit):Option Zl4 :=
 bif decide (n < c) then some (([],2,()),(st.1,st.2.1,()),()) else (Yy k ((st.1,st.2.1,()),c,d,())).bind fun y => bif y.1.2.1 != (0:Int) then some (([],y.1.2.1,()),(y.2.1.1,y.2.1.2.1,()),()) else
  (Zpp k (if (4:Int) < c then (4:Int) else c,())).bind fun y_1 => bif decide ((32:Int) ≤ kind) then dbN k n c y.1.1 (y.2.1.1,y.2.1.2.1,()) else dbZ k n c y_1.1.1.1 y_1.1.1.2.1 y.1.1 (y.2.1.1,y.2.1.2.1,())
theorem ZFa (k:Nat) (T:ByteArray) (p n d kind:Int):Yp k ((T,p,()),n,d,kind,()) =
  bif kind == (0:Int) then (ZdK k ((T,p,()),d,())).bind fun y => bif y.1.2.1 != (0:Int) then some (([],y.1.2.1,()),(y.2.1.1,y.2.1.2.1,()),()) else Zve k ((0:Int),n,y.1.1,y.2.1.1,y.2.1.2.1,[])
  else bif kind == (1:Int) then (Yy k ((T,p,()),n,d,())).bind fun y => some ((y.1.1,y.1.2.1,()),(y.2.1.1,y.2.1.2.1,()),())
  else bif decide ((32:Int) ≤ kind) then dbM k n d kind (IntKind.i64.wrap (kind - (31:Int))) (T,p,()) else dbM k n d kind (IntKind.i64.wrap (kind - (8:Int))) (T,p,()):=rfl
theorem Zwu (k:Nat) {b:List Int} (hn:b.length < 268435456) (hk:8 * b.length + 50000 < k) {r:List Bool} (hr:Zj b r) {n c:Nat} (hnn:n ≤ 512) {coefs warm:List Int} {sh:Int} (hc:coefs.length ≤ 8192) (hw:warm.length ≤ 900) :
  Wc (dbZ k n c coefs sh warm (dst b r)) b (Zlv (Zdg coefs sh c n warm (r,0))):=by
 have hl:=Zlm (n:=n) (o:=c) r
 have hf:=ZEk k hn hr hk n c
 unfold Zdg Zlv
 simp only
 by_cases h:(XA n c r).2.1 = 0
 ·rw [if_neg (by simpa using h)]
  refine ZcY ?_
  refine (Zc hf _).trans ?_
  simp only
  rw [Zo,Ze (by simpa using h)]
  exact Zc (ZEm k (by omega) hc hw (by omega)) _
 ·rw [if_pos h]
  refine Qq (L:=[]) (e:=(XA n c r).2.1) (st:=dst b (XA n c r).2.2) ?_ rfl h
  refine (Zc hf _).trans ?_
  simp only
  rw [Zo,Zb h]
theorem gI0 (w:Nat) (r:List Bool):gI w (r,0) = ((Zr w r).1,(Zr w r).2.2,(Zr w r).2.1):=if_pos rfl
theorem Zbs {w:Nat} {s:IS} (h:s.2 ≠ 0):gI w s = (0,s):=if_neg h
theorem WD {ok:Bool} {s:IS} {code:Int} (h:s.2 ≠ 0):mI ok s code = s:=if_neg (fun hh => h hh.1)
theorem YS {r:List Bool} {code:Int}:mI false (r,0) code = (r,code):=if_pos ⟨rfl,rfl⟩
theorem ZDl {s:IS} (h:s.2 ≠ 0):KR s = s:=by unfold KR; rw [Zbs h]; exact WD h
theorem Zj8 {s:IS} (h:s.2 ≠ 0):(WL s).2 = s:=by unfold WL; rw [Zbs h]; exact WD h
theorem ZbC {c n:Nat} {warm:List Int} {sh:Nat} {s:IS} (h:s.2 ≠ 0):ZhM c n warm sh (Xl 12 c s []) = ([],s):=by
 unfold ZhM
 have e:=Zhn (w:=12) c s [] h
 rw [e,if_pos h]
theorem ZGf (k:Nat) {b:List Int} (hn:b.length < 268435456) (hk:8 * b.length + 50000 < k) {r:List Bool} (hr:Zj b r) {n c:Nat} (hnn:n ≤ 512) (hc:c ≤ 8) {warm:List Int} (hw:warm.length ≤ 900) :
  Wc (dbN k n c warm (dst b r)) b (Zlv (ZhM c n warm (WL (KR (r,0))).1 (Xl 12 c (WL (KR (r,0))).2 []))):=by
 have h4:=QH k (by omega) hr (w:=4) (by omega) (by omega)
 have hr4:=ZJ hr 4
 have eA:KR (r,0) = mI ((Zr 4 r).1 == 11) ((Zr 4 r).2.2,(Zr 4 r).2.1) 2:=by unfold KR; rw [gI0]
 rw [eA]
 generalize Zr 4 r = G at h4 hr4 ⊢
 by_cases h1:G.2.1 = 0
 case neg =>
  rw [WD h1]
  rw [show (WL (G.2.2,G.2.1)).2 = (G.2.2,G.2.1) from Zj8 h1,ZbC h1]
  refine Qq (L:=[]) (st:=dst b G.2.2) ?_ rfl h1
  refine (Zc h4 _).trans ?_
  simp only
  rw [Zo,Zb h1]
  rfl
 rw [h1]
 by_cases h2:G.1 = 11
 case neg =>
  rw [show (G.1 == 11) = false by simpa using h2,YS]
  rw [show (WL (G.2.2,2)).2 = (G.2.2,2) from Zj8 (show (2:Int) ≠ 0 by decide),ZbC (show (2:Int) ≠ 0 by decide)]
  refine Qq (L:=[]) (st:=dst b G.2.2) (e:=2) ?_ rfl (by decide)
  refine (Zc h4 _).trans ?_
  simp only
  rw [Zo,Ze (by simpa using h1),Zo,Zb (by omega)]
 rw [show (G.1 == 11) = true by simpa using h2,QK]
 have h5:=QH k (by omega) hr4 (w:=5) (by omega) (by omega)
 have hr5:=ZJ hr4 5
 have hl5:=WI 5 G.2.2
 have eB:WL (G.2.2,0) = ((Zr 5 G.2.2).1,mI (decide ((Zr 5 G.2.2).1 ≤ 15)) ((Zr 5 G.2.2).2.2,(Zr 5 G.2.2).2.1) 2):=by unfold WL; rw [gI0]
 rw [eB]
 generalize Zr 5 G.2.2 = H at h5 hr5 hl5 ⊢
 have go1:∀ o,((ZR k (dst b G.2.2,5,())).bind fun y_3 => bif y_3.1.2.1 != (0:Int) then some (([],y_3.1.2.1,()),(y_3.2.1.1,y_3.2.1.2.1,()),()) else bif decide ((15:Int) < y_3.1.1) then some (([],2,()),(y_3.2.1.1,y_3.2.1.2.1,()),()) else
   (Yy k ((y_3.2.1.1,y_3.2.1.2.1,()),(c:Int),12,())).bind fun y_4 => bif y_4.1.2.1 != (0:Int) then some (([],y_4.1.2.1,()),(y_4.2.1.1,y_4.2.1.2.1,()),()) else dbZ k n c y_4.1.1 y_3.1.1 warm (y_4.2.1.1,y_4.2.1.2.1,())) = o → dbN k n c warm (dst b r) = o:=by
  intro o ho
  refine (Zc h4 _).trans ?_
  simp only
  rw [Zo,Ze (by simpa using h1),Zo,Ze (by omega)]
  exact ho
 by_cases h3:H.2.1 = 0
 case neg =>
  rw [WD h3,ZbC h3]
  refine Qq (L:=[]) (st:=dst b H.2.2) (go1 _ ?_) rfl h3
  refine (Zc h5 _).trans ?_
  simp only
  rw [Zo,Zb h3]
  rfl
 rw [h3]
 by_cases h6:H.1 ≤ 15
 case neg =>
  rw [QG h6,YS,ZbC (show (2:Int) ≠ 0 by decide)]
  refine Qq (L:=[]) (st:=dst b H.2.2) (e:=2) (go1 _ ?_) rfl (by decide)
  refine (Zc h5 _).trans ?_
  simp only
  rw [Zo,Ze (by simpa using h3),Zb (by omega)]
 rw [QS h6,QK]
 have h7:=Zkv k hn (w:=12) (n:=c) (by omega) (by omega) (by omega) hr5
 obtain ⟨l1,l2⟩:=Zgk (w:=12) c H.2.2 []
 have hr7:=Zax (b:=b) (one:=Z2 12) (fun r h => Xw h 12) c H.2.2 [] hr5
 have hl7:=Zcj (one:=Z2 12) c H.2.2 []
 generalize QA (Z2 12) c H.2.2 [] = J at h7 l1 l2 hr7 hl7
 have go2:∀ o,((Yy k (dst b H.2.2,(c:Int),12,())).bind fun y_4 => bif y_4.1.2.1 != (0:Int) then some (([],y_4.1.2.1,()),(y_4.2.1.1,y_4.2.1.2.1,()),()) else dbZ k n c y_4.1.1 H.1 warm (y_4.2.1.1,y_4.2.1.2.1,())) = o → dbN k n c warm (dst b r) = o:=by
  intro o ho
  refine go1 o ?_
  refine (Zc h5 _).trans ?_
  simp only
  rw [Zo,Ze (by simpa using h3),Ze (by omega)]
  exact ho
 unfold ZhM
 by_cases h8:J.2.1 = 0
 ·rw [l1 h8]
  simp only
  rw [if_neg (by simp)]
  rw [go2 (dbZ k n c J.1 H.1 warm (dst b J.2.2)) (by
   refine (Zc h7 _).trans ?_
   simp only
   rw [Zo,Ze (by simpa using h8)])]
  exact Zwu k hn hk hr7 hnn (by simp at hl7; omega) hw
 ·rw [l2 h8,if_pos h8]
  refine Qq (L:=[]) (st:=dst b J.2.2) (go2 _ ?_) rfl h8
  refine (Zc h7 _).trans ?_
  simp only
  rw [Zo,Zb h8]
  rfl
theorem Zwt (k:Nat) {b:List Int} (hn:b.length < 268435456) (hk:8 * b.length + 50000 < k) {r:List Bool} (hr:Zj b r) {n c d:Nat} (hnn:n ≤ 512) (hc:c ≤ 8) (hd:d ≤ 32) {kind:Int} {num:Bool} (hnum:num = decide (32 ≤ kind)) :
  Wc (dbM k n d kind c (dst b r)) b (Zlv (ZbB num c n d (r,0))):=by
 unfold dbM
 by_cases h1:c ≤ n
 case neg =>
  have hb:ZbB num c n d (r,0) = ([],(r,2)):=by
   unfold ZbB
   rw [QG h1,YS]
   exact if_pos (show (2:Int) ≠ 0 by decide)
  rw [hb]
  exact Qq (L:=[]) (e:=2) (by rw [Zb (by omega)]) rfl (by decide)
 have hb:ZbB num c n d (r,0) = Zlw num c n (Xl d c (r,0) []):=by
  unfold ZbB
  rw [QS h1,QK]
  exact if_neg (by simp)
 rw [hb,Ze (by omega)]
 have h7:=Zkv k hn (w:=d) (n:=c) (by omega) (by omega) (by omega) hr
 obtain ⟨l1,l2⟩:=Zgk (w:=d) c r []
 have hr7:=Zax (b:=b) (one:=Z2 d) (fun r h => Xw h d) c r [] hr
 have hl7:=Zcj (one:=Z2 d) c r []
 generalize QA (Z2 d) c r [] = J at h7 l1 l2 hr7 hl7
 rw [h7]
 simp only [Qr]
 rw [Zo]
 unfold Zlw
 by_cases h8:J.2.1 = 0
 case neg =>
  rw [Zb h8]
  refine Qq (L:=[]) (st:=dst b J.2.2) rfl ?_ h8
  rw [l2 h8]
  cases num with
  | true =>
   rw [if_pos rfl,show KR (J.2.2,J.2.1) = (J.2.2,J.2.1) from ZDl h8,show (WL (J.2.2,J.2.1)).2 = (J.2.2,J.2.1) from Zj8 h8,ZbC h8]
   rfl
  | false => rw [if_neg (by decide),if_pos h8]; rfl
 rw [Ze (by simpa using h8),l1 h8]
 have e4:(if (4:Int) < (c:Int) then (4:Int) else (c:Int)) = ((min 4 c:Nat):Int):=by split <;> omega
 rw [e4,ZJx k (min 4 c) (by omega)]
 simp only [Qr]
 simp at hl7
 cases num with
 | true =>
  rw [Zb (of_decide_eq_true hnum.symm),if_pos rfl]
  exact ZGf k hn hk hr7 hnn hc (by omega)
 | false =>
  rw [Ze (of_decide_eq_false hnum.symm),if_neg (by decide),if_neg (by simp)]
  have hf:(Yc (min 4 c)).length ≤ 8192:=by rw [ZpA _ (by omega)]; omega
  exact Zwu k hn hk hr7 hnn hf (by omega)
theorem ZJO (k:Nat) {b:List Int} (hn:b.length < 268435456) (hk:8 * b.length + 50000 < k) {r:List Bool} (hr:Zj b r) {kind n d:Nat} (hkd:Zdj kind = true) (h1:1 ≤ n) (hnn:n ≤ 512) (hd:d ≤ 32) :
  Wc (Yp k (dst b r,(n:Int),(d:Int),(kind:Int),())) b (Zlv (Xq kind n d (r,0))):=by
 have hkb:kind = 0 ∨ kind = 1 ∨ 8 ≤ kind ∧ kind ≤ 12 ∨ 32 ≤ kind ∧ kind ≤ 39:=of_decide_eq_true hkd
 rw [ZFa]
 unfold Xq
 rw [Zw,Zw]
 by_cases h0:kind = 0
 ·rw [Zb (by omega),if_pos h0]
  have hf:=Zku k (b:=b) (by omega) hr hd (by omega)
  have e:Xl d 1 (r,0) [] = ([(Z2 d r).1],(Z2 d r).2.2,(Z2 d r).2.1):=by
   show (if (0:Int) = 0 then _ else _) = _
   rw [if_pos rfl]
   rfl
  rw [e]
  generalize Z2 d r = G at hf
  by_cases hg:G.2.1 = 0
  ·refine ZcY ?_
   refine (Zc hf _).trans ?_
   simp only
   rw [Zo,Ze (by simpa using hg)]
   have hloop:∀ (e j i:Nat),i + e = n → e < j → Zp (fun L1 => Zev k L1) j ((i:Int),(n:Int),G.1,txt (Qe b),((Zz b G.2.2:Nat):Int),List.replicate i G.1) = some ((List.replicate n G.1,0,()),dst b G.2.2,()):=by
    intro e
    induction e with
    | zero =>
     intro j i hi hj
     obtain ⟨j,rfl⟩:=Zk hj
     rw [Zg]
     simp only [Zev]
     obtain rfl:i = n:=by omega
     rw [Ze (by omega)]
    | succ e ih =>
     intro j i hi hj
     obtain ⟨j,rfl⟩:=Zk (show 0 < j by omega)
     rw [Zg]
     simp only [Zev]
     rw [Zb (by omega),Zb (by simp; omega),show IntKind.i64.wrap ((i:Int) + 1) = ((i + 1:Nat):Int) from by rw [ZT (by omega)]; omega,← List.replicate_succ']
     exact ih j (i + 1) (by omega) (by omega)
   refine (hloop n k 0 (by omega) (by omega)).trans ?_
   show _ = some ((List.replicate n G.1,G.2.1,()),dst b G.2.2,())
   rw [hg]
  ·refine Qq (L:=[]) (st:=dst b G.2.2) ?_ rfl hg
   refine (Zc hf _).trans ?_
   simp only
   rw [Zo,Zb hg]
   rfl
 rw [Ze (by omega),if_neg h0]
 by_cases h2:kind = 1
 ·rw [Zb (by omega),if_pos h2]
  have hf:=Zkv k hn (w:=d) (n:=n) hd (by omega) (by omega) hr
  obtain ⟨l1,l2⟩:=Zgk (w:=d) n r []
  generalize QA (Z2 d) n r [] = J at hf l1 l2
  by_cases hg:J.2.1 = 0
  ·rw [l1 hg]
   refine ZcY ?_
   refine (Zc hf _).trans ?_
   show some ((J.1,J.2.1,()),dst b J.2.2,()) = _
   rw [hg]
   rfl
  ·refine Qq (L:=J.1) (st:=dst b J.2.2) ?_ (show (Xl d n (r,0) []).2.2 = J.2.1 by rw [l2 hg]) hg
   exact Zc hf _
 rw [Ze (by omega),if_neg h2]
 by_cases h3:31 < kind
 ·rw [Zb (by omega),if_pos h3,ZT (by omega),show (kind:Int) - 31 = ((kind - 31:Nat):Int) by omega]
  exact Zwt k hn hk hr hnn (by omega) hd (by rw [QS (by omega)])
 ·rw [Ze (by omega),if_neg h3,ZT (by omega),show (kind:Int) - 8 = ((kind - 8:Nat):Int) by omega]
  exact Zwt k hn hk hr hnn (by omega) hd (by rw [QG (by omega)])
end Go.Sh
namespace Go.Sh
open Go Go.Proofs
def ZnZ (k:Nat) (d w:Int) (y:(List Int × Int × Unit) × (ByteArray × Int × Unit) × Unit):Option Zl4 :=
 bif y.1.2.1 != (0:Int) then some (([],y.1.2.1,()),(y.2.1.1,y.2.1.2.1,()),()) else Zo8 k ((0:Int),d,w,y.2.1.1,y.2.1.2.1,y.1.1)
def ZKV (k:Nat) (n d kind:Int) (st:ByteArray × Int × Unit) (e:Int):Option Zl4 :=
 bif e != (0:Int) then some (([],e,()),(st.1,st.2.1,()),()) else bif decide (d ≤ (0:Int)) then some (([],2,()),(st.1,st.2.1,()),()) else
  (Yp k ((st.1,st.2.1,()),n,IntKind.i64.wrap (d - (0:Int)),kind,())).bind fun y => ZnZ k d 0 y
def Zkg (k:Nat) (n d kind:Int) (st:ByteArray × Int × Unit):Option Zl4 :=
 (ZR k ((st.1,st.2.1,()),1,())).bind fun y_1 => bif y_1.1.2.1 == (0:Int) then bif y_1.1.1 == (1:Int) then
  (ZgH k ((y_1.2.1.1,y_1.2.1.2.1,()),())).bind fun y_2 => bif y_2.1.2.1 != (0:Int) then some (([],y_2.1.2.1,()),(y_2.2.1.1,y_2.2.1.2.1,()),()) else bif decide (d ≤ IntKind.i64.wrap (y_2.1.1 + (1:Int))) then some (([],2,()),(y_2.2.1.1,y_2.2.1.2.1,()),()) else
   (Yp k ((y_2.2.1.1,y_2.2.1.2.1,()),n,IntKind.i64.wrap (d - IntKind.i64.wrap (y_2.1.1 + (1:Int))),kind,())).bind fun y => ZnZ k d (IntKind.i64.wrap (y_2.1.1 + (1:Int))) y
  else ZKV k n d kind (y_1.2.1.1,y_1.2.1.2.1,()) y_1.1.2.1 else ZKV k n d kind (y_1.2.1.1,y_1.2.1.2.1,()) y_1.1.2.1
theorem ZE6 (k:Nat) (T:ByteArray) (p n d:Int):ZiM k ((T,p,()),n,d,()) =
  bif decide (n < (1:Int)) then some (([],1,()),(T,p,()),()) else bif decide ((512:Int) < n) then some (([],1,()),(T,p,()),()) else bif decide (d < (4:Int)) then some (([],1,()),(T,p,()),()) else bif decide ((25:Int) < d) then some (([],1,()),(T,p,()),()) else
   (ZR k ((T,p,()),1,())).bind fun y => bif y.1.2.1 != (0:Int) then some (([],y.1.2.1,()),(y.2.1.1,y.2.1.2.1,()),()) else bif y.1.1 == (1:Int) then some (([],2,()),(y.2.1.1,y.2.1.2.1,()),()) else
   (ZR k ((y.2.1.1,y.2.1.2.1,()),6,())).bind fun y => bif y.1.2.1 != (0:Int) then some (([],y.1.2.1,()),(y.2.1.1,y.2.1.2.1,()),()) else
    bif decide ((1:Int) < y.1.1) then
     bif decide (y.1.1 < (8:Int)) then bif decide (y.1.1 < (32:Int)) then some (([],2,()),(y.2.1.1,y.2.1.2.1,()),()) else bif decide ((39:Int) < y.1.1) then some (([],2,()),(y.2.1.1,y.2.1.2.1,()),()) else Zkg k n d y.1.1 (y.2.1.1,y.2.1.2.1,())
     else bif decide ((12:Int) < y.1.1) then bif decide (y.1.1 < (32:Int)) then some (([],2,()),(y.2.1.1,y.2.1.2.1,()),()) else bif decide ((39:Int) < y.1.1) then some (([],2,()),(y.2.1.1,y.2.1.2.1,()),()) else Zkg k n d y.1.1 (y.2.1.1,y.2.1.2.1,())
     else Zkg k n d y.1.1 (y.2.1.1,y.2.1.2.1,())
    else Zkg k n d y.1.1 (y.2.1.1,y.2.1.2.1,()):=rfl
theorem Zav {α:Type} {o:Option α} {a:α} {K:α → Option Zl4} {b:List Int} {x:List Int × Int × List Bool} (h:o = some a) (hK:Wc (K a) b x):Wc (o.bind K) b x:=by
 rw [Zc h]
 exact hK
def ZBi (d w:Nat) (y:List Int × IS):List Int × Int × List Bool :=
 if y.2.2 ≠ 0 then ([],y.2.2,y.2.1) else if y.1.all (W6 · (d - w)) = true then (y.1.map (fun x => x * 2 ^ w),0,y.2.1) else ([],12,y.2.1)
theorem ZNg (k:Nat) {b:List Int} (hk:3000 < k) {d w:Nat} (hw:w < d) (hd:d ≤ 25) {o:Option Zl4} {y:List Int × IS} (ho:Wc o b (Zlv y)) (hl:y.1.length ≤ 1000) :
  Wc (o.bind fun y => ZnZ k d w y) b (ZBi d w y):=by
 obtain ⟨L,st,ho,hz⟩:=ho
 unfold ZBi
 by_cases h:y.2.2 = 0
 case neg =>
  rw [if_pos h]
  refine Qq (L:=[]) (e:=y.2.2) (st:=(st.1,st.2.1,())) ?_ rfl h
  refine (Zc ho _).trans ?_
  unfold ZnZ Zlv
  simp only
  rw [Zo,Zb h]
 rw [if_neg (by simpa using h)]
 obtain ⟨rfl,rfl⟩:=hz h
 have ho':(o.bind fun y => ZnZ k d w y) = Zo8 k ((0:Int),(d:Int),(w:Int),txt (Qe b),((Zz b y.2.1:Nat):Int),y.1):=by
  refine (Zc ho _).trans ?_
  unfold ZnZ Zlv
  simp only
  rw [Zo,Ze (by simpa using h)]
 rw [ho']
 have e1:IntKind.i64.wrap ((d:Int) - (w:Int)) = ((d - w:Nat):Int):=by rw [ZT (by omega)]; omega
 have hP:2 ^ w ≤ 2 ^ 25:=Nat.pow_le_pow_right (by omega) (by omega)
 have e2:IntKind.i64.wrap ((1:Int) * (2:Int) ^ min ((w:Int)).toNat 64) = (2:Int) ^ w:=by
  rw [QZ,Nat.min_eq_left (by omega),Int.one_mul,QC]
  generalize 2 ^ w = Q at hP ⊢
  rw [ZT (by omega)]
 -- the loop writes into the same list
 suffices H:∀ (e i m:Nat) (pre post:List Int),post.length = e → pre.length = i → i + e ≤ 1000 → e < m →
   Zp (fun L1 => Zeb k L1) m ((i:Int),(d:Int),(w:Int),txt (Qe b),((Zz b y.2.1:Nat):Int),pre ++ post) =
    some (if post.all (W6 · (d - w)) = true then ((pre ++ post.map (fun x => x * 2 ^ w),0,()),dst b y.2.1,()) else (([],12,()),dst b y.2.1,())) by
  have:=H y.1.length 0 k [] y.1 rfl rfl (by omega) (by omega)
  rw [List.nil_append,List.nil_append] at this
  by_cases ha:y.1.all (W6 · (d - w)) = true
  ·rw [if_pos ha]
   rw [if_pos ha] at this
   exact ZcY this
  ·rw [if_neg ha]
   rw [if_neg ha] at this
   exact Qq this rfl (show (12:Int) ≠ 0 by decide)
 intro e
 induction e with
 | zero =>
  intro i m pre post hp hi hie hm
  obtain ⟨m,rfl⟩:=Zk hm
  obtain rfl:=List.eq_nil_of_length_eq_zero hp
  rw [Zg]
  simp only [Zeb]
  rw [List.append_nil,Ze (by simp only [Z8]; omega)]
  simp
 | succ e ih =>
  intro i m pre post hp hi hie hm
  obtain ⟨m,rfl⟩:=Zk (show 0 < m by omega)
  match post,hp with
  | x :: post,hp =>
   rw [Zg]
   simp only [Zeb]
   have hlen:(pre ++ x :: post).length = i + e + 1:=by rw [Yq,hp,hi]; omega
   have hget:(pre ++ x :: post).getD i 0 = x:=by
    rw [Wt (by omega),List.getElem_append_right (by omega)]
    simp [hi]
   have hset:∀ v,(pre ++ x :: post).set i v = (pre ++ [v]) ++ post:=by
    intro v
    rw [List.set_append_right _ _ (by omega),hi,Nat.sub_self]
    simp
   rw [Zb (by rw [hlen]; simp only [Z8]; omega),Zb (by rw [hlen]; simp only [Z8]; omega),Zb (by rw [hlen,QZ]; omega),QZ,hget,e1]
   refine (Zc (ZxH k x (by omega)) _).trans ?_
   simp only
   rw [List.all_cons]
   cases hsx:W6 x (d - w) with
   | false => rfl
   | true =>
    simp only [Bool.not_true,cond_false,Bool.true_and]
    have hsh:=(ZvP hw (by omega) hsx).2
    rw [Zb (by rw [hlen]; simp only [Z8]; omega),Zb (by rw [hlen]; omega),Zb (by omega),Zb (by rw [hlen]; simp only [Z8]; omega),Zb (by rw [hlen]; omega),e2,ZT hsh,hset,show IntKind.i64.wrap ((i:Int) + 1) = ((i + 1:Nat):Int) from by rw [ZT (by omega)]; omega]
    have:=ih (i + 1) m (pre ++ [x * 2 ^ w]) post (by simpa using hp) (by simp [hi]) (by omega) (by omega)
    rw [this]
    simp
theorem Zx2 (k:Nat) {b:List Int} (hn:b.length < 268435456) (hk:8 * b.length + 50000 < k) {r:List Bool} (hr:Zj b r) (n d:Nat) :
  Wc (ZiM k (dst b r,(n:Int),(d:Int),())) b (Z3 n d r):=by
 rw [ZE6]
 by_cases hh:1 ≤ n ∧ n ≤ 512 ∧ 4 ≤ d ∧ d ≤ 25
 case neg =>
  have hs:Z3 n d r = ([],1,r):=if_pos hh
  rw [hs]
  refine Qq (L:=[]) (e:=1) (st:=dst b r) ?_ rfl (by decide)
  by_cases h1:n < 1
  ·rw [Zb (by omega)]
  rw [Ze (by omega)]
  by_cases h2:512 < n
  ·rw [Zb (by omega)]
  rw [Ze (by omega)]
  by_cases h3:d < 4
  ·rw [Zb (by omega)]
  rw [Ze (by omega),Zb (by omega)]
 have hs:Z3 n d r = (if (ZU d (r,0)).2.2.2 ≠ 0 then ([],(ZU d (r,0)).2.2.2,(ZU d (r,0)).2.2.1) else ZBi d (ZU d (r,0)).2.1 (Xq (ZU d (r,0)).1 n (d - (ZU d (r,0)).2.1) (ZU d (r,0)).2.2)):=by
  unfold Z3 ZBi
  rw [if_neg (by simpa using hh)]
 rw [hs,Ze (by omega),Ze (by omega),Ze (by omega),Ze (by omega)]
 unfold ZU
 -- the first bit
 have hf1:=QH k (by omega) hr (w:=1) (by omega) (by omega)
 have hr1:=ZJ hr 1
 have hl1:=WI 1 r
 have e1:Zdn (r,0) = mI ((Zr 1 r).1 == 0) ((Zr 1 r).2.2,(Zr 1 r).2.1) 2:=by unfold Zdn; rw [gI0]
 rw [e1]
 generalize Zr 1 r = G1 at hf1 hr1 hl1 ⊢
 have bad2:∀ s:IS,s.2 ≠ 0 → YT s = (0,s):=by
  intro s hs
  unfold YT
  rw [Zbs hs]
  show (0,mI _ s 2) = _
  rw [WD hs]
 have bad3:∀ (kind:Nat) (s:IS),s.2 ≠ 0 → (KX kind d s).2.2 = s:=by
  intro kind s hs
  unfold KX
  rw [Zbs hs,if_neg (by simp)]
  show mI _ s 2 = s
  rw [WD hs]
 by_cases g1:G1.2.1 = 0
 case neg =>
  rw [show mI (G1.1 == 0) (G1.2.2,G1.2.1) 2 = (G1.2.2,G1.2.1) from WD g1,bad2 _ g1,bad3 _ _ g1,if_pos g1]
  refine Qq (L:=[]) (st:=dst b G1.2.2) ?_ rfl g1
  refine (Zc hf1 _).trans ?_
  simp only
  rw [Zo,Zb g1]
 rw [g1]
 by_cases g2:G1.1 = 0
 case neg =>
  rw [show (G1.1 == 0) = false by simpa using g2,YS,bad2 _ (show (2:Int) ≠ 0 by decide),bad3 _ _ (show (2:Int) ≠ 0 by decide),if_pos (show (2:Int) ≠ 0 by decide)]
  refine Qq (L:=[]) (e:=2) (st:=dst b G1.2.2) ?_ rfl (by decide)
  refine (Zc hf1 _).trans ?_
  simp only
  rw [Zo,Ze (by simpa using g1),Zw,Zb (by omega)]
 rw [show (G1.1 == 0) = true by simpa using g2,QK]
 refine Zav hf1 ?_
 simp only
 rw [Zo,Ze (by simpa using g1),Zw,Ze (by omega)]
 -- the kind
 have hf6:=QH k (by omega) hr1 (w:=6) (by omega) (by omega)
 have hr6:=ZJ hr1 6
 have hl6:=WI 6 G1.2.2
 have e6:YT (G1.2.2,0) = ((Zr 6 G1.2.2).1,mI (Zdj (Zr 6 G1.2.2).1) ((Zr 6 G1.2.2).2.2,(Zr 6 G1.2.2).2.1) 2):=by unfold YT; rw [gI0]
 rw [e6]
 generalize Zr 6 G1.2.2 = G6 at hf6 hr6 hl6 ⊢
 by_cases g3:G6.2.1 = 0
 case neg =>
  rw [show mI (Zdj G6.1) (G6.2.2,G6.2.1) 2 = (G6.2.2,G6.2.1) from WD g3,bad3 _ _ g3,if_pos g3]
  refine Zav hf6 ?_
  simp only
  rw [Zo,Zb g3]
  exact Qq (L:=[]) (st:=dst b G6.2.2) rfl rfl g3
 rw [g3]
 refine Zav hf6 ?_
 simp only
 rw [Zo,Ze (by simpa using g3)]
 by_cases hkb:Zdj G6.1 = true
 case neg =>
  have hk0:¬ (G6.1 = 0 ∨ G6.1 = 1 ∨ 8 ≤ G6.1 ∧ G6.1 ≤ 12 ∨ 32 ≤ G6.1 ∧ G6.1 ≤ 39):=by
   intro hh
   exact hkb (QS hh)
  have hkf:Zdj G6.1 = false:=by simpa using hkb
  rw [hkf,YS,bad3 _ _ (show (2:Int) ≠ 0 by decide),if_pos (show (2:Int) ≠ 0 by decide)]
  have hfin:Wc (some (([],2,()),(txt (Qe b),((Zz b G6.2.2:Nat):Int),()),())) b ([],2,G6.2.2):=Qq (L:=[]) (st:=dst b G6.2.2) rfl rfl (by decide)
  rw [Zb (by omega)]
  by_cases q1:G6.1 < 8
  ·rw [Zb (by omega),Zb (by omega)]
   exact hfin
  ·rw [Ze (by omega),Zb (by omega)]
   by_cases q2:G6.1 < 32
   ·rw [Zb (by omega)]
    exact hfin
   ·rw [Ze (by omega),Zb (by omega)]
    exact hfin
 have hkk:G6.1 = 0 ∨ G6.1 = 1 ∨ 8 ≤ G6.1 ∧ G6.1 ≤ 12 ∨ 32 ≤ G6.1 ∧ G6.1 ≤ 39:=of_decide_eq_true hkb
 rw [hkb,QK]
 suffices H:Wc (Zkg k n d ((G6.1:Nat):Int) (dst b G6.2.2)) b
   (if (KX G6.1 d (G6.2.2,0)).2.2.2 ≠ 0 then ([],(KX G6.1 d (G6.2.2,0)).2.2.2,(KX G6.1 d (G6.2.2,0)).2.2.1) else ZBi d (KX G6.1 d (G6.2.2,0)).2.1 (Xq (KX G6.1 d (G6.2.2,0)).1 n (d - (KX G6.1 d (G6.2.2,0)).2.1) (KX G6.1 d (G6.2.2,0)).2.2)) by
  by_cases q0:1 < G6.1
  ·rw [Zb (by omega),Ze (by omega)]
   by_cases q1:12 < G6.1
   ·rw [Zb (by omega),Ze (by omega),Ze (by omega)]
    exact H
   ·rw [Ze (by omega)]
    exact H
  ·rw [Ze (by omega)]
   exact H
 -- wasted bits
 generalize G6.1 = kind at hkb hkk ⊢
 generalize G6.2.2 = r6 at hr6 ⊢
 unfold Zkg
 have hf7:=QH k (by omega) hr6 (w:=1) (by omega) (by omega)
 have hr7:=ZJ hr6 1
 have hl7:=WI 1 r6
 have e7:KX kind d (r6,0) = if (Zr 1 r6).1 = 1 ∧ (Zr 1 r6).2.1 = 0 then (kind,(YP (Zr 1 r6).2.2).1 + 1,mI (decide ((YP (Zr 1 r6).2.2).1 + 1 < d)) ((YP (Zr 1 r6).2.2).2.2,(YP (Zr 1 r6).2.2).2.1) 2)
   else (kind,0,mI (decide (0 < d)) ((Zr 1 r6).2.2,(Zr 1 r6).2.1) 2):=by unfold KX; rw [gI0]
 generalize Zr 1 r6 = G7 at hf7 hr7 hl7 e7
 refine Zav hf7 ?_
 simp only
 have body:∀ (w:Nat) (r':List Bool),w < d → Zj b r' → 
   Wc ((Yp k (dst b r',(n:Int),((d - w:Nat):Int),(kind:Int),())).bind fun y => ZnZ k d w y) b (ZBi d w (Xq kind n (d - w) (r',0))):=by
  intro w r' hwd hr'
  have:=Zj6 (kind:=kind) (n:=n) (d:=d - w) (s:=(r',0)) hkb
  exact ZNg k (by omega) hwd (by omega) (ZJO k hn hk hr' hkb (by omega) (by omega) (by omega)) (by omega)
 have no:¬ (G7.1 = 1 ∧ G7.2.1 = 0) → Wc (ZKV k n d kind (dst b G7.2.2) G7.2.1) b
   (if (mI (decide (0 < d)) (G7.2.2,G7.2.1) 2).2 ≠ 0 then ([],(mI (decide (0 < d)) (G7.2.2,G7.2.1) 2).2,(mI (decide (0 < d)) (G7.2.2,G7.2.1) 2).1) else ZBi d 0 (Xq kind n (d - 0) (mI (decide (0 < d)) (G7.2.2,G7.2.1) 2))):=by
  intro _
  unfold ZKV
  rw [Zo,QS (by omega:0 < d),QK]
  by_cases g8:G7.2.1 = 0
  ·rw [Ze (by simpa using g8),Ze (by omega),g8,if_neg (by simp),ZT (by omega),show (d:Int) - 0 = ((d - 0:Nat):Int) by omega]
   exact body 0 G7.2.2 (by omega) hr7
  ·rw [Zb g8,if_pos g8]
   exact Qq (L:=[]) (st:=dst b G7.2.2) rfl rfl g8
 rw [Zw]
 by_cases g8:G7.2.1 = 0
 case neg =>
  rw [Ze g8,e7,if_neg (show ¬ (G7.1 = 1 ∧ G7.2.1 = 0) from fun h => g8 h.2)]
  exact no (by intro h; exact g8 h.2)
 rw [Zb g8,Zw]
 by_cases g9:G7.1 = 1
 case neg =>
  rw [Ze (by omega),e7,if_neg (show ¬ (G7.1 = 1 ∧ G7.2.1 = 0) from fun h => g9 h.1)]
  exact no (by intro h; exact g9 h.1)
 rw [Zb (by omega),e7,if_pos (show G7.1 = 1 ∧ G7.2.1 = 0 from ⟨g9,g8⟩)]
 have hfu:=Zyo k (b:=b) (by omega) hr7 (by omega)
 have hru:=KD hr7
 have hul:=ZvY (r:=G7.2.2)
 have hl7':=hr7.len
 generalize YP G7.2.2 = U at hfu hru hul ⊢
 refine Zav hfu ?_
 simp only
 rw [Zo]
 by_cases u1:U.2.1 = 0
 case neg =>
  rw [Zb u1,show mI (decide (U.1 + 1 < d)) (U.2.2,U.2.1) 2 = (U.2.2,U.2.1) from WD u1,if_pos u1]
  exact Qq (L:=[]) (st:=dst b U.2.2) rfl rfl u1
 rw [Ze (by simpa using u1),u1,show IntKind.i64.wrap (((U.1:Nat):Int) + 1) = ((U.1 + 1:Nat):Int) from by rw [ZT (by omega)]; omega]
 by_cases u2:U.1 + 1 < d
 ·rw [Ze (by omega),QS u2,QK,if_neg (by simp),ZT (by omega),show (d:Int) - ((U.1 + 1:Nat):Int) = ((d - (U.1 + 1):Nat):Int) by omega]
  exact body (U.1 + 1) U.2.2 u2 hru
 ·rw [Zb (by omega),QG u2,YS,if_pos (show (2:Int) ≠ 0 by decide)]
  exact Qq (L:=[]) (st:=dst b U.2.2) rfl rfl (by decide)
end Go.Sh
namespace Go.Sh
open Go Go.Proofs
abbrev T92:=(Int × Int × Int × Unit) × Unit
theorem Zy0 {l:List Int} (hl:ZP l = true) {i:Nat} (h:i < l.length):Int.ofNat ((YN l).data.toList.getD i 0).toNat = l[i]:=by
 obtain ⟨x,hx,hxe⟩:=WV hl h
 have e:(YN l).data.toList = l.map (fun n => UInt8.ofNat n.toNat):=by simp
 rw [e,Wt (by rw [List.length_map]; exact h),List.getElem_map,hxe,QZ]
 show ((UInt8.ofNat x).toNat:Int) = _
 rw [UInt8.toNat_ofNat']
 omega
theorem ZJF (k:Nat) (V:ByteArray) (c:Nat) (D:List Bool) (hD:D.length ≤ 60):∀ (d m i:Nat),i + d = D.length → d < m →
  Zp (fun L4 => Zar k L4) m ((i:Int),txt D,((Qv (D.take i):Nat):Int),(c:Int),V) = Zar k (fun _ => none) (((D.length:Nat):Int),txt D,((Qv D:Nat):Int),(c:Int),V):=by
 intro d
 induction d with
 | zero =>
  intro m i hi hm
  obtain ⟨m,rfl⟩:=Zk hm
  rw [Zg]
  obtain rfl:i = D.length:=by omega
  rw [List.take_length]
  simp only [Zar]
  have q:¬ (((D.length:Nat):Int) < Int.ofNat D.length):=by simp only [Z8]; omega
  rw [YO,Ze q,Ze q]
 | succ d ih =>
  intro m i hi hm
  obtain ⟨m,rfl⟩:=Zk (show 0 < m by omega)
  rw [Zg]
  have hi2:i < D.length:=by omega
  conv => lhs; simp only [Zar]
  rw [YO,Zb (by simp only [Z8]; omega),Zb (by simp only [Z8]; omega),QZ,ZeY,Wt (by rw [List.length_map]; exact hi2),List.getElem_map,ZBz]
  have hlt:=ZbA (D.take i)
  have h60:2 ^ (D.take i).length ≤ 2 ^ 60:=Nat.pow_le_pow_right (by omega) (by rw [List.length_take]; omega)
  have e3:Qv (D.take (i + 1)) = 2 * Qv (D.take i) + D[i].toNat:=by
   rw [List.take_add_one,List.getElem?_eq_getElem hi2]
   show Qv (D.take i ++ [D[i]]) = _
   rw [XU]
   show _ * 2 ^ 1 + (2 * 0 + D[i].toNat) = _
   omega
  have e1:IntKind.i64.wrap (IntKind.i64.wrap ((2:Int) * ((Qv (D.take i):Nat):Int)) + ((D[i].toNat:Nat):Int)) = ((Qv (D.take (i + 1)):Nat):Int):=by
   have hb1:D[i].toNat < 2:=by cases D[i] <;> decide
   rw [e3]
   generalize Qv (D.take i) = v at hlt
   rw [ZT (n:=(2:Int) * (v:Int)) (by omega),ZT (by omega)]
   omega
  rw [e1,show IntKind.i64.wrap ((i:Int) + 1) = ((i + 1:Nat):Int) from by rw [ZT (by omega)]; omega]
  exact ih m (i + 1) (by omega) (by omega)
def ZDp (v c n:Nat):Nat × Nat × Int:=if v < 2 ^ WE (c - 1) then (0,0,2) else if n < c then (0,0,10) else (v,c,0)
def Zsx (x:Nat × Nat × Int):T92:=(((x.1:Int),(x.2.1:Int),x.2.2,()),())
theorem ZvK {c:Nat} (h1:1 ≤ c) (h:c ≤ 7):WE c ≤ 40:=by
 have:∀ c:Fin 8,1 ≤ c.val → WE c.val ≤ 40:=by decide
 exact this ⟨c,by omega⟩ h1
theorem Zjk (k:Nat) (hk:100 < k) {V:ByteArray} (hV:V.size < 4294967296) {c:Nat} (hc:2 ≤ c ∧ c ≤ 7) (D:List Bool) (hD:D.length ≤ 60):ZcU k ((0:Int),txt D,(0:Int),(c:Int),V) = some (Zsx (ZDp (Qv D) c V.size)):=by
 refine (ZJF k V c D hD D.length k 0 (by omega) (by omega)).trans ?_
 simp only [Zar]
 rw [YO,Ze (by simp only [Z8]; omega)]
 have e1:IntKind.i64.wrap ((c:Int) - 1) = ((c - 1:Nat):Int):=by rw [ZT (by omega)]; omega
 rw [e1]
 refine (Zc (Zpo k (c - 1) (by omega)) _).trans ?_
 simp only
 have hr:=ZvK (c:=c - 1) (by omega) (by omega)
 have hP:2 ^ WE (c - 1) ≤ 2 ^ 40:=Nat.pow_le_pow_right (by omega) hr
 have e2:IntKind.i64.wrap ((1:Int) * (2:Int) ^ min (((WE (c - 1):Nat):Int)).toNat 64) = ((2 ^ WE (c - 1):Nat):Int):=by
  rw [QZ,Nat.min_eq_left (by omega),Int.one_mul,QC]
  generalize 2 ^ WE (c - 1) = Q at hP ⊢
  rw [ZT (by omega)]
 rw [Zb (by omega),e2]
 unfold ZDp
 by_cases h1:Qv D < 2 ^ WE (c - 1)
 ·rw [Zb (by exact_mod_cast h1),if_pos h1]
  rfl
 ·rw [Ze (by intro h; exact h1 (by exact_mod_cast h)),if_neg h1]
  by_cases h2:V.size < c
  ·rw [Zb (by simp only [Z8]; omega),if_pos h2]
   rfl
  ·rw [Ze (by simp only [Z8]; omega),if_neg h2]
   rfl
theorem ZE9 (k:Nat) (hk:200 < k) {V:ByteArray} (hV:V.size < 4294967296) {c:Nat} (hc:2 ≤ c ∧ c ≤ 7):∀ (d m:Nat) (D:List Bool),D.length + d = WE c → d < m →
  Zp (fun L3 => Zet k (ZcU k) L3) m (txt D,(c:Int),V) = some (Zsx (ZDp (Qv (D ++ List.replicate d true)) c V.size)):=by
 have hr:=ZvK (c:=c) (by omega) (by omega)
 intro d
 induction d with
 | zero =>
  intro m D hD hm
  obtain ⟨m,rfl⟩:=Zk hm
  rw [Zg]
  simp only [Zet]
  refine (Zc (Zpo k c (by omega)) _).trans ?_
  simp only
  rw [YO,Ze (by simp only [Z8]; omega)]
  simp only [List.replicate_zero,List.append_nil]
  exact Zjk k (by omega) hV hc D (by omega)
 | succ d ih =>
  intro m D hD hm
  obtain ⟨m,rfl⟩:=Zk (show 0 < m by omega)
  rw [Zg]
  simp only [Zet]
  refine (Zc (Zpo k c (by omega)) _).trans ?_
  simp only
  rw [YO,Zb (by simp only [Z8]; omega),Zb (by omega),show ByteArray.mk #[49] = txt [true] from rfl,ZqB]
  rw [ih m (D ++ [true]) (by simp; omega) (by omega),List.append_assoc]
  rfl
theorem Zls:∀ n:Nat,Qv (List.replicate n true) = 2 ^ n - 1
 | 0 => rfl
 | n + 1 => by
  rw [List.replicate_succ',XU,Zls n]
  show (2 ^ n - 1) * 2 ^ 1 + 1 = _
  have:0 < 2 ^ n:=Nat.pow_pos (by omega)
  rw [Nat.pow_succ]
  omega
theorem Zwk:∀ (n a g:Nat),cgL n [] a g = some (a * 64 ^ n,g * 64 ^ n + (64 ^ n - 1))
 | 0,a,g => by simp [cgL]
 | n + 1,a,g => by
  unfold cgL
  rw [Zwk n]
  have:0 < 64 ^ n:=Nat.pow_pos (by omega)
  rw [Nat.pow_succ,Nat.mul_assoc,Nat.mul_comm 64,Nat.add_mul,Nat.mul_assoc,Nat.mul_comm 64]
  congr 2
  omega
def ZT4 (c n:Nat) (x:Option (Nat × Nat)):Nat × Nat × Int:=match x with
 | none => (0,0,2)
 | some (_,g) => ZDp g c n
theorem ZNB (k:Nat) (hk:300 < k) {l:List Int} (hl:ZP l = true) (hn:l.length < 4294967296) {c:Nat} (hc:2 ≤ c ∧ c ≤ 7):∀ (d m i:Nat) (D:List Bool),i + d = c → 1 ≤ i → i ≤ l.length → d < m → D.length + 6 * d = WE c →
  Zp (fun L2 => Zes k (Zva k) (ZcU k) L2) m ((i:Int),(c:Int),YN l,txt D) = some (Zsx (ZT4 c l.length (cgL d (l.drop i) (Qv D) (Qv D)))):=by
 have hr:=ZvK (c:=c) (by omega) (by omega)
 have hsz:=Zag l
 intro d
 induction d with
 | zero =>
  intro m i D hi h1 hil hm hD
  obtain ⟨m,rfl⟩:=Zk hm
  rw [Zg]
  simp only [Zes]
  rw [Ze (by omega),hsz,Ze (by simp only [Z8]; omega)]
  refine (Zjk k (by omega) (by rw [hsz]; omega) hc D (by omega)).trans ?_
  rw [hsz]
  unfold cgL
  rfl
 | succ d ih =>
  intro m i D hi h1 hil hm hD
  obtain ⟨m,rfl⟩:=Zk (show 0 < m by omega)
  rw [Zg]
  simp only [Zes]
  rw [Zb (by omega),hsz,Zw]
  by_cases he:i = l.length
  ·rw [Zb (by simp only [Z8]; omega),Zb (by simp only [Z8]; omega)]
   refine (ZE9 k (by omega) (by rw [hsz]; omega) hc (6 * (d + 1)) k D hD (by omega)).trans ?_
   rw [hsz,List.drop_eq_nil_of_le (by omega),Zwk,XU,Zls,List.length_replicate]
   rw [show 2 ^ (6 * (d + 1)) = 64 ^ (d + 1) from by rw [Nat.pow_mul]]
   rfl
  ·have hi2:i < l.length:=by omega
   obtain ⟨x,hx,hxe⟩:=WV hl hi2
   rw [Ze (by simp only [Z8]; omega),Zb (by simp only [Z8]; omega),QZ,Zy0 hl hi2,hxe,ZT (n:=(x:Int)) (by omega),Zo]
   have e1:((x:Nat):Int).fdiv 64 = ((x / 64:Nat):Int):=by rw [Int.fdiv_eq_ediv_of_nonneg _ (by omega)]; exact (Int.natCast_ediv _ _).symm
   have e2:((x:Nat):Int).tmod 64 = ((x % 64:Nat):Int):=by rw [Int.tmod_eq_emod_of_nonneg (by omega)]; exact (Int.natCast_emod _ _).symm
   rw [e1,e2,List.drop_eq_getElem_cons hi2,hxe]
   unfold cgL
   rw [QZ]
   by_cases h2:x / 64 = 2
   ·rw [Ze (by omega),if_pos h2,Zb (by simp only [Z8]; omega)]
    refine (Zc (Zo4 k (x % 64) 6 (by omega) (by omega) (by omega)) _).trans ?_
    simp only
    rw [Zb (by rw [YO,YO,ZE]; omega),ZqB,show IntKind.i64.wrap ((i:Int) + 1) = ((i + 1:Nat):Int) from by rw [ZT (by omega)]; omega]
    have:=ih m (i + 1) (D ++ Zm (x % 64) 6) (by omega) (by omega) (by omega) (by omega) (by rw [Yq,ZE]; omega)
    rw [XU,Zbg,ZE,show x % 64 % 2 ^ 6 = x % 64 from by omega] at this
    exact this
   ·rw [Zb (by omega),if_neg h2]
    rfl
end Go.Sh
namespace Go.Sh
open Go Go.Proofs
def ZBw (k:Nat) (L2:Int × Int × ByteArray × ByteArray → Option T92) (v0:Int) (v1:ByteArray):Option T92 :=
 bif v0 == (0:Int) then bif decide ((0:Int) ≤ (0:Int) ∧ (0:Int) < Int.ofNat v1.size) then some ((IntKind.i64.wrap (Int.ofNat (v1.data.toList.getD (0:Nat) 0).toNat),1,0,()),()) else none else bif v0 == (1:Int) then some ((0,0,2,()),()) else bif v0 == (8:Int) then some ((0,0,2,()),()) else
  bif decide ((0:Int) ≤ (0:Int) ∧ (0:Int) < Int.ofNat v1.size) then (ZiA k (IntKind.i64.wrap (Int.ofNat (v1.data.toList.getD (0:Nat) 0).toNat),8,())).bind fun y => bif decide (((0:Int) ≤ if (8:Int) < IntKind.i64.wrap (v0 + (1:Int)) then (8:Int) else IntKind.i64.wrap (v0 + (1:Int))) ∧ (if (8:Int) < IntKind.i64.wrap (v0 + (1:Int)) then (8:Int) else IntKind.i64.wrap (v0 + (1:Int))) ≤ Int.ofNat (ByteArray.size y.1) ∧ Int.ofNat (ByteArray.size y.1) ≤ Int.ofNat (ByteArray.size y.1)) then L2 ((1:Int),v0,v1,ByteArray.extract y.1 (if (8:Int) < IntKind.i64.wrap (v0 + (1:Int)) then (8:Int) else IntKind.i64.wrap (v0 + (1:Int))).toNat (Int.ofNat (ByteArray.size y.1)).toNat) else none else none
def ZSU (x:Int) (v0:Int):Bool:=IntKind.i64.wrap (Int.ofNat (BitVec.ofInt (64:Nat) (x.fdiv ((2:Int) ^ min (IntKind.i64.wrap ((7:Int) - v0)).toNat (64:Nat))) &&& BitVec.ofInt (64:Nat) (1:Int)).toNat) == (1:Int)
theorem Zer (k:Nat) (L2:Int × Int × ByteArray × ByteArray → Option T92) (L1:Int × ByteArray → Option T92) (v0:Int) (v1:ByteArray):Zjm k L2 L1 (v0,v1) =
  bif decide (v0 < (8:Int)) then bif decide ((0:Int) ≤ (0:Int) ∧ (0:Int) < Int.ofNat v1.size) then bif decide ((0:Int) ≤ IntKind.i64.wrap ((7:Int) - v0)) then bif ZSU (IntKind.i64.wrap (Int.ofNat (v1.data.toList.getD (0:Nat) 0).toNat)) v0 then L1 (IntKind.i64.wrap (v0 + (1:Int)),v1) else ZBw k L2 v0 v1 else none else none else ZBw k L2 v0 v1:=rfl
theorem Zwv:∀ (x:Fin 256) (j:Fin 8),j.val ≤ QQ x.val → ZSU (x.val:Int) (j.val:Int) = decide (j.val < QQ x.val):=by decide +kernel
theorem ZA6:∀ x:Fin 256,2 ≤ QQ x.val → QQ x.val ≤ 7 → (Zm x.val 8).drop (QQ x.val + 1) = Zm (x.val % 2 ^ (7 - QQ x.val)) (7 - QQ x.val):=by decide +kernel
theorem ZFA {c:Nat} (h:2 ≤ c ∧ c ≤ 7):7 - c + 6 * (c - 1) = WE c:=by
 obtain ⟨r2,r3,r4,r5,r6,r7⟩:=Zqm
 obtain rfl | rfl | rfl | rfl | rfl | rfl:c = 2 ∨ c = 3 ∨ c = 4 ∨ c = 5 ∨ c = 6 ∨ c = 7:=by omega
 all_goals omega
theorem ZGb:∀ (n:Nat) (xs:List Int) (a a' g g':Nat),cgL n xs a g = some (a',g') → n ≤ xs.length → a = g → a' = g'
 | 0,xs,a,a',g,g',h,_,he => by
  unfold cgL at h
  obtain ⟨rfl,rfl⟩:=Prod.mk.inj (Option.some.inj h)
  exact he
 | n + 1,[],a,a',g,g',h,hl,_ => by simp at hl
 | n + 1,x :: xs,a,a',g,g',h,hl,he => by
  unfold cgL at h
  split at h
  ·exact ZGb n xs _ _ _ _ h (by simpa using hl) (by rw [he])
  ·cases h
theorem ZJJ (k:Nat) (hk:400 < k) {l:List Int} (hl:ZP l = true) (hn:l.length < 4294967296):Ku k (YN l,()) = some (Zsx (Zat l)):=by
 show Zjl k (Zu9 k) _ = _
 simp only [Zjl]
 match l,hl,hn with
 | [],_,_ =>
  have e:((YN []).toList == (ByteArray.mk #[]).toList) = true:=by rw [Zzl]; exact QS rfl
  rw [e]
  rfl
 | x0 :: xs,hl,hn =>
  have hsz:=Zag (x0 :: xs)
  have hne:((YN (x0 :: xs)).toList == (ByteArray.mk #[]).toList) = false:=by
   rw [Zzl,QG]
   intro h
   rw [h] at hsz
   have h0:(ByteArray.mk #[]).size = 0:=rfl
   rw [h0] at hsz
   simp at hsz
  rw [hne]
  simp only [cond_false]
  obtain ⟨x,hx,hxe⟩:=WV hl (i:=0) (by simp)
  simp only [List.getElem_cons_zero] at hxe
  subst hxe
  have hg:=Zy0 hl (i:=0) (by simp)
  simp only [List.getElem_cons_zero] at hg
  have hlen:(YN ((x:Int) :: xs)).size = xs.length + 1:=by rw [hsz]; rfl
  have hones:=Zvy x
  -- QQ are counted
  have run:∀ (d j m:Nat),j + d = QQ x → d < m → Zp (fun L1 => Zjm k (Zpv k) L1) m ((j:Int),YN ((x:Int) :: xs)) = ZBw k (Zpv k) ((QQ x:Nat):Int) (YN ((x:Int) :: xs)):=by
   intro d
   induction d with
   | zero =>
    intro j m hj hm
    obtain ⟨m,rfl⟩:=Zk hm
    obtain rfl:j = QQ x:=by omega
    rw [Zg,Zer]
    by_cases h8:QQ x < 8
    ·have ht:=Zwv ⟨x,hx⟩ ⟨QQ x,h8⟩ (Nat.le_refl _)
     rw [Zb (by omega),hlen,Zb (by simp only [Z8]; omega),ZT (n:=(7:Int) - ((QQ x:Nat):Int)) (by omega),Zb (by omega),hg,ZT (n:=(x:Int)) (by omega)]
     simp only at ht
     rw [ht,QG (by omega)]
     rfl
    ·rw [Ze (by omega)]
   | succ d ih =>
    intro j m hj hm
    obtain ⟨m,rfl⟩:=Zk (show 0 < m by omega)
    rw [Zg,Zer]
    have ht:=Zwv ⟨x,hx⟩ ⟨j,by omega⟩ (show j ≤ QQ x by omega)
    simp only at ht
    rw [Zb (by omega),hlen,Zb (by simp only [Z8]; omega),ZT (n:=(7:Int) - (j:Int)) (by omega),Zb (by omega),hg,ZT (n:=(x:Int)) (by omega),ht,QS (by omega)]
    simp only [cond_true]
    rw [show IntKind.i64.wrap ((j:Int) + 1) = ((j + 1:Nat):Int) from by rw [ZT (by omega)]; omega]
    exact ih (j + 1) m (by omega) (by omega)
  refine (run (QQ x) 0 k (by omega) (by omega)).trans ?_
  unfold ZBw Zat
  simp only [QZ]
  rw [Zw]
  by_cases h0:QQ x = 0
  ·rw [Zb (by omega),if_pos h0,hlen,Zb (by simp only [Z8]; omega),hg,ZT (n:=(x:Int)) (by omega)]
   rfl
  rw [Ze (by omega),if_neg h0,Zw]
  by_cases h1:QQ x = 1
  ·rw [Zb (by omega),if_pos h1]
   rfl
  rw [Ze (by omega),if_neg h1,Zw]
  by_cases h7:7 < QQ x
  ·rw [Zb (by omega),if_pos h7]
   rfl
  rw [Ze (by omega),if_neg h7,hlen,Zb (by simp only [Z8]; omega),hg,ZT (n:=(x:Int)) (by omega)]
  refine (Zc (Zo4 k x 8 (by omega) (by omega) (by omega)) _).trans ?_
  simp only
  have hc:2 ≤ QQ x ∧ QQ x ≤ 7:=by omega
  have e1:(if (8:Int) < IntKind.i64.wrap (((QQ x:Nat):Int) + 1) then (8:Int) else IntKind.i64.wrap (((QQ x:Nat):Int) + 1)) = ((QQ x + 1:Nat):Int):=by
   rw [ZT (by omega),if_neg (by omega)]
   rfl
  have hfirst:=ZA6 ⟨x,hx⟩ hc.1 hc.2
  simp only at hfirst
  have e2:(txt (Zm x 8)).extract (QQ x + 1) 8 = txt (Zm (x % 2 ^ (7 - QQ x)) (7 - QQ x)):=by
   rw [Zy6,List.take_of_length_le (by rw [ZE]; omega),hfirst]
  rw [e1,YO,ZE,Zb (by simp only [Z8]; omega),QZ,show (Int.ofNat 8).toNat = 8 from rfl,e2]
  have hroom:=ZFA hc
  have htwo:=ZNB k (by omega) hl (by omega) hc (QQ x - 1) k 1 (Zm (x % 2 ^ (7 - QQ x)) (7 - QQ x)) (by omega) (by omega) (by simp) (by omega) (by rw [ZE]; exact hroom)
  refine htwo.trans ?_
  rw [Zbg,Nat.mod_mod,List.drop_one,List.tail_cons]
  refine congrArg (fun z => some (Zsx z)) ?_
  generalize QQ x = c at hc h0 h1 h7 ⊢
  generalize hq:cgL (c - 1) xs (x % 2 ^ (7 - c)) (x % 2 ^ (7 - c)) = q
  match q,hq with
  | none,_ => rfl
  | some (a,g),hq =>
   show ZDp g c (xs.length + 1) = (if g < 2 ^ WE (c - 1) then (0,0,2) else if xs.length + 1 < c then (0,0,10) else (a,c,0))
   unfold ZDp
   by_cases g1:g < 2 ^ WE (c - 1)
   ·rw [if_pos g1,if_pos g1]
   ·rw [if_neg g1,if_neg g1]
    by_cases g2:xs.length + 1 < c
    ·rw [if_pos g2,if_pos g2]
    ·rw [if_neg g2,if_neg g2,ZGb (c - 1) xs _ _ _ _ hq (by omega) rfl]
end Go.Sh
namespace Go.Sh
open Go Go.Proofs
theorem Zdb (b:List Int) (i j:Nat):(YN b).extract i j = YN ((b.take j).drop i):=by
 apply Zs4
 rw [ByteArray.data_extract]
 simp [List.extract]
 rw [List.drop_take,← List.map_drop,← List.map_take]
theorem ZCI {s:IS} (h:s.2 ≠ 0):hd2 s = s:=by unfold hd2; rw [Zbs h]; exact WD h
theorem ZNL {s:IS} (h:s.2 ≠ 0):(hd3 s).2 = s:=by unfold hd3; rw [Zbs h]; exact WD h
theorem Znp {s:IS} (h:s.2 ≠ 0):hd4 s = s:=by unfold hd4; rw [Zbs h]; exact WD h
theorem ZNM {c:Int} {s:IS} (h:s.2 ≠ 0):(hd5 c s).2 = s:=by unfold hd5; rw [Zbs h]; exact WD h
theorem ZNO {kind:Nat} {s:IS} (h:s.2 ≠ 0):hd6 kind s = (0,s):=if_neg h
theorem ZKe {b:List Int} {s:IS} (h:s.2 ≠ 0):Zhr b s = (0,s):=if_pos h
theorem ZjX {of:List Int → Nat} {b:List Int} {w:Nat} {s:IS} (h:s.2 ≠ 0):Zdc of b w s = s:=by unfold Zdc; rw [Zbs h]; exact if_pos h
theorem ZpJ {b:List Int} {kind mode num:Nat} {s:IS} (h:s.2 ≠ 0):(Zk2 b kind mode num s).2.2.2 = s:=by unfold Zk2; rw [ZNO h]; exact ZjX h
theorem ZeE {b:List Int} {kind mode:Nat} {s:IS} (h:s.2 ≠ 0):(ZqP b kind mode s).2.2.2 = s:=by unfold ZqP; rw [ZKe h]; exact ZpJ h
theorem ZpI {c:Int} {b:List Int} {kind:Nat} {s:IS} (h:s.2 ≠ 0):(ZyE c b kind s).2.2.2 = s:=by
 unfold ZyE
 have e:=ZNM (c:=c) h
 rw [e,Znp h]
 exact ZeE h
theorem ZpH {c:Int} {b:List Int} {kind:Nat} {s:IS} (h:s.2 ≠ 0):(Zju c b kind s).2.2.2 = s:=by
 unfold Zju
 rw [Znp h]
 exact ZpI h
theorem ZcX {w:Nat} {r:List Bool} (h:(Zr w r).2.1 = 0):w ≤ r.length ∧ (Zr w r).2.2 = r.drop w:=by
 unfold Zr at h ⊢
 split at h
 ·rename_i hw
  rw [if_pos hw]
  exact ⟨hw,rfl⟩
 ·simp at h
theorem Zqq:∀ (n:Nat) (r:List Bool),8 * n ≤ r.length → ZjQ n (r,0) = (r.drop (8 * n),0)
 | 0,r,_ => rfl
 | n + 1,r,h => by
  unfold ZjQ
  rw [gI0]
  have e:Zr 8 r = (Qv (r.take 8),0,r.drop 8):=if_pos (by omega)
  rw [e]
  have:=Zqq n (r.drop 8) (by rw [List.length_drop]; omega)
  refine this.trans ?_
  rw [List.drop_drop,show 8 + 8 * n = 8 * (n + 1) by omega]
theorem ZFg {l:List Int} (h:(Zat l).2.2 = 0):(Zat l).2.1 ≤ l.length:=by
 unfold Zat at h ⊢
 split at h
 ·simp at h
 ·rename_i x xs
  repeat' split at h
  all_goals first
   | (simp at h; done)
   | (rename_i h0; rw [if_pos h0]; simp; done)
   | skip
  rename_i h0 h1 h7 _ a g hcg h2 h3
  rw [if_neg h0,if_neg h1,if_neg h7]
  rw [if_neg h2,if_neg h3]
  simp only [List.length_cons]
  omega
abbrev T52:=(Int × (Int × List (List Int) × Unit) × Int × Int × Unit) × (ByteArray × Int × Unit) × Unit
def ZaG (e:Int) (st:ByteArray × Int × Unit):Option T52:=some ((0,((0:Int),[],()),0,e,()),(st.1,st.2.1,()),())
def ZSt (k:Nat) (a5:ByteArray) (kind mode num:Int) (st:ByteArray × Int × Unit):Option T52 :=
 (ZR k (st,IntKind.i64.wrap ((8:Int) * IntKind.i64.wrap (kind - (5:Int))),())).bind fun y => bif y.1.2.1 != (0:Int) then ZaG y.1.2.1 y.2.1 else bif decide ((512:Int) < IntKind.i64.wrap (y.1.1 + (1:Int))) then ZaG 1 y.2.1 else
 (ZR k ((y.2.1.1,y.2.1.2.1,()),8,())).bind fun y_5 => bif y_5.1.2.1 != (0:Int) then ZaG y_5.1.2.1 y_5.2.1 else
 bif decide ((0:Int) ≤ (0:Int) ∧ (0:Int) ≤ IntKind.i64.wrap (Int.tdiv y.2.1.2.1 (8:Int)) ∧ IntKind.i64.wrap (Int.tdiv y.2.1.2.1 (8:Int)) ≤ Int.ofNat a5.size) then
 (Kq k (a5.extract (0:Nat) (IntKind.i64.wrap (Int.tdiv y.2.1.2.1 (8:Int))).toNat,())).bind fun y_6 => bif y_5.1.1 != y_6.1 then ZaG 16 y_5.2.1 else
 bif mode == (1:Int) then some ((0,(num,[],()),IntKind.i64.wrap (y.1.1 + (1:Int)),0,()),(y_5.2.1.1,y_5.2.1.2.1,()),()) else some ((mode,(num,[],()),IntKind.i64.wrap (y.1.1 + (1:Int)),0,()),(y_5.2.1.1,y_5.2.1.2.1,()),())
 else none
def ZJ5 (k:Nat) (a5:ByteArray) (kind mode:Int) (st:ByteArray × Int × Unit):Option T52 :=
 (ZR k ((st.1,st.2.1,()),4,())).bind fun y_3 => bif y_3.1.2.1 != (0:Int) then ZaG y_3.1.2.1 y_3.2.1 else bif y_3.1.1 != (0:Int) then ZaG 2 y_3.2.1 else
 bif decide ((0:Int) ≤ (4:Int) ∧ (4:Int) ≤ Int.ofNat a5.size ∧ Int.ofNat a5.size ≤ Int.ofNat a5.size) then
 (Ku k (a5.extract (4:Nat) (Int.ofNat a5.size).toNat,())).bind fun y_4 => bif y_4.1.2.2.1 != (0:Int) then ZaG y_4.1.2.2.1 y_3.2.1 else bif decide ((2147483647:Int) < y_4.1.1) then ZaG 2 y_3.2.1 else
 ZSt k a5 kind mode y_4.1.1 (y_3.2.1.1,IntKind.i64.wrap (y_3.2.1.2.1 + IntKind.i64.wrap ((8:Int) * y_4.1.2.1)),())
 else none
def ZJ4 (k:Nat) (c:Int) (a5:ByteArray) (kind mode:Int) (st:ByteArray × Int × Unit):Option T52 :=
 bif c == (2:Int) then bif mode != (1:Int) then bif decide (mode < (8:Int)) then ZaG 2 st else bif decide ((10:Int) < mode) then ZaG 2 st else ZJ5 k a5 kind mode st else ZJ5 k a5 kind mode st else ZJ5 k a5 kind mode st
def ZNP (k:Nat) (c:Int) (a5:ByteArray) (kind:Int) (st:ByteArray × Int × Unit):Option T52 :=
 (ZR k ((st.1,st.2.1,()),4,())).bind fun y_1 => bif y_1.1.2.1 != (0:Int) then ZaG y_1.1.2.1 y_1.2.1 else bif y_1.1.1 != (0:Int) then ZaG 2 y_1.2.1 else
 (ZR k ((y_1.2.1.1,y_1.2.1.2.1,()),4,())).bind fun y_2 => bif y_2.1.2.1 != (0:Int) then ZaG y_2.1.2.1 y_2.2.1 else
 bif c == (1:Int) then bif y_2.1.1 != (0:Int) then ZaG 2 y_2.2.1 else ZJ4 k c a5 kind y_2.1.1 y_2.2.1 else ZJ4 k c a5 kind y_2.1.1 y_2.2.1
theorem ZE5 (k:Nat) (c d r:Int) (T:ByteArray) (p:Int) (a5:ByteArray):ZlK k ((c,d,r,()),(T,p,()),a5,()) =
  (ZR k ((T,p,()),15,())).bind fun y => bif y.1.2.1 != (0:Int) then ZaG y.1.2.1 y.2.1 else bif y.1.1 != (32764:Int) then ZaG 11 y.2.1 else
  (ZR k ((y.2.1.1,y.2.1.2.1,()),1,())).bind fun y => bif y.1.2.1 != (0:Int) then ZaG y.1.2.1 y.2.1 else bif y.1.1 != (0:Int) then ZaG 2 y.2.1 else
  (ZR k ((y.2.1.1,y.2.1.2.1,()),4,())).bind fun y => bif y.1.2.1 != (0:Int) then ZaG y.1.2.1 y.2.1 else
  bif y.1.1 != (6:Int) then bif y.1.1 != (7:Int) then ZaG 2 y.2.1 else ZNP k c a5 y.1.1 y.2.1 else ZNP k c a5 y.1.1 y.2.1:=rfl
def XC (o:Option T52) (b:List Int) (h:HdT):Prop :=
 (h.2.2.2.2 ≠ 0 → ∃ st:ByteArray × Int × Unit,o = some ((0,((0:Int),[],()),0,h.2.2.2.2,()),st,())) ∧
 (h.2.2.2.2 = 0 → o = some (((if h.1 = 1 then 0 else (h.1:Int)),((h.2.1:Int),[],()),(h.2.2.1:Int),0,()),dst b h.2.2.2.1,()))
theorem QP {o:Option T52} {b:List Int} {h:HdT} {e:Int} {st:ByteArray × Int × Unit} {r:List Bool} (ho:o = ZaG e st) (hh:h.2.2.2 = (r,e)) (he:e ≠ 0):XC o b h :=
 ⟨fun _ => ⟨(st.1,st.2.1,()),by rw [ho,hh]; rfl⟩,fun h0 => absurd (by rw [hh] at h0; exact h0) he⟩
theorem Xc {α:Type} {o:Option α} {a:α} {K:α → Option T52} {b:List Int} {x:HdT} (h:o = some a) (hK:XC (K a) b x):XC (o.bind K) b x:=by
 rw [Zc h]
 exact hK
theorem ZFl (k:Nat) {b:List Int} (hb:ZP b = true) (hn:b.length < 268435456) (hk:b.length + 1000 < k) {r:List Bool} (hr:Zj b r) {kind mode num:Nat} (hkind:kind = 6 ∨ kind = 7) :
  XC (ZSt k (YN b) kind mode num (dst b r)) b (Zk2 b kind mode num (r,0)):=by
 unfold ZSt Zk2 hd6
 have ew:IntKind.i64.wrap ((8:Int) * IntKind.i64.wrap ((kind:Int) - (5:Int))) = ((8 * (kind - 5):Nat):Int):=by rcases hkind with rfl | rfl <;> rfl
 have hw16:8 * (kind - 5) ≤ 16:=by omega
 rw [ew]
 generalize 8 * (kind - 5) = w at hw16
 have hf:=QH k (b:=b) (by omega) hr (w:=w) (by omega) (by omega)
 have hr1:=ZJ hr w
 have hl1:=WI w r
 have h16:2 ^ w ≤ 2 ^ 16:=Nat.pow_le_pow_right (by omega) hw16
 rw [if_pos rfl,gI0]
 generalize Zr w r = G at hf hr1 hl1 ⊢
 refine Xc hf ?_
 simp only
 rw [Zo]
 by_cases g1:G.2.1 = 0
 case neg =>
  rw [Zb g1,show mI (decide (G.1 + 1 ≤ 512)) (G.2.2,G.2.1) 1 = (G.2.2,G.2.1) from WD g1]
  exact QP (r:=G.2.2) rfl (ZjX g1) g1
 rw [Ze (by simpa using g1),g1,ZT (n:=((G.1:Nat):Int) + 1) (by omega)]
 by_cases g2:G.1 + 1 ≤ 512
 case neg =>
  rw [Zb (by omega),QG g2,YS]
  exact QP (r:=G.2.2) rfl (ZjX (of:=Zj9) (b:=b) (w:=8) (s:=(G.2.2,1)) (show (1:Int) ≠ 0 by decide)) (by decide)
 rw [Ze (by omega),QS g2,QK]
 have hf8:=QH k (b:=b) (by omega) hr1 (w:=8) (by omega) (by omega)
 have hl8:=hr1.len
 have hpos:Zz b G.2.2 ≤ 8 * b.length:=by unfold Zz; omega
 have eS:Zdc Zj9 b 8 (G.2.2,0) = if (Zr 8 G.2.2).2.1 ≠ 0 then ((Zr 8 G.2.2).2.2,(Zr 8 G.2.2).2.1) else mI ((Zr 8 G.2.2).1 == Zj9 (b.take (Zz b G.2.2 / 8))) ((Zr 8 G.2.2).2.2,(Zr 8 G.2.2).2.1) 16:=by unfold Zdc; rw [gI0]
 rw [eS]
 generalize Zr 8 G.2.2 = H at hf8 ⊢
 refine Xc hf8 ?_
 simp only
 rw [Zo]
 by_cases g3:H.2.1 = 0
 case neg =>
  rw [Zb g3,if_pos g3]
  exact QP (r:=H.2.2) rfl rfl g3
 rw [Ze (by simpa using g3),if_neg (by simpa using g3),g3]
 have e1:(((Zz b G.2.2:Nat):Int)).tdiv 8 = ((Zz b G.2.2 / 8:Nat):Int):=by rw [Int.tdiv_eq_ediv_of_nonneg (by omega)]; exact (Int.natCast_ediv _ _).symm
 rw [e1,ZT (n:=((Zz b G.2.2 / 8:Nat):Int)) (by omega),Zag,Zb (by simp only [Z8]; omega),QZ,Zdb,List.drop_zero]
 refine Xc (ZIC k (ZaJ hb _) (by rw [List.length_take]; omega) (by rw [List.length_take]; omega)) ?_
 simp only
 rw [Zo]
 by_cases g4:H.1 = Zj9 (b.take (Zz b G.2.2 / 8))
 case neg =>
  rw [Zb (by omega),show (H.1 == Zj9 (b.take (Zz b G.2.2 / 8))) = false by simpa using g4,YS]
  exact QP (r:=H.2.2) rfl rfl (by decide)
 rw [Ze (by omega),show (H.1 == Zj9 (b.take (Zz b G.2.2 / 8))) = true by simpa using g4,QK,Zw]
 refine ⟨fun h => absurd rfl h,fun _ => ?_⟩
 by_cases hm:mode = 1
 ·rw [Zb (by omega)]
  show _ = some (((if mode = 1 then (0:Int) else (mode:Int)),_,_,_,_),_,_)
  rw [if_pos hm]
  rfl
 ·rw [Ze (by omega)]
  show _ = some (((if mode = 1 then (0:Int) else (mode:Int)),_,_,_,_),_,_)
  rw [if_neg hm]
  rfl
theorem ZFk (k:Nat) {b:List Int} (hb:ZP b = true) (hn:b.length < 268435456) (hk:b.length + 1000 < k) {r:List Bool} (hr:Zj b r) (hp:Zz b r = 28) {kind mode:Nat} (hkind:kind = 6 ∨ kind = 7) :
  XC (ZJ5 k (YN b) kind mode (dst b r)) b (ZqP b kind mode (hd4 (r,0))):=by
 unfold ZJ5
 have hf:=QH k (b:=b) (by omega) hr (w:=4) (by omega) (by omega)
 have hr1:=ZJ hr 4
 have hok:=ZcX (w:=4) (r:=r)
 have e4:hd4 (r,0) = mI ((Zr 4 r).1 == 0) ((Zr 4 r).2.2,(Zr 4 r).2.1) 2:=by unfold hd4; rw [gI0]
 rw [e4]
 generalize Zr 4 r = G at hf hr1 hok ⊢
 refine Xc hf ?_
 simp only
 rw [Zo]
 by_cases g1:G.2.1 = 0
 case neg =>
  rw [Zb g1,show mI (G.1 == 0) (G.2.2,G.2.1) 2 = (G.2.2,G.2.1) from WD g1]
  exact QP (r:=G.2.2) rfl (ZeE g1) g1
 obtain ⟨hw,hd⟩:=hok g1
 have hl:=hr.len
 have hp32:Zz b G.2.2 = 32:=by rw [hd,QY hr hw,hp]
 have hl1:=hr1.len
 have hlen:G.2.2.length + 32 = 8 * b.length:=by unfold Zz at hp32; omega
 rw [Ze (by simpa using g1),g1,Zo]
 by_cases g2:G.1 = 0
 case neg =>
  rw [Zb (by omega),show (G.1 == 0) = false by simpa using g2,YS]
  exact QP (r:=G.2.2) rfl (ZeE (s:=(G.2.2,2)) (show (2:Int) ≠ 0 by decide)) (by decide)
 rw [Ze (by omega),show (G.1 == 0) = true by simpa using g2,QK]
 rw [Zag,Zb (by simp only [Z8]; omega),show (Int.ofNat b.length).toNat = b.length from rfl,Zdb,List.take_length]
 refine Xc (ZJJ k (by omega) (Zly hb 4) (by rw [List.length_drop]; omega)) ?_
 have eN:Zhr b (G.2.2,0) = ((Zat (b.drop 4)).1,mI (decide ((Zat (b.drop 4)).1 ≤ 2147483647)) (ZjQ (Zat (b.drop 4)).2.1 (G.2.2,(Zat (b.drop 4)).2.2)) 2):=by
  unfold Zhr
  rw [if_neg (by simp)]
  simp only
  rw [hp32]
 have hfit:=ZFg (l:=b.drop 4)
 unfold ZqP
 rw [eN]
 unfold Zsx
 rw [List.length_drop] at hfit
 generalize Zat (b.drop 4) = C at hfit ⊢
 simp only
 rw [Zo]
 by_cases g3:C.2.2 = 0
 case neg =>
  rw [Zb g3]
  have hsk:∀ n,ZjQ n (G.2.2,C.2.2) = (G.2.2,C.2.2):=by
   intro n
   induction n with
   | zero => rfl
   | succ n ih =>
    unfold ZjQ
    rw [Zbs g3]
    exact ih
  rw [hsk,show mI (decide (C.1 ≤ 2147483647)) (G.2.2,C.2.2) 2 = (G.2.2,C.2.2) from WD g3]
  exact QP (r:=G.2.2) rfl (ZpJ (s:=(G.2.2,C.2.2)) g3) g3
 have hfit:=hfit g3
 rw [Ze (by simpa using g3),g3,Zqq _ _ (by omega)]
 by_cases g4:C.1 ≤ 2147483647
 case neg =>
  rw [Zb (by omega),QG g4,YS]
  exact QP (r:=G.2.2.drop (8 * C.2.1)) rfl (ZpJ (s:=(G.2.2.drop (8 * C.2.1),2)) (show (2:Int) ≠ 0 by decide)) (by decide)
 rw [Ze (by omega),QS g4,QK]
 have e1:IntKind.i64.wrap (((Zz b G.2.2:Nat):Int) + IntKind.i64.wrap ((8:Int) * ((C.2.1:Nat):Int))) = ((Zz b (G.2.2.drop (8 * C.2.1)):Nat):Int):=by
  rw [QY hr1 (by omega),ZT (n:=(8:Int) * ((C.2.1:Nat):Int)) (by omega),ZT (by omega)]
  omega
 rw [e1]
 exact ZFl k hb hn hk (hr1.drop _) hkind
theorem Zsn (k:Nat) {b:List Int} (hb:ZP b = true) (hn:b.length < 268435456) (hk:b.length + 1000 < k) {r:List Bool} (hr:Zj b r) (hp:Zz b r = 20) {kind:Nat} (hkind:kind = 6 ∨ kind = 7) {c:Int} (hc:c = 1 ∨ c = 2) :
  XC (ZNP k c (YN b) kind (dst b r)) b (Zju c b kind (r,0)):=by
 unfold ZNP Zju
 have hf:=QH k (b:=b) (by omega) hr (w:=4) (by omega) (by omega)
 have hr1:=ZJ hr 4
 have hok:=ZcX (w:=4) (r:=r)
 have e4:hd4 (r,0) = mI ((Zr 4 r).1 == 0) ((Zr 4 r).2.2,(Zr 4 r).2.1) 2:=by unfold hd4; rw [gI0]
 rw [e4]
 generalize Zr 4 r = G at hf hr1 hok ⊢
 refine Xc hf ?_
 simp only
 rw [Zo]
 by_cases g1:G.2.1 = 0
 case neg =>
  rw [Zb g1,show mI (G.1 == 0) (G.2.2,G.2.1) 2 = (G.2.2,G.2.1) from WD g1]
  exact QP (r:=G.2.2) rfl (ZpI (s:=(G.2.2,G.2.1)) g1) g1
 obtain ⟨hw,hd⟩:=hok g1
 have hp24:Zz b G.2.2 = 24:=by rw [hd,QY hr hw,hp]
 rw [Ze (by simpa using g1),g1,Zo]
 by_cases g2:G.1 = 0
 case neg =>
  rw [Zb (by omega),show (G.1 == 0) = false by simpa using g2,YS]
  exact QP (r:=G.2.2) rfl (ZpI (s:=(G.2.2,2)) (show (2:Int) ≠ 0 by decide)) (by decide)
 rw [Ze (by omega),show (G.1 == 0) = true by simpa using g2,QK]
 have hf2:=QH k (b:=b) (by omega) hr1 (w:=4) (by omega) (by omega)
 have hr2:=ZJ hr1 4
 have hok2:=ZcX (w:=4) (r:=G.2.2)
 have hl2:=WI 4 G.2.2
 have e5:hd5 c (G.2.2,0) = ((Zr 4 G.2.2).1,mI (KU c (Zr 4 G.2.2).1) ((Zr 4 G.2.2).2.2,(Zr 4 G.2.2).2.1) 2):=by unfold hd5; rw [gI0]
 unfold ZyE
 rw [e5]
 generalize Zr 4 G.2.2 = H at hf2 hr2 hok2 hl2 ⊢
 refine Xc hf2 ?_
 simp only
 rw [Zo]
 by_cases g3:H.2.1 = 0
 case neg =>
  rw [Zb g3,show mI (KU c H.1) (H.2.2,H.2.1) 2 = (H.2.2,H.2.1) from WD g3,Znp (s:=(H.2.2,H.2.1)) g3]
  exact QP (r:=H.2.2) rfl (ZeE (s:=(H.2.2,H.2.1)) g3) g3
 obtain ⟨hw2,hd2⟩:=hok2 g3
 have hp28:Zz b H.2.2 = 28:=by rw [hd2,QY hr1 hw2,hp24]
 rw [Ze (by simpa using g3),g3]
 have no:XC (ZaG 2 (dst b H.2.2)) b (ZqP b kind H.1 (hd4 (H.2.2,2))):=by
  rw [Znp (s:=(H.2.2,2)) (show (2:Int) ≠ 0 by decide)]
  exact QP (r:=H.2.2) rfl (ZeE (s:=(H.2.2,2)) (show (2:Int) ≠ 0 by decide)) (by decide)
 have yes:=ZFk k hb hn hk hr2 hp28 (mode:=H.1) hkind
 unfold ZJ4 KU
 rw [Zw,Zw,Zo,Zo]
 rcases hc with rfl | rfl
 ·rw [Zb rfl,if_pos rfl]
  by_cases g4:H.1 = 0
  ·rw [Ze (by omega),Ze (by omega),show (H.1 == 0) = true by simpa using g4,QK]
   exact yes
  ·rw [Zb (by omega),show (H.1 == 0) = false by simpa using g4,YS]
   exact no
 ·rw [Ze (by omega),Zb rfl,if_neg (by omega)]
  by_cases g4:H.1 = 1
  ·rw [Ze (by omega),show ((H.1 == 1) || (decide (8 ≤ H.1) && decide (H.1 ≤ 10))) = true by simp [g4],QK]
   exact yes
  ·rw [Zb (by omega)]
   by_cases g5:H.1 < 8
   ·rw [Zb (by omega),show ((H.1 == 1) || (decide (8 ≤ H.1) && decide (H.1 ≤ 10))) = false by simp [g4]; omega,YS]
    exact no
   ·rw [Ze (by omega)]
    by_cases g6:10 < H.1
    ·rw [Zb (by omega),show ((H.1 == 1) || (decide (8 ≤ H.1) && decide (H.1 ≤ 10))) = false by simp [g4]; omega,YS]
     exact no
    ·rw [Ze (by omega),show ((H.1 == 1) || (decide (8 ≤ H.1) && decide (H.1 ≤ 10))) = true by simp [g4]; omega,QK]
     exact yes
theorem ZIQ (k:Nat) {b:List Int} (hb:ZP b = true) (hn:b.length < 268435456) (hk:b.length + 1000 < k) {c:Int} (hc:c = 1 ∨ c = 2) (d rr:Int) :
  ∀ r:List Bool,Zj b r → Zz b r = 0 → XC (ZlK k ((c,d,rr,()),dst b r,YN b,())) b (YR c b (r,0)):=by
 intro r hr hp
 rw [ZE5]
 unfold YR
 have bad:∀ s:IS,s.2 ≠ 0 → (Zju c b (hd3 s).1 (hd3 s).2).2.2.2 = s:=by
  intro s hs
  have e:=ZNL hs
  rw [e]
  exact ZpH hs
 have hf:=QH k (b:=b) (by omega) hr (w:=15) (by omega) (by omega)
 have hr1:=ZJ hr 15
 have hok:=ZcX (w:=15) (r:=r)
 have e1:hd1 (r,0) = mI ((Zr 15 r).1 == 32764) ((Zr 15 r).2.2,(Zr 15 r).2.1) 11:=by unfold hd1; rw [gI0]
 rw [e1]
 generalize Zr 15 r = G at hf hr1 hok ⊢
 refine Xc hf ?_
 simp only
 rw [Zo]
 by_cases g1:G.2.1 = 0
 case neg =>
  rw [Zb g1,show mI (G.1 == 32764) (G.2.2,G.2.1) 11 = (G.2.2,G.2.1) from WD g1,ZCI (s:=(G.2.2,G.2.1)) g1]
  exact QP (r:=G.2.2) rfl (bad (G.2.2,G.2.1) g1) g1
 obtain ⟨hw,hd⟩:=hok g1
 have hp1:Zz b G.2.2 = 15:=by rw [hd,QY hr hw,hp]
 rw [Ze (by simpa using g1),g1,Zo]
 by_cases g2:G.1 = 32764
 case neg =>
  rw [Zb (by omega),show (G.1 == 32764) = false by simpa using g2,YS,ZCI (s:=(G.2.2,11)) (show (11:Int) ≠ 0 by decide)]
  exact QP (r:=G.2.2) rfl (bad (G.2.2,11) (show (11:Int) ≠ 0 by decide)) (by decide)
 rw [Ze (by omega),show (G.1 == 32764) = true by simpa using g2,QK]
 have hf2:=QH k (b:=b) (by omega) hr1 (w:=1) (by omega) (by omega)
 have hr2:=ZJ hr1 1
 have hok2:=ZcX (w:=1) (r:=G.2.2)
 have e2:hd2 (G.2.2,0) = mI ((Zr 1 G.2.2).1 == 0) ((Zr 1 G.2.2).2.2,(Zr 1 G.2.2).2.1) 2:=by unfold hd2; rw [gI0]
 rw [e2]
 generalize Zr 1 G.2.2 = H at hf2 hr2 hok2 ⊢
 refine Xc hf2 ?_
 simp only
 rw [Zo]
 by_cases g3:H.2.1 = 0
 case neg =>
  rw [Zb g3,show mI (H.1 == 0) (H.2.2,H.2.1) 2 = (H.2.2,H.2.1) from WD g3]
  exact QP (r:=H.2.2) rfl (bad (H.2.2,H.2.1) g3) g3
 obtain ⟨hw2,hd2'⟩:=hok2 g3
 have hp2:Zz b H.2.2 = 16:=by rw [hd2',QY hr1 hw2,hp1]
 rw [Ze (by simpa using g3),g3,Zo]
 by_cases g4:H.1 = 0
 case neg =>
  rw [Zb (by omega),show (H.1 == 0) = false by simpa using g4,YS]
  exact QP (r:=H.2.2) rfl (bad (H.2.2,2) (show (2:Int) ≠ 0 by decide)) (by decide)
 rw [Ze (by omega),show (H.1 == 0) = true by simpa using g4,QK]
 have hf3:=QH k (b:=b) (by omega) hr2 (w:=4) (by omega) (by omega)
 have hr3:=ZJ hr2 4
 have hok3:=ZcX (w:=4) (r:=H.2.2)
 have e3:hd3 (H.2.2,0) = ((Zr 4 H.2.2).1,mI ((Zr 4 H.2.2).1 == 6 || (Zr 4 H.2.2).1 == 7) ((Zr 4 H.2.2).2.2,(Zr 4 H.2.2).2.1) 2):=by unfold hd3; rw [gI0]
 rw [e3]
 generalize Zr 4 H.2.2 = J at hf3 hr3 hok3 ⊢
 refine Xc hf3 ?_
 simp only
 rw [Zo]
 by_cases g5:J.2.1 = 0
 case neg =>
  rw [Zb g5,show mI (J.1 == 6 || J.1 == 7) (J.2.2,J.2.1) 2 = (J.2.2,J.2.1) from WD g5]
  exact QP (r:=J.2.2) rfl (ZpH (s:=(J.2.2,J.2.1)) g5) g5
 obtain ⟨hw3,hd3'⟩:=hok3 g5
 have hp3:Zz b J.2.2 = 20:=by rw [hd3',QY hr2 hw3,hp2]
 rw [Ze (by simpa using g5),g5,Zo,Zo]
 by_cases g6:J.1 = 6
 ·rw [Ze (by omega),show (J.1 == 6 || J.1 == 7) = true by simp [g6],QK]
  exact Zsn k hb hn hk hr3 hp3 (.inl g6) hc
 ·rw [Zb (by omega)]
  by_cases g7:J.1 = 7
  ·rw [Ze (by omega),show (J.1 == 6 || J.1 == 7) = true by simp [g7],QK]
   exact Zsn k hb hn hk hr3 hp3 (.inr g7) hc
  ·rw [Zb (by omega),show (J.1 == 6 || J.1 == 7) = false by simp [g6,g7],YS]
   exact QP (r:=J.2.2) rfl (ZpH (s:=(J.2.2,2)) (show (2:Int) ≠ 0 by decide)) (by decide)
theorem ZIR (k:Nat) {b:List Int} (hb:ZP b = true) (hn:b.length < 268435456) (hk:b.length + 1000 < k) {c:Int} (hc:c = 1 ∨ c = 2) (d rr:Int) :
  XC (ZlK k ((c,d,rr,()),dst b (Qe b),YN b,())) b (YR c b (Qe b,0)) :=
 ZIQ k hb hn hk hc d rr (Qe b) (ZjL b) (by unfold Zz; rw [Q9]; omega)
end Go.Sh
namespace Go.Sh
open Go Go.Proofs
theorem ZKH:Yu.read 4845873199050653696 = .number false 4503599627370496 1:=by decide
theorem ZJ8:Yu.read 14069245235905429504 = .number true 4503599627370496 1:=by decide
theorem Zsw {x y:Nat} {n:Int} {s:Bool} (hx:KQ x n) (hy:Yu.read y = .number s 4503599627370496 1):FloatKind.f64.format.order x y = some (compare n (if s then -18014398509481984 else 18014398509481984)):=by
 obtain ⟨t,m,i,h1,h2,_,h3⟩:=hx.num
 show (Yu.read x).order (Yu.read y) = _
 rw [h1,hy]
 unfold Ieee.Datum.order
 simp only
 have hmin:min i 1 = i:=by omega
 rw [hmin,h3 i (Int.le_refl _)]
 have e:Ieee.signed s 4503599627370496 (1 - i).toNat = (if s then -18014398509481984 else 18014398509481984) * 2 ^ (-1 - i).toNat:=by
  unfold Ieee.signed
  rw [Nat.shiftLeft_eq,show (1 - i).toNat = 2 + (-1 - i).toNat by omega,Nat.pow_add,← Nat.mul_assoc,Int.natCast_mul,Int.natCast_pow]
  cases s
  ·simp only [Bool.false_eq_true,if_false]
   rfl
  ·simp only [if_true]
   rw [← Int.neg_mul]
   rfl
 rw [e,ZlA (Int.pow_pos (by omega))]
theorem Zyu (k:Nat) {x:Nat} {v:Int} (hx:KQ x (2 * v)) (hv:Z6 v):Zse k (x,()) = some ((v,true,()),()):=by
 show Zjq k _ = _
 simp only [Zjq]
 unfold Z6 at hv
 rw [Zp4 hx hx]
 simp only [cond_false]
 rw [Zsw hx ZKH,Zsw hx ZJ8]
 have c1:(some (compare (2 * v) (if false = true then -18014398509481984 else 18014398509481984)) == some Ordering.gt) = false:=by
  rw [if_neg (by simp),Int.compare_eq_lt.2 (by omega)]
  rfl
 have c2:(some (compare (2 * v) (if true = true then -18014398509481984 else 18014398509481984)) == some Ordering.lt) = false:=by
  rw [if_pos rfl,Int.compare_eq_gt.2 (by omega)]
  rfl
 rw [c1,c2]
 simp only [cond_false]
 refine (Zc (K4 hx (by omega)) _).trans ?_
 rw [Zgm (ZeJ v (by omega)) hx]
 have:compare (2 * v) (2 * v) = Ordering.eq:=by simp
 rw [this]
 rfl
theorem Zrx (k:Nat) (x:Int):Zkx k (x,()) = some (QO x,()):=by
 show ZfG k _ = _
 simp only [ZfG]
 unfold QO
 by_cases h1 : -16777216 ≤ x
 ·rw [Zb h1]
  by_cases h2:x ≤ 16777216
  ·rw [QS h2,QS ⟨h1,h2⟩]
  ·rw [QG h2,QG (by omega)]
 ·rw [Ze h1,QG (by omega)]
theorem Zys (k:Nat) {L R:List Int} (h:L.length = R.length) (hn:L.length ≤ 8192) (hk:10000 < k):Zsd k ((L,R,()),()) = some (if (L.zip R).all (fun x => QO x.1 && QO x.2) = true then 0 else 12,()):=by
 show Zjo k (Zvg k) _ = _
 simp only [Zjo]
 have hzl:(L.zip R).length = L.length:=by rw [List.length_zip]; omega
 rw [Ze (by simp only [Z8]; omega)]
 have:=Xd (R:=Int × Unit) (step:=fun L1 => Zew k L1) (fun i => (Int.ofNat i,L,R)) (L.zip R) (fun x => QO x.1 && QO x.2) (some (12,())) (some (0,()))
  (fun L1 => by simp only [Zew]; rw [hzl,Ze (We _)])
  (fun L1 i hi => by
   simp only [Zew]
   have hi1:i < L.length:=by omega
   have hi2:i < R.length:=by omega
   rw [Zb (ltR hi1),Zb (Y2 hi1),ZO hi1]
   refine (Zc (Zrx k _) _).trans ?_
   rw [List.getElem_zip]
   simp only
   cases QO L[i] with
   | false => rfl
   | true =>
    simp only [Bool.not_true,cond_false,Bool.true_and]
    rw [Zb (Y2 hi2),ZO hi2]
    refine (Zc (Zrx k _) _).trans ?_
    simp only
    rw [QL hi1 (by omega)]
    cases QO R[i] <;> rfl) k (by omega)
 refine Eq.trans this ?_
 cases (L.zip R).all (fun x => QO x.1 && QO x.2) <;> rfl
theorem ZJT (k:Nat) {L R:List Int} (h:L.length = R.length) (hn:L.length ≤ 8192) (hk:10000 < k):Zyt k ((L,R,()),()) = some (Zci L R,()):=by
 show Zjp k (Zvi k) _ = _
 simp only [Zjp]
 have hzl:(L.zip R).length = L.length:=by rw [List.length_zip]; omega
 have:=ZI (A:=List (Nat × Nat)) (R:=List (Nat × Nat) × Unit) (step:=fun L1 => Zex k L1) (fun i a => (Int.ofNat i,L,R,a)) (L.zip R)
  (fun l' a => some (a ++ l'.map (fun x => (FloatKind.f64.nearest x.1,FloatKind.f64.nearest x.2)),())) (fun i a => a.length = i)
  (fun L1 a _ => by simp only [Zex]; rw [hzl,Ze (We _)]; simp)
  (fun L1 i hi a ha hL => by
   simp only [Zex]
   have hi1:i < L.length:=by omega
   have hi2:i < R.length:=by omega
   rw [Zb (ltR hi1),Zb (Y2 hi1),Zb (Y2 hi2),ZO hi1,ZO hi2,Zb (by simp only [List.length_singleton]; omega),QL hi1 (by omega)]
   refine (hL (a ++ [(FloatKind.f64.nearest L[i],FloatKind.f64.nearest R[i])]) (by simp [ha])).trans ?_
   rw [List.map_cons,List.append_assoc,List.getElem_zip]
   rfl)
  k 0 [] rfl (by omega) (Nat.zero_le _)
 rw [List.drop_zero] at this
 exact this
theorem ZKc {n:Int}:(IntKind.i64.wrap (n.tmod 2 + 2)).tmod 2 = n % 2:=by
 have h1:=Zqy n
 have h3:=Int.tmod_add_mul_tdiv n 2
 rw [ZT (by omega),Int.tmod_eq_emod_of_nonneg (by omega)]
 omega
theorem ZJP (k:Nat) {m:Int} (hm:Zgv m):Zyq k (m,()) = some (true,()):=by
 rcases hm with rfl | rfl | rfl | rfl <;> rfl
theorem ZI1 (k:Nat) {A B:List Int} {m:Int} (hm:Zgv m) (hn:A.length ≤ 600) (hk:10000 < k) (hA:∀ x ∈ A,Z1 x) (hB:∀ x ∈ B,Z1 x) :
  Zpb k (A,B,m,()) = some (((Qt m A B).1,(Qt m A B).2,()),()):=by
 show ZiP k (Zuw k) _ = _
 simp only [ZiP]
 refine (Zc (ZJP k hm) _).trans ?_
 simp only [Bool.not_true,cond_false]
 unfold Qt
 rw [Zo]
 by_cases hl:A.length = B.length
 case neg => rw [Zb (by simp only [Z8]; omega),if_pos hl]
 rw [Ze (by simp only [Z8]; omega),if_neg (by simpa using hl),Ze (by simp only [Z8]; omega)]
 have hzl:(A.zip B).length = A.length:=by rw [List.length_zip]; omega
 have hla:(KO m A B).length = A.length:=by unfold KO; rw [List.length_map,hzl]
 have hlb:(KP m A B).length = A.length:=by unfold KP; rw [List.length_map,hzl]
 have:=ZI (A:=List Int × List Int) (R:=(List (Nat × Nat) × Int × Unit) × Unit) (step:=fun L1 => YA k L1) (fun i a => (Int.ofNat i,A,B,m,a.1,a.2)) (A.zip B)
  (fun l' a => YA k (fun _ => none) (Int.ofNat A.length,A,B,m,a.1 ++ l'.map (fun x => tgL m x.1 x.2),a.2 ++ l'.map (fun x => tgR m x.1 x.2))) (fun i a => a.1.length = i ∧ a.2.length = i)
  (fun L1 a _ => by
   simp only [YA]
   rw [hzl,Ze (We _),Ze (We _)]
   simp)
  (fun L1 i hi a ha hL1 => by
   have hi1:i < A.length:=by omega
   have hi2:i < B.length:=by omega
   have b1:=hA A[i] (List.getElem_mem hi1)
   have b2:=hB B[i] (List.getElem_mem hi2)
   have hb1:=b1
   have hb2:=b2
   unfold Z1 at hb1 hb2
   have key:YA k L1 (Int.ofNat i,A,B,m,a.1,a.2) = L1 (Int.ofNat (i + 1),A,B,m,a.1 ++ [tgL m A[i] B[i]],a.2 ++ [tgR m A[i] B[i]]):=by
    simp only [YA]
    rw [Zb (ltR hi1),Zb (Y2 hi1),Zb (Y2 hi2),ZO hi1,ZO hi2,Ze (by omega),Ze (by omega),Ze (by omega),Ze (by omega)]
    rw [ZKc,ZT (n:=A[i] - B[i]) (by omega),ZT (n:=A[i] + B[i]) (by omega),ZT (n:=(2:Int) * A[i]) (by omega),ZT (n:=(2:Int) * A[i] + B[i] % 2) (by omega),ZT (n:=(2:Int) * A[i] + B[i] % 2 + B[i]) (by omega),ZT (n:=(2:Int) * A[i] + B[i] % 2 - B[i]) (by omega)]
    have c1:∀ v:Int,a.1.length + [v].length < 2147483648:=fun v => by simp only [List.length_singleton]; omega
    have c2:∀ v:Int,a.2.length + [v].length < 2147483648:=fun v => by simp only [List.length_singleton]; omega
    simp only [QS (c1 _),QS (c2 _),cond_true,QL hi1 (show A.length ≤ 4294967296 by omega)]
    rw [Zyf k (n:=(2:Int) * A[i] + B[i] % 2 + B[i]) (by omega),Zyf k (n:=(2:Int) * A[i] + B[i] % 2 - B[i]) (by omega)]
    simp only [Qr,QS (c1 _),QS (c2 _),cond_true]
    unfold tgL tgR
    rcases hm with rfl | rfl | rfl | rfl <;> rfl
   have q:=hL1 (a.1 ++ [tgL m A[i] B[i]],a.2 ++ [tgR m A[i] B[i]]) (by simp; omega)
   refine key.trans (q.trans ?_)
   simp only
   rw [List.map_cons,List.map_cons,List.append_assoc,List.append_assoc,List.getElem_zip]
   rfl)
  k 0 ([],[]) ⟨rfl,rfl⟩ (by omega) (Nat.zero_le _)
 rw [List.drop_zero] at this
 refine Eq.trans this ?_
 simp only [List.nil_append]
 show YA k (fun _ => none) (Int.ofNat A.length,A,B,m,KO m A B,KP m A B) = _
 simp only [YA]
 rw [Ze (We _)]
 refine (Zc (Zys k (by rw [hla,hlb]) (by omega) hk) _).trans ?_
 simp only
 by_cases hf:((KO m A B).zip (KP m A B)).all (fun x => QO x.1 && QO x.2) = true
 ·rw [if_pos hf,if_pos hf,Zo,Ze (by simp)]
  exact Zc (ZJT k (by rw [hla,hlb]) (by omega) hk) _
 ·rw [if_neg hf,if_neg hf]
  rfl
theorem ZI4 (k:Nat) {p:List (Nat × Nat)} {L R:List Int} (hp:PP p L R) (hk:10000 < k) (hn:p.length ≤ 8192):Zpc k (p,()) = some (((L,R,()),0,()),()):=by
 show ZiQ k (Zuy k) _ = _
 simp only [ZiQ]
 rw [Ze (by simp only [Z8]; omega)]
 have h1:=hp.hl
 have h2:=hp.hr
 have h24:∀ i (h:i < p.length),Z6 (L[i]'(hp.hl ▸ h)) ∧ Z6 (R[i]'(hp.hr ▸ h)):=fun i h => (hp.at_ i h).2.2
 suffices H:∀ (d i m:Nat),i + d = p.length → d < m → Zp (fun L1 => Zee k L1) m ((i:Int),p,L.take i,R.take i) = some (((L,R,()),0,()),()) from H p.length 0 k (by omega) (by omega)
 intro d
 induction d with
 | zero =>
  intro i m hi hm
  obtain ⟨m,rfl⟩:=Zk hm
  rw [Zg]
  simp only [Zee]
  rw [Ze (by simp only [Z8]; omega),List.take_of_length_le (by omega),List.take_of_length_le (by omega)]
  refine (Zc (Zys k (by omega) (by omega) hk) _).trans ?_
  have hall:(L.zip R).all (fun x => QO x.1 && QO x.2) = true:=by
   refine List.all_eq_true.2 fun x hx => ?_
   obtain ⟨i,hi,rfl⟩:=List.getElem_of_mem hx
   have hip:i < p.length:=by rw [List.length_zip] at hi; omega
   obtain ⟨a,b⟩:=h24 i hip
   rw [List.getElem_zip]
   unfold Z6 at a b
   unfold QO
   rw [Bool.and_eq_true,decide_eq_true_eq,decide_eq_true_eq]
   exact ⟨a,b⟩
  simp only
  rw [if_pos hall]
  rfl
 | succ d ih =>
  intro i m hi hm
  obtain ⟨m,rfl⟩:=Zk (show 0 < m by omega)
  rw [Zg]
  simp only [Zee]
  have hi2:i < p.length:=by omega
  obtain ⟨v1,v2,s1,s2⟩:=hp.at_ i hi2
  rw [Zb (by simp only [Z8]; omega),Zb (by simp only [Z8]; omega),QZ,Wt hi2]
  refine (Zc (Zyu k v1 s1) _).trans ?_
  rw [Zb (by simp only [Z8]; omega)]
  refine (Zc (Zyu k v2 s2) _).trans ?_
  simp only [Bool.not_true,cond_false]
  rw [Zb (by simp; omega),Zb (by simp; omega),show IntKind.i64.wrap ((i:Int) + 1) = ((i + 1:Nat):Int) from by rw [ZT (by omega)]; omega]
  have e1:L.take i ++ [L[i]'(by omega)] = L.take (i + 1):=by rw [List.take_add_one,List.getElem?_eq_getElem (by omega)]; rfl
  have e2:R.take i ++ [R[i]'(by omega)] = R.take (i + 1):=by rw [List.take_add_one,List.getElem?_eq_getElem (by omega)]; rfl
  rw [e1,e2]
  exact ih (i + 1) m (by omega) (by omega)
end Go.Sh
namespace Go.Sh
open Go Go.Proofs
def ZhV (e:Int):Option ZFS:=some ((((0:Int),[],()),0,e,()),())
def ZBB (k:Nat) (c d r num:Int) (out:List (List Int)) (p:Int):Option ZFS :=
 (Zic k ((c,d,r,()),(num,out,()),())).bind fun y_9 => bif y_9.1 != (0:Int) then ZhV y_9.1 else some (((num,out,()),IntKind.i64.wrap (IntKind.i64.wrap (Int.tdiv p (8:Int)) + (2:Int)),0,()),())
def ZBA (k:Nat) (c d r:Int) (a3:ByteArray) (mode num:Int) (A B:List Int) (st:ByteArray × Int × Unit):Option ZFS :=
 (Zo9 k ((st.1,st.2.1,()),())).bind fun y_4 => bif y_4.1 != (0:Int) then ZhV y_4.1 else (ZR k ((y_4.2.1.1,y_4.2.1.2.1,()),16,())).bind fun y_5 => bif y_5.1.2.1 != (0:Int) then ZhV y_5.1.2.1 else
 bif decide ((0:Int) ≤ (0:Int) ∧ (0:Int) ≤ IntKind.i64.wrap (Int.tdiv y_4.2.1.2.1 (8:Int)) ∧ IntKind.i64.wrap (Int.tdiv y_4.2.1.2.1 (8:Int)) ≤ Int.ofNat a3.size) then
  (Zo5 k (a3.extract (0:Nat) (IntKind.i64.wrap (Int.tdiv y_4.2.1.2.1 (8:Int))).toNat,())).bind fun y_6 => bif y_5.1.1 != y_6.1 then ZhV 16 else
  bif c == (2:Int) then (Zpb k (A,B,mode,())).bind fun y_7 => bif y_7.1.2.1 != (0:Int) then ZhV y_7.1.2.1 else (Zpc k (y_7.1.1,())).bind fun y_8 => ZBB k c d r num [y_8.1.1.1,y_8.1.1.2.1] y_4.2.1.2.1
  else ZBB k c d r num [A] y_4.2.1.2.1
 else none
theorem ZE0 (k:Nat) (c d r:Int) (a3:ByteArray):ZrT k ((c,d,r,()),a3,()) =
  (Zoe k ((c,d,r,()),())).bind fun y => bif !y.1 then ZhV 2 else bif decide (a3.size < (1099511627776:Nat)) then
  (ZrZ k (List.map (fun b => Int.ofNat b.toNat) a3.data.toList,())).bind fun y => (ZlK k ((c,d,r,()),(y.1,0,()),a3,())).bind fun y => bif y.1.2.2.2.1 != (0:Int) then ZhV y.1.2.2.2.1 else
  (Zr0 k (d,y.1.1,())).bind fun y_1 => (ZiM k ((y.2.1.1,y.2.1.2.1,()),y.1.2.2.1,y_1.1.1,())).bind fun y_2 => bif y_2.1.2.1 != (0:Int) then ZhV y_2.1.2.1 else
  bif c == (2:Int) then (ZiM k ((y_2.2.1.1,y_2.2.1.2.1,()),y.1.2.2.1,y_1.1.2.1,())).bind fun y_3 => bif y_3.1.2.1 != (0:Int) then ZhV y_3.1.2.1 else ZBA k c d r a3 y.1.1 y.1.2.1.1 y_2.1.1 y_3.1.1 y_3.2.1
  else ZBA k c d r a3 y.1.1 y.1.2.1.1 y_2.1.1 [] y_2.2.1
  else none:=rfl
theorem ZFI {b:List Int} (hb:ZP b = true):List.map (fun b => Int.ofNat b.toNat) (YN b).data.toList = b:=by
 have e:(YN b).data.toList = b.map (fun n => UInt8.ofNat n.toNat):=by simp
 rw [e,List.map_map]
 conv => rhs; rw [← List.map_id b]
 apply List.map_congr_left
 intro x hx
 have:=List.all_eq_true.1 hb x hx
 simp only [Bool.and_eq_true,decide_eq_true_eq] at this
 obtain ⟨v,rfl⟩:=Int.eq_ofNat_of_zero_le this.1
 show (((UInt8.ofNat ((v:Int)).toNat).toNat:Nat):Int) = _
 rw [QZ,UInt8.toNat_ofNat']
 show ((v % 2 ^ 8:Nat):Int) = (v:Int)
 omega
theorem ZnX (k:Nat) (hk:1000 < k) (c d r num:Int) {out:List (List Int)} (hs:Sm out) {pos p:Nat} (hp:pos < 1000000000) (he:pos / 8 = p / 8 + 2) :
  ZBB k c d r num out ((p:Nat):Int) = some (ZgL (ZvB c d r num pos out)):=by
 unfold ZBB ZvB
 refine (Zc (ZHg k hk c d r num hs) _).trans ?_
 simp only
 rw [Zo]
 by_cases h:Ya c d r num out = 0
 ·rw [Ze (by simpa using h),if_neg (by simpa using h)]
  have e1:(((p:Nat):Int)).tdiv 8 = ((p / 8:Nat):Int):=by rw [Int.tdiv_eq_ediv_of_nonneg (by omega)]; exact (Int.natCast_ediv _ _).symm
  rw [e1,ZT (n:=((p / 8:Nat):Int)) (by omega),ZT (by omega),he]
  rfl
 ·rw [Zb h,if_pos h]
  rfl
theorem ZzA (k:Nat) (hk:20000 < k) (c d r:Int) (hc:c = 1 ∨ c = 2) {b:List Int} (hb:ZP b = true) (hn:b.length ≤ 600) {mode num:Nat} (hm:KU c mode = true) {A B:List Int} {chs:List (List Int)} (h0:chs.getD 0 [] = A) (h1:c = 2 → chs.getD 1 [] = B) (h2:c = 1 → chs = [A])
  (hA:A.length ≤ 520 ∧ ∀ x ∈ A,Z1 x) (hB:B.length ≤ 520 ∧ ∀ x ∈ B,Z1 x) {rr:List Bool} (hr:Zj b rr) :
  ZBA k c d r (YN b) (if mode = 1 then 0 else (mode:Int)) (num:Int) A B (dst b rr) = some (ZgL (ZAR c d r b mode num chs rr)):=by
 unfold ZBA ZAR
 have hmd:c = 2 → Zgv (if mode = 1 then 0 else (mode:Int)):=by
  intro hc2
  unfold KU at hm
  rw [if_neg (by omega)] at hm
  simp only [Bool.or_eq_true,Bool.and_eq_true,decide_eq_true_eq,beq_iff_eq] at hm
  unfold Zgv
  split <;> omega
 generalize (if mode = 1 then 0 else (mode:Int)) = m at hmd ⊢
 refine (Zc (ZIW k (b:=b) (by omega) hr (by omega)) _).trans ?_
 have hr1:=Zv3 hr
 generalize alS rr = a at hr1 ⊢
 simp only
 rw [Zo]
 by_cases g1:a.1 = 0
 case neg =>
  rw [Zb g1,ZjX (s:=(a.2,a.1)) g1,if_pos g1]
  rfl
 rw [Ze (by simpa using g1),g1]
 have hf:=QH k (b:=b) (by omega) hr1 (w:=16) (by omega) (by omega)
 have hok:=ZcX (w:=16) (r:=a.2)
 have hl1:=hr1.len
 have hpos:Zz b a.2 ≤ 8 * b.length:=by unfold Zz; omega
 have eS:Zdc YQ b 16 (a.2,0) = if (Zr 16 a.2).2.1 ≠ 0 then ((Zr 16 a.2).2.2,(Zr 16 a.2).2.1) else mI ((Zr 16 a.2).1 == YQ (b.take (Zz b a.2 / 8))) ((Zr 16 a.2).2.2,(Zr 16 a.2).2.1) 16:=by unfold Zdc; rw [gI0]
 rw [eS]
 generalize Zr 16 a.2 = H at hf hok ⊢
 refine (Zc hf _).trans ?_
 simp only
 rw [Zo]
 by_cases g2:H.2.1 = 0
 case neg =>
  rw [Zb g2,if_pos (show H.2.1 ≠ 0 from g2)]
  show _ = some (ZgL (if H.2.1 ≠ 0 then _ else _))
  rw [if_pos g2]
  rfl
 obtain ⟨hw,hd⟩:=hok g2
 have hp2:Zz b H.2.2 = Zz b a.2 + 16:=by rw [hd,QY hr1 hw]
 have hne:¬ (H.2.1 ≠ 0):=by simpa using g2
 rw [Ze (by simpa using g2),if_neg hne,g2]
 have e1:(((Zz b a.2:Nat):Int)).tdiv 8 = ((Zz b a.2 / 8:Nat):Int):=by rw [Int.tdiv_eq_ediv_of_nonneg (by omega)]; exact (Int.natCast_ediv _ _).symm
 rw [e1,ZT (n:=((Zz b a.2 / 8:Nat):Int)) (by omega),Zag,Zb (by simp only [Z8]; omega),QZ,Zdb,List.drop_zero]
 refine (Zc (ZIE k (ZaJ hb _) (by rw [List.length_take]; omega) (by rw [List.length_take]; omega)) _).trans ?_
 rw [Zo]
 by_cases g3:H.1 = YQ (b.take (Zz b a.2 / 8))
 case neg =>
  rw [Zb (by omega),show (H.1 == YQ (b.take (Zz b a.2 / 8))) = false by simpa using g3,YS]
  rfl
 rw [Ze (by omega),show (H.1 == YQ (b.take (Zz b a.2 / 8))) = true by simpa using g3,QK]
 show _ = some (ZgL (if ((0:Int) ≠ 0) then _ else if 1 < c then Zp6 c d r num (Zz b H.2.2) m (chs.getD 0 []) (chs.getD 1 []) else ZvB c d r num (Zz b H.2.2) chs))
 rw [if_neg (by simp),Zw]
 rcases hc with rfl | rfl
 ·rw [Ze (by omega),if_neg (by omega),h2 rfl]
  refine ZnX k (by omega) _ d r num ⟨by simp,fun l hl => ?_⟩ (by omega) (by omega)
  rw [List.mem_singleton.1 hl]
  omega
 ·rw [Zb rfl,if_pos (by omega),h0,h1 rfl]
  unfold Zp6
  have hmm:=hmd rfl
  refine (Zc (ZI1 k hmm (by omega) (by omega) hA.2 hB.2) _).trans ?_
  simp only
  rw [Zo]
  by_cases g4:(Qt m A B).2 = 0
  case neg =>
   rw [Zb g4,if_pos g4]
   rfl
  rw [Ze (by simpa using g4),if_neg (by simpa using g4)]
  have hj:A.length = B.length ∧ ((KO m A B).zip (KP m A B)).all (fun x => QO x.1 && QO x.2) = true ∧ (Qt m A B).1 = Zci (KO m A B) (KP m A B):=by
   unfold Qt at g4 ⊢
   split at g4
   ·simp at g4
   ·rename_i hl
    split at g4
    ·rename_i ha
     rw [if_neg hl,if_pos ha]
     exact ⟨by simpa using hl,ha,rfl⟩
    ·simp at g4
  obtain ⟨hl,hall,hj⟩:=hj
  have hzl:(A.zip B).length = A.length:=by rw [List.length_zip]; omega
  have hla:(KO m A B).length = A.length:=by unfold KO; rw [List.length_map,hzl]
  have hlb:(KP m A B).length = A.length:=by unfold KP; rw [List.length_map,hzl]
  have hfar:∀ i (h:i < A.length),QO ((KO m A B)[i]'(by omega)) = true ∧ QO ((KP m A B)[i]'(by omega)) = true:=by
   intro i h
   have hmem:=List.getElem_mem (l:=(KO m A B).zip (KP m A B)) (n:=i) (by rw [List.length_zip]; omega)
   have:=List.all_eq_true.1 hall _ hmem
   rw [List.getElem_zip,Bool.and_eq_true] at this
   exact this
  have hpp:=ZpQ (L:=KO m A B) (R:=KP m A B) (by omega)
   (fun x hx => by
    obtain ⟨i,hi,rfl⟩:=List.getElem_of_mem hx
    exact Za3 (hfar i (by omega)).1)
   (fun x hx => by
    obtain ⟨i,hi,rfl⟩:=List.getElem_of_mem hx
    exact Za3 (hfar i (by omega)).2)
  rw [hj]
  refine (Zc (ZI4 k hpp (by omega) (by rw [hpp.hl]; omega)) _).trans ?_
  simp only
  refine ZnX k (by omega) _ d r num ⟨by simp,fun l hl' => ?_⟩ (by omega) (by omega)
  simp only [List.mem_cons,List.mem_singleton,List.not_mem_nil,or_false] at hl'
  rcases hl' with rfl | rfl <;> omega
end Go.Sh
namespace Go.Sh
open Go Go.Proofs
theorem Zwm {n:Nat} {d:Int} {ds:List Int} {r:List Bool} {acc:List (List Int)} (h:(Z3 n d.toNat r).2.1 = 0):Zg2 n (d :: ds) r acc = Zg2 n ds (Z3 n d.toNat r).2.2 (acc ++ [(Z3 n d.toNat r).1]):=if_neg (by simpa using h)
theorem Zwl {n:Nat} {d:Int} {ds:List Int} {r:List Bool} {acc:List (List Int)} (h:(Z3 n d.toNat r).2.1 ≠ 0):Zg2 n (d :: ds) r acc = ([],(Z3 n d.toNat r).2.1,(Z3 n d.toNat r).2.2):=if_pos h
theorem Zl0 {x:Int} {d:Nat} (hd:d ≤ 25) (h:W6 x d = true):Z1 x:=by
 unfold W6 at h
 unfold Z1
 split at h
 ·simp only [decide_eq_true_eq] at h; omega
 ·rw [decide_eq_true_eq,QC] at h
  have:2 ^ (d - 1) ≤ 2 ^ 24:=Nat.pow_le_pow_right (by omega) (by omega)
  generalize 2 ^ (d - 1) = Q at h this
  omega
theorem ZIh (k:Nat) (hk:60000 < k) (c d r:Int) {b:List Int} (hb:ZP b = true) (hn:b.length ≤ 600):ZrT k ((c,d,r,()),YN b,()) = some (ZgL (ZlW c d r b)):=by
 rw [ZE0]
 refine (Zc (ZwV k c d r) _).trans ?_
 unfold ZlW
 simp only
 cases hsh:KN c d r with
 | false => rfl
 | true =>
  have hs:=of_decide_eq_true hsh
  simp only [Bool.not_true,cond_false,Bool.true_eq_false,if_false]
  have hc:c = 1 ∨ c = 2:=by omega
  rw [Zag,Zb (by omega),ZFI hb]
  refine (Zc (ZIB k hb (by omega) (by omega)) _).trans ?_
  have hp:(((Zz b (Qe b):Nat):Int)) = 0:=by unfold Zz; rw [Q9]; omega
  have hhead:=ZIR k hb (by omega) (by omega) hc d r
  have ed:dst b (Qe b) = (txt (Qe b),0,()):=by unfold dst; rw [hp]
  rw [ed] at hhead
  have hmode:=ZpK (c:=c) (b:=b) (s:=(Qe b,0))
  have hrest:=ZAW c b (s:=(Qe b,0)) (ZjL b)
  generalize YR c b (Qe b,0) = h at hhead hmode hrest ⊢
  obtain ⟨mode,num,n,s⟩:=h
  simp only at hmode hrest
  unfold Zs1
  simp only
  by_cases h0:s.2 = 0
  case neg =>
   obtain ⟨st,hst⟩:=hhead.1 h0
   refine (Zc hst _).trans ?_
   simp only
   rw [Zo,Zb h0,if_pos h0]
   rfl
  have hst:=hhead.2 h0
  have hm:=hmode h0
  simp only at hst
  rw [if_neg (by simpa using h0)]
  refine (Zc hst _).trans ?_
  simp only
  rw [show ((0:Int) != 0) = false from rfl]
  simp only [cond_false]
  have hdep:Qj c d (mode:Int) = if c = 1 then [d] else [if (if mode = 1 then (0:Int) else (mode:Int)) = 9 then d + 1 else d,if (if mode = 1 then (0:Int) else (mode:Int)) = 8 ∨ (if mode = 1 then (0:Int) else (mode:Int)) = 10 then d + 1 else d]:=by
   rcases hc with rfl | rfl
   ·rfl
   ·unfold KU at hm
    rw [if_neg (by omega)] at hm
    simp only [Bool.or_eq_true,Bool.and_eq_true,decide_eq_true_eq,beq_iff_eq] at hm
    obtain rfl | rfl | rfl | rfl:mode = 1 ∨ mode = 8 ∨ mode = 9 ∨ mode = 10:=by omega
    all_goals rfl
  have hM1:c = 1 → (if mode = 1 then (0:Int) else (mode:Int)) = 0:=by
   intro h1
   unfold KU at hm
   rw [if_pos h1] at hm
   have:mode = 0:=by simpa using hm
   subst this
   rfl
  have hE:=fun (A B:List Int) (chs:List (List Int)) (h1:chs.getD 0 [] = A) (h2:c = 2 → chs.getD 1 [] = B) (h3:c = 1 → chs = [A]) (hA:A.length ≤ 520 ∧ ∀ x ∈ A,Z1 x) (hB:B.length ≤ 520 ∧ ∀ x ∈ B,Z1 x) (rr:List Bool) (hrr:Zj b rr) =>
   ZzA k (by omega) c d r hc hb hn (mode:=mode) (num:=num) hm h1 h2 h3 hA hB hrr
  generalize (if mode = 1 then (0:Int) else (mode:Int)) = M at hdep hM1 hE ⊢
  refine (Zc (ZID k d M (by omega)) _).trans ?_
  simp only
  have hb1:(if M = 9 then d + 1 else d) = d ∨ (if M = 9 then d + 1 else d) = d + 1:=by
   split
   ·exact .inr rfl
   ·exact .inl rfl
  have hb2:(if M = 8 ∨ M = 10 then d + 1 else d) = d ∨ (if M = 8 ∨ M = 10 then d + 1 else d) = d + 1:=by
   split
   ·exact .inr rfl
   ·exact .inl rfl
  have hd1:c = 1 → (if M = 9 then d + 1 else d) = d:=by
   intro h1
   rw [hM1 h1]
   rfl
  rw [hdep]
  generalize (if M = 9 then d + 1 else d) = d1 at hd1 hb1 ⊢
  generalize (if M = 8 ∨ M = 10 then d + 1 else d) = d2 at hb2 ⊢
  have n1:((d1.toNat:Nat):Int) = d1:=by omega
  have n2:((d2.toNat:Nat):Int) = d2:=by omega
  -- the first channel
  have hf1:=Zx2 k (b:=b) (by omega) (by omega) hrest n d1.toNat
  rw [n1] at hf1
  obtain ⟨L1,st1,ho1,hz1⟩:=hf1
  have hok1:=ZeX (n:=n) (d:=d1.toNat) (r:=s.1)
  have hr1:=Zbx hrest n d1.toNat
  have hds:∃ ds,(if c = 1 then [d] else [d1,d2]) = d1 :: ds ∧ (c = 1 → ds = []) ∧ (c = 2 → ds = [d2]):=by
   rcases hc with rfl | rfl
   ·exact ⟨[],by rw [if_pos rfl,hd1 rfl],fun _ => rfl,fun h => by omega⟩
   ·exact ⟨[d2],by rw [if_neg (by omega)],fun h => by omega,fun _ => rfl⟩
  obtain ⟨ds,hds,hds1,hds2⟩:=hds
  rw [hds]
  refine (Zc ho1 _).trans ?_
  simp only
  rw [Zo]
  by_cases g1:(Z3 n d1.toNat s.1).2.1 = 0
  case neg =>
   rw [Zb g1,Zwl g1,if_pos g1]
   rfl
  obtain ⟨rfl,rfl⟩:=hz1 g1
  obtain ⟨o1,o2,o3⟩:=hok1 g1
  rw [Ze (by simpa using g1),Zwm g1,List.nil_append,Zw]
  generalize Z3 n d1.toNat s.1 = X at hr1 o1 o3 ⊢
  have hA:X.1.length ≤ 520 ∧ ∀ x ∈ X.1,Z1 x:=⟨o1,fun x hx => Zl0 o2 (o3 x hx)⟩
  rcases hc with rfl | rfl
  ·rw [Ze (by omega),hds1 rfl]
   have:Zg2 n [] X.2.2 [X.1] = ([X.1],0,X.2.2):=rfl
   rw [this]
   exact hE X.1 [] [X.1] rfl (fun h => by omega) (fun _ => rfl) hA ⟨by simp,by simp⟩ X.2.2 hr1
  ·rw [Zb rfl,hds2 rfl]
   have hf2:=Zx2 k (b:=b) (by omega) (by omega) hr1 n d2.toNat
   rw [n2] at hf2
   obtain ⟨L2,st2,ho2,hz2⟩:=hf2
   have hok2:=ZeX (n:=n) (d:=d2.toNat) (r:=X.2.2)
   have hr2:=Zbx hr1 n d2.toNat
   refine (Zc ho2 _).trans ?_
   simp only
   rw [Zo]
   by_cases g2:(Z3 n d2.toNat X.2.2).2.1 = 0
   case neg =>
    rw [Zb g2,Zwl g2,if_pos g2]
    rfl
   obtain ⟨rfl,rfl⟩:=hz2 g2
   obtain ⟨p1,p2,p3⟩:=hok2 g2
   rw [Ze (by simpa using g2),Zwm g2]
   generalize Z3 n d2.toNat X.2.2 = Y at hr2 p1 p3 ⊢
   have:Zg2 n [] Y.2.2 ([X.1] ++ [Y.1]) = ([X.1,Y.1],0,Y.2.2):=rfl
   rw [this]
   exact hE X.1 Y.1 [X.1,Y.1] rfl (fun _ => rfl) (fun h => by omega) hA ⟨p1,fun x hx => Zl0 p2 (p3 x hx)⟩ Y.2.2 hr2
theorem ZI6 (k:Nat) {l:List Int} (hk:l.length < k) (hn:l.length < 4294967296):Zx3 k (l,l,()) = some (true,()):=by
 show ZiR k (ZuB k) _ = _
 simp only [ZiR]
 rw [Zo,Ze (by simp)]
 have:=Xd (R:=Bool × Unit) (step:=fun L1 => Zef k L1) (fun i => (Int.ofNat i,l,l)) l (fun _ => true) (some (false,())) (some (true,()))
  (fun L => by simp only [Zef]; rw [Ze (We _)])
  (fun L i hi => by
   simp only [Zef]
   rw [Zb (ltR hi),Zb (Y2 hi),Zb (Y2 hi),Zo,Ze (by simp),QL hi (by omega)]
   rfl) k hk
 refine Eq.trans this ?_
 have:l.all (fun _ => true) = true:=List.all_eq_true.2 fun _ _ => rfl
 rw [this]
 rfl
theorem ZIk (k:Nat) (hk:2000000 < k) (n:Int) {ch:List (List Int)} (hs:Sm ch):ZxE k ((n,ch,()),(n,ch,()),()) = some (true,()):=by
 show Zin k (Zt5 k) _ = _
 simp only [Zin]
 have hc:=hs.1
 rw [Zo,Ze (by simp),Zo,Ze (by simp)]
 have:=Xd (R:=Bool × Unit) (step:=fun L1 => ZdX k L1) (fun i => (Int.ofNat i,n,ch,n,ch)) ch (fun _ => true) (some (false,())) (some (true,()))
  (fun L => by simp only [ZdX]; rw [Ze (We _)])
  (fun L i hi => by
   have hl:=hs.2 ch[i] (List.getElem_mem hi)
   simp only [ZdX]
   rw [Zb (ltR hi),Zb (Y2 hi),Zb (Y2 hi),ZO hi]
   refine (Zc (ZI6 k (l:=ch[i]) (by omega) (by omega)) _).trans ?_
   simp only [Bool.not_true,cond_false]
   rw [QL hi (by omega)]
   rfl) k (by omega)
 refine Eq.trans this ?_
 have:ch.all (fun _ => true) = true:=List.all_eq_true.2 fun _ _ => rfl
 rw [this]
 rfl
end Go.Sh
namespace Go.Sh
open Go Go.Proofs
def SP (p A:List Bool):Prop:=p <+: A ∧ p.length < A.length
theorem SP.split {p A B:List Bool} (h:SP p (A ++ B)):SP p A ∨ ∃ q,p = A ++ q ∧ SP q B:=by
 obtain ⟨h1,h2⟩:=h
 by_cases hl:p.length < A.length
 ·exact .inl ⟨List.prefix_of_prefix_length_le h1 (List.prefix_append A B) (by omega),hl⟩
 ·right
  obtain ⟨t,ht⟩:=List.prefix_of_prefix_length_le (List.prefix_append A B) h1 (by omega)
  refine ⟨t,ht.symm,?_,?_⟩
  ·rw [← ht] at h1
   exact (List.prefix_append_right_inj A).1 h1
  ·rw [← ht] at h2
   rw [Yq,Yq] at h2
   omega
theorem SP.no {p:List Bool} (h:SP p []):False:=by have:=h.2; simp at this
end Go.Sh
namespace Go.Sh
open Go Go.Proofs
structure Made (c d r n:Int) (ch:List (List Int)) (mode num N:Nat) (ls:List (List Int)) (ds:List Int):Prop where
 hm:mode < 16
 hmb:KU c mode = true
 hnum:num < 2 ^ 31
 hn:n = (num:Int)
 h1:1 ≤ N
 h2:N ≤ 512
 els:ls = (Zbt ch).1
 eds:ds = Qj c d (mode:Int)
 emode:(Zbt ch).2 = (mode:Int)
 eN:(ch.headD []).length = N
 len:ls.length = ds.length
 all:∀ (i:Nat) (h1:i < ls.length) (h2:i < ds.length),ls[i].length = N ∧ (4 ≤ ds[i].toNat ∧ ds[i].toNat ≤ 25) ∧ ∀ x ∈ ls[i],W6 x ds[i].toNat = true
 bytes:(ZqF c d r n ch).1 = Qh (KI (YC mode num N ++ WK ls ds))
theorem Made.parts {c d r n:Int} {ch:List (List Int)} {mode num N:Nat} {ls:List (List Int)} {ds:List Int} (M:Made c d r n ch mode num N ls ds) :
  ∃ pad crc:Nat,pad < 8 ∧ crc < 2 ^ 16 ∧ ((WK ls ds).length + pad) % 8 = 0 ∧ (YC mode num N).length % 8 = 0 ∧ crc = YQ (Qh (YC mode num N ++ (WK ls ds ++ List.replicate pad false))) ∧
   KI (YC mode num N ++ WK ls ds) = YC mode num N ++ (WK ls ds ++ (List.replicate pad false ++ Zm crc 16)):=by
 have hh:(YC mode num N).length % 8 = 0:=by
  have:=ZlU mode num N
  unfold YC
  rw [Yq,ZE]
  omega
 refine ⟨Zcn (YC mode num N ++ WK ls ds).length,YQ (Qh (Y6 (YC mode num N ++ WK ls ds))),by unfold Zcn; omega,Zwr (Zht _),?_,hh,?_,?_⟩
 ·unfold Zcn
  rw [Yq]
  omega
 ·unfold Y6
  rw [List.append_assoc]
 ·unfold KI Y6
  simp only [List.append_assoc]
end Go.Sh
namespace Go.Sh
open Go Go.Proofs
theorem ZGa {b:List Int} (h:Ty.ok (.sl (.int .u8)) b):ZP b = true:=by
 refine List.all_eq_true.2 fun x hx => ?_
 have:IntKind.u8.min ≤ x ∧ x ≤ IntKind.u8.max:=h x hx
 have e1:IntKind.u8.min = 0:=rfl
 have e2:IntKind.u8.max = 255:=rfl
 rw [Bool.and_eq_true,decide_eq_true_eq,decide_eq_true_eq]
 omega
end Go.Sh
namespace Go.Sh
open Go Go.Proofs
theorem ZCS (c d r num:Int) (pos:Nat) (out:List (List Int)):Sm (ZvB c d r num pos out).1.2:=by
 unfold ZvB
 by_cases h:Ya c d r num out = 0
 ·rw [if_neg (by simpa using h)]
  obtain ⟨hs,_,hc,hl,_⟩:=Zg1 h
  exact ⟨by show out.length ≤ _; omega,fun l hl' => by have:=(hl l hl').2.2; omega⟩
 ·rw [if_pos h]
  exact ⟨by simp,by simp⟩
theorem ZjC (e:Int):Sm ((((0:Int),([]:List (List Int))),(0:Int),e):RdR).1.2:=⟨by simp,by simp⟩
theorem ZKl (c d r num:Int) (pos:Nat) (m:Int) (A B:List Int):Sm (Zp6 c d r num pos m A B).1.2:=by
 unfold Zp6
 by_cases h:(Qt m A B).2 = 0
 ·rw [if_neg (by simpa using h)]
  exact ZCS _ _ _ _ _ _
 ·rw [if_pos h]
  exact ZjC _
theorem ZKq (c d r:Int) (b:List Int):Sm (ZlW c d r b).1.2:=by
 unfold ZlW
 split
 ·exact ZjC _
 ·unfold Zs1
  split
  ·exact ZjC _
  ·split
   ·exact ZjC _
   ·unfold ZAR
    split
    ·exact ZjC _
    ·split
     ·exact ZKl _ _ _ _ _ _ _ _
     ·exact ZCS _ _ _ _ _ _
theorem ZNc (k:Nat) (hk:12000000 < k) (c d r:Int) {b:List Int} (hb:ZP b = true) (hn:b.length ≤ 1048576):f4_F k ((c,d,r,()),b,()) = some (true,()):=by
 show Zgg k _ = _
 simp only [Zgg]
 have h10:=ZwI k (by omega)
 refine (Zc h10 _).trans ?_
 simp only [Bool.not_true,cond_false]
 by_cases h6:600 < b.length
 ·rw [Zb (by simp only [Z8]; omega)]
  exact Zc h10 _
 rw [Ze (by simp only [Z8]; omega)]
 refine (Zc (ZxB k c d r hb (by omega) (by omega)) _).trans ?_
 refine (Zc (ZIh k (by omega) c d r hb (by omega)) _).trans ?_
 have hs:=ZKq c d r b
 generalize ZlW c d r b = R at hs
 obtain ⟨⟨n,ch⟩,u,e⟩:=R
 have h21:ZxF k ((n,ch,()),()) = some ((n,ch,()),()):=rfl
 refine (Zc h21 _).trans ?_
 refine (Zc (ZIk k (by omega) n hs) _).trans ?_
 show (bif true then bif u == u then some (e == e,()) else some (false,()) else some (false,())) = _
 rw [Zw,Zw,QS rfl,QS rfl]
 rfl
theorem reads_plain:∀ x:Kd.dens (W5 [shapeT,.sl (.int .u8)]),ZCR [shapeT,.sl (.int .u8)] x → ZhN [shapeT,.sl (.int .u8)] x ≤ 1048576 → ∃ k u,f4_F k x = some (true,u):=by
 rintro ⟨⟨c,d,r,⟨⟩⟩,b,⟨⟩⟩ ho hb
 by_cases hl:b.length ≤ 1048576
 ·exact ⟨13000000,(),ZNc 13000000 (by omega) c d r (ZGa ho.2.1) hl⟩
 ·refine ⟨13000000,(),?_⟩
  show Zgg 13000000 _ = _
  simp only [Zgg]
  have h10:=ZwI 13000000 (by omega)
  refine (Zc h10 _).trans ?_
  simp only [Bool.not_true,cond_false]
  rw [Zb (by simp only [Z8]; omega)]
  exact Zc h10 _
end Go.Sh
