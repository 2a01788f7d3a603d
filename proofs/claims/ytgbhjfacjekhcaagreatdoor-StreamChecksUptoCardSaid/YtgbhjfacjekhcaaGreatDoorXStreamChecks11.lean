/-
  What the row needs, part 11.
-/
import Derived.Test.YtgbhjfacjekhcaaGreatDoorXStreamChecks10
import Derived.ChangeArms
import Derived.ChangeShapes
import Derived.WideShapes
import Derived.ReadAgain
import Derived.Below
import Derived.ChangeSame
import Derived.RowKit
set_option linter.unusedSimpArgs false
set_option linter.unusedVariables false
set_option linter.unusedSectionVars false
namespace Go.Sh
open Go Go.RowKit Go.WideShapes Go.ChangeShapes
def Zt8 (P:Program) (g:TypeId → Ty → Bool):Nat → List Field → Ty → Bool
 | _,[],.unit => true
 | off,f :: l,.pair a b => Nat.beq f.offset off && g f.type a && Nat.beq (P.cellsOf f.type) a.size && Zt8 P g (off + a.size) l b
 | _,_,_ => false
def ZaU (P:Program):Nat → TypeId → Ty → Bool
 | 0,_,_ => false
 | n + 1,T,t => match P.underlying T,t with
  | some .bool,.bool => true
  | some (.int k),.int k' => decide (k = k')
  | some .string,.str => true
  | some (.slice e),.sl t => ZaU P n e t && Nat.beq (P.cellsOf e) t.size && Nat.ble 1 t.size
  | some (.struct fs),.pair a b => Zt8 P (ZaU P n) 0 fs.toList (.pair a b) && Nat.beq (P.cellsOf T) (Ty.size (.pair a b))
  | some (.struct fs),.unit => Zt8 P (ZaU P n) 0 fs.toList .unit && Nat.beq (P.cellsOf T) 0
  | _,_ => false
def Ty.bulk:(t:Ty) → t.den → Nat
 | .str,s => s.size + 1
 | .sl t,xs => (xs.map t.bulk).sum + 1
 | .pair a b,x => a.bulk x.1 + b.bulk x.2
 | .unit,_ => 0
 | .bool,_ => 1
 | .int _,_ => 1
 | .fl _,_ => 1
 | .cx _,_ => 1
 | .raw,_ => 1
def Ty.ok:(t:Ty) → t.den → Prop
 | .int k,n => k.min ≤ n ∧ n ≤ k.max
 | .sl t,xs => ∀ x ∈ xs,t.ok x
 | .pair a b,x => a.ok x.1 ∧ b.ok x.2
 | .bool,_ => True
 | .str,_ => True
 | .fl _,_ => True
 | .cx _,_ => True
 | .raw,_ => True
 | .unit,_ => True
mutual
def bulkD {H:Type}:DataW H → Nat
 | .lit (.string bytes) => bytes.length + 1
 | .lit _ => 1
 | .nil => 1
 | .ptr d => bulkD d + 1
 | .slice elems spare => bulkDs elems + bulkDs spare + 1
 | .agg parts => bulkDs parts + 1
 | .iface _ d => bulkD d + 1
 | .map entries => bulkEs entries + 1
 | .held _ => 1
def bulkDs {H:Type}:List (DataW H) → Nat
 | [] => 0
 | d :: r => bulkD d + bulkDs r
def bulkEs {H:Type}:List (Lit × DataW H) → Nat
 | [] => 0
 | x :: r => bulkE x + bulkEs r
def bulkE {H:Type}:Lit × DataW H → Nat
 | (.string bytes,d) => bytes.length + bulkD d + 1
 | (_,d) => bulkD d + 1
end
def whole (w:World) (b:Nat):Nat:=match w.heap[b]? with
 | some (.cells c _ _) => c.size
 | _ => 0
theorem Zuy {w:World} {b o:Nat} {v:Value} (h:w.cell? ⟨b,o,none⟩ = some v):o < whole w b:=by
 unfold World.cell? at h
 unfold whole
 split at h
 ·rename_i c _ _ hb
  simp only at hb
  rw [hb]
  simp only [Option.isSome_none,Bool.false_eq_true,if_false] at h
  exact (Array.getElem?_eq_some_iff.1 h).1
 ·cases h
theorem ZGk (w:World):∀ b,w.heap.size ≤ b → whole w b = 0:=by
 intro b hb
 unfold whole
 rw [Array.getElem?_eq_none hb]
theorem cells?_at {w:World} {base n:Nat} {a:Addr} {cs:List Value} (h:w.cells? base a n = some cs):cs.length = n ∧ ∀ i v,cs[i]? = some v → w.cell? (a.add i) = some v:=by
 unfold World.cells? at h
 split at h
 ·have hl:=mapM_some_length h
  simp only [List.length_range] at hl
  refine ⟨hl,fun i v hi => ?_⟩
  have hlt:i < n:=by have:=(List.getElem?_eq_some_iff.1 hi).1; omega
  have:=mapM_some_get h i i (by simp [hlt])
  rw [this,hi]
 ·cases h
section
variable {H:Type} {enc:TypeId × Value → H} {P:Program} {w:World} {base:Nat} {spare:Nat → Bool} {held:Bool}
theorem Zov {n n':Nat} (ih:∀ (T:TypeId) (t:Ty) (cs:List Value) (x:DataW H × List MemPlace),ZaU P n T t = true → DataW.trod enc P w base spare held n' T cs = some x → ∃ y,Rt w (whole w) t y cs ∧ t.ok y ∧ t.bulk y ≤ bulkD x.1) :
  ∀ (l:List Field) (t:Ty) (off:Nat) (cs:List Value) (xs:List (DataW H × List MemPlace)),Zt8 P (ZaU P n) off l t = true → cs.length = off + t.size →
   (∀ (i:Nat) (f:Field),l[i]? = some f → DataW.trod enc P w base spare held n' f.type ((cs.drop f.offset).take (P.cellsOf f.type)) = xs[i]?) → xs.length = l.length →
   ∃ y,Rt w (whole w) t y (cs.drop off) ∧ t.ok y ∧ t.bulk y ≤ bulkDs (xs.map (·.1))
 | [],t,off,cs,xs,h,hl,hx,hn => by
  match t,h with
  | .unit,h =>
   refine ⟨(),?_,trivial,Nat.zero_le _⟩
   simp only [Rt,List.drop_eq_nil_iff]
   simp [Ty.size] at hl; omega
 | f :: l,t,off,cs,xs,h,hl,hx,hn => by
  match t,h with
  | .pair a b,h =>
   simp only [Zt8,Bool.and_eq_true] at h
   obtain ⟨⟨⟨h1,h2⟩,h3⟩,h4⟩:=h
   match xs,hn with
   | x :: xs,hn =>
    have h0:=hx 0 f rfl
    rw [beq_eq h1,beq_eq h3] at h0
    simp only [List.getElem?_cons_zero] at h0
    obtain ⟨y,e1,e2,e3⟩:=ih f.type a _ x h2 h0
    simp only [Ty.size] at hl
    obtain ⟨z,g1,g2,g3⟩:=Zov ih l b (off + a.size) cs xs h4 (by omega) (fun i f' hf' => by simpa using hx (i + 1) f' (by simpa using hf')) (by simpa using hn)
    refine ⟨(y,z),?_,⟨e2,g2⟩,?_⟩
    ·simp only [Rt]
     refine ⟨_,_,?_,e1,g1⟩
     rw [← List.drop_drop,List.take_append_drop]
    ·simp only [Ty.bulk,List.map_cons,bulkDs]; omega
theorem Zds:∀ (n m:Nat) (T:TypeId) (t:Ty) (cs:List Value) (x:DataW H × List MemPlace),ZaU P m T t = true → DataW.trod enc P w base spare held n T cs = some x →
  ∃ y,Rt w (whole w) t y cs ∧ t.ok y ∧ t.bulk y ≤ bulkD x.1
 | 0,_,_,_,_,_,_,h => by simp [DataW.trod] at h
 | n + 1,0,_,_,_,_,hf,_ => by simp [ZaU] at hf
 | n + 1,m + 1,T,t,cs,x,hf,h => by
  unfold ZaU at hf
  split at hf
  ·rename_i hu
   obtain ⟨b,rfl,rfl⟩:=DataW.trod_bool hu h
   exact ⟨b,rfl,trivial,Nat.le_refl _⟩
  ·rename_i k k' hu
   obtain rfl:k = k':=of_decide_eq_true hf
   obtain ⟨v,rfl,rfl,hw⟩:=DataW.trod_int hu h
   refine ⟨v,rfl,?_,Nat.le_refl _⟩
   simpa [Ty.ok,Lit.wf] using hw
  ·rename_i hu
   obtain ⟨s,rfl,rfl,_⟩:=DataW.trod_string hu h
   refine ⟨s,rfl,trivial,?_⟩
   simp only [Ty.bulk,bulkD,Array.length_toList]
   exact Nat.le_refl _
  ·rename_i e t hu
   simp only [Bool.and_eq_true] at hf
   obtain ⟨⟨hf,hsz⟩,hpos⟩:=hf
   have hsz:=beq_eq hsz
   have hpos:1 ≤ t.size:=Nat.le_of_ble_eq_true hpos
   rcases DataW.trod_slice hu h with ⟨rfl,rfl⟩ | ⟨a,len,cap,elems,rest,n',hn',rfl,rfl,hb,hlc,_,hlen,hel,_⟩
   ·refine ⟨[],?_,(by simp [Ty.ok]:Ty.ok (.sl t) []),(by simp [Ty.bulk,bulkD])⟩
    simp only [Rt]
    exact ⟨none,0,0,rfl,rfl,Nat.le_refl _,.inl trivial⟩
   ·obtain rfl:n' = n:=by omega
    have each:∀ i (hi:i < elems.length),∃ cs',w.cells? base (a.add (i * P.cellsOf e)) (P.cellsOf e) = some cs' ∧ ∃ y,Rt w (whole w) t y cs' ∧ t.ok y ∧ t.bulk y ≤ bulkD elems[i].1:=by
     intro i hi
     have h1:=hel i (by omega)
     rw [List.getElem?_eq_getElem hi] at h1
     obtain ⟨cs',h2,h3⟩:=Option.bind_eq_some_iff.1 h1
     exact ⟨cs',h2,Zds n' m e t cs' _ hf h3⟩
    -- the list
    have all:∀ (l:List (DataW H × List MemPlace)),(∀ i (hi:i < l.length),∃ y,(∃ cs',w.cells? base (a.add ((elems.length - l.length + i) * P.cellsOf e)) (P.cellsOf e) = some cs' ∧ Rt w (whole w) t y cs') ∧ t.ok y ∧ t.bulk y ≤ bulkD l[i].1) →
      l.length ≤ elems.length → ∃ ys:List t.den,ys.length = l.length ∧ (∀ y ∈ ys,t.ok y) ∧ (ys.map t.bulk).sum ≤ bulkDs (l.map (·.1)) ∧
       ∀ i (hi:i < ys.length),∃ cs',w.cells? base (a.add ((elems.length - l.length + i) * P.cellsOf e)) (P.cellsOf e) = some cs' ∧ Rt w (whole w) t ys[i] cs':=by
     intro l
     induction l with
     | nil => intro _ _; exact ⟨[],rfl,by simp,by simp [bulkDs],fun i hi => by simp at hi⟩
     | cons p l ih =>
      intro hp hle
      simp only [List.length_cons] at hle
      obtain ⟨y,⟨cs',c1,c2⟩,y1,y2⟩:=hp 0 (by simp)
      obtain ⟨ys,k1,k2,k3,k4⟩:=ih (fun i hi => by
       obtain ⟨y,⟨cs',c1,c2⟩,y1,y2⟩:=hp (i + 1) (by simpa using hi)
       refine ⟨y,⟨cs',?_,c2⟩,y1,by simpa using y2⟩
       rw [← c1]; congr 3; simp only [List.length_cons]; omega) (by omega)
      refine ⟨y :: ys,by simp [k1],?_,?_,?_⟩
      ·intro z hz
       rcases List.mem_cons.1 hz with rfl | hz
       ·exact y1
       ·exact k2 z hz
      ·simp only [List.map_cons,List.sum_cons,bulkDs]
       simp only [List.getElem_cons_zero] at y2
       omega
      ·intro i hi
       cases i with
       | zero => exact ⟨cs',c1,c2⟩
       | succ i =>
        obtain ⟨cs'',d1,d2⟩:=k4 i (by simpa using hi)
        refine ⟨cs'',?_,by simpa using d2⟩
        rw [← d1]; congr 3; simp only [List.length_cons]; omega
    obtain ⟨ys,k1,k2,k3,k4⟩:=all elems (fun i hi => by
     obtain ⟨cs',c1,y,c2,c3,c4⟩:=each i hi
     exact ⟨y,⟨cs',by simpa using c1,c2⟩,c3,c4⟩) (Nat.le_refl _)
    simp only [Nat.sub_self,Nat.zero_add] at k4
    refine ⟨ys,?_,k2,?_⟩
    ·simp only [Rt]
     refine ⟨some a,len,cap,rfl,by omega,hlc,?_⟩
     by_cases hnil:ys = []
     ·exact .inl hnil
     ·right
      have h0:0 < ys.length:=List.length_pos_iff.2 hnil
      obtain ⟨c0,z1,z2⟩:=k4 0 h0
      obtain ⟨zl,zc⟩:=cells?_at z1
      obtain ⟨v0,hv0⟩:∃ v0,c0[0]? = some v0:=⟨c0[0]'(by omega),List.getElem?_eq_getElem _⟩
      have hs:=zc 0 v0 hv0
      simp only [Nat.zero_mul,Addr.add,if_true] at hs
      obtain ⟨b,off,spot⟩:=a
      have hspot:spot = none:=by
       cases spot with
       | none => rfl
       | some s =>
        unfold World.cell? at hs
        split at hs
        ·simp at hs
        ·cases hs
      subst hspot
      refine ⟨b,off,rfl,fun i hi => ?_⟩
      obtain ⟨cs',d1,d2⟩:=k4 i hi
      refine ⟨cs',d2,fun j v hj => ?_⟩
      obtain ⟨_,zc⟩:=cells?_at d1
      have hc:=zc j v hj
      have e:((⟨b,off,none⟩:Addr).add (i * P.cellsOf e)).add j = ⟨b,off + i * t.size + j,none⟩:=by
       rw [hsz]
       unfold Addr.add
       split <;> split <;> simp_all <;> omega
      rw [e] at hc
      exact ⟨hc,Zuy hc⟩
    ·simp only [Ty.bulk,bulkD]
     omega
  ·rename_i fs a b hu
   simp only [Bool.and_eq_true] at hf
   obtain ⟨hf,hsz⟩:=hf
   obtain ⟨xs,n',hn',rfl,hl,hxs,hget⟩:=DataW.trod_struct hu h
   obtain rfl:n' = n:=by omega
   obtain ⟨y,e1,e2,e3⟩:=Zov (n:=m) (n':=n') (fun T t cs x h1 h2 => Zds n' m T t cs x h1 h2) fs.toList (.pair a b) 0 cs xs hf (by rw [hl,beq_eq hsz]; omega) (fun i f hi => hget i f (by simpa using hi)) (by simpa using hxs)
   exact ⟨y,by simpa using e1,e2,by simp only [bulkD]; omega⟩
  ·rename_i fs hu
   simp only [Bool.and_eq_true] at hf
   obtain ⟨hf,hsz⟩:=hf
   obtain ⟨xs,n',hn',rfl,hl,hxs,hget⟩:=DataW.trod_struct hu h
   refine ⟨(),?_,trivial,Nat.zero_le _⟩
   simp only [Rt]
   rw [beq_eq hsz] at hl
   exact List.length_eq_zero_iff.1 hl
  ·cases hf
end
end Go.Sh
namespace Go.Sh
open Go Go.RowKit Go.WideShapes Go.ChangeShapes
def Wa (tys:List Ty):List Kd:=tys.map .view
def Zy9:(tys:List Ty) → Kd.dens (Wa tys) → Prop
 | [],_ => True
 | t :: l,x => t.ok x.1 ∧ Zy9 l x.2
def ZdA:(tys:List Ty) → Kd.dens (Wa tys) → Nat
 | [],_ => 0
 | t :: l,x => t.bulk x.1 + ZdA l x.2
def Ko (P:Program):List TypeId → List Ty → Bool
 | [],[] => true
 | T :: Ts,t :: ts => ZaU P 16 T t && Ko P Ts ts
 | _,_ => false
section
variable {H:Type} {enc:TypeId × Value → H} {P:Program} {w:World} {base:Nat} {spare:Nat → Bool} {held:Bool}
theorem YW {v:Value} (h:∀ cs,v ≠ .agg cs):v.cells = #[v]:=by
 cases v <;> first | rfl | (exact absurd rfl (h _))
theorem ZrB {b0 n:Nat} {r:Reach} {T:TypeId} {t:Ty} {v:Value} {d:DataW H} {ps:List MemPlace} (hval:Value.okWide P w r b0 T v) (h:DataW.Trod enc P w base spare held T v d ps) (hf:ZaU P n T t = true) :
  ∃ y,Zfj w (whole w) t y v ∧ t.ok y ∧ t.bulk y ≤ bulkD d:=by
 obtain ⟨m,hm⟩:=h
 obtain ⟨y,h1,h2,h3⟩:=Zds m n T t _ _ hf hm
 refine ⟨y,⟨_,h1,?_⟩,h2,h3⟩
 cases n with
 | zero => simp [ZaU] at hf
 | succ n =>
  unfold Value.okWide at hval
  unfold ZaU at hf
  split at hf <;> rename_i hu <;> try (cases hf; done)
  all_goals
   rw [hu] at hval
   simp only at hval
  ·refine .inr ⟨rfl,?_⟩
   rw [YW]; rintro cs rfl; simp [Cell.okWide,Cell.ok,hu] at hval
  ·refine .inr ⟨rfl,?_⟩
   rw [YW]; rintro cs rfl; simp [Cell.okWide,Cell.ok,hu] at hval
  ·refine .inr ⟨rfl,?_⟩
   rw [YW]; rintro cs rfl; simp [Cell.okWide,Cell.ok,hu] at hval
  ·refine .inr ⟨rfl,?_⟩
   rw [YW]; rintro cs rfl; simp [Cell.okWide,Cell.ok,hu] at hval
  ·obtain ⟨cs,rfl,_⟩:=hval
   exact .inl ⟨rfl,rfl⟩
  ·obtain ⟨cs,rfl,_⟩:=hval
   exact .inl ⟨rfl,rfl⟩
theorem ZbZ {b0:Nat} {r:Reach}:∀ {Ts:List TypeId} {tys:List Ty} {vs:List Value} {ds:List (DataW H)} {ps:List MemPlace},Ko P Ts tys = true →
  (∀ (j:Nat) t v,Ts[j]? = some t → vs[j]? = some v → Value.okWide P w r b0 t v) → DataW.TrodAll enc P w base spare held Ts vs ds ps →
  ∃ x:Kd.dens (Wa tys),TTs w (whole w) (QC (Wa tys) x) vs [] ∧ Zy9 tys x ∧ ZdA tys x ≤ bulkDs ds
 | [],[],vs,ds,ps,_,_,h => by
  obtain ⟨rfl,rfl,rfl⟩:=trodAll_nil h
  exact ⟨(),rfl,trivial,Nat.le_refl _⟩
 | T :: Ts,t :: tys,vs,ds,ps,hf,hval,h => by
  simp only [Ko,Bool.and_eq_true] at hf
  obtain ⟨v,vs',d,ds',p,q,rfl,rfl,rfl,h1,h2⟩:=trodAll_cons h
  obtain ⟨y,e1,e2,e3⟩:=ZrB (hval 0 T v rfl rfl) h1 hf.1
  obtain ⟨x,g1,g2,g3⟩:=ZbZ hf.2 (fun j t v ht hv => hval (j + 1) t v (by simpa using ht) (by simpa using hv)) h2
  refine ⟨(y,x),?_,⟨e2,g2⟩,?_⟩
  ·exact ⟨[],[],rfl,⟨e1,rfl⟩,g1⟩
  ·simp only [ZdA,bulkDs]; omega
 | [],_ :: _,_,_,_,hf,_,_ => by simp [Ko] at hf
 | _ :: _,[],_,_,_,hf,_,_ => by simp [Ko] at hf
end
section
variable {H:Type} {enc:TypeId × Value → H} {P:Program}
theorem Zlp {f:Func} {s:ChangeSpec} {apart fresh handsOn again:Bool} {W W':World} {args:Array Value} {v:Value} {ds gs:List (DataW H)} {before pa pv:List MemPlace}
  (hW:DataW.Whole enc P f.params.toList s.vars apart W args.toList ds gs before)
  (hres:∀ (b:Nat) (sp:Nat → Bool) (hd:Bool),DataW.TrodAll enc P W' b sp hd f.resultTypes.toList (v.resultList f.resultTypes.size) (s.fn H (ds ++ gs)).results [])
  (hargs:∀ sp:Nat → Bool,(∀ p ∈ before,sp p.block = true) → DataW.TrodAll enc P W' 0 sp true f.params.toList args.toList (s.fn H (ds ++ gs)).args pa)
  (hvars:∀ sp:Nat → Bool,(∀ p ∈ before,sp p.block = true) → DataW.TrodVars enc P W' sp s.vars (s.fn H (ds ++ gs)).vars pv)
  (hps:before = pa ++ pv) (hb:Below W.heap.size W W')
  (hok:∀ (j:Nat) (t:TypeId) (r:Value),f.resultTypes[j]? = some t → (v.resultList f.resultTypes.size)[j]? = some r → Value.okWide P W' .any 0 t r) :
  s.post enc P f apart fresh handsOn again W args v W':=by
 have hlt:∀ p ∈ before,p.block < W.heap.size:=fun p hp => hW.lt p hp
 have hold:∀ p ∈ before,(fun b => decide (b < W.heap.size)) p.block = true:=fun p hp => by simpa using hlt p hp
 refine ⟨ds,gs,before,[],pa,pv,hW,hres _ _ _,hargs _ hold,hvars _ hold,World.keptBut_mono (fun p hp => ⟨hp,?_⟩) (hb.frame (· ∈ before)),fun _ => ?_⟩
 ·rw [hps,List.mem_append] at hp
  exact Or.inr hp
 ·obtain ⟨_,_,_,_,_,hz,hn⟩:=hW
  refine ⟨hok,_,_,([] ++ pa) ++ pv,⟨[] ++ pa,pv,trodAll_append (hargs _ (fun _ _ => rfl)) (hres _ _ _),hvars _ (fun _ _ => rfl),rfl,?_,?_⟩,?_⟩
  ·intro b off hp
   have hin:MemPlace.cell b off ∈ before:=by rw [hps]; simpa using hp
   rw [hb.frozen (hlt _ hin)]
   exact hz b off hin
  ·intro ha
   have:=hn ha
   rw [hps] at this
   simpa using this
  ·intro p hp _
   rw [hps]
   simpa using hp
theorem ZcW {w w':World} {base:Nat} {spare:Nat → Bool} {held:Bool}:∀ {ts:List TypeId} {vs:List Value} {ds:List (DataW H)} {ps:List MemPlace},
  DataW.TrodAll enc P w base spare held ts vs ds ps → (∀ p ∈ ps,w.sameAt w' p) → DataW.TrodAll enc P w' base spare held ts vs ds ps
 | [],[],[],_,h,_ => h
 | _ :: _,_ :: _,_ :: _,_,⟨p,q,⟨n,h1⟩,h2,e⟩,hs => ⟨p,q,⟨n,DataW.trod_carry n _ _ _ h1 (fun x hx => hs x (by rw [e]; exact List.mem_append_left _ hx))⟩,
   ZcW h2 (fun x hx => hs x (by rw [e]; exact List.mem_append_right _ hx)),e⟩
variable [Gl]
theorem law_contract {K:FuncId} {fn:Func} {spec:ChangeSpec} {B:TypeId} (tys:List Ty) {F:Nat → Kd.dens (Wa tys) → Option (Ans (Wa tys) (.view .bool))} {bound:Nat}
  (hl:laidOutB P = true) (hm:mapsRowed P = true) (hz:((List.range P.types.size).all fun t => match P.underlying t with | some (.slice e) => decide (0 < P.cellsOf e) | _ => true) = true)
  (hts:fn.params.toList.all (fun t => decide (t < P.types.size)) = true) (hfit:Ko P fn.params.toList tys = true) (hres:fn.resultTypes = #[B]) (hB:P.underlying B = some .bool)
  (hvars:spec.vars = []) (hspec:∀ (H:Type) (ds:List (DataW H)),ds.length = tys.length → spec.fn H ds = { results:=[.lit (.bool true)],args:=ds })
  (hctr:∀ k,Ctr P k K (mk (Wa tys) (.view .bool) F)) (plain:∀ x:Kd.dens (Wa tys),Zy9 tys x → ZdA tys x ≤ bound → ∃ k u,F k x = some (true,u))
  (enc:TypeId × Value → H) (W:World) (b0:Nat) (args:Array Value) (ds gs:List (DataW H)) (before:List MemPlace)
  (hval:∀ (j:Nat) t v,fn.params[j]? = some t → args[j]? = some v → Value.okWide P W .any b0 t v)
  (hW:DataW.Whole enc P fn.params.toList spec.vars false W args.toList ds gs before) (hk:bulkDs (ds ++ gs) ≤ bound) (hgl:ZoD W (whole W)) :
  Calls P K args W fun e W' => ∃ v,e = .returned v ∧ spec.post enc P fn false true false false W args v W':=by
 have hW':=hW
 obtain ⟨p,q,hA,hV,he,hfz,hnd⟩:=hW
 rw [hvars] at hV
 have hgs:gs = [] ∧ q = []:=by
  match gs,hV with
  | [],hV => exact ⟨rfl,hV⟩
  | _ :: _,hV => exact hV.elim
 obtain ⟨rfl,rfl⟩:=hgs
 simp only [List.append_nil] at he hk
 obtain rfl:p = before:=he.symm
 obtain ⟨x,h1,h2,h3⟩:=ZbZ (tys:=tys) hfit (fun j t v ht hv => hval j t v (by simpa using ht) (by simpa using hv)) hA
 obtain ⟨k,u,hF⟩:=plain x h2 (by omega)
 have hlen:ds.length = tys.length:=by
  have e1:∀ {Ts:List TypeId} {tys:List Ty} {vs:List Value} {ds:List (DataW H)} {ps:List MemPlace},Ko P Ts tys = true → DataW.TrodAll enc P W 0 (fun _ => true) true Ts vs ds ps → ds.length = tys.length:=by
   intro Ts
   induction Ts with
   | nil =>
    intro tys vs ds ps hf h
    obtain ⟨rfl,rfl,rfl⟩:=trodAll_nil h
    cases tys with
    | nil => rfl
    | cons => simp [Ko] at hf
   | cons T Ts ih =>
    intro tys vs ds ps hf h
    obtain ⟨v,vs',d,ds',p,q,rfl,rfl,rfl,h1,h2⟩:=trodAll_cons h
    cases tys with
    | nil => simp [Ko] at hf
    | cons t tys =>
     simp only [Ko,Bool.and_eq_true] at hf
     simp [ih hf.2 h2]
  exact e1 hfit hA
 have hcall:=(hctr k).calls (QC (Wa tys) x) (true,u) (by
  have hd:K4 (Wa tys) (QC (Wa tys) x) = some x:=by
   have e2:∀ (l:List Ty) (x:Kd.dens (Wa l)),K4 (Wa l) (QC (Wa l) x) = some x:=by
    intro l
    induction l with
    | nil => intro x; rfl
    | cons t l ih =>
     intro x
     obtain ⟨y,ys⟩:=x
     show ((Zfq t (.view t y)).bind fun y => (K4 (Wa l) (QC (Wa l) ys)).bind fun ys => some (y,ys)) = _
     rw [ih ys]
     simp only [Zfq,dite_true]
     rfl
   exact e2 tys x
  show (K4 (Wa tys) (QC (Wa tys) x)).bind (F k) = some (true,u)
  rw [hd]; exact hF) W (whole W) args.toList [] (ZGk W) hgl h1 List.nodup_nil (by simp)
 rw [Array.toArray_toList] at hcall
 refine hcall.mono fun e W' h => ?_
 obtain ⟨v,lim',b1,b2,rfl,hE,_,⟨ho,ht,hout⟩,hold,hT,_⟩:=h
 have hv:v = .bool true:=by
  have hT:Zfj W' lim' .bool true v ∧ b1 = []:=hT
  obtain ⟨⟨cs,c1,c2⟩,_⟩:=hT
  rcases c2 with ⟨c2,_⟩ | ⟨_,c2⟩
  ·cases c2
  ·simp only [Rt] at c1
   subst c2
   simpa using c1
 subst hv
 have hBel:Below W.heap.size W W':=⟨ho,ht,hout,hE.size,fun b hb => (hold b hb (by simp)).1⟩
 have hlt:∀ x ∈ p,x.block < W.heap.size:=fun x hx => hW'.lt x hx
 refine ⟨_,rfl,Zlp (pa:=p) (pv:=[]) hW' (fun b sp hd => ?_) (fun sp hsp => ?_) (fun sp hsp => ?_) (by simp) hBel ?_⟩
 ·rw [List.append_nil,hspec H ds hlen,hres]
  exact ⟨[],[],⟨1,by simp [DataW.trod,Value.cells,hB]⟩,rfl,rfl⟩
 ·rw [List.append_nil,hspec H ds hlen]
  refine ZcW (w:=W) (DataW.TrodAll.respare (kids_rows hl hm) (slices_full_of P hz) (fun t ht => ?_) hA hsp) (fun y hy => hBel.same (hlt y hy))
  simpa using List.all_eq_true.1 hts t ht
 ·rw [List.append_nil,hspec H ds hlen,hvars]
  rfl
 ·exact ok_one hres rfl (okWide_bool_mk hB true)
end
end Go.Sh
namespace Go.Sh
open Go Go.Proofs
section doc
variable {k:Nat} {c d r:Int} {tags:List ByteArray} {ch:List (List Int)} {n:Nat}
abbrev L1D:=Int × Int × Int × Int × Int × List ByteArray × List (List Int) × List Int → Option (ByteArray × Unit)
abbrev L2D:=Int × Int × Int × Int × Int × Int × List ByteArray × List (List Int) × List Int → Option (ByteArray × Unit)
theorem ZN8 (x:Int) (j:Nat) (hj:j < 8):IntKind.u8.wrap (Int.fdiv x ((2:Int) ^ min (IntKind.i64.wrap ((8:Int) * (j:Int))).toNat 64)) = ((ZaT x j:Nat):Int):=by
 have e:IntKind.i64.wrap ((8:Int) * (j:Int)) = ((8 * j:Nat):Int):=by rw [Ks (by omega)]; omega
 rw [e]; exact ZNR x j hj
theorem ZxV {nb:Nat} (hnb:nb ≤ 3) (L1:L1D) (L2:L2D) (x ci i:Int):∀ (m j fuel:Nat) (acc:List Nat),j + m = nb → m < fuel → acc.length + m < 1000000000 →
  Zh (fun L3 => XC k L1 L2 L3) fuel ((j:Int),(nb:Int),x,ci,i,Zn acc,c,d,r,tags,ch) =
   L2 (IntKind.i64.wrap (ci + 1),i,(nb:Int),c,d,r,tags,ch,Zn (acc ++ Qr x j m))
 | 0,j,fuel + 1,acc,h1,h2,h3 => by
  rw [Zx]
  simp only [XC]
  rw [ZT (by omega)]
  simp [Qr]
 | m + 1,j,fuel + 1,acc,h1,h2,h3 => by
  rw [Zx]
  simp only [XC]
  have hj:j < 8:=by omega
  have e:(0:Int) ≤ IntKind.i64.wrap ((8:Int) * (j:Int)):=by rw [Ks (by omega)]; omega
  rw [Zj (by omega),Zj e]
  simp only [ZN8 _ j hj]
  rw [ZH,Zj (by simp; omega),Zuz (by omega),show Zn acc ++ [(ZaT x j:Int)] = Zn (acc ++ [ZaT x j]) by rw [Qj]; rfl]
  rw [ZxV hnb L1 L2 x ci i m (j + 1) fuel (acc ++ [ZaT x j]) (by omega) (by omega) (by simp; omega)]
  simp [Qr]
 | 0,_,0,_,_,h2,_ => absurd h2 (Nat.lt_irrefl _)
 | m + 1,_,0,_,_,h2,_ => absurd h2 (Nat.not_lt_zero _)
theorem ZIp (hk:100 ≤ k) (hg:Good0 c d ch n) (L1:L1D) (i:Nat) (hi:i < n) (acc:List Nat) (ha:acc.length < 900000000) :
  Zbm k L1 ((0:Int),(i:Int),((Y9 d:Nat):Int),c,d,r,tags,ch,Zn acc) = L1 (IntKind.i64.wrap ((i:Int) + 1),((Y9 d:Nat):Int),c,d,r,tags,ch,Zn (acc ++ Zdv (Y9 d) ch i)):=by
 have hnb:=Zrf hg.d4
 have hc:=hg.c1
 have key:=WS (A:=List Nat) (step:=fun L2 => XB k (Zbn k L1 L2) L1 L2) (fun q a => (Int.ofNat q,(i:Int),((Y9 d:Nat):Int),c,d,r,tags,ch,Zn a)) ch
  (fun rest a => L1 (IntKind.i64.wrap ((i:Int) + 1),((Y9 d:Nat):Int),c,d,r,tags,ch,Zn (a ++ rest.flatMap fun c => Qr (c.getD i 0) 0 (Y9 d)))) (fun q a => a.length ≤ acc.length + 3 * q)
  (fun L a _ => by
   simp only [XB]
   rw [ZT (Zdl _)]
   simp)
  (fun L q hq a hI hL => by
   simp only [XB]
   have hl:=hg.len _ (List.getElem_mem hq)
   rw [Zj (ltR hq),Zj (inR hq),Wl hq,hl,Zj (by simp only [Xn]; omega),tNc]
   have h3:=ZxV (k:=k) (c:=c) (d:=d) (r:=r) (tags:=tags) (ch:=ch) hnb.1 L1 L (ch[q].getD i 0) (Int.ofNat q) (i:Int) (Y9 d) 0 k a (by omega) (by omega) (by omega)
   refine Eq.trans h3 ?_
   rw [YT hq (by omega),hL _ (by simp [Wg]; omega),List.flatMap_cons,List.append_assoc])
  k 0 acc (by omega) (by omega) (by omega)
 rw [List.drop_zero] at key
 exact key
theorem ZvJ (hk:16777216 ≤ k) (h0:chk c d r tags ch = 0):Zcm k (((c,d,r,()),tags,ch,()),()) = some (Zfh (ZBo (ZaZ (Y9 d) ch (ch.getD 0 []).length)),()):=by
 show Zar k _ _ = _
 simp only [Zar]
 obtain ⟨hg,-⟩:=ZrK h0
 generalize hn:(ch.getD 0 []).length = n at hg
 have hnb:=Zrf hg.d4
 have hd:=hg.d4
 have hc:=hg.c1
 have hn4:=hg.n4
 have hmul:∀ i,i * (ch.length * Y9 d) ≤ i * 6:=fun i => Nat.mul_le_mul_left i (Nat.le_trans (Nat.mul_le_mul hc.2 hnb.1) (by omega))
 have en:IntKind.i64.wrap ((IntKind.i64.wrap (d + 7)).tdiv 8) = ((Y9 d:Nat):Int):=by
  unfold Y9
  rw [Ks (n:=d + 7) (by omega),Int.tdiv_eq_ediv_of_nonneg (by omega),Ks (by omega)]; omega
 rw [en]
 have key:=WS (A:=List Nat) (step:=fun L1 => YE k (Zbm k L1) L1) (fun q a => (Int.ofNat q,((Y9 d:Nat):Int),c,d,r,tags,ch,Zn a)) (List.range n)
  (fun rest a => (Zcr k (Zfh (a ++ rest.flatMap (Zdv (Y9 d) ch)),())).bind fun y => some (y.1,())) (fun q a => a.length = q * (ch.length * Y9 d))
  (fun L a _ => by
   simp only [YE,List.length_range]
   rw [Zj (by simp only [Xn]; omega),hn,ZT (Zdl _)]
   simp [Zfh])
  (fun L q hq a hI hL => by
   rw [List.length_range] at hq
   simp only [YE]
   have:=hmul q
   rw [Zj (by simp only [Xn]; omega),hn,Zj (ltR hq)]
   refine Eq.trans (ZIp (by omega) hg L q hq a (by omega)) ?_
   rw [show IntKind.i64.wrap ((q:Int) + 1) = Int.ofNat (q + 1) from YT hq (by omega)]
   have hq6:(Zdv (Y9 d) ch q).length = ch.length * Y9 d:=by unfold Zdv; exact ZbJ fun c _ => Wg _ _ _
   refine Eq.trans (hL (a ++ Zdv (Y9 d) ch q) (by rw [lAp,hI,hq6,Nat.add_mul]; omega)) ?_
   rw [List.flatMap_cons,List.append_assoc,List.getElem_range])
  k 0 [] (by simp) (by rw [List.length_range]; omega) (by omega)
 rw [List.drop_zero,List.nil_append] at key
 refine Eq.trans key ?_
 have hl:=Zuq (Y9 d) ch n
 have:=hmul n
 have hs:(Zfh (ZaZ (Y9 d) ch n)).size = (ZaZ (Y9 d) ch n).length:=by rw [← Zop,Zle (Zxu _ _ _)]
 rw [show (List.range n).flatMap (Zdv (Y9 d) ch) = ZaZ (Y9 d) ch n from rfl,Zv1 (by omega) (by omega) (by omega),Zle (Zxu _ _ _)]
 rfl
theorem ZvC (hk:16777216 ≤ k) (hS:Small tags ch):Zcj k (((c,d,r,()),tags,ch,()),()) = some (((c,d,r,()),tags,ch,()),()):=by
 have htl:=hS.tl
 have hcl:=hS.cl
 show Zal k (Zd8 k) (((c,d,r,()),tags,ch,()),()) = _
 simp only [Zal]
 rw [Zj (by omega),List.nil_append]
 have key:=KP (step:=fun L1 => YC k L1) (A:=Unit) (fun i _ => (Int.ofNat i,c,d,r,tags,ch,c,d,r,tags,ch.take i,(0:Int),(0:Int),(0:Int))) ch (fun _ _ => some (((c,d,r,()),tags,ch,()),()))
  (fun L a => by
   simp only [YC]
   rw [ZT (Zdl _),List.take_length])
  (fun L i hi a hL => by
   simp only [YC]
   have hl:=hS.chan ch[i] (List.getElem_mem _)
   rw [Zj (ltR hi),Zj (inR hi),Wl hi,Zj (by omega),Zj (by rw [List.length_take]; simp; omega),YT hi (by omega)]
   have e:ch.take i ++ [[] ++ ch[i]] = ch.take (i + 1):=by rw [List.take_succ_eq_append_getElem hi]; rfl
   rw [e]
   exact hL ()) k 0 () (by omega) (by omega)
 exact key
end doc
theorem ZFP:Zd1 20000000 () = some (true,()):=by kernel_rfl
end Go.Sh
namespace Go.Sh
open Go Go.Proofs
theorem Zh4 {α:Type} (f:α → Nat):∀ (l:List α),(∀ x ∈ l,1 ≤ f x) → l.length ≤ (l.map f).sum ∧ ∀ x ∈ l,f x ≤ (l.map f).sum
 | [],_ => by simp
 | a :: l,h => by
  have ih:=Zh4 f l (fun x hx => h x (by simp [hx]))
  have ha:=h a (by simp)
  simp only [List.map_cons,List.sum_cons,List.length_cons]
  refine ⟨by omega,fun x hx => ?_⟩
  rcases List.mem_cons.1 hx with rfl | hx
  ·omega
  ·have:=ih.2 x hx; omega
theorem Zuv {c d r:Int} {tags:List ByteArray} {ch:List (List Int)} (h:Ty.bulk trackT ((c,d,r,()),tags,ch,()) ≤ 1048576):Small tags ch:=by
 have h1:(3:Nat) + (((tags.map (Ty.bulk .str)).sum + 1) + (((ch.map (Ty.bulk (.sl (.int .i64)))).sum + 1) + 0)) ≤ 1048576:=h
 have t:=Zh4 (Ty.bulk .str) tags (fun x _ => by simp only [Ty.bulk]; omega)
 have s:=Zh4 (Ty.bulk (.sl (.int .i64))) ch (fun x _ => by simp only [Ty.bulk]; omega)
 refine ⟨by omega,fun x hx => ?_,by omega,fun x hx => ?_⟩
 ·have h2:=t.2 x hx
  have h3:Ty.bulk .str x = x.size + 1:=rfl
  omega
 ·have h2:=s.2 x hx
  have h3:Ty.bulk (.sl (.int .i64)) x = (x.map (Ty.bulk (.int .i64))).sum + 1:=rfl
  have h4:=Zh4 (Ty.bulk (.int .i64)) x (fun y _ => by simp only [Ty.bulk]; omega)
  omega
theorem Zvp {c d r:Int} {tags:List ByteArray} {ch:List (List Int)} (hS:Small tags ch) {tag:ByteArray} (ht:tag.size ≤ 1048576):f2003_F 20000000 (((c,d,r,()),tags,ch,()),tag,()) = some (true,()):=by
 show K9 20000000 _ = _
 simp only [K9]
 have hk:16777216 ≤ 20000000:=by omega
 rw [ZFP]
 simp only [oBs,Bool.not_true,cond_false]
 rw [Zi0 20000000 tag ht]
 simp only [oBs]
 rw [Zi1 20000000 tag (by omega)]
 simp only [oBs]
 rw [show (!ZaP tag == ZaP tag) = false by cases ZaP tag <;> rfl]
 simp only [cond_false]
 rw [Zvw hk hS]
 simp only [oBs]
 rw [ZvC hk hS]
 simp only [oBs]
 rw [ZvA hk hS,Zi8 hk hS]
 by_cases h0:chk c d r tags ch = 0
 ·rw [if_pos h0]
  simp only [oBs]
  rw [h0,ZvJ hk h0]
  simp only [oBs]
  rw [ZBY (Zfh (ZBo (ZaZ (Y9 d) ch (ch.getD 0 []).length))) (Zfh (ZBo (ZaZ (Y9 d) ch (ch.getD 0 []).length))),dTr rfl]
  rfl
 ·rw [if_neg h0]
  simp only [oBs]
  rw [show (chk c d r tags ch != chk c d r tags ch) = false by simp]
  simp only [cond_false]
  rw [Q6,Zj h0,ZBY,dTr rfl]
  rfl
theorem checks_plain:∀ x:Kd.dens (Wa [trackT,.str]),Zy9 [trackT,.str] x → ZdA [trackT,.str] x ≤ 1048576 → ∃ k u,f2003_F k x = some (true,u):=by
 rintro ⟨⟨⟨c,d,r,⟨⟩⟩,tags,ch,⟨⟩⟩,tag,⟨⟩⟩ _ hb
 have hb:Ty.bulk trackT ((c,d,r,()),tags,ch,()) + ((tag.size + 1) + 0) ≤ 1048576:=hb
 have hb1:Ty.bulk trackT ((c,d,r,()),tags,ch,()) ≤ 1048576:=by omega
 exact ⟨20000000,(),Zvp (Zuv hb1) (by omega)⟩
end Go.Sh
