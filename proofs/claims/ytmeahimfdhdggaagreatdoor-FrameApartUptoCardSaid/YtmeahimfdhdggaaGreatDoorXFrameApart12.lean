/-
  What the row needs, part 12.
-/
import Derived.Test.YtmeahimfdhdggaaGreatDoorXFrameApart11
import Derived.ChangeArms
import Derived.ChangeShapes
import Derived.WideShapes
import Derived.ReadAgain
import Derived.Below
import Derived.ChangeSame
import Derived.RowKit
set_option linter.unusedSimpArgs false
set_option linter.unusedVariables false
set_option linter.unusedSectionVars false
open Bool renaming and_eq_true→Jh
open ByteArray renaming mk→UV
open Int renaming ofNat→UI,emod_eq_of_lt→EC
open List renaming append_assoc→Ju,replicate→Jd,mem_cons_self→Jm,getElem?_eq_getElem→VO,nil_append→VT,length_cons→JF,length_replicate→Ur,all_eq_true→Vf,flatMap_cons→HS,mem_cons→VM,getElem_mem→U5,append_nil→Vg,getElem?_append_left→UZ,mem_cons_of_mem→Jn,take_of_length_le→Et,getElem?_map→Vh,length_take→Jz,not_mem_nil→Uv,take_append_of_le_length→Ew,drop_append→El,drop_eq_nil_of_le→HV,getElem_cons_zero→Eo,drop_zero→U9,eq_of_mem_replicate→Ez,ext_getElem→HK,flatten_cons→J2,getElem?_take→Jy,getElem_cons_succ→Em,map_cons→JR,mem_of_mem_take→JT,take_append_drop→EA,zip_cons_cons→EB,any_eq_false→Uk,getD_eq_getElem?_getD→VS,getElem?_eq_some_iff→Up,getElem?_zipWith→ED,length_drop→Vi,length_eq_zero_iff→EE,mem_append→Js,of_mem_zip→Vy,prefix_append→EF,prefix_of_prefix_length_le→EG,replicate_succ→EH
open Nat renaming le_refl→Jj,beq→Ja,mod_lt→U7,pow_pos→U2,sub_self→Ey,zero_le→UU,lt_or_ge→VN,zero_add→Ub,div_div_eq_div_mul→HP,le_of_ble_eq_true→Jt,min_eq_right→EI,mod_eq_of_lt→EJ
open Option renaming some→VF,bind_eq_some_iff→Uy
open Go.Value renaming int→Jv,agg→Ev,pointer→UX,slice→V5
namespace Go.Sh
open Go Go.RowKit Go.WideShapes Go.ChangeShapes
def Zsg (P:Program) (g:TypeId → Ty → Bool):Nat → List Field → Ty → Bool
 | _,[],.unit => true
 | off,f :: l,.pair a b => Ja f.offset off && g f.type a && Ja (P.cellsOf f.type) a.size && Zsg P g (off + a.size) l b
 | _,_,_ => false
def Zb2 (P:Program):Nat → TypeId → Ty → Bool
 | 0,_,_ => false
 | n + 1,T,t => match P.underlying T,t with
  | some .bool,.bool => true
  | some (.int k),.int k' => decide (k = k')
  | some .string,.str => true
  | some (.slice e),.sl t => Zb2 P n e t && Ja (P.cellsOf e) t.size && Nat.ble 1 t.size
  | some (.struct fs),.pair a b => Zsg P (Zb2 P n) 0 fs.toList (.pair a b) && Ja (P.cellsOf T) (Ty.size (.pair a b))
  | some (.struct fs),.unit => Zsg P (Zb2 P n) 0 fs.toList .unit && Ja (P.cellsOf T) 0
  | _,_ => false
def Ty.bulk:(t:Ty) → t.den → Nat
 | .str,s => s.size + 1
 | .sl t,xs => (xs.map t.bulk).sum + 1
 | .pair a b,x => a.bulk x.1 + b.bulk x.2
 | .unit,_ => 0
 | .bool,_ => 1
 | .int _,_ => 1
 | .fl _,_ => 1
 | .cx _,_ => 1
 | .raw,_ => 1
def Ty.ok:(t:Ty) → t.den → Prop
 | .int k,n => k.min ≤ n ∧ n ≤ k.max
 | .sl t,xs => ∀ x ∈ xs,t.ok x
 | .pair a b,x => a.ok x.1 ∧ b.ok x.2
 | .bool,_ => True
 | .str,_ => True
 | .fl _,_ => True
 | .cx _,_ => True
 | .raw,_ => True
 | .unit,_ => True
mutual
def bulkD {H:Type}:DataW H → Nat
 | .lit (.string bytes) => bytes.length + 1
 | .lit _ => 1
 | .nil => 1
 | .ptr d => bulkD d + 1
 | .slice elems spare => bulkDs elems + bulkDs spare + 1
 | .agg parts => bulkDs parts + 1
 | .iface _ d => bulkD d + 1
 | .map entries => bulkEs entries + 1
 | .held _ => 1
def bulkDs {H:Type}:List (DataW H) → Nat
 | [] => 0
 | d :: r => bulkD d + bulkDs r
def bulkEs {H:Type}:List (Lit × DataW H) → Nat
 | [] => 0
 | x :: r => bulkE x + bulkEs r
def bulkE {H:Type}:Lit × DataW H → Nat
 | (.string bytes,d) => bytes.length + bulkD d + 1
 | (_,d) => bulkD d + 1
end
def whole (w:World) (b:Nat):Nat:=match w.heap[b]? with
 | some (.cells c _ _) => c.size
 | _ => 0
theorem Zs6 {w:World} {b o:Nat} {v:Value} (h:w.cell? ⟨b,o,none⟩ = some v):o < whole w b:=by
 unfold World.cell? at h
 unfold whole
 split at h
 ·rename_i c _ _ hb
  simp only at hb
  rw [hb]
  simp only [Option.isSome_none,Bool.false_eq_true,if_false] at h
  exact (Array.getElem?_eq_some_iff.1 h).1
 ·cases h
theorem ZD8 (w:World):∀ b,w.heap.size ≤ b → whole w b = 0:=by
 intro b hb
 unfold whole
 rw [Array.getElem?_eq_none hb]
theorem cells?_at {w:World} {base n:Nat} {a:Addr} {cs:List Value} (h:w.cells? base a n = some cs):cs.length = n ∧ ∀ i v,cs[i]? = some v → w.cell? (a.add i) = some v:=by
 unfold World.cells? at h
 split at h
 ·have hl:=mapM_some_length h
  simp only [List.length_range] at hl
  refine ⟨hl,fun i v hi => ?_⟩
  have hlt:i < n:=by have:=(Up.1 hi).1; omega
  have:=mapM_some_get h i i (by simp [hlt])
  rw [this,hi]
 ·cases h
section
variable {H:Type} {enc:TypeId × Value → H} {P:Program} {w:World} {base:Nat} {spare:Nat → Bool} {held:Bool}
theorem ZnS {n n':Nat} (ih:∀ (T:TypeId) (t:Ty) (cs:List Value) (x:DataW H × List MemPlace),Zb2 P n T t = true → DataW.trod enc P w base spare held n' T cs = some x → ∃ y,Rt w (whole w) t y cs ∧ t.ok y ∧ t.bulk y ≤ bulkD x.1) :
  ∀ (l:List Field) (t:Ty) (off:Nat) (cs:List Value) (xs:List (DataW H × List MemPlace)),Zsg P (Zb2 P n) off l t = true → cs.length = off + t.size →
   (∀ (i:Nat) (f:Field),l[i]? = some f → DataW.trod enc P w base spare held n' f.type ((cs.drop f.offset).take (P.cellsOf f.type)) = xs[i]?) → xs.length = l.length →
   ∃ y,Rt w (whole w) t y (cs.drop off) ∧ t.ok y ∧ t.bulk y ≤ bulkDs (xs.map (·.1))
 | [],t,off,cs,xs,h,hl,hx,hn => by
  match t,h with
  | .unit,h =>
   refine ⟨(),?_,trivial,UU _⟩
   simp only [Rt,List.drop_eq_nil_iff]
   simp [Ty.size] at hl; omega
 | f :: l,t,off,cs,xs,h,hl,hx,hn => by
  match t,h with
  | .pair a b,h =>
   simp only [Zsg,Jh] at h
   obtain ⟨⟨⟨h1,h2⟩,h3⟩,h4⟩:=h
   match xs,hn with
   | x :: xs,hn =>
    have h0:=hx 0 f rfl
    rw [ZS h1,ZS h3] at h0
    simp only [List.getElem?_cons_zero] at h0
    obtain ⟨y,e1,e2,e3⟩:=ih f.type a _ x h2 h0
    simp only [Ty.size] at hl
    obtain ⟨z,g1,g2,g3⟩:=ZnS ih l b (off + a.size) cs xs h4 (by omega) (fun i f' hf' => by simpa using hx (i + 1) f' (by simpa using hf')) (by simpa using hn)
    refine ⟨(y,z),?_,⟨e2,g2⟩,?_⟩
    ·simp only [Rt]
     refine ⟨_,_,?_,e1,g1⟩
     rw [← List.drop_drop,EA]
    ·simp only [Ty.bulk,JR,bulkDs]; omega
theorem ZeU:∀ (n m:Nat) (T:TypeId) (t:Ty) (cs:List Value) (x:DataW H × List MemPlace),Zb2 P m T t = true → DataW.trod enc P w base spare held n T cs = some x →
  ∃ y,Rt w (whole w) t y cs ∧ t.ok y ∧ t.bulk y ≤ bulkD x.1
 | 0,_,_,_,_,_,_,h => by simp [DataW.trod] at h
 | n + 1,0,_,_,_,_,hf,_ => by simp [Zb2] at hf
 | n + 1,m + 1,T,t,cs,x,hf,h => by
  unfold Zb2 at hf
  split at hf
  ·rename_i hu
   obtain ⟨b,rfl,rfl⟩:=DataW.trod_bool hu h
   exact ⟨b,rfl,trivial,Jj _⟩
  ·rename_i k k' hu
   obtain rfl:k = k':=of_decide_eq_true hf
   obtain ⟨v,rfl,rfl,hw⟩:=DataW.trod_int hu h
   refine ⟨v,rfl,?_,Jj _⟩
   simpa [Ty.ok,Lit.wf] using hw
  ·rename_i hu
   obtain ⟨s,rfl,rfl,_⟩:=DataW.trod_string hu h
   refine ⟨s,rfl,trivial,?_⟩
   simp only [Ty.bulk,bulkD,Array.length_toList]
   exact Jj _
  ·rename_i e t hu
   simp only [Jh] at hf
   obtain ⟨⟨hf,hsz⟩,hpos⟩:=hf
   have hsz:=ZS hsz
   have hpos:1 ≤ t.size:=Jt hpos
   rcases DataW.trod_slice hu h with ⟨rfl,rfl⟩ | ⟨a,len,cap,elems,rest,n',hn',rfl,rfl,hb,hlc,_,hlen,hel,_⟩
   ·refine ⟨[],?_,(by simp [Ty.ok]:Ty.ok (.sl t) []),(by simp [Ty.bulk,bulkD])⟩
    simp only [Rt]
    exact ⟨none,0,0,rfl,rfl,Jj _,.inl trivial⟩
   ·obtain rfl:n' = n:=by omega
    have each:∀ i (hi:i < elems.length),∃ cs',w.cells? base (a.add (i * P.cellsOf e)) (P.cellsOf e) = some cs' ∧ ∃ y,Rt w (whole w) t y cs' ∧ t.ok y ∧ t.bulk y ≤ bulkD elems[i].1:=by
     intro i hi
     have h1:=hel i (by omega)
     rw [VO hi] at h1
     obtain ⟨cs',h2,h3⟩:=Uy.1 h1
     exact ⟨cs',h2,ZeU n' m e t cs' _ hf h3⟩
    -- the list
    have all:∀ (l:List (DataW H × List MemPlace)),(∀ i (hi:i < l.length),∃ y,(∃ cs',w.cells? base (a.add ((elems.length - l.length + i) * P.cellsOf e)) (P.cellsOf e) = some cs' ∧ Rt w (whole w) t y cs') ∧ t.ok y ∧ t.bulk y ≤ bulkD l[i].1) →
      l.length ≤ elems.length → ∃ ys:List t.den,ys.length = l.length ∧ (∀ y ∈ ys,t.ok y) ∧ (ys.map t.bulk).sum ≤ bulkDs (l.map (·.1)) ∧
       ∀ i (hi:i < ys.length),∃ cs',w.cells? base (a.add ((elems.length - l.length + i) * P.cellsOf e)) (P.cellsOf e) = some cs' ∧ Rt w (whole w) t ys[i] cs':=by
     intro l
     induction l with
     | nil => intro _ _; exact ⟨[],rfl,by simp,by simp [bulkDs],fun i hi => by simp at hi⟩
     | cons p l ih =>
      intro hp hle
      simp only [JF] at hle
      obtain ⟨y,⟨cs',c1,c2⟩,y1,y2⟩:=hp 0 (by simp)
      obtain ⟨ys,k1,k2,k3,k4⟩:=ih (fun i hi => by
       obtain ⟨y,⟨cs',c1,c2⟩,y1,y2⟩:=hp (i + 1) (by simpa using hi)
       refine ⟨y,⟨cs',?_,c2⟩,y1,by simpa using y2⟩
       rw [← c1]; congr 3; simp only [JF]; omega) (by omega)
      refine ⟨y :: ys,by simp [k1],?_,?_,?_⟩
      ·intro z hz
       rcases VM.1 hz with rfl | hz
       ·exact y1
       ·exact k2 z hz
      ·simp only [JR,List.sum_cons,bulkDs]
       simp only [Eo] at y2
       omega
      ·intro i hi
       cases i with
       | zero => exact ⟨cs',c1,c2⟩
       | succ i =>
        obtain ⟨cs'',d1,d2⟩:=k4 i (by simpa using hi)
        refine ⟨cs'',?_,by simpa using d2⟩
        rw [← d1]; congr 3; simp only [JF]; omega
    obtain ⟨ys,k1,k2,k3,k4⟩:=all elems (fun i hi => by
     obtain ⟨cs',c1,y,c2,c3,c4⟩:=each i hi
     exact ⟨y,⟨cs',by simpa using c1,c2⟩,c3,c4⟩) (Jj _)
    simp only [Ey,Ub] at k4
    refine ⟨ys,?_,k2,?_⟩
    ·simp only [Rt]
     refine ⟨some a,len,cap,rfl,by omega,hlc,?_⟩
     by_cases hnil:ys = []
     ·exact .inl hnil
     ·right
      have h0:0 < ys.length:=List.length_pos_iff.2 hnil
      obtain ⟨c0,z1,z2⟩:=k4 0 h0
      obtain ⟨zl,zc⟩:=cells?_at z1
      obtain ⟨v0,hv0⟩:∃ v0,c0[0]? = some v0:=⟨c0[0]'(by omega),VO _⟩
      have hs:=zc 0 v0 hv0
      simp only [Nat.zero_mul,Addr.add,if_true] at hs
      obtain ⟨b,off,spot⟩:=a
      have hspot:spot = none:=by
       cases spot with
       | none => rfl
       | some s =>
        unfold World.cell? at hs
        split at hs
        ·simp at hs
        ·cases hs
      subst hspot
      refine ⟨b,off,rfl,fun i hi => ?_⟩
      obtain ⟨cs',d1,d2⟩:=k4 i hi
      refine ⟨cs',d2,fun j v hj => ?_⟩
      obtain ⟨_,zc⟩:=cells?_at d1
      have hc:=zc j v hj
      have e:((⟨b,off,none⟩:Addr).add (i * P.cellsOf e)).add j = ⟨b,off + i * t.size + j,none⟩:=by
       rw [hsz]
       unfold Addr.add
       split <;> split <;> simp_all <;> omega
      rw [e] at hc
      exact ⟨hc,Zs6 hc⟩
    ·simp only [Ty.bulk,bulkD]
     omega
  ·rename_i fs a b hu
   simp only [Jh] at hf
   obtain ⟨hf,hsz⟩:=hf
   obtain ⟨xs,n',hn',rfl,hl,hxs,hget⟩:=DataW.trod_struct hu h
   obtain rfl:n' = n:=by omega
   obtain ⟨y,e1,e2,e3⟩:=ZnS (n:=m) (n':=n') (fun T t cs x h1 h2 => ZeU n' m T t cs x h1 h2) fs.toList (.pair a b) 0 cs xs hf (by rw [hl,ZS hsz]; omega) (fun i f hi => hget i f (by simpa using hi)) (by simpa using hxs)
   exact ⟨y,by simpa using e1,e2,by simp only [bulkD]; omega⟩
  ·rename_i fs hu
   simp only [Jh] at hf
   obtain ⟨hf,hsz⟩:=hf
   obtain ⟨xs,n',hn',rfl,hl,hxs,hget⟩:=DataW.trod_struct hu h
   refine ⟨(),?_,trivial,UU _⟩
   simp only [Rt]
   rw [ZS hsz] at hl
   exact EE.1 hl
  ·cases hf
end
end Go.Sh
namespace Go.Sh
open Go Go.RowKit Go.WideShapes Go.ChangeShapes
def Q7 (tys:List Ty):List Kd:=tys.map .view
def ZwR:(tys:List Ty) → Kd.dens (Q7 tys) → Prop
 | [],_ => True
 | t :: l,x => t.ok x.1 ∧ ZwR l x.2
def Zfa:(tys:List Ty) → Kd.dens (Q7 tys) → Nat
 | [],_ => 0
 | t :: l,x => t.bulk x.1 + Zfa l x.2
def Zap (P:Program):List TypeId → List Ty → Bool
 | [],[] => true
 | T :: Ts,t :: ts => Zb2 P 16 T t && Zap P Ts ts
 | _,_ => false
section
variable {H:Type} {enc:TypeId × Value → H} {P:Program} {w:World} {base:Nat} {spare:Nat → Bool} {held:Bool}
theorem KT {v:Value} (h:∀ cs,v ≠ .agg cs):v.cells = #[v]:=by
 cases v <;> first | rfl | (exact absurd rfl (h _))
theorem Zqw {b0 n:Nat} {r:Reach} {T:TypeId} {t:Ty} {v:Value} {d:DataW H} {ps:List MemPlace} (hval:Value.okWide P w r b0 T v) (h:DataW.Trod enc P w base spare held T v d ps) (hf:Zb2 P n T t = true) :
  ∃ y,Zdi w (whole w) t y v ∧ t.ok y ∧ t.bulk y ≤ bulkD d:=by
 obtain ⟨m,hm⟩:=h
 obtain ⟨y,h1,h2,h3⟩:=ZeU m n T t _ _ hf hm
 refine ⟨y,⟨_,h1,?_⟩,h2,h3⟩
 cases n with
 | zero => simp [Zb2] at hf
 | succ n =>
  unfold Value.okWide at hval
  unfold Zb2 at hf
  split at hf <;> rename_i hu <;> try (cases hf; done)
  all_goals
   rw [hu] at hval
   simp only at hval
  ·refine .inr ⟨rfl,?_⟩
   rw [KT]; rintro cs rfl; simp [Cell.okWide,Cell.ok,hu] at hval
  ·refine .inr ⟨rfl,?_⟩
   rw [KT]; rintro cs rfl; simp [Cell.okWide,Cell.ok,hu] at hval
  ·refine .inr ⟨rfl,?_⟩
   rw [KT]; rintro cs rfl; simp [Cell.okWide,Cell.ok,hu] at hval
  ·refine .inr ⟨rfl,?_⟩
   rw [KT]; rintro cs rfl; simp [Cell.okWide,Cell.ok,hu] at hval
  ·obtain ⟨cs,rfl,_⟩:=hval
   exact .inl ⟨rfl,rfl⟩
  ·obtain ⟨cs,rfl,_⟩:=hval
   exact .inl ⟨rfl,rfl⟩
theorem Zdj {b0:Nat} {r:Reach}:∀ {Ts:List TypeId} {tys:List Ty} {vs:List Value} {ds:List (DataW H)} {ps:List MemPlace},Zap P Ts tys = true →
  (∀ (j:Nat) t v,Ts[j]? = some t → vs[j]? = some v → Value.okWide P w r b0 t v) → DataW.TrodAll enc P w base spare held Ts vs ds ps →
  ∃ x:Kd.dens (Q7 tys),TTs w (whole w) (WO (Q7 tys) x) vs [] ∧ ZwR tys x ∧ Zfa tys x ≤ bulkDs ds
 | [],[],vs,ds,ps,_,_,h => by
  obtain ⟨rfl,rfl,rfl⟩:=trodAll_nil h
  exact ⟨(),rfl,trivial,Jj _⟩
 | T :: Ts,t :: tys,vs,ds,ps,hf,hval,h => by
  simp only [Zap,Jh] at hf
  obtain ⟨v,vs',d,ds',p,q,rfl,rfl,rfl,h1,h2⟩:=trodAll_cons h
  obtain ⟨y,e1,e2,e3⟩:=Zqw (hval 0 T v rfl rfl) h1 hf.1
  obtain ⟨x,g1,g2,g3⟩:=Zdj hf.2 (fun j t v ht hv => hval (j + 1) t v (by simpa using ht) (by simpa using hv)) h2
  refine ⟨(y,x),?_,⟨e2,g2⟩,?_⟩
  ·exact ⟨[],[],rfl,⟨e1,rfl⟩,g1⟩
  ·simp only [Zfa,bulkDs]; omega
 | [],_ :: _,_,_,_,hf,_,_ => by simp [Zap] at hf
 | _ :: _,[],_,_,_,hf,_,_ => by simp [Zap] at hf
end
section
variable {H:Type} {enc:TypeId × Value → H} {P:Program}
theorem ZlS {f:Func} {s:ChangeSpec} {apart fresh handsOn again:Bool} {W W':World} {args:Array Value} {v:Value} {ds gs:List (DataW H)} {before pa pv:List MemPlace}
  (hW:DataW.Whole enc P f.params.toList s.vars apart W args.toList ds gs before)
  (hres:∀ (b:Nat) (sp:Nat → Bool) (hd:Bool),DataW.TrodAll enc P W' b sp hd f.resultTypes.toList (v.resultList f.resultTypes.size) (s.fn H (ds ++ gs)).results [])
  (hargs:∀ sp:Nat → Bool,(∀ p ∈ before,sp p.block = true) → DataW.TrodAll enc P W' 0 sp true f.params.toList args.toList (s.fn H (ds ++ gs)).args pa)
  (hvars:∀ sp:Nat → Bool,(∀ p ∈ before,sp p.block = true) → DataW.TrodVars enc P W' sp s.vars (s.fn H (ds ++ gs)).vars pv)
  (hps:before = pa ++ pv) (hb:Below W.heap.size W W')
  (hok:∀ (j:Nat) (t:TypeId) (r:Value),f.resultTypes[j]? = some t → (v.resultList f.resultTypes.size)[j]? = some r → Value.okWide P W' .any 0 t r) :
  s.post enc P f apart fresh handsOn again W args v W':=by
 have hlt:∀ p ∈ before,p.block < W.heap.size:=fun p hp => hW.lt p hp
 have hold:∀ p ∈ before,(fun b => decide (b < W.heap.size)) p.block = true:=fun p hp => by simpa using hlt p hp
 refine ⟨ds,gs,before,[],pa,pv,hW,hres _ _ _,hargs _ hold,hvars _ hold,World.keptBut_mono (fun p hp => ⟨hp,?_⟩) (hb.frame (· ∈ before)),fun _ => ?_⟩
 ·rw [hps,Js] at hp
  exact Or.inr hp
 ·obtain ⟨_,_,_,_,_,hz,hn⟩:=hW
  refine ⟨hok,_,_,([] ++ pa) ++ pv,⟨[] ++ pa,pv,trodAll_append (hargs _ (fun _ _ => rfl)) (hres _ _ _),hvars _ (fun _ _ => rfl),rfl,?_,?_⟩,?_⟩
  ·intro b off hp
   have hin:MemPlace.cell b off ∈ before:=by rw [hps]; simpa using hp
   rw [hb.frozen (hlt _ hin)]
   exact hz b off hin
  ·intro ha
   have:=hn ha
   rw [hps] at this
   simpa using this
  ·intro p hp _
   rw [hps]
   simpa using hp
theorem Zeo {w w':World} {base:Nat} {spare:Nat → Bool} {held:Bool}:∀ {ts:List TypeId} {vs:List Value} {ds:List (DataW H)} {ps:List MemPlace},
  DataW.TrodAll enc P w base spare held ts vs ds ps → (∀ p ∈ ps,w.sameAt w' p) → DataW.TrodAll enc P w' base spare held ts vs ds ps
 | [],[],[],_,h,_ => h
 | _ :: _,_ :: _,_ :: _,_,⟨p,q,⟨n,h1⟩,h2,e⟩,hs => ⟨p,q,⟨n,DataW.trod_carry n _ _ _ h1 (fun x hx => hs x (by rw [e]; exact List.mem_append_left _ hx))⟩,
   Zeo h2 (fun x hx => hs x (by rw [e]; exact List.mem_append_right _ hx)),e⟩
variable [Gl]
theorem law_contract {K:FuncId} {fn:Func} {spec:ChangeSpec} {B:TypeId} (tys:List Ty) {F:Nat → Kd.dens (Q7 tys) → Option (Ans (Q7 tys) (.view .bool))} {bound:Nat}
  (hl:laidOutB P = true) (hm:mapsRowed P = true) (hz:((List.range P.types.size).all fun t => match P.underlying t with | some (.slice e) => decide (0 < P.cellsOf e) | _ => true) = true)
  (hts:fn.params.toList.all (fun t => decide (t < P.types.size)) = true) (hfit:Zap P fn.params.toList tys = true) (hres:fn.resultTypes = #[B]) (hB:P.underlying B = some .bool)
  (hvars:spec.vars = []) (hspec:∀ (H:Type) (ds:List (DataW H)),ds.length = tys.length → spec.fn H ds = { results:=[.lit (.bool true)],args:=ds })
  (hctr:∀ k,Ctr P k K (mk (Q7 tys) (.view .bool) F)) (plain:∀ x:Kd.dens (Q7 tys),ZwR tys x → Zfa tys x ≤ bound → ∃ k u,F k x = some (true,u))
  (enc:TypeId × Value → H) (W:World) (b0:Nat) (args:Array Value) (ds gs:List (DataW H)) (before:List MemPlace)
  (hval:∀ (j:Nat) t v,fn.params[j]? = some t → args[j]? = some v → Value.okWide P W .any b0 t v)
  (hW:DataW.Whole enc P fn.params.toList spec.vars false W args.toList ds gs before) (hk:bulkDs (ds ++ gs) ≤ bound) (hgl:Ze6 W (whole W)) :
  Calls P K args W fun e W' => ∃ v,e = .returned v ∧ spec.post enc P fn false true false false W args v W':=by
 have hW':=hW
 obtain ⟨p,q,hA,hV,he,hfz,hnd⟩:=hW
 rw [hvars] at hV
 have hgs:gs = [] ∧ q = []:=by
  match gs,hV with
  | [],hV => exact ⟨rfl,hV⟩
  | _ :: _,hV => exact hV.elim
 obtain ⟨rfl,rfl⟩:=hgs
 simp only [Vg] at he hk
 obtain rfl:p = before:=he.symm
 obtain ⟨x,h1,h2,h3⟩:=Zdj (tys:=tys) hfit (fun j t v ht hv => hval j t v (by simpa using ht) (by simpa using hv)) hA
 obtain ⟨k,u,hF⟩:=plain x h2 (by omega)
 have hlen:ds.length = tys.length:=by
  have e1:∀ {Ts:List TypeId} {tys:List Ty} {vs:List Value} {ds:List (DataW H)} {ps:List MemPlace},Zap P Ts tys = true → DataW.TrodAll enc P W 0 (fun _ => true) true Ts vs ds ps → ds.length = tys.length:=by
   intro Ts
   induction Ts with
   | nil =>
    intro tys vs ds ps hf h
    obtain ⟨rfl,rfl,rfl⟩:=trodAll_nil h
    cases tys with
    | nil => rfl
    | cons => simp [Zap] at hf
   | cons T Ts ih =>
    intro tys vs ds ps hf h
    obtain ⟨v,vs',d,ds',p,q,rfl,rfl,rfl,h1,h2⟩:=trodAll_cons h
    cases tys with
    | nil => simp [Zap] at hf
    | cons t tys =>
     simp only [Zap,Jh] at hf
     simp [ih hf.2 h2]
  exact e1 hfit hA
 have hcall:=(hctr k).calls (WO (Q7 tys) x) (true,u) (by
  have hd:Zcj (Q7 tys) (WO (Q7 tys) x) = some x:=by
   have e2:∀ (l:List Ty) (x:Kd.dens (Q7 l)),Zcj (Q7 l) (WO (Q7 l) x) = some x:=by
    intro l
    induction l with
    | nil => intro x; rfl
    | cons t l ih =>
     intro x
     obtain ⟨y,ys⟩:=x
     show ((ZjS t (.view t y)).bind fun y => (Zcj (Q7 l) (WO (Q7 l) ys)).bind fun ys => some (y,ys)) = _
     rw [ih ys]
     simp only [ZjS,dite_true]
     rfl
   exact e2 tys x
  show (Zcj (Q7 tys) (WO (Q7 tys) x)).bind (F k) = some (true,u)
  rw [hd]; exact hF) W (whole W) args.toList [] (ZD8 W) hgl h1 List.nodup_nil (by simp)
 rw [Array.toArray_toList] at hcall
 refine hcall.mono fun e W' h => ?_
 obtain ⟨v,lim',b1,b2,rfl,hE,_,⟨ho,ht,hout⟩,hold,hT,_⟩:=h
 have hv:v = .bool true:=by
  have hT:Zdi W' lim' .bool true v ∧ b1 = []:=hT
  obtain ⟨⟨cs,c1,c2⟩,_⟩:=hT
  rcases c2 with ⟨c2,_⟩ | ⟨_,c2⟩
  ·cases c2
  ·simp only [Rt] at c1
   subst c2
   simpa using c1
 subst hv
 have hBel:Below W.heap.size W W':=⟨ho,ht,hout,hE.size,fun b hb => (hold b hb (by simp)).1⟩
 have hlt:∀ x ∈ p,x.block < W.heap.size:=fun x hx => hW'.lt x hx
 refine ⟨_,rfl,ZlS (pa:=p) (pv:=[]) hW' (fun b sp hd => ?_) (fun sp hsp => ?_) (fun sp hsp => ?_) (by simp) hBel ?_⟩
 ·rw [Vg,hspec H ds hlen,hres]
  exact ⟨[],[],⟨1,by simp [DataW.trod,Value.cells,hB]⟩,rfl,rfl⟩
 ·rw [Vg,hspec H ds hlen]
  refine Zeo (w:=W) (DataW.TrodAll.respare (kids_rows hl hm) (slices_full_of P hz) (fun t ht => ?_) hA hsp) (fun y hy => hBel.same (hlt y hy))
  simpa using Vf.1 hts t ht
 ·rw [Vg,hspec H ds hlen,hvars]
  rfl
 ·exact ok_one hres rfl (okWide_bool_mk hB true)
end
end Go.Sh
namespace Go.Sh
open Go Go.Proofs
theorem Zsq:WA 1 8 44100 0 [[5,5,5]] = ([255,248,96,0,0,2,228,0,5,227,208],0):=by decide +kernel
theorem Zut:ZsC 1 8 44100 [255,248,96,0,0,2,228,0,5,227,208] = ((0,[[5,5,5]]),11,0):=by decide +kernel
theorem ZAj (k:Nat) (hk:200000 < k):ZAi k () = some (true,()):=by
 show Zkt k _ = _
 simp only [Zkt]
 refine (Zd (Zrx k (by omega) 1 8 44100 0 [[5,5,5]]) _).trans ?_
 rw [Zsq]
 simp only
 rw [show ((0:Int) != 0) = false from rfl]
 simp only [cond_false]
 rw [show (UI [(255:Int),248,96,0,0,2,228,0,5,227,208].length != 11) = false from rfl]
 simp only [cond_false]
 rw [Zc (by simp)]
 rw [show (!(UV (List.map (fun n => UInt8.ofNat n.toNat) (List.drop 0 (List.take 6 [(255:Int),248,96,0,0,2,228,0,5,227,208]))).toArray).toList == (UV #[255,248,96,0,0,2]).toList) = false from by rw [ZGR]; decide +kernel]
 simp only [cond_false]
 refine (Zd (ZrI k 1 8 44100 (b:=[255,248,96,0,0,2,228,0,5,227,208]) (by decide) (by simp) (by simp; omega)) _).trans ?_
 rw [Zut]
 rfl
def Sm (ch:List (List Int)):Prop:=ch.length ≤ 1048576 ∧ ∀ l ∈ ch,l.length ≤ 1048576
theorem ZzY:∀ (a b c d e f g h:Bool) (j:Fin 8),(a.toNat * 128 + b.toNat * 64 + c.toNat * 32 + d.toNat * 16 + e.toNat * 8 + f.toNat * 4 + g.toNat * 2 + h.toNat).testBit (7 - j.val) = [a,b,c,d,e,f,g,h].getD j.val false:=by decide +kernel
theorem Zxk (f:Nat → Bool) {j:Nat} (hj:j < 8):(Yk f).testBit (7 - j) = f j:=by
 have:=ZzY (f 0) (f 1) (f 2) (f 3) (f 4) (f 5) (f 6) (f 7) ⟨j,hj⟩
 simp only at this
 unfold Yk
 rw [this]
 match j,hj with
 | 0,_ => rfl
 | 1,_ => rfl
 | 2,_ => rfl
 | 3,_ => rfl
 | 4,_ => rfl
 | 5,_ => rfl
 | 6,_ => rfl
 | 7,_ => rfl
theorem Ztq {B:List Bool} (h:B.length % 8 = 0):Qd (ZK B) = B:=by
 have hl:(ZK B).length = B.length / 8:=by rw [Z9]; omega
 apply HK
 ·rw [Qf,hl]; omega
 ·intro i h1 h2
  rw [Zgx (by rw [hl]; omega),XB,WV]
  unfold QX
  rw [Zxk _ (U7 _ (by omega)),show 8 * (i / 8) + i % 8 = i by omega,K2 h2]
theorem Zz0:∀ x:Fin 256,Yk (fun j => x.val.testBit (7 - j)) = x.val:=by decide +kernel
theorem ZeN {b:List Int} (h:ZM b = true):ZK (Qd b) = b:=by
 apply HK
 ·rw [Z9,Qf]; omega
 ·intro i h1 h2
  obtain ⟨x,hx,hxe⟩:=Ks h h2
  rw [XB,hxe]
  have:QX (Qd b) i = Yk (fun j => x.testBit (7 - j)):=by
   have key:∀ j,j < 8 → (Qd b).getD (8 * i + j) false = x.testBit (7 - j):=by
    intro j hj
    rw [K2 (by rw [Qf]; omega),Zgx (by omega)]
    have:(8 * i + j) / 8 = i:=by omega
    simp only [this,hxe,WV]
    congr 1
    omega
   unfold QX Yk
   simp only
   rw [key 0 (by omega),key 1 (by omega),key 2 (by omega),key 3 (by omega),key 4 (by omega),key 5 (by omega),key 6 (by omega),key 7 (by omega)]
  rw [this]
  have:=Zz0 ⟨x,hx⟩
  simp only at this
  rw [this]
theorem ZuD (B:List Bool):(Xo B).length % 8 = 0 ∧ (Xo B).length = B.length + Kh B.length:=by
 unfold Xo
 rw [XH,Ur]
 unfold Kh
 omega
theorem ZtB (B:List Bool):(XL B).length % 8 = 0 ∧ (XL B).length = B.length + Kh B.length + 16:=by
 have:=ZuD B
 unfold XL
 rw [XH,Zk]
 omega
theorem Zoi (c a w:Nat):Za c (a + w) = Za (c / 2 ^ w) a ++ Za c w:=by
 induction a with
 | zero => simp [Za]
 | succ a ih =>
  rw [show a + 1 + w = (a + w) + 1 by omega]
  simp only [Za,List.cons_append]
  rw [ih,Nat.testBit_div_two_pow]
end Go.Sh
namespace Go.Sh
open Go Go.Proofs
theorem Zs8 (c d r n:Int) (ch:List (List Int)):ZM (WA c d r n ch).1 = true:=by
 unfold WA
 split
 ·exact Yw _
 ·rfl
theorem Zn4 (c d r n:Int) (ch:List (List Int)):(WA c d r n ch).1.length ≤ 5000:=by
 unfold WA
 split
 ·rename_i h
  obtain ⟨hs,hn,hc,hlen,hsg⟩:=Kt h
  obtain ⟨hlay,_,_⟩:=Zuu h
  have h2:1 ≤ (ch.headD []).length ∧ (ch.headD []).length ≤ 512:=by
   have:0 < ch.length:=by omega
   match ch,this with
   | l :: _,_ => exact (hlen l (by simp)).2
  have h1:=Zj6 hlay h2.1 h2.2 (by omega) (by omega)
  have h3:=Zaf (Yb ch).2.toNat n.toNat (ch.headD []).length
  have h4:=ZmS n.toNat
  have h5:=ZcZ (ch.headD []).length
  have h6:=ZtB (Qa (Yb ch).2.toNat n.toNat (ch.headD []).length ++ Z2 (Yb ch).1 (Z0 c d (Yb ch).2))
  have h7:Kh (Qa (Yb ch).2.toNat n.toNat (ch.headD []).length ++ Z2 (Yb ch).1 (Z0 c d (Yb ch).2)).length < 8:=by unfold Kh; omega
  simp only
  rw [Z9]
  rw [XH] at h6 h7
  unfold Qa at h6 h7 ⊢
  rw [XH,Zk] at h6 h7
  omega
 ·simp
end Go.Sh
namespace Go.Sh
open Go Go.Proofs
theorem ZuY {α:Type} (f:α → Nat):∀ (l:List α),(∀ x ∈ l,1 ≤ f x) → l.length ≤ (l.map f).sum ∧ ∀ x ∈ l,f x ≤ (l.map f).sum
 | [],_ => ⟨Jj _,by simp⟩
 | a :: l,h => by
  obtain ⟨h1,h2⟩:=ZuY f l fun x hx => h x (Jn _ hx)
  have h3:=h a (Jm ..)
  simp only [JF,JR,List.sum_cons]
  refine ⟨by omega,fun x hx => ?_⟩
  rcases VM.1 hx with rfl | hx
  ·omega
  ·have:=h2 x hx; omega
theorem Zsi {n:Int} {ch:List (List Int)} (h:Ty.bulk frameT (n,ch,()) ≤ 1048576):Sm ch:=by
 have h1:(1:Nat) + (((ch.map (Ty.bulk (.sl (.int .i64)))).sum + 1) + 0) ≤ 1048576:=h
 have s:=ZuY (Ty.bulk (.sl (.int .i64))) ch (fun x _ => by simp only [Ty.bulk]; omega)
 refine ⟨by omega,fun x hx => ?_⟩
 have h2:=s.2 x hx
 have h3:Ty.bulk (.sl (.int .i64)) x = (x.map (Ty.bulk (.int .i64))).sum + 1:=rfl
 have h4:=ZuY (Ty.bulk (.int .i64)) x (fun y _ => by simp only [Ty.bulk]; omega)
 omega
end Go.Sh
namespace Go.Sh
open Go Go.Proofs
theorem ZzC (c d r n:Int) (ch:List (List Int)):(WA c d r n ch).2 = Xn c d r n ch:=by
 unfold WA
 split
 ·rename_i h; rw [h]
 ·rfl
end Go.Sh
namespace Go.Sh
open Go Go.Proofs
theorem Zad {A X:List Bool} (h:A.length % 8 = 0):ZK (A ++ X) = ZK A ++ ZK X:=by
 have hA:(ZK A).length = A.length / 8:=by rw [Z9]; omega
 apply HK
 ·rw [XH,Z9,Z9,Z9,XH]; omega
 ·intro i h1 h2
  rw [XB]
  by_cases hi:i < (ZK A).length
  ·rw [List.getElem_append_left hi,XB]
   congr 1
   unfold QX Yk
   have:∀ j,j < 8 → (A ++ X).getD (8 * i + j) false = A.getD (8 * i + j) false:=by
    intro j hj
    simp only [VS]
    rw [UZ (by omega)]
   simp only []
   rw [this 0 (by omega),this 1 (by omega),this 2 (by omega),this 3 (by omega),this 4 (by omega),this 5 (by omega),this 6 (by omega),this 7 (by omega)]
  ·rw [List.getElem_append_right (by omega),XB]
   congr 1
   unfold QX Yk
   have:∀ j,j < 8 → (A ++ X).getD (8 * i + j) false = X.getD (8 * (i - (ZK A).length) + j) false:=by
    intro j hj
    simp only [VS]
    rw [List.getElem?_append_right (by omega)]
    congr 2
    omega
   simp only []
   rw [this 0 (by omega),this 1 (by omega),this 2 (by omega),this 3 (by omega),this 4 (by omega),this 5 (by omega),this 6 (by omega),this 7 (by omega)]
end Go.Sh
namespace Go.Sh
open Go Go.Proofs
def SP (p A:List Bool):Prop:=p <+: A ∧ p.length < A.length
theorem SP.split {p A B:List Bool} (h:SP p (A ++ B)):SP p A ∨ ∃ q,p = A ++ q ∧ SP q B:=by
 obtain ⟨h1,h2⟩:=h
 by_cases hl:p.length < A.length
 ·exact .inl ⟨EG h1 (EF A B) (by omega),hl⟩
 ·right
  obtain ⟨t,ht⟩:=EG (EF A B) h1 (by omega)
  refine ⟨t,ht.symm,?_,?_⟩
  ·rw [← ht] at h1
   exact (List.prefix_append_right_inj A).1 h1
  ·rw [← ht] at h2
   rw [XH,XH] at h2
   omega
theorem SP.no {p:List Bool} (h:SP p []):False:=by have:=h.2; simp at this
structure Enc {α:Type} (f:List Bool → α × Int × List Bool) (v:α) (A:List Bool):Prop where
 ok:∀ r,f (A ++ r) = (v,0,r)
 tail:∀ p,SP p A → (f p).2.1 = 10
theorem YQ {n w:Nat} (h:n < 2 ^ w):Enc (ZH w) n (Za n w) where
 ok:=fun r => by
  have hl:=Zk n w
  unfold ZH
  rw [if_pos (by rw [XH]; omega),Ew (by omega),Et (by omega),Zal,EJ h,El,HV (by omega),VT,hl,Ey,U9]
 tail:=fun p hp => by
  have:=hp.2
  rw [Zk] at this
  unfold ZH
  rw [if_neg (by omega)]
theorem ZuP {n:Int} {w:Nat} (h:Xk n w = true):ZFG w (n % 2 ^ w).toNat = n:=by
 unfold Xk at h
 unfold ZFG
 by_cases h0:w = 0
 ·subst h0
  simp only [if_true,decide_eq_true_eq] at h
  subst h
  simp
 ·rw [if_neg h0,decide_eq_true_eq] at h
  have hpw:(2:Int) ^ w = 2 * 2 ^ (w - 1):=by rw [show w = (w - 1) + 1 by omega,Int.pow_succ,Nat.add_sub_cancel,Int.mul_comm]
  have hp:(0:Int) < 2 ^ (w - 1):=Int.pow_pos (by omega)
  have hpn:((2 ^ (w - 1):Nat):Int) = 2 ^ (w - 1):=by rw [WP]
  rw [hpw]
  by_cases hn:0 ≤ n
  ·have e:n % (2 * 2 ^ (w - 1)) = n:=EC hn (by omega)
   rw [e,if_neg (by omega)]
   omega
  ·have e:n % (2 * 2 ^ (w - 1)) = n + 2 * 2 ^ (w - 1):=by
    rw [← Int.add_emod_right,EC (by omega) (by omega)]
   rw [e,if_pos ⟨by omega,by omega⟩]
   omega
theorem Zny {n:Int} {w:Nat} (h:Xk n w = true):Enc (Wo w) n (Wh n w) where
 ok:=fun r => by
  have hl:=Ko n w
  unfold Wo
  rw [if_pos (by rw [XH]; omega),Ew (by omega),Et (by omega),El,HV (by omega),VT,hl,Ey,U9]
  have hlt:(n % 2 ^ w).toNat < 2 ^ w:=by
   have hp:(0:Int) < 2 ^ w:=Int.pow_pos (by omega)
   have h1:=Int.emod_nonneg n (show (2:Int) ^ w ≠ 0 by omega)
   have h2:=Int.emod_lt_of_pos n hp
   have h3:((2 ^ w:Nat):Int) = 2 ^ w:=by rw [WP]
   omega
  unfold Wh
  rw [Zal,EJ hlt,ZuP h]
 tail:=fun p hp => by
  have:=hp.2
  rw [Ko] at this
  unfold Wo
  rw [if_neg (by omega)]
theorem Zs2:∀ (q n:Nat) (r:List Bool),Zep n ((Jd q false ++ [true]) ++ r) = some (n + q,r)
 | 0,n,r => rfl
 | q + 1,n,r => by
  rw [EH]
  show Zep (n + 1) ((Jd q false ++ [true]) ++ r) = _
  rw [Zs2 q (n + 1) r]
  congr 2
  omega
theorem Zmh:∀ (p:List Bool) (n:Nat),(∀ x ∈ p,x = false) → Zep n p = none
 | [],n,_ => rfl
 | x :: p,n,h => by
  have:=h x (Jm ..)
  subst this
  exact Zmh p (n + 1) fun y hy => h y (Jn _ hy)
theorem Zgq (q:Nat):Enc unS q (Jd q false ++ [true]) where
 ok:=fun r => by
  unfold unS
  rw [Zs2 q 0 r]
  simp
 tail:=fun p hp => by
  have hz:∀ x ∈ p,x = false:=by
   rcases hp.split with h | ⟨t,rfl,h⟩
   ·intro x hx
    exact Ez (h.1.subset hx)
   ·intro x hx
    have ht:t = []:=by have:=h.2; simp at this; exact this
    subst ht
    rw [Vg] at hx
    exact Ez hx
  unfold unS
  rw [Zmh p 0 hz]
theorem Zun {n:Int} (h:ZB n):ZV n < 4294967295:=by
 unfold ZB at h
 unfold ZV
 split <;> omega
theorem ZDt {n:Int} (h:ZB n) (kk:Nat):Enc (KP kk) n (YE kk n) where
 ok:=fun r => by
  have h1:=(Zgq (ZV n / 2 ^ kk)).ok (Za (ZV n % 2 ^ kk) kk ++ r)
  have h2:=(YQ (n:=ZV n % 2 ^ kk) (w:=kk) (U7 _ (U2 (by omega)))).ok r
  unfold KP YE
  rw [Ju,h1]
  simp only
  rw [h2]
  simp only
  have e:ZV n / 2 ^ kk * 2 ^ kk + ZV n % 2 ^ kk = ZV n:=by rw [Nat.mul_comm]; exact Nat.div_add_mod _ _
  have:=Zun h
  rw [e,if_neg (by simp),if_neg (by simp),if_neg (by omega),Zs3 h]
 tail:=fun p hp => by
  unfold YE at hp
  unfold KP
  rcases hp.split with h1 | ⟨q,rfl,h1⟩
  ·have:=(Zgq (ZV n / 2 ^ kk)).tail p h1
   rw [if_pos (by rw [this]; decide)]
   exact this
  ·rw [(Zgq (ZV n / 2 ^ kk)).ok q]
   have:=(YQ (n:=ZV n % 2 ^ kk) (w:=kk) (U7 _ (U2 (by omega)))).tail q h1
   simp only
   rw [if_neg (by simp),if_pos (by rw [this]; decide)]
   exact this
theorem ZhL {one:Zu4} {g:Int → List Bool}:∀ (xs acc:List Int),(∀ x ∈ xs,Enc one x (g x)) → Enc (fun r => Xz one xs.length r acc) (acc ++ xs) (xs.flatMap g)
 | [],acc,_ => ⟨fun r => by simp [Xz],fun p hp => (hp.no).elim⟩
 | x :: xs,acc,h => by
  have hx:=h x (Jm ..)
  have ih:=ZhL xs (acc ++ [x]) fun y hy => h y (Jn _ hy)
  constructor
  ·intro r
   have:=ih.ok r
   rw [HS,Ju,JF]
   unfold Xz
   rw [hx.ok]
   simp only
   rw [if_neg (by simp),this,Ju]
   rfl
  ·intro p hp
   rw [HS] at hp
   simp only [JF]
   unfold Xz
   rcases hp.split with h1 | ⟨q,rfl,h1⟩
   ·have:=hx.tail p h1
    rw [if_pos (by rw [this]; decide)]
    exact this
   ·rw [hx.ok q]
    simp only
    rw [if_neg (by simp)]
    exact ih.tail q h1
theorem Zzk {c:List Int} (hc:∀ x ∈ c,ZB x) {m:Nat} (hm:m = 0 ∨ m = 1) {y:Prt} (hy:Y1 c m y):Enc (XC m c.length) c (W7 m (c,y)):=by
 obtain ⟨a,w,ha,ha2,hw,hw2⟩:=ZlN (m:=(m:Int)) (by omega) hy
 have hA:=YQ (n:=a) (w:=4 + m) (by simpa using ha2)
 have hW:=YQ (n:=w) (w:=5) (by omega)
 have key:∃ B,W7 m (c,y) = Za a (4 + m) ++ B ∧ Enc (fun r => if a = WX m then (if (ZH 5 r).2.1 ≠ 0 then (([]:List Int),(ZH 5 r).2.1,(ZH 5 r).2.2) else Xz (Wo (ZH 5 r).1) c.length (ZH 5 r).2.2 []) else Xz (KP a) c.length r []) c B:=by
  unfold W7 Yc
  simp only [ha,hw,WV]
  rcases hy with ⟨kk,hkk,hfar,rfl⟩ | ⟨hwid,rfl⟩
  ·simp only at ha
   obtain rfl:kk = a:=by omega
   have hne:¬ kk = WX m:=by omega
   have hne2:¬ ((kk:Int) = ((WX (m:Int):Nat):Int)):=by omega
   rw [if_neg hne2,if_neg hne2]
   refine ⟨_,rfl,?_⟩
   rw [VT]
   have:=ZhL (one:=KP kk) (g:=YE kk) c [] fun x hx => ZDt (hc x hx) kk
   simp only [if_neg hne]
   exact this
  ·simp only at ha hw
   obtain rfl:WX (m:Int) = a:=by omega
   obtain rfl:QC c = w:=by omega
   rw [if_pos rfl,if_pos rfl]
   refine ⟨_,rfl,?_⟩
   have hl:=ZhL (one:=Wo (QC c)) (g:=fun n => Wh n (QC c)) c [] fun x hx => Zny (Zn3 hc x hx)
   constructor
   ·intro r
    have h1:=hl.ok r
    simp only [if_true]
    rw [Ju,hW.ok]
    simp only
    rw [if_neg (by simp),h1]
    simp
   ·intro p hp
    simp only [if_true]
    rcases hp.split with h1 | ⟨q,rfl,h1⟩
    ·have:=hW.tail p h1
     rw [if_pos (by rw [this]; decide)]
     exact this
    ·rw [hW.ok q]
     simp only
     rw [if_neg (by simp)]
     exact hl.tail q h1
 obtain ⟨B,hB,hE⟩:=key
 rw [hB]
 constructor
 ·intro r
  have:=hE.ok r
  unfold XC
  rw [Ju,hA.ok]
  simp only at this ⊢
  rw [if_neg (by simp)]
  exact this
 ·intro p hp
  unfold XC
  rcases hp.split with h1 | ⟨q,rfl,h1⟩
  ·have:=hA.tail p h1
   rw [if_pos (by rw [this]; decide)]
   exact this
  ·have:=hE.tail q h1
   rw [hA.ok q]
   simp only at this ⊢
   rw [if_neg (by simp)]
   exact this
theorem Zh6 {m n o p:Nat} (hm:m = 0 ∨ m = 1):∀ (cs:List (List Int)) (ys:List Prt) (i:Nat) (acc:List Int),(∀ c ∈ cs,∀ x ∈ c,ZB x) → YB m cs ys → (∀ (j:Nat) (h:j < cs.length),cs[j].length = n / 2 ^ p - if i + j = 0 then o else 0) →
  Enc (fun r => Q4 m n o p cs.length i r acc) (acc ++ cs.flatten) ((cs.zip ys).flatMap (W7 m))
 | [],[],i,acc,_,_,_ => ⟨fun r => by simp [Q4],fun p hp => (hp.no).elim⟩
 | c :: cs,y :: ys,i,acc,hn,hok,hlen => by
  have hc:=Zzk (hn c (Jm ..)) hm hok.1
  have hl:=hlen 0 (by simp)
  simp only [Eo,Nat.add_zero] at hl
  have ih:=Zh6 (n:=n) (o:=o) (p:=p) hm cs ys (i + 1) (acc ++ c) (fun d hd => hn d (Jn _ hd)) hok.2 (fun j hj => by
   have:=hlen (j + 1) (by simpa using hj)
   simp only [Em] at this
   rw [this]
   congr 1
   split <;> split <;> omega)
  constructor
  ·intro r
   have:=ih.ok r
   rw [EB,HS,Ju,JF]
   unfold Q4
   rw [← hl,hc.ok]
   simp only
   rw [if_neg (by simp),this,J2,Ju]
  ·intro q hq
   rw [EB,HS] at hq
   simp only [JF]
   unfold Q4
   rw [← hl]
   rcases hq.split with h1 | ⟨t,rfl,h1⟩
   ·have:=hc.tail q h1
    rw [if_pos (by rw [this]; decide)]
    exact this
   ·rw [hc.ok t]
    simp only
    rw [if_neg (by simp)]
    exact ih.tail t h1
theorem Zia {size:Nat}:∀ (d:Nat) (r:List Int),r.length = d * size → (Yn size d r).flatten = r ∧ ∀ c ∈ Yn size d r,c.length = size
 | 0,r,h => by
  have:r = []:=EE.1 (by omega)
  subst this
  simp [Yn]
 | d + 1,r,h => by
  have hs:(d + 1) * size = d * size + size:=by rw [Nat.add_mul,Nat.one_mul]
  obtain ⟨h1,h2⟩:=Zia (size:=size) d (r.drop size) (by rw [Vi]; omega)
  refine ⟨?_,?_⟩
  ·simp only [Yn,J2,h1,EA]
  ·intro c hc
   rcases VM.1 hc with rfl | hc
   ·rw [Jz]; omega
   ·exact h2 c hc
theorem Zxr {l:List Int} {o p:Nat} (hf:Zb7 (l.length + o) o p = true):(XM l o p).flatten = l ∧ ∀ (j:Nat) (h:j < (XM l o p).length),(XM l o p)[j].length = (l.length + o) / 2 ^ p - if 0 + j = 0 then o else 0:=by
 unfold Zb7 at hf
 simp only [Jh,decide_eq_true_eq] at hf
 obtain ⟨hm,ho⟩:=hf
 have h0:0 < 2 ^ p:=U2 (by omega)
 have hd:(l.length + o) / 2 ^ p ≤ l.length + o:=Nat.div_le_self _ _
 have hmul:2 ^ p * ((l.length + o) / 2 ^ p) = l.length + o:=by have:=Nat.div_add_mod (l.length + o) (2 ^ p); omega
 unfold XM
 generalize (l.length + o) / 2 ^ p = size at ho hd hmul
 have e3:(2 ^ p - 1) * size = 2 ^ p * size - size:=by rw [Nat.sub_mul,Nat.one_mul]
 have hps:size ≤ 2 ^ p * size:=Nat.le_mul_of_pos_left _ h0
 obtain ⟨h1,h2⟩:=Zia (size:=size) (2 ^ p - 1) (l.drop (size - o)) (by
  rw [Vi,e3,hmul]
  omega)
 refine ⟨by rw [J2,h1,EA],?_⟩
 intro j hj
 match j,hj with
 | 0,_ =>
  simp only [Eo]
  rw [if_pos trivial,Jz]
  clear h1 h2 e3
  generalize 2 ^ p * size = M at hmul hps
  omega
 | j + 1,hj =>
  simp only [Em]
  rw [if_neg (show ¬ 0 + (j + 1) = 0 by omega),Nat.sub_zero]
  exact h2 _ (U5 _)
theorem Zzs {l:List Int} {o:Nat} (h:XI l (o:Nat) = 0):Enc (Yh (l.length + o) o) l (WQ l o):=by
 obtain ⟨h1,h2⟩:=Zdc.1 h
 have hl:=Yv h2
 obtain ⟨_,q,hg⟩:=Kb hl (o:=o) (by omega) (by omega)
 unfold WQ Zc8
 have hys:=hg.ys
 generalize Wq l o = R at hg hys
 obtain ⟨m,p,sz,ys⟩:=R
 obtain ⟨hp,p4,hfit,hm,hparts⟩:=hg
 simp only at hp hm hys
 subst hp
 obtain ⟨mn,hmn⟩:∃ mn:Nat,m = (mn:Int):=⟨m.toNat,by omega⟩
 subst hmn
 simp only [WV]
 have hm':mn = 0 ∨ mn = 1:=by omega
 have hM:=YQ (n:=mn) (w:=2) (by omega)
 have hP:=YQ (n:=q) (w:=4) (by omega)
 obtain ⟨hflat,hlen⟩:=Zxr hfit
 have hB:=Zh6 (n:=l.length + o) (o:=o) (p:=q) hm' (XM l o q) ys 0 [] (fun c hc x hx => hl x (Ku hc x hx)) hys hlen
 rw [VT,hflat,Zfj] at hB
 have hbb:Zam ((l.length + o:Nat):Int) ((o:Nat):Int) = true:=dTr (by omega)
 rw [Ju]
 constructor
 ·intro r
  have:=hB.ok r
  unfold Yh
  rw [if_neg (by rw [hbb]; simp),Ju,hM.ok,Ju]
  simp only
  rw [if_neg (by simp),if_neg (by omega),hP.ok]
  simp only
  rw [if_neg (by simp),if_neg (by rw [hfit]; simp),this]
 ·intro p hp
  unfold Yh
  rw [if_neg (by rw [hbb]; simp)]
  rcases hp.split with h3 | ⟨t,rfl,h3⟩
  ·have:=hM.tail p h3
   rw [if_pos (by rw [this]; decide)]
   exact this
  ·rw [hM.ok]
   simp only
   rw [if_neg (by simp),if_neg (by omega)]
   rcases h3.split with h4 | ⟨u,rfl,h4⟩
   ·have:=hP.tail t h4
    rw [if_pos (by rw [this]; decide)]
    exact this
   ·rw [hP.ok]
    simp only
    rw [if_neg (by simp),if_neg (by rw [hfit]; simp)]
    exact hB.tail u h4
end Go.Sh
namespace Go.Sh
open Go Go.Proofs
theorem Za9 {w:Nat} {s:IS} (h:s.2 ≠ 0):gI w s = (0,s):=by unfold gI; rw [if_neg h]
theorem Wx {ok:Bool} {s:IS} {code:Int} (h:s.2 ≠ 0):mI ok s code = s:=by unfold mI; rw [if_neg (fun hh => h hh.1)]
theorem KD {w:Nat}:∀ (n:Nat) (s:IS) (acc:List Int),s.2 ≠ 0 → (Xd w n s acc).2 = s
 | 0,s,acc,h => rfl
 | n + 1,s,acc,h => by
  unfold Xd
  rw [if_neg h]
  exact KD n s _ h
theorem Y8 {n w:Nat} (h:n < 2 ^ w) (r:List Bool):gI w (Za n w ++ r,0) = (n,(r,0)):=by
 unfold gI
 rw [if_pos rfl,(YQ h).ok]
theorem ZdT {n w:Nat} (h:n < 2 ^ w) {p:List Bool} (hp:SP p (Za n w)):(gI w (p,0)).2.2 = 10:=by
 unfold gI
 rw [if_pos rfl]
 exact (YQ h).tail p hp
structure EncI {α:Type} (f:IS → α × IS) (v:α) (A:List Bool):Prop where
 ok:∀ r,f (A ++ r,0) = (v,(r,0))
 tail:∀ p,SP p A → (f (p,0)).2.2 = 10
theorem Zbd {w:Nat}:∀ (xs acc:List Int),(∀ x ∈ xs,Xk x w = true) → EncI (fun s => Xd w xs.length s acc) (acc ++ xs) (xs.flatMap fun n => Wh n w)
 | [],acc,_ => ⟨fun r => by simp [Xd],fun p hp => (hp.no).elim⟩
 | x :: xs,acc,h => by
  have hx:=Zny (h x (Jm ..))
  have ih:=Zbd xs (acc ++ [x]) fun y hy => h y (Jn _ hy)
  constructor
  ·intro r
   have:=ih.ok r
   rw [HS,Ju,JF]
   unfold Xd
   rw [if_pos rfl,hx.ok,this,Ju]
   rfl
  ·intro p hp
   rw [HS] at hp
   simp only [JF]
   unfold Xd
   rw [if_pos rfl]
   rcases hp.split with h1 | ⟨q,rfl,h1⟩
   ·have:=hx.tail p h1
    rw [KD _ _ _ (by simp only; rw [this]; decide)]
    exact this
   ·rw [hx.ok q]
    exact ih.tail q h1
theorem ZFP {kind:Nat} (h:kind < 64):Za kind 7 = Za 0 1 ++ Za kind 6:=by
 have:kind.testBit 6 = false:=Nat.testBit_lt_two_pow (by omega)
 show kind.testBit 6 :: Za kind 6 = (0:Nat).testBit 0 :: Za kind 6
 rw [this]
 rfl
theorem ZsS (r:List Bool):KM (Za 0 1 ++ r,0) = (r,0):=by
 unfold KM
 rw [Y8 (n:=0) (w:=1) (by omega)]
 rfl
theorem ZuT {p:List Bool} (hp:SP p (Za 0 1)):(KM (p,0)).2 = 10:=by
 have h:=ZdT (n:=0) (w:=1) (by omega) hp
 unfold KM
 rw [Wx (by rw [h]; decide),h]
theorem ZsT {kind:Nat} (h:kind < 64) (hk:Zbb kind = true) (r:List Bool):X3 (Za kind 6 ++ r,0) = (kind,(r,0)):=by
 unfold X3
 rw [Y8 (w:=6) (by omega),hk,Xf]
theorem ZsU {s:IS} (h:s.2 ≠ 0):(X3 s).2 = s:=by
 unfold X3
 rw [Za9 h]
 exact Wx h
theorem ZuU {kind:Nat} (h:kind < 64) {p:List Bool} (hp:SP p (Za kind 6)):(X3 (p,0)).2.2 = 10:=by
 have h:=ZdT (w:=6) (by omega) hp
 unfold X3
 simp only
 rw [Wx (by rw [h]; decide),h]
theorem ZiB {kind d:Nat} {s:IS} (h:s.2 ≠ 0):(Zbp kind d s).2.2 = s:=by
 unfold Zbp
 rw [Za9 h,if_neg (by simp)]
 exact Wx h
def ZjD (kk:Nat):List Bool:=if 0 < kk then [true] ++ (Jd (kk - 1) false ++ [true]) else [false]
theorem ZDU {kind d kk:Nat} (h:kk < d) (r:List Bool):Zbp kind d (ZjD kk ++ r,0) = (kind,kk,(r,0)):=by
 unfold Zbp ZjD
 by_cases h0:0 < kk
 ·rw [if_pos h0]
  have e:=Y8 (n:=1) (w:=1) (by omega) ((Jd (kk - 1) false ++ [true]) ++ r)
  rw [show Za 1 1 = [true] from rfl] at e
  rw [Ju,e,if_pos ⟨rfl,rfl⟩]
  simp only
  rw [(Zgq (kk - 1)).ok r]
  simp only
  rw [show kk - 1 + 1 = kk by omega,dTr h,Xf]
 ·rw [if_neg h0]
  have e:=Y8 (n:=0) (w:=1) (by omega) r
  rw [show Za 0 1 = [false] from rfl] at e
  obtain rfl:kk = 0:=by omega
  rw [e,if_neg (by simp)]
  simp only
  rw [dTr h,Xf]
theorem ZuW {kind d kk:Nat} {p:List Bool} (hp:SP p (ZjD kk)):(Zbp kind d (p,0)).2.2.2 = 10:=by
 unfold ZjD at hp
 by_cases h0:0 < kk
 ·rw [if_pos h0] at hp
  rcases hp.split with h1 | ⟨q,rfl,h1⟩
  ·have h:=ZdT (n:=1) (w:=1) (by omega) (show SP p (Za 1 1) from h1)
   unfold Zbp
   rw [if_neg (fun hh => by rw [h] at hh; exact absurd hh.2 (by decide))]
   simp only
   rw [Wx (by rw [h]; decide),h]
  ·have e:=Y8 (n:=1) (w:=1) (by omega) q
   rw [show Za 1 1 = [true] from rfl] at e
   have h:=(Zgq (kk - 1)).tail q h1
   unfold Zbp
   rw [e,if_pos ⟨rfl,rfl⟩]
   simp only
   rw [Wx (by simp only; rw [h]; decide)]
   exact h
 ·rw [if_neg h0] at hp
  have h:=ZdT (n:=0) (w:=1) (by omega) (show SP p (Za 0 1) from hp)
  unfold Zbp
  rw [if_neg (fun hh => by rw [h] at hh; exact absurd hh.2 (by decide))]
  simp only
  rw [Wx (by rw [h]; decide),h]
theorem Zmc {kind kk d:Nat} (h:kind < 64) (hk:Zbb kind = true) (hd:kk < d) (r:List Bool):ZJ d (Xw kind kk ++ r,0) = (kind,kk,(r,0)):=by
 unfold ZJ Xw
 rw [WV,ZFP h,Ju,Ju,ZsS,ZsT h hk]
 exact ZDU hd r
theorem Zqo {kind kk d:Nat} (h:kind < 64) (hk:Zbb kind = true) {p:List Bool} (hp:SP p (Xw kind kk)):(ZJ d (p,0)).2.2.2 = 10:=by
 unfold Xw at hp
 rw [WV,ZFP h,Ju] at hp
 unfold ZJ
 rcases hp.split with h1 | ⟨q,rfl,h1⟩
 ·have e:=ZuT h1
  have e2:=ZsU (s:=KM (p,0)) (by rw [e]; decide)
  rw [e2,ZiB (by rw [e]; decide),e]
 ·rw [ZsS]
  rcases h1.split with h2 | ⟨t,rfl,h2⟩
  ·have e:=ZuU h h2
   rw [ZiB (by rw [e]; decide),e]
  ·rw [ZsT h hk]
   exact ZuW h2
theorem ZsE {c:List Int} {sh:Int} {s:List Int} (hs:s.any Qq = false):∀ (d i:Nat),i + d = s.length → Zge c sh (ZmD c sh s d i) (s.take i) = (s,0)
 | 0,i,h => by
  rw [Et (by omega)]
  rfl
 | d + 1,i,h => by
  have hi:i < s.length:=by omega
  simp only [ZmD]
  unfold Zge
  have e:ZlY c sh s i + Zb4 c sh (s.take i) = s[i]:=by
   unfold ZlY
   rw [K2 hi]
   omega
  have hw:Qq s[i] = false:=by
   rw [Uk] at hs
   have:=hs s[i] (U5 hi)
   simpa using this
  have ht:s.take i ++ [s[i]] = s.take (i + 1):=by rw [List.take_add_one,VO hi]; rfl
  rw [e,hw,if_neg (by simp),ht]
  exact ZsE hs d (i + 1) (by omega)
theorem Zqg {c s:List Int} {sh:Int} (h:(QB c sh s).2 = 0):KE c sh = true ∧ c.length ≤ s.length ∧ s.any Qq = false ∧ (Xp c sh s).any Qq = false:=by
 unfold QB at h
 split at h
 ·simp at h
 ·split at h
  ·simp at h
  ·split at h
   ·simp at h
   ·split at h
    ·simp at h
    ·rename_i h1 h2 h3 h4
     exact ⟨by simpa using h1,by omega,by simpa using h3,by simpa using h4⟩
theorem ZsG {c s:List Int} {sh:Int} (h:(QB c sh s).2 = 0):YX c sh (s.take c.length) (Xp c sh s) = (s,0):=by
 obtain ⟨h1,h2,h3,h4⟩:=Zqg h
 unfold YX
 have ht:(s.take c.length).any Qq = false:=by
  rw [Uk] at h3 ⊢
  exact fun x hx => h3 x (JT hx)
 rw [if_neg (by rw [h1]; simp),if_neg (by rw [Jz]; omega),if_neg (by rw [ht]; simp),if_neg (by rw [h4]; simp)]
 exact ZsE h3 (s.length - c.length) c.length (by omega)
theorem ZmO {c s:List Int} {sh:Int} (h:(QB c sh s).2 = 0) (h1:1 ≤ s.length) (h2:s.length ≤ 512):EncI (Zax c sh c.length s.length (s.take c.length)) s (WQ (Xp c sh s) c.length):=by
 obtain ⟨hl,h8,hr⟩:=YF h h1 h2
 obtain ⟨e1,_,_⟩:=Zde h
 rw [e1] at hl hr
 have hE:=Zzs hr
 rw [hl] at hE
 constructor
 ·intro r
  unfold Zax
  simp only
  rw [hE.ok r]
  simp only
  rw [if_neg (by simp),ZsG h]
 ·intro p hp
  unfold Zax
  simp only
  have:=hE.tail p hp
  rw [if_pos (by rw [this]; decide)]
  exact this
theorem Ze9 {num:Bool} {c n:Nat} {w:List Int × IS} (h:w.2.2 ≠ 0):(KS num c n w).2 = w.2:=by
 unfold KS
 split
 ·have e1:Y7 w.2 = w.2:=by unfold Y7; rw [Za9 h]; exact Wx h
  have e2:(Q6 w.2).2 = w.2:=by unfold Q6; rw [Za9 h]; exact Wx h
  rw [e1,e2]
  have e3:=KD (w:=12) c w.2 [] h
  unfold Zb0
  rw [e3,if_pos h]
 ·first
  | rfl
  | rw [if_pos h]
theorem Zxi {s:List Int} {d:Nat} {x:WW} (h1:1 ≤ s.length) (h2:s.length ≤ 512) (hs:∀ y ∈ s,Xk y d = true) (hx:Zcc s d x):∃ kind:Nat,x.1 = (kind:Int) ∧ kind < 64 ∧ Zbb kind = true ∧ EncI (Ws kind s.length d) s (Xr s d x):=by
 unfold Xr
 rcases hx with ⟨rfl,hall⟩ | rfl | ⟨o,ho,hos,hx⟩ | ⟨o,ho,hos,hx⟩
 ·refine ⟨0,rfl,by omega,rfl,?_⟩
  simp only
  rw [if_pos trivial]
  match s,h1,hall,hs with
  | a :: s',_,hall,hs =>
   have hE:=Zbd (w:=d) [a] [] (fun y hy => hs y (by simp at hy; simp [hy]))
   have hrep:Jd (a :: s').length a = a :: s':=by
    symm
    rw [List.eq_replicate_iff]
    refine ⟨rfl,fun y hy => ?_⟩
    have:=Vf.1 hall y hy
    simpa using this
   constructor
   ·intro r
    have:=hE.ok r
    show Ws 0 _ _ _ = _
    unfold Ws
    rw [if_pos rfl]
    simp only [List.length_singleton,VT] at this
    rw [show (a :: s').take 1 = [a] from rfl,this]
    simp only [List.headD_cons]
    rw [hrep]
   ·intro p hp
    have:=hE.tail p hp
    unfold Ws
    rw [if_pos rfl]
    exact this
 ·refine ⟨1,rfl,by omega,rfl,?_⟩
  simp only
  rw [if_neg (by omega),if_pos trivial]
  have hE:=Zbd (w:=d) s [] hs
  rw [VT] at hE
  constructor
  ·intro r
   unfold Ws
   rw [if_neg (by omega),if_pos rfl]
   exact hE.ok r
  ·intro p hp
   unfold Ws
   rw [if_neg (by omega),if_pos rfl]
   exact hE.tail p hp
 ·obtain ⟨e1,e2,e3,e4,e5,e6,e7,e8,e9,e10⟩:=X0 h1 h2 hx
  refine ⟨8 + o,by rw [e1]; omega,by omega,by unfold Zbb; rw [decide_eq_true_eq]; omega,?_⟩
  rw [e1,e2,e3,e4,if_neg (by omega),if_neg (by omega),if_neg (by omega),VT]
  have hcl:=Zll o ho
  have hE:=Zbd (w:=d) (s.take (W5 o).length) [] (fun y hy => hs y (JT hy))
  have hZ:=ZmO e10 h1 h2
  have hlen:(s.take (W5 o).length).length = o:=by rw [Jz,hcl]; omega
  rw [VT,hlen] at hE
  rw [hcl] at hZ
  have shape:∀ r,Ws (8 + o) s.length d (r,0) = KS false o s.length (Xd d o (r,0) []):=by
   intro r
   unfold Ws
   rw [if_neg (by omega),if_neg (by omega),if_neg (by omega),show 8 + o - 8 = o by omega]
   unfold Zea
   rw [dTr hos,Xf,if_neg (by simp)]
  constructor
  ·intro r
   have e:=hE.ok (WQ (Xp (W5 o) 0 s) (W5 o).length ++ r)
   rw [shape,Ju,e]
   unfold KS
   rw [if_neg (by simp),if_neg (by simp),EI ho]
   rw [hcl]
   exact hZ.ok r
  ·intro p hp
   rw [shape]
   rcases hp.split with h3 | ⟨q,rfl,h3⟩
   ·have:=hE.tail p h3
    rw [Ze9 (by rw [this]; decide)]
    exact this
   ·have e:=hE.ok q
    rw [e]
    unfold KS
    rw [if_neg (by simp),if_neg (by simp),EI ho]
    rw [hcl] at h3 ⊢
    exact hZ.tail q h3
 ·obtain ⟨e1,e2,e3,e4,e5,e6,e7,e8,e9,e10⟩:=X0 h1 h2 hx
  obtain ⟨hsl,hsr⟩:=ZeX s o ho
  refine ⟨31 + o,by rw [e1]; omega,by omega,by unfold Zbb; rw [decide_eq_true_eq]; omega,?_⟩
  rw [e1,e2,e3,e4,if_neg (by omega),if_neg (by omega),if_pos (by omega)]
  generalize Zai s o = c at hsl hsr e6 e7 e8 e9 e10
  have hE:=Zbd (w:=d) (s.take c.length) [] (fun y hy => hs y (JT hy))
  have hC:=Zbd (w:=12) c [] (fun y hy => by
   have:=hsr y hy
   unfold Xk
   rw [if_neg (by omega),decide_eq_true_eq]
   omega)
  have hZ:=ZmO e10 h1 h2
  have hlen:(s.take c.length).length = o:=by rw [Jz,hsl]; omega
  rw [VT,hlen] at hE
  rw [VT,hsl] at hC
  rw [hsl] at hZ
  have e4':(4:Int).toNat = 4:=rfl
  rw [e4']
  have shape:∀ r,Ws (31 + o) s.length d (r,0) = KS true o s.length (Xd d o (r,0) []):=by
   intro r
   unfold Ws
   rw [if_neg (by omega),if_neg (by omega),if_pos (by omega),show 31 + o - 31 = o by omega]
   unfold Zea
   rw [dTr (show o ≤ s.length by omega),Xf,if_neg (by simp)]
  have cA:∀ r,Y7 (Za 11 4 ++ r,0) = (r,0):=by
   intro r
   unfold Y7
   rw [Y8 (n:=11) (w:=4) (by omega)]
   rfl
  have cB:∀ r,Q6 (Za 4 5 ++ r,0) = (4,(r,0)):=by
   intro r
   unfold Q6
   rw [Y8 (n:=4) (w:=5) (by omega)]
   rfl
  have cAs:∀ s:IS,s.2 ≠ 0 → Y7 s = s:=fun s h => by unfold Y7; rw [Za9 h]; exact Wx h
  have cBs:∀ s:IS,s.2 ≠ 0 → (Q6 s).2 = s:=fun s h => by unfold Q6; rw [Za9 h]; exact Wx h
  constructor
  ·intro r
   have e:=hE.ok (Za 11 4 ++ (Za 4 5 ++ (c.flatMap (fun n => Wh n 12) ++ (WQ (Xp c 4 s) c.length ++ r))))
   rw [shape]
   have ha:((s.take c.length).flatMap (fun n => Wh n d) ++ (Za 11 4 ++ (Za 4 5 ++ c.flatMap fun n => Wh n 12) ++ WQ (Xp c 4 s) c.length)) ++ r = (s.take c.length).flatMap (fun n => Wh n d) ++ (Za 11 4 ++ (Za 4 5 ++ (c.flatMap (fun n => Wh n 12) ++ (WQ (Xp c 4 s) c.length ++ r)))):=by
    simp only [Ju]
   rw [ha,e]
   unfold KS
   rw [if_pos rfl]
   simp only
   rw [cA,cB]
   simp only
   rw [hC.ok]
   unfold Zb0
   rw [if_neg (by simp)]
   simp only
   have:=hZ.ok r
   rw [hsl]
   exact this
  ·intro p hp
   rw [shape]
   rcases hp.split with h3 | ⟨q,rfl,h3⟩
   ·have:=hE.tail p h3
    rw [Ze9 (by rw [this]; decide)]
    exact this
   ·have e:=hE.ok q
    rw [e]
    unfold KS
    rw [if_pos rfl]
    simp only
    rw [Ju] at h3
    have fail:∀ t:IS,t.2 = 10 → (Zb0 o s.length (s.take c.length) (Q6 t).1 (Xd 12 o (Q6 t).2 [])).2.2 = 10:=by
     intro t ht
     have hne:t.2 ≠ 0:=by rw [ht]; decide
     rw [cBs t hne]
     have:=KD (w:=12) o t [] hne
     unfold Zb0
     rw [this,if_pos hne,ht]
    rcases h3.split with h4 | ⟨u,rfl,h4⟩
    ·refine fail _ ?_
     have:=ZdT (n:=11) (w:=4) (by omega) h4
     unfold Y7
     rw [Wx (by rw [this]; decide),this]
    ·rw [cA]
     rw [Ju] at h4
     rcases h4.split with h5 | ⟨v,rfl,h5⟩
     ·have:=ZdT (n:=4) (w:=5) (by omega) h5
      have e5:(Q6 (u,0)).2.2 = 10:=by
       unfold Q6
       simp only
       rw [Wx (by rw [this]; decide),this]
      have:=KD (w:=12) o (Q6 (u,0)).2 [] (by rw [e5]; decide)
      unfold Zb0
      rw [this,if_pos (by rw [e5]; decide),e5]
     ·rw [cB]
      simp only
      rcases h5.split with h6 | ⟨z,rfl,h6⟩
      ·have:=hC.tail v h6
       unfold Zb0
       rw [if_pos (by rw [this]; decide)]
       exact this
      ·rw [hC.ok]
       unfold Zb0
       rw [if_neg (by simp)]
       simp only
       rw [hsl] at h6 ⊢
       exact hZ.tail z h6
theorem Zqp {s:List Int} {d:Nat} (h1:1 ≤ s.length) (h2:s.length ≤ 512) (hd:4 ≤ d ∧ d ≤ 25) (hs:∀ y ∈ s,Xk y d = true):Enc (QA s.length d) s (Q5 s d):=by
 obtain ⟨x,_,hok,hsub,_,_⟩:=ZbU s d h1 h2
 have hw:=Zbv (by omega) hs
 have hsg:=ZeY (by omega) hs
 have hsl:=Kp s
 have hback:(QM s).map (fun x => x * 2 ^ Zv s) = s:=by
  unfold QM
  rw [List.map_map]
  conv => rhs; rw [← List.map_id s]
  apply List.map_congr_left
  intro y hy
  exact Zsc (Ze2 y hy)
 obtain ⟨kind,hk1,hk2,hk3,hB⟩:=Zxi (by omega) (by omega) hsg hok
 rw [hsub,hk1]
 rw [hsl] at hB
 have hr:¬ ¬ (1 ≤ s.length ∧ s.length ≤ 512 ∧ 4 ≤ d ∧ d ≤ 25):=fun h => h ⟨h1,h2,hd.1,hd.2⟩
 constructor
 ·intro r
  have e:=Zmc hk2 hk3 hw (Xr (QM s) (d - Zv s) x ++ r)
  have e2:=hB.ok r
  unfold QA
  rw [if_neg hr,Ju,e]
  simp only
  rw [if_neg (by simp),e2]
  simp only
  rw [if_neg (by simp),if_pos (Vf.2 hsg),hback]
 ·intro p hp
  unfold QA
  rw [if_neg hr]
  rcases hp.split with h3 | ⟨q,rfl,h3⟩
  ·have e:=Zqo (d:=d) hk2 hk3 h3
   rw [if_pos (by rw [e]; decide)]
   exact e
  ·have e:=Zmc hk2 hk3 hw q
   have e2:=hB.tail q h3
   rw [e]
   simp only
   rw [if_neg (by simp),if_pos (by rw [e2]; decide)]
   exact e2
end Go.Sh
namespace Go.Sh
open Go Go.Proofs
theorem Zkc:∀ (i n:Nat),Xs n (i + 1) = (128 + n / 64 ^ i % 64) :: Xs n i
 | 0,n => by simp [Xs]
 | i + 1,n => by
  rw [show Xs n (i + 1 + 1) = Xs (n / 64) (i + 1) ++ [128 + n % 64] from rfl,Zkc i (n / 64),show Xs n (i + 1) = Xs (n / 64) i ++ [128 + n % 64] from rfl,HP,← Nat.pow_succ']
  rfl
theorem Zz4 (n i:Nat):n / 64 ^ (i + 1) * 64 + n / 64 ^ i % 64 = n / 64 ^ i:=by
 rw [Nat.pow_succ,← HP]
 omega
theorem ZqM:∀ (i n:Nat) (t:List Int) (g:Nat),cgL i (QP (Xs n i) ++ t) (n / 64 ^ i) (n / 64 ^ i) = some (n,n)
 | 0,n,t,g => by simp [cgL,Xs,QP]
 | i + 1,n,t,g => by
  have e:QP (Xs n (i + 1)) ++ t = ((128 + n / 64 ^ i % 64:Nat):Int) :: (QP (Xs n i) ++ t):=by rw [Zkc]; rfl
  rw [e]
  have h:=U7 (n / 64 ^ i) (show 0 < 64 by omega)
  simp only [cgL,WV]
  rw [if_pos (by omega),show (128 + n / 64 ^ i % 64) % 64 = n / 64 ^ i % 64 by omega,Zz4]
  exact ZqM i n t g
theorem ZyX:∀ (k:Fin 8) (m:Fin 64),2 ≤ k.val → m.val < 2 ^ (7 - k.val) → KQ (ZbJ k.val m.val) = k.val ∧ ZbJ k.val m.val % 2 ^ (7 - k.val) = m.val:=by decide +kernel
theorem ZDl {n:Nat} (h2:128 ≤ n):2 ^ XQ (KO n - 1) ≤ n:=by
 obtain ⟨r2,r3,r4,r5,r6,r7⟩:=Zl3
 have r1:XQ 1 = 7:=rfl
 unfold KO
 rw [if_neg (by omega)]
 repeat' split
 all_goals simp only [Nat.reduceSub,r1,r2,r3,r4,r5,r6]
 all_goals omega
theorem Zy7 {kk n:Nat} (h2:2 ≤ kk) (h7:kk ≤ 7) (hlt:n < 2 ^ XQ kk):n / 64 ^ (kk - 1) < 2 ^ (7 - kk):=by
 have h64:(64:Nat) = 2 ^ 6:=rfl
 rw [Nat.div_lt_iff_lt_mul (U2 (by omega))]
 refine Nat.lt_of_lt_of_le hlt ?_
 rw [h64,← Nat.pow_mul,← Nat.pow_add]
 refine Nat.pow_le_pow_right (by omega) ?_
 unfold XQ
 rw [if_neg (by omega)]
 omega
theorem Zxp {n:Nat} (h:128 ≤ n):Qi n = ZbJ (KO n) (n / 64 ^ (KO n - 1)) :: Xs n (KO n - 1):=by
 unfold Qi
 rw [if_neg (by omega)]
theorem Zy2 {n:Nat} (h:n < 2 ^ 36) (t:List Int):Zb8 (QP (Qi n) ++ t) = (n,(Qi n).length,0):=by
 by_cases h128:n < 128
 ·have e:Qi n = [n]:=by unfold Qi; rw [if_pos h128]
  rw [e]
  show Zb8 ((n:Int) :: t) = _
  unfold Zb8
  simp only [WV]
  rw [if_pos (by unfold KQ; rw [if_pos h128])]
  rfl
 ·obtain ⟨h1,h2⟩:=ZnB h (by omega)
  have h7:=(ZpZ n).2
  have hm:=Zy7 h1 h7 h2
  have hm64:=ZeH h1 h7 h2
  have hlow:=ZDl (n:=n) (by omega)
  rw [Zxp (by omega)]
  generalize hk:KO n = k at *
  have hft:=ZyX ⟨k,by omega⟩ ⟨n / 64 ^ (k - 1),hm64⟩ h1 hm
  simp only at hft
  show Zb8 (((ZbJ k (n / 64 ^ (k - 1)):Nat):Int) :: (QP (Xs n (k - 1)) ++ t)) = _
  unfold Zb8
  simp only [WV]
  rw [hft.1,hft.2,if_neg (by omega),if_neg (by omega),if_neg (by omega),ZqM _ _ _ 0]
  simp only
  rw [if_neg (by omega),if_neg (by simp only [XH,ZdV,Zdo]; omega)]
  simp only [JF,Zdo]
  congr 2
  omega
theorem Zxg {l:List Nat} (h:∀ x ∈ l,x < 256):Qd (QP l) = l.flatMap fun x => Za x 8:=by
 unfold Qd QP
 rw [List.flatMap_map]
 rfl
theorem Zty {l:List Nat} (h:∀ x ∈ l,x < 256):ZM (QP l) = true:=by
 refine Vf.2 fun x hx => ?_
 obtain ⟨y,hy,rfl⟩:=List.mem_map.1 hx
 have:=h y hy
 rw [Jh,decide_eq_true_eq,decide_eq_true_eq]
 omega
theorem ZIl (r:List Bool):hd1 (Za 32764 15 ++ r,0) = (r,0):=by
 unfold hd1
 rw [Y8 (w:=15) (by omega)]
 rfl
theorem ZIm (r:List Bool):hd2 (Za 0 1 ++ r,0) = (r,0):=by
 unfold hd2
 rw [Y8 (w:=1) (by omega)]
 rfl
theorem ZIn {kd:Nat} (h:kd = 6 ∨ kd = 7) (r:List Bool):hd3 (Za kd 4 ++ r,0) = (kd,(r,0)):=by
 unfold hd3
 rw [Y8 (w:=4) (by omega)]
 rcases h with rfl | rfl <;> rfl
theorem ZDc (r:List Bool):hd4 (Za 0 4 ++ r,0) = (r,0):=by
 unfold hd4
 rw [Y8 (w:=4) (by omega)]
 rfl
theorem ZIo {c:Int} {m:Nat} (h:m < 16) (hm:Zb3 c m = true) (r:List Bool):hd5 c (Za m 4 ++ r,0) = (m,(r,0)):=by
 unfold hd5
 rw [Y8 (w:=4) (by omega),hm,Xf]
theorem ZsP:∀ (l:List Nat) (r:List Bool),(∀ x ∈ l,x < 256) → ZnW l.length (l.flatMap (fun x => Za x 8) ++ r,0) = (r,0)
 | [],r,_ => rfl
 | x :: l,r,h => by
  rw [HS,Ju,JF]
  unfold ZnW
  rw [Y8 (h x (Jm ..))]
  exact ZsP l r fun y hy => h y (Jn _ hy)
theorem Zzn {mode num N:Nat} (hm:mode < 16):Qc mode num N = Za 32764 15 ++ (Za 0 1 ++ (Za (Qp N) 4 ++ (Za 0 4 ++ (Za mode 4 ++ (Za 0 4 ++ ((Qi num).flatMap (fun x => Za x 8) ++ Za (N - 1) (8 * (Qp N - 5)))))))):=by
 have e1:Za 16382 14 ++ Za (Qp N) 6 = Za 32764 15 ++ (Za 0 1 ++ Za (Qp N) 4):=by rcases ZcZ N with h | h <;> rw [h] <;> decide
 have e2:Za mode 8 = Za 0 4 ++ Za mode 4:=by
  have:=Zoi mode 4 4
  rw [show mode / 2 ^ 4 = 0 from Nat.div_eq_of_lt (by omega)] at this
  exact this
 unfold Qc
 rw [← Ju,e1,e2]
 simp only [Ju]
theorem ZGT (mode kd:Nat):(Za 32764 15 ++ (Za 0 1 ++ (Za kd 4 ++ (Za 0 4 ++ (Za mode 4 ++ Za 0 4))))).length = 32:=by simp only [XH,Zk]
theorem ZDg {c:Int} {mode num N:Nat} (hm:mode < 16) (hmb:Zb3 c mode = true) (hnum:num < 2 ^ 31) (h1:1 ≤ N) (h2:N ≤ 512) {Z:List Int} {r:List Bool} (hZ:ZM Z = true) (hB:Qd Z = Qa mode num N ++ r) :
  K3 c Z (Qd Z,0) = (mode,num,N,(r,0)):=by
 have hk:=ZcZ N
 have hclt:=ZqN (n:=num) (by omega)
 have hzl:8 * Z.length = (Qa mode num N).length + r.length:=by rw [← Qf,hB,XH]
 have hpl:=Zaf mode num N
 have hhl:(Qa mode num N).length = (Qc mode num N).length + 8:=by unfold Qa; rw [XH,Zk]
 have hpp:ZK (Qa mode num N ++ r) = Z:=by rw [← hB]; exact ZeN hZ
 have hp8:(Qc mode num N).length % 8 = 0:=by omega
 unfold K3
 have hB2:Qd Z = Za 32764 15 ++ (Za 0 1 ++ (Za (Qp N) 4 ++ (Za 0 4 ++ (Za mode 4 ++ (Za 0 4 ++ ((Qi num).flatMap (fun x => Za x 8) ++ (Za (N - 1) (8 * (Qp N - 5)) ++ (Za (Zd1 (ZK (Qc mode num N))) 8 ++ r)))))))):=by
  rw [hB]
  unfold Qa
  generalize Zd1 (ZK (Qc mode num N)) = c8
  rw [Zzn hm]
  simp only [Ju]
 rw [hB2,ZIl,ZIm,ZIn hk]
 unfold ZpR
 simp only
 rw [ZDc]
 unfold ZDe
 rw [ZIo hm hmb]
 simp only
 rw [ZDc]
 unfold ZDf
 have hlw:(Za (N - 1) (8 * (Qp N - 5))).length = 8 * (Qp N - 5):=Zk _ _
 have hnumI:Zf4 Z ((Qi num).flatMap (fun x => Za x 8) ++ (Za (N - 1) (8 * (Qp N - 5)) ++ (Za (Zd1 (ZK (Qc mode num N))) 8 ++ r)),0) = (num,(Za (N - 1) (8 * (Qp N - 5)) ++ (Za (Zd1 (ZK (Qc mode num N))) 8 ++ r),0)):=by
  unfold Zf4
  rw [if_neg (by simp)]
  have hpos:ZL Z ((Qi num).flatMap (fun x => Za x 8) ++ (Za (N - 1) (8 * (Qp N - 5)) ++ (Za (Zd1 (ZK (Qc mode num N))) 8 ++ r))) / 8 = 4:=by
   unfold ZL
   simp only [XH,ZdR,Zk]
   omega
  have hdrop:Z.drop 4 = QP (Qi num) ++ ZK (Za (N - 1) (8 * (Qp N - 5)) ++ (Za (Zd1 (ZK (Qc mode num N))) 8 ++ r)):=by
   have hb32:=ZGT mode (Qp N)
   have e:Qd Z = (Za 32764 15 ++ (Za 0 1 ++ (Za (Qp N) 4 ++ (Za 0 4 ++ (Za mode 4 ++ Za 0 4))))) ++ (Qd (QP (Qi num)) ++ (Za (N - 1) (8 * (Qp N - 5)) ++ (Za (Zd1 (ZK (Qc mode num N))) 8 ++ r))):=by
    rw [hB2,Zxg hclt]
    simp only [Ju]
   have e2:=congrArg ZK e
   rw [ZeN hZ,Zad (by rw [hb32]),Zad (A:=Qd (QP (Qi num))) (by rw [Qf]; omega),ZeN (Zty hclt)] at e2
   rw [e2,El,HV (by rw [Z9,hb32]; omega),VT,Z9,hb32]
   rfl
  simp only
  rw [hpos,hdrop,Zy2 (by omega)]
  simp only
  rw [ZsP _ _ hclt,dTr (by omega),Xf]
 rw [hnumI]
 unfold ZpS hd6
 simp only
 rw [if_pos trivial]
 have hw:N - 1 < 2 ^ (8 * (Qp N - 5)):=by
  unfold Qp
  split
  ·show N - 1 < 2 ^ 16; omega
  ·show N - 1 < 2 ^ 8; omega
 rw [Y8 hw]
 simp only
 rw [show N - 1 + 1 = N by omega,dTr h2,Xf]
 have hc8:=Zve (Yw (Qc mode num N))
 unfold Zd7
 rw [Y8 hc8,if_neg (by simp)]
 have hpos2:ZL Z (Za (Zd1 (ZK (Qc mode num N))) 8 ++ r) / 8 = (Qc mode num N).length / 8:=by
  unfold ZL
  rw [XH,Zk]
  congr 1
  omega
 have htake:Z.take ((Qc mode num N).length / 8) = ZK (Qc mode num N):=by
  rw [← hpp]
  unfold Qa
  rw [Ju,Zad hp8,Ew (by rw [Z9]; omega),Et (by rw [Z9]; omega)]
 simp only
 rw [hpos2,htake,show (Zd1 (ZK (Qc mode num N)) == Zd1 (ZK (Qc mode num N))) = true from by simp,Xf]
end Go.Sh
namespace Go.Sh
open Go Go.Proofs
theorem Zvc {N:Nat} (h1:1 ≤ N) (h2:N ≤ 512):∀ (ls:List (List Int)) (ds:List Int) (acc:List (List Int)),ls.length = ds.length →
  (∀ (i:Nat) (h1:i < ls.length) (h2:i < ds.length),ls[i].length = N ∧ (4 ≤ ds[i].toNat ∧ ds[i].toNat ≤ 25) ∧ ∀ x ∈ ls[i],Xk x ds[i].toNat = true) →
  Enc (fun r => Zfd N ds r acc) (acc ++ ls) (Z2 ls ds)
 | [],[],acc,_,_ => ⟨fun r => by simp [Zfd,Z2],fun p hp => (SP.no hp).elim⟩
 | l :: ls,d :: ds,acc,hl,h => by
  obtain ⟨a,b,c⟩:=h 0 (by simp) (by simp)
  simp only [Eo] at a b c
  have hE:=Zqp (s:=l) (d:=d.toNat) (by omega) (by omega) b c
  rw [a] at hE
  have ih:=Zvc h1 h2 ls ds (acc ++ [l]) (by simpa using hl) (fun i hi1 hi2 => by
   have:=h (i + 1) (by simpa using hi1) (by simpa using hi2)
   simpa only [Em] using this)
  have hcb:Z2 (l :: ls) (d :: ds) = Q5 l d.toNat ++ Z2 ls ds:=by unfold Z2; rw [EB,HS]
  rw [hcb]
  constructor
  ·intro r
   have:=ih.ok r
   rw [Ju]
   unfold Zfd
   rw [hE.ok]
   simp only
   rw [if_neg (by simp),this,Ju]
   rfl
  ·intro p hp
   unfold Zfd
   rcases hp.split with g1 | ⟨q,rfl,g1⟩
   ·have:=hE.tail p g1
    rw [if_pos (by rw [this]; decide)]
    exact this
   ·rw [hE.ok]
    simp only
    rw [if_neg (by simp)]
    exact ih.tail q g1
theorem ZFJ {m l r:Int} (hm:ZfZ m):tgL m (apA m l r) (apB m l r) = l ∧ tgR m (apA m l r) (apB m l r) = r:=by
 unfold tgL tgR apA apB
 rcases hm with rfl | rfl | rfl | rfl <;> simp <;> omega
theorem Zn1 {m:Int} (hm:ZfZ m):∀ (L R:List Int),L.length = R.length → Zd8 m (WF m L R) (WG m L R) = L ∧ Zd9 m (WF m L R) (WG m L R) = R
 | [],[],_ => ⟨rfl,rfl⟩
 | l :: L,r :: R,h => by
  obtain ⟨e1,e2⟩:=Zn1 hm L R (by simpa using h)
  obtain ⟨e3,e4⟩:=ZFJ (l:=l) (r:=r) hm
  constructor
  ·show tgL m (apA m l r) (apB m l r) :: Zd8 m (WF m L R) (WG m L R) = _
   rw [e1,e3]
  ·show tgR m (apA m l r) (apB m l r) :: Zd9 m (WF m L R) (WG m L R) = _
   rw [e2,e4]
theorem ZIP {pad:Nat} (hp:pad < 8) {t:List Bool} (ht:t.length % 8 = 0):alS (Jd pad false ++ t) = (0,t):=by
 have hl:(Jd pad false ++ t).length % 8 = pad:=by rw [XH,Ur]; omega
 unfold alS
 rw [hl,Ew (by rw [Ur]; omega),Et (by rw [Ur]; omega),if_pos,El,HV (by rw [Ur]; omega),Ur,Ey,U9,VT]
 rw [Vf]
 intro x hx
 rw [Ez hx]
 rfl
structure Made (c d r n:Int) (ch:List (List Int)) (mode num N:Nat) (ls:List (List Int)) (ds:List Int):Prop where
 hm:mode < 16
 hmb:Zb3 c mode = true
 hnum:num < 2 ^ 31
 hn:n = (num:Int)
 h1:1 ≤ N
 h2:N ≤ 512
 els:ls = (Yb ch).1
 eds:ds = Z0 c d (mode:Int)
 emode:(Yb ch).2 = (mode:Int)
 eN:(ch.headD []).length = N
 len:ls.length = ds.length
 all:∀ (i:Nat) (h1:i < ls.length) (h2:i < ds.length),ls[i].length = N ∧ (4 ≤ ds[i].toNat ∧ ds[i].toNat ≤ 25) ∧ ∀ x ∈ ls[i],Xk x ds[i].toNat = true
 bytes:(WA c d r n ch).1 = ZK (XL (Qa mode num N ++ Z2 ls ds))
theorem ZJY {c d r n:Int} {ch:List (List Int)} (h:Xn c d r n ch = 0):∃ mode num N ls ds,Made c d r n ch mode num N ls ds:=by
 obtain ⟨hs,hn,hc,hlen,hsg⟩:=Kt h
 obtain ⟨hlay,⟨mode,hmode,hmc⟩,_⟩:=Zuu h
 have hN:1 ≤ (ch.headD []).length ∧ (ch.headD []).length ≤ 512:=by
  have:0 < ch.length:=by omega
  match ch,this with
  | l :: _,_ => exact (hlen l (by simp)).2
 refine ⟨mode,n.toNat,(ch.headD []).length,(Yb ch).1,Z0 c d mode,?_⟩
 rw [hmode] at hlay
 refine ⟨by omega,?_,by omega,by omega,hN.1,hN.2,rfl,rfl,hmode,rfl,hlay.len,?_,?_⟩
 ·unfold Zb3
  rcases hmc with ⟨rfl,rfl⟩ | ⟨rfl,hm⟩
  ·rfl
  ·rcases hm with rfl | rfl | rfl | rfl <;> rfl
 ·intro i h1 h2
  obtain ⟨a,b,e⟩:=hlay.all i h1 h2
  refine ⟨a,?_,e⟩
  omega
 ·unfold WA
  rw [if_pos h,hmode,WV]
theorem Made.parts {c d r n:Int} {ch:List (List Int)} {mode num N:Nat} {ls:List (List Int)} {ds:List Int} (M:Made c d r n ch mode num N ls ds) :
  ∃ pad crc:Nat,pad < 8 ∧ crc < 2 ^ 16 ∧ ((Z2 ls ds).length + pad) % 8 = 0 ∧ (Qa mode num N).length % 8 = 0 ∧ crc = Zay (ZK (Qa mode num N ++ (Z2 ls ds ++ Jd pad false))) ∧
   XL (Qa mode num N ++ Z2 ls ds) = Qa mode num N ++ (Z2 ls ds ++ (Jd pad false ++ Za crc 16)):=by
 have hh:(Qa mode num N).length % 8 = 0:=by
  have:=Zaf mode num N
  unfold Qa
  rw [XH,Zk]
  omega
 refine ⟨Kh (Qa mode num N ++ Z2 ls ds).length,Zay (ZK (Xo (Qa mode num N ++ Z2 ls ds))),by unfold Kh; omega,ZqS (Yw _),?_,hh,?_,?_⟩
 ·unfold Kh
  rw [XH]
  omega
 ·unfold Xo
  rw [Ju]
 ·unfold XL Xo
  simp only [Ju]
theorem Zzp {c d r n:Int} {ch:List (List Int)} (h:Xn c d r n ch = 0) {more:List Int} (hm:ZM more = true):ZsC c d r ((WA c d r n ch).1 ++ more) = ((n,ch),((WA c d r n ch).1.length:Int),0):=by
 obtain ⟨mode,num,N,ls,ds,M⟩:=ZJY h
 obtain ⟨pad,crc,hp,hcrc,hal,hh,ecrc,eclosed⟩:=M.parts
 obtain ⟨hs,hn,hc,hlen,hsg⟩:=Kt h
 have hsh:Zdh c d r = true:=dTr hs
 rw [M.bytes,eclosed]
 have hclen:(Qa mode num N ++ (Z2 ls ds ++ (Jd pad false ++ Za crc 16))).length % 8 = 0:=by
  simp only [XH,Ur,Zk]
  omega
 generalize hZ:ZK (Qa mode num N ++ (Z2 ls ds ++ (Jd pad false ++ Za crc 16))) ++ more = Z
 have hZb:ZM Z = true:=by
  rw [← hZ]
  exact Vf.2 fun x hx => by
   rcases Js.1 hx with hx | hx
   ·exact Vf.1 (Yw _) x hx
   ·exact Vf.1 hm x hx
 have hB:Qd Z = Qa mode num N ++ (Z2 ls ds ++ (Jd pad false ++ (Za crc 16 ++ Qd more))):=by
  rw [← hZ,Zog,Ztq hclen]
  simp only [Ju]
 have hZl:8 * Z.length = (Qa mode num N).length + ((Z2 ls ds).length + (pad + (16 + 8 * more.length))):=by
  rw [← Qf,hB]
  simp only [XH,Ur,Zk,Qf]
 unfold ZsC
 rw [if_neg (by rw [hsh]; simp),ZDg M.hm M.hmb M.hnum M.h1 M.h2 hZb hB]
 unfold Ztk
 simp only
 rw [if_neg (by simp),← M.eds]
 have hch:=(Zvc M.h1 M.h2 ls ds [] M.len M.all).ok (Jd pad false ++ (Za crc 16 ++ Qd more))
 rw [VT] at hch
 rw [hch]
 simp only
 rw [if_neg (by simp)]
 unfold ZC1
 rw [ZIP hp (by rw [XH,Zk,Qf]; omega)]
 have hsum:Zd7 Zay Z 16 (Za crc 16 ++ Qd more,0) = (Qd more,0):=by
  unfold Zd7
  rw [Y8 hcrc,if_neg (by simp)]
  have hpos:ZL Z (Za crc 16 ++ Qd more) / 8 = (Qa mode num N ++ (Z2 ls ds ++ Jd pad false)).length / 8:=by
   unfold ZL
   simp only [XH,Ur,Zk,Qf]
   congr 1
   omega
  have htake:Z.take ((Qa mode num N ++ (Z2 ls ds ++ Jd pad false)).length / 8) = ZK (Qa mode num N ++ (Z2 ls ds ++ Jd pad false)):=by
   have hA:(Qa mode num N ++ (Z2 ls ds ++ Jd pad false)).length % 8 = 0:=by
    simp only [XH,Ur]
    omega
   have e:Qa mode num N ++ (Z2 ls ds ++ (Jd pad false ++ Za crc 16)) = (Qa mode num N ++ (Z2 ls ds ++ Jd pad false)) ++ Za crc 16:=by simp only [Ju]
   rw [← hZ,e,Zad hA,Ju,Ew (by rw [Z9]; omega),Et (by rw [Z9]; omega)]
  simp only
  rw [hpos,htake,← ecrc,show (crc == crc) = true from by simp,Xf]
 rw [hsum]
 simp only
 rw [if_neg (by simp)]
 have hpos2:ZL Z (Qd more) / 8 = (ZK (Qa mode num N ++ (Z2 ls ds ++ (Jd pad false ++ Za crc 16)))).length:=by
  unfold ZL
  rw [Z9]
  simp only [XH,Ur,Zk,Qf]
  omega
 have hout:∀ out,out = ch → Zzj c d r num (ZL Z (Qd more)) out = ((n,ch),(((ZK (Qa mode num N ++ (Z2 ls ds ++ (Jd pad false ++ Za crc 16)))).length:Nat):Int),0):=by
  intro out ho
  subst ho
  unfold Zzj
  rw [← M.hn,if_neg (by simpa using h),hpos2]
 match ch,hc,hlen,hsg,M,hout,h with
 | [],hc,_,_,_,_,_ => simp at hc; omega
 | [l],hc,_,_,M,hout,_ =>
  have hc:c = 1:=by simp at hc; omega
  subst hc
  rw [if_neg (by omega)]
  exact hout ls M.els
 | [L,R],hc,hlen,hsg,M,hout,h =>
  have hc:c = 2:=by simp at hc; omega
  subst hc
  rw [if_pos (by omega)]
  have hlr:L.length = R.length:=by
   have:=(hlen R (by simp)).1
   simpa using this.symm
  have hmd:=Zex L R
  have hls:ls = [WF (ZW L R) L R,WG (ZW L R) L R]:=M.els
  have hmo:(if ZW L R = 0 then 1 else ZW L R) = (mode:Int):=M.emode
  have hmm:(if mode = 1 then 0 else (mode:Int)) = ZW L R:=by
   rcases hmd with h | h | h | h <;> rw [h] at hmo ⊢
   ·have:mode = 1:=by simp at hmo; omega
    rw [if_pos this]
   ·have:mode = 8:=by simp at hmo; omega
    rw [if_neg (by omega),this]; rfl
   ·have:mode = 9:=by simp at hmo; omega
    rw [if_neg (by omega),this]; rfl
   ·have:mode = 10:=by simp at hmo; omega
    rw [if_neg (by omega),this]; rfl
  have hg0:ls.getD 0 [] = WF (ZW L R) L R:=by rw [hls]; rfl
  have hg1:ls.getD 1 [] = WG (ZW L R) L R:=by rw [hls]; rfl
  rw [hmm,hg0,hg1]
  show Zsx 2 d r num _ (ZW L R) (WF (ZW L R) L R) (WG (ZW L R) L R) = _
  obtain ⟨e1,e2⟩:=Zn1 hmd L R hlr
  obtain ⟨l1,l2⟩:=Zdm (m:=ZW L R) hlr
  have htog:(QN (ZW L R) (WF (ZW L R) L R) (WG (ZW L R) L R)).2 = 0:=by
   unfold QN
   rw [if_neg (by rw [l1,l2]; simp),e1,e2,if_pos]
   rw [Vf]
   intro x hx
   have h1:=hsg L (by simp) x.1 (Vy hx).1
   have h2:=hsg R (by simp) x.2 (Vy hx).2
   have g1:=Zaj (by omega) h1
   have g2:=Zaj (by omega) h2
   rw [Jh]
   unfold Ky
   rw [decide_eq_true_eq,decide_eq_true_eq]
   exact ⟨g1,g2⟩
  unfold Zsx
  rw [if_neg (by rw [htog]; simp),e1,e2]
  exact hout [L,R] rfl
 | _ :: _ :: _ :: _,hc,_,_,_,_,_ => simp at hc; omega
end Go.Sh
namespace Go.Sh
open Go Go.Proofs
theorem ZCe (k:Nat) (l:List Int) (hk:2000000 < k) (hl:l.length ≤ 1048576):ZCb k (l,l,()) = some (true,()):=by
 show ZfI k (Zpp k) _ = _
 simp only [ZfI]
 rw [show (UI l.length != UI l.length) = false from by simp]
 simp only [cond_false]
 have:=Wv (A:=Unit) (R:=Bool × Unit) (step:=fun L1 => ZcC k L1) (fun i _ => (UI i,l,l)) l (fun _ _ => some (true,()))
  (fun L _ => by simp only [ZcC]; rw [Zr (ZeL _)])
  (fun L i hi _ hL => by
   simp only [ZcC]
   rw [Zc (ltR hi),Zc (inR hi),Zc (inR hi),ZR,Zr (by simp),Q1 hi (by omega)]
   exact hL ()) k 0 () (by omega) (UU _)
 exact this
theorem ZBt (k:Nat) (n:Int) {ch:List (List Int)} (hk:2000000 < k) (h:Sm ch):ZvY k ((n,ch,()),(n,ch,()),()) = some (true,()):=by
 show ZfB k (Zo8 k) _ = _
 simp only [ZfB]
 have hs:=h.1
 rw [ZR,Zr (by simp),show (UI ch.length != UI ch.length) = false from by simp]
 simp only [cond_false]
 have:=Wv (A:=Unit) (R:=Bool × Unit) (step:=fun L1 => Zcu k L1) (fun i _ => (UI i,n,ch,n,ch)) ch (fun _ _ => some (true,()))
  (fun L _ => by simp only [Zcu]; rw [Zr (ZeL _)])
  (fun L i hi _ hL => by
   simp only [Zcu]
   rw [Zc (ltR hi),Zc (inR hi),Zc (inR hi),ZQ hi,ZCe k _ hk (h.2 _ (U5 hi))]
   simp only [Qt,Bool.not_true,cond_false]
   rw [Q1 hi (by omega)]
   exact hL ()) k 0 () (by omega) (UU _)
 exact this
end Go.Sh
namespace Go.Sh
open Go Go.Proofs
theorem Zuo {w1 w2:World} {l1 l2:Nat → Nat} (hE:Ext w1 l1 w2 l2) (hz2:∀ b,w2.heap.size ≤ b → l2 b = 0) (hl:∀ b,b < w1.heap.size → l2 b = l1 b) (hz1:∀ b,w1.heap.size ≤ b → l1 b = 0)
  (hc:∀ b o v,o < l1 b → w1.cell? ⟨b,o,none⟩ = some v → ∃ m,v = .int .u8 m) {b o:Nat} {v:Value} (ho:o < l2 b) (hv:w2.cell? ⟨b,o,none⟩ = some v) (hn:∀ m,v ≠ .int .u8 m) :
  w1.heap.size ≤ b ∧ b < w2.heap.size ∧ w2.frozen? ⟨b,o,none⟩ = false:=by
 have h1:w1.heap.size ≤ b:=by
  rcases VN b w1.heap.size with h | h
  ·rw [hl b h] at ho
   rw [hE.cell b o ho] at hv
   obtain ⟨m,rfl⟩:=hc b o v ho hv
   exact absurd rfl (hn m)
  ·exact h
 refine ⟨h1,?_,?_⟩
 ·rcases VN b w2.heap.size with h | h
  ·exact h
  ·rw [hz2 b h] at ho; omega
 ·cases hf:w2.frozen? ⟨b,o,none⟩ with
  | false => rfl
  | true =>
   have:=(hE.nf b o ho hf).1
   rw [hz1 b h1] at this; omega
theorem ZJG {w1 w2:World} {l1 l2:Nat → Nat} (hE:Ext w1 l1 w2 l2) (hz2:∀ b,w2.heap.size ≤ b → l2 b = 0) (hl:∀ b,b < w1.heap.size → l2 b = l1 b) (hz1:∀ b,w1.heap.size ≤ b → l1 b = 0)
  (hc:∀ b o v,o < l1 b → w1.cell? ⟨b,o,none⟩ = some v → ∃ m,v = .int .u8 m) {xs:List Int} (hx:xs.length < 4294967296) {A:Option Addr} {len cap:Nat} (h:Rt w2 l2 (.sl (.int .i64)) xs [.slice A len cap]):ZGN w1 w2 A len:=by
 obtain ⟨A',n',c',he,hlen,-,h⟩:=h
 cases he
 refine ⟨by omega,fun k hk => ?_⟩
 rcases h with rfl | ⟨b,o,rfl,h⟩
 ·simp at hlen; omega
 ·obtain ⟨c,hr,hcell⟩:=h k (by omega)
  have hr:c = [.int .i64 xs[k]]:=hr
  subst hr
  obtain ⟨h1,h2⟩:=hcell 0 _ rfl
  have e1:o + k * (Ty.int .i64).size + 0 = o + k:=by simp [Ty.size]
  rw [e1] at h1 h2
  obtain ⟨f1,f2,f3⟩:=Zuo hE hz2 hl hz1 hc h2 h1 (fun m h => by cases h)
  exact ⟨b,o,xs[k],rfl,h1,f1,f2,f3⟩
theorem ZIA {w1 w2:World} {l1 l2:Nat → Nat} (hE:Ext w1 l1 w2 l2) (hz2:∀ b,w2.heap.size ≤ b → l2 b = 0) (hl:∀ b,b < w1.heap.size → l2 b = l1 b) (hz1:∀ b,w1.heap.size ≤ b → l1 b = 0)
  (hc:∀ b o v,o < l1 b → w1.cell? ⟨b,o,none⟩ = some v → ∃ m,v = .int .u8 m) {xs:List (List Int)} (hx:xs.length < 4294967296) (hxs:∀ l ∈ xs,l.length < 4294967296) {A:Option Addr} {len cap:Nat} (h:Rt w2 l2 (.sl (.sl (.int .i64))) xs [.slice A len cap]):ZzJ w1 w2 A len:=by
 obtain ⟨A',n',c',he,hlen,-,h⟩:=h
 cases he
 refine ⟨by omega,fun k hk => ?_⟩
 rcases h with rfl | ⟨b,o,rfl,h⟩
 ·simp at hlen; omega
 ·obtain ⟨c,hr,hcell⟩:=h k (by omega)
  obtain ⟨A2,n2,c2,rfl,h3⟩:=hr
  obtain ⟨h1,h2⟩:=hcell 0 _ rfl
  have e1:o + k * (Ty.sl (.int .i64)).size + 0 = o + k:=by simp [Ty.size]
  rw [e1] at h1 h2
  exact ⟨b,o,A2,n2,c2,rfl,h1,ZJG hE hz2 hl hz1 hc (hxs _ (U5 (by omega))) ⟨A2,n2,c2,rfl,h3⟩⟩
theorem Zbu {w:World} {lim:Nat → Nat} {k:IntKind} {n:Int} {v:Value} {bs:List Nat} (h:TT w lim (.view (.int k) n) v bs):v = .int k n ∧ bs = []:=by
 simp only [TT,Zdi,Rt] at h
 obtain ⟨⟨cs,rfl,h⟩,hb⟩:=h
 rcases h with ⟨h,_⟩ | ⟨_,h⟩
 ·cases h
 ·cases h; exact ⟨rfl,hb⟩
theorem Zmi {w:World} {lim:Nat → Nat} {b:Bool} {v:Value} {bs:List Nat} (h:TT w lim (.view .bool b) v bs):v = .bool b:=by
 simp only [TT,Zdi,Rt] at h
 obtain ⟨⟨cs,rfl,h⟩,_⟩:=h
 rcases h with ⟨h,_⟩ | ⟨_,h⟩
 ·cases h
 ·cases h; rfl
theorem ZGK {w:World} {lim:Nat → Nat} {t:Ty} {xs:List t.den} {v:Value} (h:Rt w lim (.sl t) xs [v]):TT w lim (.view (.sl t) xs) v []:=by
 simp only [TT]; exact ⟨⟨_,h,.inr ⟨rfl,rfl⟩⟩,trivial⟩
theorem ZID {w:World} {lim:Nat → Nat} {a b:RV} {v:Value} {bs:List Nat} (h:TT w lim (.tup [a,b]) v bs):∃ v1 v2 x1 x2,v = .tuple [v1,v2].toArray ∧ TT w lim a v1 x1 ∧ TT w lim b v2 x2:=by
 simp only [TT] at h
 obtain ⟨us,rfl,h⟩:=h
 match us,h with
 | [v1,v2],h =>
  obtain ⟨x1,y1,rfl,t1,x2,y2,rfl,t2,rfl⟩:=h
  exact ⟨v1,v2,x1,x2,rfl,t1,t2⟩
structure SW (w0:World) (lim0:Nat → Nat) (w:World) (lim:Nat → Nat):Prop where
 keep:Keep w0 w
 ext:Ext w0 lim0 w lim
 lz:∀ b,w.heap.size ≤ b → lim b = 0
 lies:Ze6 w lim
theorem SW.ext1 {w0:World} {lim0:Nat → Nat} {w w':World} {lim:Nat → Nat} (h:SW w0 lim0 w lim) (k:Keep w w'):Ext w lim w' lim:=Ext.of_keep k h.lz (fun _ _ => rfl) h.lz
theorem SW.next {w0:World} {lim0:Nat → Nat} {w w':World} {lim:Nat → Nat} (h:SW w0 lim0 w lim) (k:Keep w w'):SW w0 lim0 w' lim :=
 ⟨h.keep.trans k,h.ext.trans (h.ext1 k),fun b hb => h.lz b (Nat.le_trans k.size hb),h.lies.mono (h.ext1 k)⟩
theorem SW.calls {w0:World} {lim0:Nat → Nat} {w w':World} {lim lim':Nat → Nat} (h:SW w0 lim0 w lim) (k:Keep w w') (hE:Ext w lim w' lim') (hz:∀ b,w'.heap.size ≤ b → lim' b = 0):SW w0 lim0 w' lim' :=
 ⟨h.keep.trans k,h.ext.trans hE,hz,h.lies.mono hE⟩
theorem SW.of_ext {w0:World} {lim0:Nat → Nat} {w:World} {lim lim':Nat → Nat} (h:SW w0 lim0 w lim) (hE:Ext w lim w lim') (hz:∀ b,w.heap.size ≤ b → lim' b = 0):SW w0 lim0 w lim':=⟨h.keep,h.ext.trans hE,hz,h.lies.mono hE⟩
theorem SW.row {w0:World} {lim0:Nat → Nat} {w:World} {lim:Nat → Nat} (h:SW w0 lim0 w lim) {b:Nat} {vs:Array Value} {U:TypeId} {fz:Nat × Nat} (hb:w.heap[b]? = some (.cells vs U fz)) (h0:w0.heap.size ≤ b) (hl:lim b = 0) (cs:Array Value) :
  SW w0 lim0 (w.setRow b cs) lim ∧ Ext w lim (w.setRow b cs) lim:=by
 have hs:(w.setRow b cs).heap.size = w.heap.size:=by simp [World.setRow]
 have hoth:∀ c,c ≠ b → (w.setRow b cs).heap[c]? = w.heap[c]? := fun c hc => setRow_other w b c cs hc
 have hE:Ext w lim (w.setRow b cs) lim:=⟨by omega,fun c o ho => by
   have:c ≠ b:=fun e => by subst e; omega
   simp only [World.cell?,hoth c this],fun _ _ h => h,fun c T hT => by
   by_cases e:c = b
   ·subst e
    simp only [Q0,hb] at hT
    simp only [Q0,setRow_heap w c vs cs U fz hb]; exact hT
   ·simp only [Q0,hoth c e]; exact hT,NF.row hb (setRow_heap w b vs cs U fz hb) hoth⟩
 exact ⟨⟨⟨by rw [hs]; exact h.keep.size,fun c hc => by rw [hoth c (by omega)]; exact h.keep.old c hc,by simp [World.setRow]; exact h.keep.same⟩,h.ext.trans hE,fun c hc => h.lz c (by omega),h.lies.mono hE⟩,hE⟩
theorem Loose.box {w1 w2 w:World} (h:Loose w1 w2 w) {b:Nat} {cs:Array Value} (hb:w2.heap.size ≤ b) (h12:w1.heap.size ≤ w2.heap.size):Loose w1 w2 (w.setRow b cs):=by
 have hoth:∀ c,c ≠ b → (w.setRow b cs).heap[c]? = w.heap[c]? := fun c hc => setRow_other w b c cs hc
 have hc:∀ c o v,w2.cell? ⟨c,o,none⟩ = some v → (w.setRow b cs).cell? ⟨c,o,none⟩ = w.cell? ⟨c,o,none⟩:=fun c o v hv => by
  obtain ⟨vs,T,fz,h1,_⟩:=Zgy hv
  have:=QD h1
  simp only [World.cell?,hoth c (by omega)]
 refine ⟨⟨by simp [World.setRow]; exact h.keep.size,fun c hcs => by rw [hoth c (by omega)]; exact h.keep.old c hcs,by simp [World.setRow]; exact h.keep.same⟩,by simp [World.setRow]; exact h.size,fun c o k m hv => ?_,fun c o s hv => ?_,fun c o A l cc hv => ?_,fun c o hcs => ?_⟩
 ·rw [hc _ _ _ hv]; exact h.int _ _ _ _ hv
 ·rw [hc _ _ _ hv]; exact h.str _ _ _ hv
 ·rw [hc _ _ _ hv]; exact h.sl _ _ _ _ _ hv
 ·rw [WI (hoth c (by omega)) o]; exact h.frz c o hcs
theorem Zs1 {w:World} {lim:Nat → Nat} {a b c:RV} {v:Value} {bs:List Nat} (h:TT w lim (.tup [a,b,c]) v bs):∃ v1 v2 v3 x1 x2 x3,v = .tuple [v1,v2,v3].toArray ∧ TT w lim a v1 x1 ∧ TT w lim b v2 x2 ∧ TT w lim c v3 x3:=by
 simp only [TT] at h
 obtain ⟨us,rfl,h⟩:=h
 match us,h with
 | [v1,v2,v3],h =>
  obtain ⟨x1,y1,rfl,t1,x2,y2,rfl,t2,x3,y3,rfl,t3,rfl⟩:=h
  exact ⟨v1,v2,v3,x1,x2,x3,rfl,t1,t2,t3⟩
abbrev Frm:=Int × List (List Int) × Unit
abbrev Shp:=Int × Int × Int × Unit
theorem ZsJ {w:World} {lim:Nat → Nat} {x:Frm} {cs:List Value} (h:Rt w lim frameT x cs):∃ slC,cs = [.int .i64 x.1,slC] ∧ Rt w lim (.sl (.sl (.int .i64))) x.2.1 [slC]:=by
 obtain ⟨n,ch,⟨⟩⟩:=x
 obtain ⟨a1,a2,rfl,rfl,a3,a4,rfl,hc,rfl⟩:=h
 obtain ⟨A',n',cp',rfl,h2⟩:=hc
 exact ⟨_,rfl,A',n',cp',rfl,h2⟩
theorem ZC4 {w:World} {lim:Nat → Nat} {n:Int} {ch:List (List Int)} {v:Value} (h:Rt w lim (.sl (.sl (.int .i64))) ch [v]):Rt w lim frameT (n,ch,()) [.int .i64 n,v] :=
 ⟨[.int .i64 n],[v],rfl,rfl,[v],[],rfl,h,rfl⟩
theorem ZDR {w:World} {lim:Nat → Nat} {x:Shp} {cs:List Value} (h:Rt w lim shapeT x cs):cs = [.int .i64 x.1,.int .i64 x.2.1,.int .i64 x.2.2.1]:=by
 obtain ⟨c,d,r,⟨⟩⟩:=x
 obtain ⟨a1,a2,rfl,rfl,a3,a4,rfl,rfl,a5,a6,rfl,rfl,rfl⟩:=h
 rfl
theorem Zl5 {w:World} {lim:Nat → Nat} (c d r:Int):Rt w lim shapeT (c,d,r,()) [.int .i64 c,.int .i64 d,.int .i64 r] :=
 ⟨[.int .i64 c],[.int .i64 d,.int .i64 r],rfl,rfl,[.int .i64 d],[.int .i64 r],rfl,rfl,[.int .i64 r],[],rfl,rfl,rfl⟩
theorem ZbZ {w:World} {lim:Nat → Nat} {x:Frm} {v:Value} {bs:List Nat} (h:TT w lim (.view frameT x) v bs):∃ cs,Rt w lim frameT x cs ∧ v = .agg cs.toArray ∧ bs = []:=by
 simp only [TT,Zdi] at h
 obtain ⟨⟨cs,h1,h⟩,hb⟩:=h
 rcases h with ⟨_,h⟩ | ⟨h,_⟩
 ·exact ⟨cs,h1,h,hb⟩
 ·cases h
theorem Zu1 {w:World} {lim:Nat → Nat} {x:Shp} {v:Value} {bs:List Nat} (h:TT w lim (.view shapeT x) v bs):∃ cs,Rt w lim shapeT x cs ∧ v = .agg cs.toArray ∧ bs = []:=by
 simp only [TT,Zdi] at h
 obtain ⟨⟨cs,h1,h⟩,hb⟩:=h
 rcases h with ⟨_,h⟩ | ⟨h,_⟩
 ·exact ⟨cs,h1,h,hb⟩
 ·cases h
theorem Zgp {w:World} {lim:Nat → Nat} {x:Frm} {cs:List Value} (h:Rt w lim frameT x cs):TT w lim (.view frameT x) (.agg cs.toArray) []:=by
 simp only [TT]; exact ⟨⟨cs,h,.inl ⟨rfl,rfl⟩⟩,trivial⟩
theorem Zmf {w:World} {lim:Nat → Nat} {x:Shp} {cs:List Value} (h:Rt w lim shapeT x cs):TT w lim (.view shapeT x) (.agg cs.toArray) []:=by
 simp only [TT]; exact ⟨⟨cs,h,.inl ⟨rfl,rfl⟩⟩,trivial⟩
def Bts (w:World) (v:Value) (E:List Int):Prop := ∃ lim,Rt w lim (.sl (.int .u8)) E [v]
theorem Bts.next {w w':World} {v:Value} {E:List Int} (h:Bts w v E) (k:Keep w w'):Bts w' v E:=by
 obtain ⟨lim,A,n,c,e,hl,hc,h⟩:=h
 refine ⟨lim,A,n,c,e,hl,hc,?_⟩
 rcases h with h | ⟨b,o,ho,h⟩
 ·exact .inl h
 ·refine .inr ⟨b,o,ho,fun i hi => ?_⟩
  obtain ⟨cs,h1,h2⟩:=h i hi
  exact ⟨cs,h1,fun j u hj => ⟨QT k (h2 j u hj).1,(h2 j u hj).2⟩⟩
theorem Bts.of {w:World} {lim:Nat → Nat} {sh:Bool} {E:List Int} {v:Value} {bs:List Nat} (h:TT w lim (.own (.int .u8) sh E) v bs):Bts w v E:=by
 simp only [TT] at h
 obtain ⟨_,h | ⟨b,off,cap,vs,U,fz,h1,h2,h3,h4,h5,h6,h7,h8⟩⟩:=h
 ·obtain ⟨rfl,rfl,rfl⟩:=h
  exact ⟨fun _ => 0,none,0,0,rfl,rfl,Jj _,.inl rfl⟩
 ·refine ⟨fun _ => off + E.length,some ⟨b,off,none⟩,E.length,cap,by rw [h1],rfl,h2,.inr ⟨b,off,rfl,fun i hi => ⟨[.int .u8 E[i]],rfl,fun j u hj => ?_⟩⟩⟩
  match j,hj with
  | 0,hj =>
   simp at hj; subst hj
   have e1:off + i * (Ty.int .u8).size + 0 = off + i:=by simp [Ty.size]
   rw [e1]
   refine ⟨?_,by show off + i < off + E.length; omega⟩
   have h6:(vs.toList.drop (off + i * 1)).take 1 = [.int .u8 E[i]]:=h6 i hi
   rw [QQ h3]
   rw [Nat.mul_one] at h6
   have:((vs.toList.drop (off + i)).take 1)[0]? = vs.toList[off + i]? := by simp [Jy,List.getElem?_drop]
   rw [← this,h6]; rfl
  | j + 1,hj => simp at hj
theorem Zzq {k:Nat} {w0:World} {lim0:Nat → Nat} {w:World} {lim:Nat → Nat} (h:SW w0 lim0 w lim) {c d r n:Int} {ch:List (List Int)} {E:List Int} {m:Int} (hS:Sm ch) (hF:Zno k ((c,d,r,()),E,()) = some (((n,ch,()),m,0,()),())) {cc cap:Nat} (hcap:E.length ≤ cap) {zs:List Value} {fz:Nat × Nat} {U:TypeId} (hcc:w.heap[cc]? = some (.cells (E.map (Jv .u8) ++ zs).toArray U fz))
  (hnew:w0.heap.size ≤ cc) (hlz0:∀ b,w0.heap.size ≤ b → lim0 b = 0) (hlies0:Ze6 w0 lim0) :
  Calls Tryz.prog 18 [Ev [Jv .i64 c,.int .i64 d,.int .i64 r].toArray,V5 (some ⟨cc,0,none⟩) E.length cap].toArray w fun en w' => ∃ v,en = .returned v ∧ Keep w w' ∧ ∃ A4 n4 c4,v = .tuple [.agg [Jv .i64 n,.slice A4 n4 c4].toArray,.int .i64 m,.int .i64 0].toArray ∧ ZzJ w w' A4 n4:=by
 let l1:Nat → Nat:=fun b => if b = cc then E.length else (Gl.tab b).2.length
 have tab_old:∀ g,(Gl.tab g).2 ≠ [] → g < w0.heap.size:=fun g hg => by
  cases ht:(Gl.tab g).2 with
  | nil => exact absurd ht hg
  | cons a l =>
   obtain ⟨_,h2⟩:=hlies0 g 0 a (by rw [ht]; rfl)
   rcases VN g w0.heap.size with h' | h'
   ·exact h'
   ·rw [hlz0 g h'] at h2; omega
 have hsz:=h.keep.size
 have hccl:=QD hcc
 have hz1:∀ b,w.heap.size ≤ b → l1 b = 0:=fun b hb => by
  simp only [l1]
  rw [if_neg (by omega)]
  cases ht:(Gl.tab b).2 with
  | nil => rfl
  | cons a l => have:=tab_old b (by rw [ht]; simp); omega
 have hlies:Ze6 w l1:=fun g j n hj => by
  obtain ⟨h1,h2⟩:=h.lies g j n hj
  refine ⟨h1,?_⟩
  have hl:j < (Gl.tab g).2.length:=(Up.1 hj).1
  have hg:=tab_old g (fun h => by rw [h] at hl; simp at hl)
  simp only [l1]
  rw [if_neg (by omega)]; exact hl
 have hc:∀ b o v,o < l1 b → w.cell? ⟨b,o,none⟩ = some v → ∃ m,v = .int .u8 m:=fun b o v ho hv => by
  simp only [l1] at ho
  split at ho
  ·rename_i e
   subst e
   rw [QQ hcc,UZ (by simpa using ho),Vh] at hv
   cases he:E[o]? with
   | none => rw [he] at hv; cases hv
   | some m => rw [he] at hv; cases hv; exact ⟨m,rfl⟩
  ·obtain ⟨m,hm⟩:∃ m,(Gl.tab b).2[o]? = some m:=⟨_,VO ho⟩
   have h1:=(h.lies b o m hm).1
   rw [h1] at hv
   cases hv
   have hk:(Gl.tab b).1 = .u8:=by
    show (bif Ja b 1 then ((.u8,deBruijnT):IntKind × List Int) else (.u8,[])).1 = .u8
    cases Ja b 1 <;> rfl
   exact ⟨m,by rw [hk]⟩
 have hrow:Rt w l1 (.sl (.int .u8)) E [.slice (some ⟨cc,0,none⟩) E.length cap]:=by
  refine ⟨some ⟨cc,0,none⟩,E.length,cap,rfl,rfl,hcap,.inr ⟨cc,0,rfl,fun i hi => ⟨[.int .u8 E[i]],rfl,fun j v hj => ?_⟩⟩⟩
  match j,hj with
  | 0,hj =>
   simp at hj; subst hj
   have e1:0 + i * (Ty.int .u8).size + 0 = i:=by simp [Ty.size]
   rw [e1,QQ hcc,UZ (by simpa using hi),Vh,VO hi]
   refine ⟨rfl,?_⟩
   simp only [l1,if_true]; exact hi
  | j + 1,hj => simp at hj
 refine (Zaz (Zju k) (x:=((c,d,r,()),E,())) hF rfl hz1 hlies (vs:=[.agg [Jv .i64 c,.int .i64 d,.int .i64 r].toArray,.slice (some ⟨cc,0,none⟩) E.length cap]) ⟨[],[],rfl,Zmf (Zl5 c d r),[],[],rfl,ZGK hrow,rfl⟩).mono ?_
 rintro en w' ⟨v,rfl,kp,l2,b1,hE,hz2,hl,hT,-,-⟩
 have hT:TT w' l2 (.tup [.view frameT (n,ch,()),.view (.int .i64) m,.view (.int .i64) 0]) v b1:=hT
 obtain ⟨v1,v2,v3,x1,x2,x3,rfl,t1,t2,t3⟩:=Zs1 hT
 obtain ⟨cs,hr,rfl,_⟩:=ZbZ t1
 obtain ⟨rfl,_⟩:=Zbu t2
 obtain ⟨rfl,_⟩:=Zbu t3
 obtain ⟨slC,rfl,hrC⟩:=ZsJ hr
 obtain ⟨A4,n4,c4,e4,q4⟩:=hrC
 cases e4
 exact ⟨_,rfl,kp,A4,n4,c4,rfl,ZIA (xs:=ch) hE hz2 hl hz1 hc (by have:=hS.1; omega) (fun l hl => by have:=hS.2 l hl; omega) ⟨A4,n4,c4,rfl,q4⟩⟩
theorem ZmL {k:Nat} {w0:World} {lim0:Nat → Nat} {w:World} {lim:Nat → Nat} (h:SW w0 lim0 w lim) {x:Frm} {cs:List Value} (hr:Rt w lim frameT x cs) :
  Calls Tryz.prog 21 [Ev cs.toArray].toArray w fun en w' => ∃ v,en = .returned v ∧ Keep w w' ∧ ∃ lim' cs',SW w0 lim0 w' lim' ∧ Ext w lim w' lim' ∧ v = .agg cs'.toArray ∧ Rt w' lim' frameT x cs':=by
 have e21:ZBu k (x,()) = some (x,()):=by
  obtain ⟨n,ch,⟨⟩⟩:=x
  rfl
 refine (Zaz (Zpa k) (x:=(x,())) e21 rfl h.lz h.lies (vs:=[.agg cs.toArray]) ⟨[],[],rfl,Zgp hr,rfl⟩).mono ?_
 rintro en w' ⟨v,rfl,kp,lim',b1,hE,hz,hl,hT,-,-⟩
 obtain ⟨cs',h1,rfl,_⟩:=ZbZ hT
 exact ⟨_,rfl,kp,lim',cs',h.calls kp hE hz,hE,rfl,h1⟩
theorem ZnT {k:Nat} (hk:4000000 ≤ k) {w0:World} {lim0:Nat → Nat} {w:World} {lim:Nat → Nat} (h:SW w0 lim0 w lim) {x:Frm} (hS:Sm x.2.1) {cs cs':List Value} (hr:Rt w lim frameT x cs) (hr':Rt w lim frameT x cs') :
  Calls Tryz.prog 20 [Ev cs.toArray,.agg cs'.toArray].toArray w fun en w' => ∃ v,en = .returned v ∧ Keep w w' ∧ v = .bool true:=by
 have e20:ZvY k (x,x,()) = some (true,()):=by
  obtain ⟨n,ch,⟨⟩⟩:=x
  exact ZBt k n (by omega) hS
 refine (Zaz (Zo9 k) (x:=(x,x,())) e20 rfl h.lz h.lies (vs:=[.agg cs.toArray,.agg cs'.toArray]) ⟨[],[],rfl,Zgp hr,[],[],rfl,Zgp hr',rfl⟩).mono ?_
 rintro en w' ⟨v,rfl,kp,lim',b1,hE,hz,hl,hT,-,-⟩
 exact ⟨_,rfl,kp,Zmi hT⟩
theorem ZDK {k:Nat} (hk:4000000 ≤ k) (c d r n:Int) (ch:List (List Int)) (h:Xn c d r n ch = 0):Zno k ((c,d,r,()),(WA c d r n ch).1,()) = some (((n,ch,()),((WA c d r n ch).1.length:Int),0,()),()):=by
 have hlen:=Zn4 c d r n ch
 rw [ZrI k c d r (Zs8 c d r n ch) (by omega) (by omega)]
 have:=Zzp h (more:=[]) rfl
 rw [Vg] at this
 rw [this]; rfl
theorem OfOk.shown {wA w:World} {ch:List (List Int)} {A:Option Addr} {cap:Nat} {rs:List Nat} {vs:Array Value} (h:OfOk wA w ch A cap rs vs) (hs:Sm ch) {w0:World} {lim0 lim:Nat → Nat} (S:SW w0 lim0 w lim) (hl:∀ b,wA.heap.size ≤ b → lim b = 0) :
  ∃ lim',SW w0 lim0 w lim' ∧ Ext w lim w lim' ∧ Rt w lim' (.sl (.sl (.int .i64))) ch [.slice A ch.length cap]:=by
 let own:Nat → Prop:=fun b => (∃ a,A = some a ∧ a.block = b) ∨ b ∈ rs
 have hown:∀ b,own b → wA.heap.size ≤ b ∧ b < w.heap.size ∧ ∃ cs U,w.heap[b]? = some (.cells cs U (0,0)):=by
  rintro b (⟨a,ha,rfl⟩ | hb)
  ·obtain ⟨h1,h2⟩:=h.blk a ha
   exact ⟨h2,QD h1,_,_,h1⟩
  ·obtain ⟨j,hj,e⟩:=List.mem_iff_getElem.1 hb
   have hjc:j < ch.length:=by have:=h.len; omega
   obtain ⟨h1,h2⟩:=h.row j b ch[j] (by rw [VO hj,e]) (VO _)
   exact ⟨h2,QD h1,_,_,h1⟩
 classical
 let lim':Nat → Nat:=fun b => if own b then 4294967296 else lim b
 have hE:Ext w lim w lim':=⟨Jj _,fun _ _ _ => rfl,fun b o ho => by
   simp only [lim']
   split
   ·rename_i hb; rw [hl b (hown b hb).1] at ho; omega
   ·exact ho,fun _ _ h => h,fun b o ho hf => by
   simp only [lim'] at ho
   split at ho
   ·rename_i hb
    obtain ⟨_,_,cs,U,h3⟩:=hown b hb
    rw [ZdS h3 (by simp)] at hf; cases hf
   ·exact ⟨ho,hf⟩⟩
 refine ⟨lim',S.of_ext hE fun b hb => ?_,hE,?_⟩
 ·simp only [lim']
  split
  ·rename_i h'; have:=(hown b h').2.1; omega
  ·exact S.lz b hb
 ·obtain ⟨hlen,hA⟩:=h.out
  have hs1:=hs.1
  rcases hA with ⟨rfl,h0,rfl⟩ | ⟨b,rfl,hc1,hc2,hv⟩
  ·exact ⟨none,_,0,rfl,rfl,by omega,.inl (List.eq_nil_of_length_eq_zero h0)⟩
  ·refine ⟨some ⟨b,0,none⟩,ch.length,cap,rfl,rfl,hc1,.inr ⟨b,0,rfl,fun i hi => ?_⟩⟩
   have hri:i < rs.length:=by rw [h.len]; exact hi
   have hb:=(h.blk _ rfl).1
   have hbl:(⟨b,0,none⟩:Addr).block = b:=rfl
   rw [hbl] at hb
   have hrow:=(h.row i rs[i] ch[i] (VO hri) (VO hi)).1
   have hli:=hs.2 _ (U5 hi)
   refine ⟨[Kj rs[i] ch[i]],⟨some ⟨rs[i],0,none⟩,ch[i].length,ch[i].length + 2,rfl,rfl,by omega,.inr ⟨rs[i],0,rfl,fun j hj => ⟨[.int .i64 ch[i][j]],rfl,fun m u hm => ?_⟩⟩⟩,fun m u hm => ?_⟩
   ·match m,hm with
    | 0,hm =>
     simp at hm; subst hm
     have e1:0 + j * (Ty.int .i64).size + 0 = j:=by simp [Ty.size]
     rw [e1,QQ hrow]
     refine ⟨?_,?_⟩
     ·unfold Zd6
      rw [UZ (by simpa using hj),Vh,VO hj]; rfl
     ·simp only [lim']
      rw [if_pos (.inr (U5 hri))]; omega
    | m + 1,hm => simp at hm
   ·match m,hm with
    | 0,hm =>
     simp at hm; subst hm
     have e1:0 + i * (Ty.sl (.int .i64)).size + 0 = i:=by simp [Ty.size]
     rw [e1,QQ hb]
     refine ⟨?_,?_⟩
     ·have:(vs.toList.take ch.length)[i]? = some (Kj rs[i] ch[i]):=by
       rw [hv]; unfold Ziy
       rw [ED,VO hri,VO hi]
      rw [Jy,if_pos hi] at this
      exact this
     ·simp only [lim']
      rw [if_pos (.inl ⟨_,rfl,rfl⟩)]; omega
    | m + 1,hm => simp at hm
theorem OfOk.rooms {wA w w':World} {ch:List (List Int)} {A:Option Addr} {cap:Nat} {rs:List Nat} {vs:Array Value} (h:OfOk wA w ch A cap rs vs) (hs:Sm ch) (k:Keep w w') {b5:Nat} {n:Int} (hb:w'.heap[b5]? = some (.cells #[.int .i64 n,.slice A ch.length cap] 35 (0,0))):Rooms w' b5 n A ch.length cap where
 box:=hb
 lt:=by have:=hs.1; omega
 row i hi:=by
  obtain ⟨hlen,hA⟩:=h.out
  rcases hA with ⟨rfl,h0,rfl⟩ | ⟨b,rfl,hc1,hc2,hv⟩
  ·omega
  ·have hri:i < rs.length:=by rw [h.len]; exact hi
   have hb:=(h.blk _ rfl).1
   have hbl:(⟨b,0,none⟩:Addr).block = b:=rfl
   rw [hbl] at hb
   have hrow:=(h.row i rs[i] ch[i] (VO hri) (VO hi)).1
   have hli:=hs.2 _ (U5 hi)
   refine ⟨b,rs[i],ch[i],rfl,QT k ?_,(k.old _ (QD hrow)).trans hrow,by omega⟩
   rw [QQ hb]
   have:(vs.toList.take ch.length)[i]? = some (Kj rs[i] ch[i]):=by
    rw [hv]; unfold Ziy
    rw [ED,VO hri,VO hi]
   rw [Jy,if_pos hi] at this
   exact this
end Go.Sh
namespace Go.Sh
open Go Go.Proofs
theorem Kn {w:World} {lim:Nat → Nat} {x:Frm} {cs:List Value} (h:Rt w lim frameT x cs):cs.length = 2:=h.length
noncomputable def ZJV:Code:=cl (cr (cr (cr (cr b8))))
set_option maxRecDepth 20000 in
theorem ZJ2 {k:Nat} (hk:4000000 ≤ k) {w0:World} {lim0:Nat → Nat} {w:World} {lim:Nat → Nat} (h:SW w0 lim0 w lim) {x:Frm} (hS:Sm x.2.1) {b3 b5:Nat} {ct ci:List Value} (hb3:w.heap[b3]? = some (.cells ct.toArray 26 (0,0))) (hb5:w.heap[b5]? = some (.cells ci.toArray 35 (0,0)))
  (hrt:Rt w lim frameT x ct) (hri:Rt w lim frameT x ci) {Fe:List (Nat × Value)} (hFe:∀ p ∈ Fe,p.1 < 8) {e:En} (hat:At Fe e) (h3:(3,UX (some ⟨b3,0,none⟩)) ∈ Fe) (h5:(5,UX (some ⟨b5,0,none⟩)) ∈ Fe) {Q:Exit → En → World → Prop}
  (hN:∀ e' w',At Fe e' → Keep w w' → Q .normal e' w'):T Tryz.prog 136 ZJV Q e w:=by
 let qv:Nat → Value:=fun j => match j with
  | 0 => .agg ci.toArray | 2 => .agg ct.toArray | _ => undef
 let Ph:Nat → En → World → Prop:=fun m e w' => At Fe e ∧ Keep w w' ∧ match m with
  | 0 => True
  | 1 => ∃ lim' cs',SW w0 lim0 w' lim' ∧ Ext w lim w' lim' ∧ e 31 = .agg cs'.toArray ∧ Rt w' lim' frameT x cs'
  | 2 => e 33 = .bool true
  | 3 => e 34 = .bool false
  | _ => False
 refine T.seq (T.mixed [1,3,4] (fun j => 30 + j) qv Ph XP (by kernel_rfl) ?_ ?_ ?_ ?_ ?_)
 ·exact ⟨hat,Keep.drw w,trivial⟩
 ·rintro m e w' j v hj hc ⟨q1,q3,q4⟩
  have hne:j = 0 ∨ j = 2:=by
   have hj':j < 5:=hj
   have hn:j ≠ 1 ∧ j ≠ 3 ∧ j ≠ 4:=by refine ⟨?_,?_,?_⟩ <;> (rintro rfl; simp at hc)
   omega
  have ho:∀ s,s ≠ 30 → s ≠ 32 → upd e (30 + j) v s = e s:=fun s h h' => Zx e v (by rcases hne with rfl | rfl <;> omega)
  refine ⟨q1.same hFe (fun s hs => ho s (by omega) (by omega)),q3,?_⟩
  match m,q4 with
  | 0,_ => trivial
  | 1,⟨lim,cs,a1,a2,a3,a4⟩ => exact ⟨lim,cs,a1,a2,(ho 31 (by decide) (by decide)).trans a3,a4⟩
  | 2,a => exact (ho 33 (by decide) (by decide)).trans a
  | 3,a => exact (ho 34 (by decide) (by decide)).trans a
 ·refine ⟨fun _ m e w' hP hd hp _ => ⟨trivial,?_⟩,fun h => (by cases h),fun _ m e w' hP hd hp _ => ⟨trivial,?_⟩,fun h => (by cases h),fun h => (by cases h),trivial⟩
  ·exact Zas (x:=.tmp 5) (cs:=ci) rfl (hP.1 _ h5) ((hP.2.1.old b5 (QD hb5)).trans hb5) (dd:=Tryz.prog.underlying 35 |>.getD default) (by kernel_rfl) (by kernel_rfl) (by rw [Kn hri]; kernel_rfl) (by simp)
  ·exact Zas (x:=.tmp 3) (cs:=ct) rfl (hP.1 _ h3) ((hP.2.1.old b3 (QD hb3)).trans hb3) (dd:=Tryz.prog.underlying 26 |>.getD default) (by kernel_rfl) (by kernel_rfl) (by rw [Kn hrt]; kernel_rfl) (by simp)
 ·refine ⟨fun o ho e w' hP hd => ⟨?_,?_⟩,fun o ho e w' hP hd => ⟨?_,?_⟩,fun o ho e w' hP hd => ⟨?_,?_⟩,trivial⟩
  ·obtain rfl:=VF.inj ho; trivial
  ·obtain rfl:=VF.inj ho
   obtain ⟨q1,q3,_⟩:=hP
   have hv:e 30 = .agg ci.toArray:=hd 0 rfl rfl
   refine Lo.call 31 (Xj (args := #[.tmp 30]) rfl (Zpa k).enters) (by
    show Calls Tryz.prog 21 [e 30].toArray w' _
    rw [hv]; exact ZmL (k:=k) (h.next q3) (hri.mono (h.ext1 q3))) ?_
   rintro v w'' ⟨kp,lim',cs',s1,s2,rfl,s3⟩
   exact ⟨q1.same hFe (fun s hs => Zx _ _ (by omega)),q3.trans kp,lim',cs',s1,(h.ext1 q3).trans s2,Wz ..,s3⟩
  ·obtain rfl:=VF.inj ho; trivial
  ·obtain rfl:=VF.inj ho
   obtain ⟨q1,q3,lim',cs',s1,s2,s3,s4⟩:=hP
   have hv:e 32 = .agg ct.toArray:=hd 2 rfl rfl
   refine Lo.call 33 (Xj (args := #[.tmp 31,.tmp 32]) rfl (Zo9 k).enters) (by
    show Calls Tryz.prog 20 [e 31,e 32].toArray w' _
    rw [s3,hv]; exact ZnT hk s1 hS s4 (hrt.mono s2)) ?_
   rintro v w'' ⟨kp,rfl⟩
   exact ⟨q1.same hFe (fun s hs => Zx _ _ (by omega)),q3.trans kp,Wz ..⟩
  ·obtain rfl:=VF.inj ho; trivial
  ·obtain rfl:=VF.inj ho
   obtain ⟨q1,q3,q4⟩:=hP
   refine Lo.val 34 (ZJE (x:=.tmp 33) rfl q4 (v:=.bool false) rfl) ?_
   exact ⟨q1.same hFe (fun s hs => Zx _ _ (by omega)),q3,Wz ..⟩
 ·rintro e w' ⟨q1,q3,q4⟩ _
  exact T.condF (by show e 34 = _; rw [q4]) (T.skip (hN _ _ q1 q3))
theorem ZEj (s:ByteArray):XK Tryz.prog (binOp .eql 9 (.string s) (.string s)) = some (.bool true):=by
 have:XK Tryz.prog (binOp .eql 9 (.string s) (.string s)) = some (.bool (s.toList == s.toList)):=by kernel_rfl
 rw [this]; simp
noncomputable def ZIS:Code:=b8P 2
set_option maxRecDepth 20000 in
theorem ZJF {k:Nat} (hk:4000000 ≤ k) {w0:World} {lim0:Nat → Nat} {w:World} {lim:Nat → Nat} (h:SW w0 lim0 w lim) {x:Frm} (hS:Sm x.2.1) {b1 b17 cc n cap:Nat} {ct cv:List Value} {E:List Int} {vb:Value} {vs:Array Value} {U:TypeId} {fz:Nat × Nat}
  (hb1:w.heap[b1]? = some (.cells ct.toArray 26 (0,0))) (hb17:w.heap[b17]? = some (.cells cv.toArray 35 (0,0))) (hrt:Rt w lim frameT x ct) (hrv:Rt w lim frameT x cv) (hE:Bts w vb E)
  (hcc:w.heap[cc]? = some (.cells vs U fz)) (hn:E.length = n) (hcap:n ≤ cap) (hcs:∀ i (h:i < E.length),vs.toList[0 + i]? = some (.int .u8 E[i]))
  {Fe:List (Nat × Value)} (hFe:∀ p ∈ Fe,p.1 < 20) (hF2:∀ p ∈ Fe,p.1 ≠ 4) {e:En} (hat:At Fe e) (h1:(3,UX (some ⟨b1,0,none⟩)) ∈ Fe) (h6:(6,vb) ∈ Fe) (h11:(11,V5 (some ⟨cc,0,none⟩) n cap) ∈ Fe) (h14:(14,Jv .i64 0) ∈ Fe)
  (h17:(17,UX (some ⟨b17,0,none⟩)) ∈ Fe) (h19:(19,Jv .i64 0) ∈ Fe) {Q:Exit → En → World → Prop} (hQ:∀ e' w',e' 4 = .bool true → Keep w w' → Q .ret e' w'):T Tryz.prog 136 ZIS Q e w:=by
 let qv:Nat → Value:=fun j => match j with
  | 0 => .int .i64 0 | 1 => .bool true | 2 => .bool true | 3 => .int .i64 0 | 4 => .bool true | 5 => .bool true | 6 => .bool true | 7 => .slice (some ⟨cc,0,none⟩) n cap | 8 => .string (bytesOf E) | 9 => vb | 10 => .string (bytesOf E)
  | 11 => .bool true | 12 => .bool true | 13 => .bool true | 14 => .agg cv.toArray | 16 => .agg ct.toArray | _ => undef
 let Ph:Nat → En → World → Prop:=fun m e w' => At Fe e ∧ Keep w w' ∧ match m with
  | 0 => True
  | 1 => ∃ lim' cs',SW w0 lim0 w' lim' ∧ Ext w lim w' lim' ∧ e 132 = .agg cs'.toArray ∧ Rt w' lim' frameT x cs'
  | 2 => e 134 = .bool true
  | 3 => e 135 = .bool true
  | 4 => e 4 = .bool true
  | _ => False
 refine T.seq (T.mixed [15,17,18,19] (fun j => 117 + j) qv Ph XP (by kernel_rfl) ?_ ?_ ?_ ?_ ?_)
 ·exact ⟨hat,Keep.drw w,trivial⟩
 ·rintro m e w' j v hj hc ⟨q1,q3,q4⟩
  have hj':j < 20:=hj
  have hn:j ≠ 15 ∧ j ≠ 17 ∧ j ≠ 18 ∧ j ≠ 19:=by refine ⟨?_,?_,?_,?_⟩ <;> (rintro rfl; simp at hc)
  have ho:∀ s,(s < 117 ∨ s = 132 ∨ s = 134 ∨ s = 135) → upd e (117 + j) v s = e s:=fun s h => Zx e v (by omega)
  refine ⟨q1.same hFe (fun s hs => ho s (by omega)),q3,?_⟩
  match m,q4 with
  | 0,_ => trivial
  | 1,⟨lim,cs,a1,a2,a3,a4⟩ => exact ⟨lim,cs,a1,a2,(ho 132 (by simp)).trans a3,a4⟩
  | 2,a => exact (ho 134 (by simp)).trans a
  | 3,a => exact (ho 135 (by simp)).trans a
  | 4,a => exact (ho 4 (by simp)).trans a
 ·refine ⟨fun _ m e w' hP hd hp _ => ⟨trivial,?_⟩,fun _ m e w' hP hd hp _ => ⟨trivial,?_⟩,fun _ m e w' hP hd hp _ => ⟨trivial,?_⟩,fun _ m e w' hP hd hp _ => ⟨⟨119,rfl,hd 2 rfl rfl⟩,?_⟩,fun _ m e w' hP hd hp _ => ⟨⟨119,rfl,hd 2 rfl rfl⟩,?_⟩,fun _ m e w' hP hd hp _ => ⟨trivial,?_⟩,fun _ m e w' hP hd hp _ => ⟨trivial,?_⟩,
   fun _ m e w' hP hd hp _ => ⟨⟨123,rfl,hd 6 rfl rfl⟩,?_⟩,fun _ m e w' hP hd hp _ => ⟨⟨123,rfl,hd 6 rfl rfl⟩,?_⟩,fun _ m e w' hP hd hp _ => ⟨⟨123,rfl,hd 6 rfl rfl⟩,?_⟩,fun _ m e w' hP hd hp _ => ⟨⟨123,rfl,hd 6 rfl rfl⟩,?_⟩,fun _ m e w' hP hd hp _ => ⟨⟨123,rfl,hd 6 rfl rfl⟩,?_⟩,
   fun _ m e w' hP hd hp _ => ⟨trivial,?_⟩,fun _ m e w' hP hd hp _ => ⟨trivial,?_⟩,fun _ m e w' hP hd hp _ => ⟨⟨130,rfl,hd 13 rfl rfl⟩,?_⟩,fun h => (by cases h),fun _ m e w' hP hd hp _ => ⟨⟨130,rfl,hd 13 rfl rfl⟩,?_⟩,fun h => (by cases h),fun h => (by cases h),fun h => (by cases h),trivial⟩
  ·exact ZE (x:=.tmp 14) (.inl rfl) (hP.1 _ h14)
  ·exact YW (x:=.tmp 117) (y:=.const (.int .i64 0)) rfl (hd 0 rfl rfl) rfl rfl rfl
  ·exact ZE (x:=.tmp 118) (.inl rfl) (hd 1 rfl rfl)
  ·exact ZE (x:=.tmp 19) (.inl rfl) (hP.1 _ h19)
  ·exact YW (x:=.tmp 120) (y:=.const (.int .i64 0)) rfl (hd 3 rfl rfl) rfl rfl rfl
  ·exact ZuH (c:=.tmp 119) (a:=.tmp 121) (b:=.const (.bool false)) rfl (hd 2 rfl rfl) (hd 4 rfl rfl)
  ·exact ZE (x:=.tmp 122) (.inl rfl) (hd 5 rfl rfl)
  ·exact ZE (x:=.tmp 11) (.inl rfl) (hP.1 _ h11)
  ·exact ZFC (x:=.tmp 124) (el:=5) (xs:=E) rfl (hd 7 rfl rfl) (by kernel_rfl) (by kernel_rfl) (by kernel_rfl) ((hP.2.1.old cc (QD hcc)).trans hcc) hn hcap hcs
  ·exact ZE (x:=.tmp 6) (.inl rfl) (hP.1 _ h6)
  ·exact ZDI (x:=.tmp 126) (el:=5) (lim:=(hE.next hP.2.1).choose) rfl (hd 9 rfl rfl) (by kernel_rfl) (by kernel_rfl) (by kernel_rfl) (hE.next hP.2.1).choose_spec
  ·exact YW (x:=.tmp 125) (y:=.tmp 127) rfl (hd 8 rfl rfl) (hd 10 rfl rfl) rfl (ZEj _)
  ·exact ZuH (c:=.tmp 123) (a:=.tmp 128) (b:=.const (.bool false)) rfl (hd 6 rfl rfl) (hd 11 rfl rfl)
  ·exact ZE (x:=.tmp 129) (.inl rfl) (hd 12 rfl rfl)
  ·exact Zas (x:=.tmp 17) (cs:=cv) rfl (hP.1 _ h17) ((hP.2.1.old b17 (QD hb17)).trans hb17) (dd:=Tryz.prog.underlying 35 |>.getD default) (by kernel_rfl) (by kernel_rfl) (by rw [Kn hrv]; kernel_rfl) (by simp)
  ·exact Zas (x:=.tmp 3) (cs:=ct) rfl (hP.1 _ h1) ((hP.2.1.old b1 (QD hb1)).trans hb1) (dd:=Tryz.prog.underlying 26 |>.getD default) (by kernel_rfl) (by kernel_rfl) (by rw [Kn hrt]; kernel_rfl) (by simp)
 ·refine ⟨fun o ho e w' hP hd => ⟨?_,?_⟩,fun o ho e w' hP hd => ⟨?_,?_⟩,fun o ho e w' hP hd => ⟨?_,?_⟩,fun o ho e w' hP hd => ⟨?_,?_⟩,trivial⟩
  ·obtain rfl:=VF.inj ho; exact ⟨130,rfl,hd 13 rfl rfl⟩
  ·obtain rfl:=VF.inj ho
   obtain ⟨q1,q3,_⟩:=hP
   have hv:e 131 = .agg cv.toArray:=hd 14 rfl rfl
   refine Lo.call 132 (Xj (args := #[.tmp 131]) rfl (Zpa k).enters) (by
    show Calls Tryz.prog 21 [e 131].toArray w' _
    rw [hv]; exact ZmL (k:=k) (h.next q3) (hrv.mono (h.ext1 q3))) ?_
   rintro v w'' ⟨kp,lim',cs',s1,s2,rfl,s3⟩
   exact ⟨q1.same hFe (fun s hs => Zx _ _ (by omega)),q3.trans kp,lim',cs',s1,(h.ext1 q3).trans s2,Wz ..,s3⟩
  ·obtain rfl:=VF.inj ho; exact ⟨130,rfl,hd 13 rfl rfl⟩
  ·obtain rfl:=VF.inj ho
   obtain ⟨q1,q3,lim',cs',s1,s2,s3,s4⟩:=hP
   have hv:e 133 = .agg ct.toArray:=hd 16 rfl rfl
   refine Lo.call 134 (Xj (args := #[.tmp 132,.tmp 133]) rfl (Zo9 k).enters) (by
    show Calls Tryz.prog 20 [e 132,e 133].toArray w' _
    rw [s3,hv]; exact ZnT hk s1 hS s4 (hrt.mono s2)) ?_
   rintro v w'' ⟨kp,rfl⟩
   exact ⟨q1.same hFe (fun s hs => Zx _ _ (by omega)),q3.trans kp,Wz ..⟩
  ·obtain rfl:=VF.inj ho; trivial
  ·obtain rfl:=VF.inj ho
   obtain ⟨q1,q3,q4⟩:=hP
   have hv:e 130 = .bool true:=hd 13 rfl rfl
   refine Lo.val 135 (ZuH (c:=.tmp 130) (a:=.tmp 134) (b:=.const (.bool false)) rfl hv q4) ?_
   exact ⟨q1.same hFe (fun s hs => Zx _ _ (by omega)),q3,Wz ..⟩
  ·obtain rfl:=VF.inj ho; trivial
  ·obtain rfl:=VF.inj ho
   obtain ⟨q1,q3,q4⟩:=hP
   refine Lo.val 4 (ZE (x:=.tmp 135) (.inr rfl) q4) ?_
   refine ⟨fun p hp => ?_,q3,Wz ..⟩
   rw [Zx _ _ (hF2 p hp)]; exact q1 p hp
 ·rintro e w' ⟨q1,q3,q4⟩ _
  exact T.ret (hQ _ _ q4 q3)
end Go.Sh
namespace Go.Sh
open Go Go.Proofs
set_option maxRecDepth 20000 in
set_option maxHeartbeats 4000000 in
theorem ZqC {k:Nat} (hk:4000000 ≤ k) {w0:World} {lim0:Nat → Nat} (hlz:∀ b,w0.heap.size ≤ b → lim0 b = 0) (hlies:Ze6 w0 lim0) {c d r n:Int} {ch:List (List Int)} (hS:Sm ch) {cf:List Value} (hcf:Rt w0 lim0 frameT (n,ch,()) cf) :
  Calls Tryz.prog 8 [Ev [Jv .i64 c,.int .i64 d,.int .i64 r].toArray,Ev cf.toArray].toArray w0 fun e w' => ∃ v,e = .returned v ∧ v = .bool true ∧ Keep w0 w':=by
 have hkn:=ZAj k (by omega)
 have cf2:cf.length = 2:=Kn hcf
 obtain ⟨slC,hcfe,hslC⟩:=ZsJ hcf
 let cs3:List Value:=[Jv .i64 c,.int .i64 d,.int .i64 r]
 have S0:SW w0 lim0 w0 lim0:=⟨Keep.refl _,Ext.refl _ _,hlz,hlies⟩
 let d23:TypeDesc:=Tryz.prog.underlying 23 |>.getD default
 let d26:TypeDesc:=Tryz.prog.underlying 26 |>.getD default
 let d35:TypeDesc:=Tryz.prog.underlying 35 |>.getD default
 have hu23':Tryz.prog.underlying 23 = some d23:=by kernel_rfl
 have ha23:Zaw d23 = true:=by kernel_rfl
 have hu26':Tryz.prog.underlying 26 = some d26:=by kernel_rfl
 have ha26:Zaw d26 = true:=by kernel_rfl
 have hu35':Tryz.prog.underlying 35 = some d35:=by kernel_rfl
 have ha35:Zaw d35 = true:=by kernel_rfl
 have hn23:3 = Tryz.prog.cellsOf 23:=by kernel_rfl
 have hn26:2 = Tryz.prog.cellsOf 26:=by kernel_rfl
 have hn35:2 = Tryz.prog.cellsOf 35:=by kernel_rfl
 have hlen:=Zn4 c d r n ch
 refine Zxo (fn:=Tryz.f8) (code:=b8) (t:=4) (vs:=[.agg cs3.toArray,.agg cf.toArray]) (R:=fun v w' => v = .bool true ∧ Keep w0 w') (by kernel_rfl) (by kernel_rfl) (by kernel_rfl) (by show 2 ≤ 136; decide) ?_
 show T Tryz.prog 136 _ _ _ _
 -- region 0
 refine T.seq (T.region (L.val 2 (ZDF rfl (vs:=cs3) rfl) (L.val 3 (ZDF rfl (vs:=cf) rfl) (L.val 4 (ZE (x:=.const (.bool false)) (.inr rfl) rfl) (L.nil ?_)))))
 have H1:=((H.nil w0).alloc (.cells cs3.toArray 23)).alloc (.cells cf.toArray 26)
 have S1:=S0.next H1.keep
 generalize (w0.alloc (.cells cs3.toArray 23)).alloc (.cells cf.toArray 26) = w1 at H1 S1 ⊢
 generalize (w0.alloc (.cells cs3.toArray 23)).heap.size = b3 at H1 ⊢
 obtain ⟨b2,hb2⟩:∃ b2,b2 = w0.heap.size:=⟨_,rfl⟩
 rw [← hb2] at H1 ⊢
 -- region 1
 refine T.seq (T.seq (T.region (L.call 20 (Xj (args := #[]) rfl (Zvl k).enters) (Zaz (Zvl k) (x:=()) hkn rfl S1.lz S1.lies (vs:=[]) rfl) ?_)))
 rintro v w2 ⟨kp,lim2,bb,hE,hz,hl,hT,-,-⟩
 have hv:=Zmi hT
 subst hv
 have H2:=H1.next kp
 have S2:=S1.calls kp hE hz
 clear kp hE hz hl hT H1 S1
 refine L.val 21 (ZJE (x:=.tmp 20) rfl rfl (v:=.bool false) rfl) (L.nil ?_)
 refine T.condF rfl (T.skip ?_)
 -- region 3
 have hsl2:Rt w2 lim2 (.sl (.sl (.int .i64))) ch [slC]:=by
  obtain ⟨A,n',c',e,h⟩:=hslC
  cases e
  have:Rt w0 lim0 (.sl (.sl (.int .i64))) ch [.slice A n' c']:=⟨A,n',c',rfl,h⟩
  exact this.mono S2.ext
 refine T.seq (T.region (L.val 22 (Zas (x:=.tmp 3) (cs:=cf) rfl rfl (H2.at' (b3,.cells cf.toArray 26) (by simp)) hu26' ha26 (by rw [cf2]; exact hn26) (by simp))
  (L.call 23 (Xj (args := #[.tmp 22]) rfl (ZEX k).enters) (by
   show Calls Tryz.prog 15 [Ev cf.toArray].toArray w2 _
   rw [hcfe]
   exact ZDv (n:=n) hsl2 (by have:=hS.1; omega) (fun l hl => by have:=hS.2 l hl; omega)) ?_)))
 rintro v w3 ⟨A,cap,rs,vs,rfl,kp3,hOf⟩
 have H3:=H2.next kp3
 have S3:=S2.next kp3
 obtain ⟨lim3,S3',E3,hsl3⟩:=hOf.shown hS S3 S2.lz
 clear S3 S2 H2 hsl2
 let ci:List Value:=[.int .i64 n,.slice A ch.length cap]
 refine L.val 5 (Zga rfl (zs:=z35) (by kernel_rfl)) ?_
 have H4:=H3.alloc (.cells z35.toArray 35)
 have K4:=(H.nil w3).alloc (.cells z35.toArray 35)
 have S4:=S3'.next (Keep.alloc w3 (.cells z35.toArray 35))
 have hsl4:=hsl3.mono (S3'.ext1 (Keep.alloc w3 (.cells z35.toArray 35)))
 have hl5:lim3 w3.heap.size = 0:=S3'.lz _ (Jj _)
 generalize w3.alloc (.cells z35.toArray 35) = w4 at H4 S4 K4 hsl4 ⊢
 generalize w3.heap.size = b5 at H4 K4 hl5 ⊢
 refine L.unit (KI (x:=.tmp 5) (y:=.tmp 23) (vs:=ci) rfl rfl rfl (H4.at' _ (Jm ..)) Zzf hu35' hn35.symm (by intro v hv; simp only [ci,VM,Uv,or_false] at hv; rcases hv with rfl | rfl <;> rfl) rfl) (L.nil ?_)
 obtain ⟨S5,E5⟩:=S4.row (H4.at' _ (Jm ..)) (H4.new _ (Jm ..)) hl5 ci.toArray
 have H5:=H4.row (cs':=ci.toArray)
 have K5:=K4.row (cs':=ci.toArray)
 have hsl5:=hsl4.mono E5
 have R5:Rooms (w4.setRow b5 ci.toArray) b5 n A ch.length cap:=hOf.rooms hS K5.keep (K5.at' _ (Jm ..))
 generalize w4.setRow b5 ci.toArray = w5 at H5 S5 hsl5 R5 ⊢
 clear H4 K4 K5 S4 hsl4 S3' hsl3 H3 E5 E3 hOf kp3
 have hci5:Rt w5 lim3 frameT (n,ch,()) ci:=ZC4 hsl5
 -- region 4
 refine T.seq (T.region (L.val 25 (Zas (x:=.tmp 2) (cs:=cs3) rfl rfl (H5.at' (b2,.cells cs3.toArray 23) (by simp)) hu23' ha23 hn23 (by simp))
  (L.val 26 (Zas (x:=.tmp 5) (cs:=ci) rfl rfl (H5.at' (b5,.cells ci.toArray 35) (by simp)) hu35' ha35 hn35 (by simp))
  (L.call 27 (Xj (args := #[.tmp 25,.tmp 26]) rfl (ZvK k).enters) (Zaz (ZvK k) (x:=((c,d,r,()),(n,ch,()),())) (Zrx k (by omega) c d r n ch) rfl S5.lz S5.lies (vs:=[.agg cs3.toArray,.agg ci.toArray]) ⟨[],[],rfl,Zmf (Zl5 c d r),[],[],rfl,Zgp hci5,rfl⟩) ?_))))
 rintro v w6 ⟨kp,lim6,bb,hE,hz,hl,hT,-,-⟩
 have hT:TT w6 lim6 (.tup [.own (.int .u8) false (WA c d r n ch).1,.view (.int .i64) (WA c d r n ch).2]) v bb:=hT
 have herr:=ZzC c d r n ch
 have hrd:=ZDK hk c d r n ch
 generalize (WA c d r n ch).1 = E at hT hrd hlen
 generalize (WA c d r n ch).2 = er at hT herr
 subst herr
 generalize Xn c d r n ch = er at hT hrd
 obtain ⟨vb,v2,x1,x2,rfl,t1,t2⟩:=ZID hT
 obtain ⟨rfl,_⟩:=Zbu t2
 have hB6:=Bts.of t1
 have H6:=H5.next kp
 have S6:=S5.calls kp hE hz
 have hci6:=hci5.mono hE
 have R6:=R5.next kp
 clear kp hE hz hl hT H5 S5 hci5 t1 t2 R5 hsl5
 refine L.val 24 (ZE (x:=.tmp 27) (.inl rfl) rfl) (L.val 28 (X1 (x:=.tmp 24) (vs:=[vb,.int .i64 er]) rfl rfl (v:=vb) rfl) (L.val 29 (X1 (x:=.tmp 24) (vs:=[vb,.int .i64 er]) rfl rfl (v:=.int .i64 er) rfl)
  (L.val 6 (ZE (x:=.tmp 28) (.inr rfl) rfl) (L.val 7 (ZE (x:=.tmp 29) (.inr rfl) rfl) (L.nil ?_)))))
 -- region 5
 let Fe:List (Nat × Value):=[(2,.pointer (some ⟨b2,0,none⟩)),(3,.pointer (some ⟨b3,0,none⟩)),(5,.pointer (some ⟨b5,0,none⟩)),(6,vb),(7,.int .i64 er)]
 have hFe:∀ p ∈ Fe,p.1 < 8:=by intro p hp; simp [Fe] at hp; rcases hp with rfl | rfl | rfl | rfl | rfl <;> simp
 refine T.seq (ZJ2 (x:=(n,ch,())) hk S6 hS (H6.at' (b3,.cells cf.toArray 26) (by simp)) (H6.at' (b5,.cells ci.toArray 35) (by simp)) (hcf.mono S6.ext) hci6 hFe (by intro p hp; simp only [Fe,VM,Uv,or_false] at hp; rcases hp with rfl | rfl | rfl | rfl | rfl <;> rfl) (by simp [Fe]) (by simp [Fe]) ?_)
 intro e1 w7 A1 kp
 have H7:=H6.next kp
 have S7:=S6.next kp
 have R7:=R6.next kp
 have hB7:=hB6.next kp
 clear kp H6 S6 hci6 R6 hB6
 -- region 7,the spare XQ
 refine T.seq (T.seq (T.region (L.val 8 (ZE (x:=.const (.int .i64 0)) (.inr rfl) rfl) (L.nil ?_))))
 refine ZuM hFe R7 (by simp [Fe]) (A1.same hFe (fun s hs => Zx _ _ (by omega))) rfl (Keep.refl _) ?_
 intro e2 w8 A2 kp
 have H8:=H7.next kp
 have S8:=S7.next kp
 have hB8:=hB7.next kp
 clear kp H7 S7 R7 hB7
 -- region 16
 have h7:e2 7 = .int .i64 er:=A2 (7,.int .i64 er) (by simp [Fe])
 have h6:e2 6 = vb:=A2 (6,vb) (by simp [Fe])
 have h2:e2 2 = .pointer (some ⟨b2,0,none⟩):=A2 (2,.pointer (some ⟨b2,0,none⟩)) (by simp [Fe])
 have h3:e2 3 = .pointer (some ⟨b3,0,none⟩):=A2 (3,.pointer (some ⟨b3,0,none⟩)) (by simp [Fe])
 refine T.seq (T.seq (T.region (L.val 71 (ZE (x:=.tmp 7) (.inl rfl) h7) (L.val 72 (YW (x:=.tmp 71) (y:=.const (.int .i64 0)) rfl rfl rfl rfl (v:=.bool (er != 0)) rfl) (L.nil ?_)))))
 by_cases h0:¬ er = 0
 ·refine T.condT (by show Value.bool _ = _; simp [h0]) (T.seq (T.region (L.val 4 (ZE (x:=.const (.bool true)) (.inr rfl) rfl) (L.nil (T.ret ⟨.inr rfl,rfl,S8.keep⟩)))))
 have h0:er = 0:=by omega
 refine T.condF (by show Value.bool _ = _; simp [h0]) (T.skip ?_)
 have hF:=hrd h0
 obtain ⟨Ae,ce,hvb,hlce,css,hcss,hpos⟩:=Zbj (Zbk hB8.choose_spec)
 have hfl:=Zqj hcss
 have hrep:∀ m,(Jd m [Jv .u8 0]).flatten = Jd m (.int .u8 0):=fun m => by
  induction m with
  | zero => rfl
  | succ m ih => simp [EH,ih]
 -- region 18
 let zo:Obj:=.cells (Jd (E.length + 3) [Jv .u8 0]).flatten.toArray 5
 refine T.seq (T.region (L.val 73 (ZE (x:=.tmp 6) (.inl rfl) (by exact h6)) (L.val 74 (Zix (x:=.tmp 73) (A:=Ae) (len:=E.length) (cap:=ce) rfl hvb (el:=5) (by kernel_rfl))
  (L.val 75 (YW (x:=.tmp 74) (y:=.const (.int .i64 3)) rfl rfl rfl rfl (v:=.int .i64 ((E.length + 3:Nat):Int)) (by
   show some (Jv .i64 (IntKind.i64.wrap ((E.length:Int) + 3))) = _
   rw [Q2 (by omega) (by omega)]; rfl))
  (L.val 76 (ZDG (x:=.const (.int .i64 0)) (y:=.tmp 75) rfl rfl rfl (ee:=5) (t:=.int .u8) (zs:=[.int .u8 0]) (by kernel_rfl) (by kernel_rfl) rfl (by decide) (Jt (by kernel_rfl)) (by omega)) ?_)))))
 have kp:Keep w8 (w8.alloc zo):=Keep.alloc w8 zo
 have H9:H w0 (w8.alloc zo) _:=H8.alloc zo
 have S9:=S8.next kp
 have hB9:=hB8.next kp
 have hl11:lim6 w8.heap.size = 0:=S8.lz _ (Jj _)
 have hpos9:E = [] ∨ ∃ b off,Ae = some ⟨b,off,none⟩ ∧ ∀ j u,css.flatten[j]? = some u → (w8.alloc zo).cell? ⟨b,off + j,none⟩ = some u:=by
  rcases hpos with h | ⟨b,off,e,h⟩
  ·exact .inl h
  ·exact .inr ⟨b,off,e,fun j u hj => QT kp (h j u hj)⟩
 have K9:H w8 (w8.alloc zo) _:=(H.nil w8).alloc zo
 show L Tryz.prog 136 _ _ _ _ (w8.alloc zo)
 generalize w8.alloc zo = w9 at H9 S9 hB9 hpos9 K9 ⊢
 generalize w8.heap.size = cc at H9 hl11 K9 ⊢
 clear kp
 refine L.val 77 (ZE (x:=.tmp 6) (.inl rfl) (by exact h6)) (L.val 78 (ZsA (x:=.tmp 76) (y:=.tmp 77) (T:=32) (U:=32) (ee:=5) (eU:=5) (t:=.int .u8) (A:=Ae) (cap:=ce) (ys:=E) rfl (by kernel_rfl) (by kernel_rfl) rfl (K9.at' _ (Jm ..)) hvb hcss hpos9 (by omega) (by
  rw [hrep]; simp [Ty.size])) (L.val 11 (ZE (x:=.tmp 78) (.inr rfl) rfl) (L.nil ?_)))
 have hcur:∀ x:Array Value,x = (Jd (E.length + 3) [Jv .u8 0]).flatten.toArray → (x.toList.take (0 + 0 * (Ty.int .u8).size) ++ css.flatten ++ x.toList.drop (0 + 0 * (Ty.int .u8).size + css.flatten.length)).toArray = (E.map (Jv .u8) ++ Jd 3 (Jv .u8 0)).toArray:=by
  rintro x rfl
  rw [hrep,hfl]
  simp
 rw [hcur _ rfl,Ub]
 clear hcur
 obtain ⟨S10,E10⟩:=S9.row (H9.at' _ (Jm ..)) (H9.new _ (Jm ..)) hl11 (E.map (Jv .u8) ++ Jd 3 (Jv .u8 0)).toArray
 have H10:=H9.row (cs':=(E.map (Jv .u8) ++ Jd 3 (Jv .u8 0)).toArray)
 have K10:=K9.row (cs':=(E.map (Jv .u8) ++ Jd 3 (Jv .u8 0)).toArray)
 have hB10:=hB8.next K10.keep
 generalize Jd 3 (Jv .u8 0) = zs at H10 S10 E10 hB10 K10 ⊢
 generalize w9.setRow cc (E.map (Jv .u8) ++ zs).toArray = w10 at H10 S10 hB10 E10 K10 ⊢
 clear H9 S9 K9 K10 E10 hB9 hpos9 H8 S8
 -- region 19
 have hcc:w10.heap[cc]? = some (.cells (E.map (Jv .u8) ++ zs).toArray 5 (0,0)):=H10.at' (cc,_) (Jm ..)
 have hnc:=H10.new (cc,_) (Jm ..)
 refine T.seq (T.region (L.val 80 (Zas (x:=.tmp 2) (cs:=cs3) rfl (by exact h2) (H10.at' (b2,.cells cs3.toArray 23) (by simp)) hu23' ha23 hn23 (by simp))
  (L.val 81 (ZE (x:=.tmp 11) (.inl rfl) (v:=.slice (some ⟨cc,0,none⟩) E.length (E.length + 3)) rfl)
  (L.call 82 (Xj (args := #[.tmp 80,.tmp 81]) rfl (Zju k).enters) (Zzq S10 hS hF (by omega) hcc hnc hlz hlies) ?_))))
 rintro v w11 ⟨kp,A4,n4,c4,rfl,hRSI⟩
 have L11:=Loose.start kp
 let cu:List Value:=[Jv .i64 n,.slice A4 n4 c4]
 refine L.val 79 (ZE (x:=.tmp 82) (.inl rfl) rfl) (L.val 83 (X1 (x:=.tmp 79) (vs:=[.agg cu.toArray,.int .i64 E.length,.int .i64 0]) rfl rfl (v:=.agg cu.toArray) rfl) (L.val 84 (X1 (x:=.tmp 79) (vs:=[.agg cu.toArray,.int .i64 E.length,.int .i64 0]) rfl rfl (v:=.int .i64 E.length) rfl)
  (L.val 85 (X1 (x:=.tmp 79) (vs:=[.agg cu.toArray,.int .i64 E.length,.int .i64 0]) rfl rfl (v:=.int .i64 0) rfl) (L.val 12 (Zga rfl (zs:=z35) (by kernel_rfl)) ?_))))
 have L12:=L11.next (Keep.alloc w11 (.cells z35.toArray 35))
 have hb12:(w11.alloc (.cells z35.toArray 35)).heap[w11.heap.size]? = some (.cells z35.toArray 35 (0,0)):=heap_alloc_new w11 _
 obtain ⟨b12,hb12e⟩:∃ b12,b12 = w11.heap.size:=⟨_,rfl⟩
 rw [← hb12e] at hb12 ⊢
 generalize w11.alloc (.cells z35.toArray 35) = w12 at L12 hb12 ⊢
 refine L.unit (KI (x:=.tmp 12) (y:=.tmp 83) (vs:=cu) rfl rfl rfl hb12 Zzf hu35' hn35.symm (by intro v hv; simp only [cu,VM,Uv,or_false] at hv; rcases hv with rfl | rfl <;> rfl) rfl) (L.val 13 (ZE (x:=.tmp 84) (.inr rfl) rfl) (L.val 14 (ZE (x:=.tmp 85) (.inr rfl) rfl) (L.nil ?_)))
 have W13:LW w10 w11 (w12.setRow b12 cu.toArray) b12 cu.toArray 35:=⟨L12.box (by omega) kp.size,setRow_heap w12 b12 _ _ _ _ hb12,by omega⟩
 generalize w12.setRow b12 cu.toArray = w13 at W13 ⊢
 clear L11 L12 hb12 kp
 -- regions 20 .. 26
 let F2:List (Nat × Value):=[(2,.pointer (some ⟨b2,0,none⟩)),(3,.pointer (some ⟨b3,0,none⟩)),(6,vb),(11,.slice (some ⟨cc,0,none⟩) E.length (E.length + 3)),(12,.pointer (some ⟨b12,0,none⟩)),(14,.int .i64 0)]
 have hF2:∀ p ∈ F2,p.1 < 15:=by intro p hp; simp [F2] at hp; rcases hp with rfl | rfl | rfl | rfl | rfl | rfl <;> simp
 refine T.seq (T.seq (T.region (L.val 15 (ZE (x:=.const (.int .i64 0)) (.inr rfl) rfl) (L.nil ?_))))
 refine ZIj hF2 (b7:=b12) (by simp [F2]) (cs7:=cu.toArray) (A:=A4) (n:=n4) (cap:=c4) rfl hRSI (by
  intro p hp; simp only [F2,VM,Uv,or_false] at hp
  rcases hp with rfl | rfl | rfl | rfl | rfl | rfl
  ·exact h2
  ·exact h3
  ·exact h6
  ·rfl
  ·rfl
  ·rfl) rfl W13 ?_
 intro e3 w14 A3 W14
 have kp:=W14.lo.keep
 have H14:=H10.next kp
 have S14:=S10.next kp
 have hB14:=hB10.next kp
 clear kp H10 S10 hB10 W13 W14 hcc
 -- region 27
 have hcc:w14.heap[cc]? = some (.cells (E.map (Jv .u8) ++ zs).toArray 5 (0,0)):=H14.at' (cc,_) (Jm ..)
 let limD:Nat → Nat:=fun b => if b = cc then E.length else lim6 b
 have hED:Ext w14 lim6 w14 limD:=⟨Jj _,fun _ _ _ => rfl,fun b o ho => by
   simp only [limD]
   split
   ·rename_i h; subst h; omega
   ·exact ho,fun _ _ h => h,fun b o ho hf => by
   simp only [limD] at ho
   split at ho
   ·rename_i h; subst h
    rw [ZdS hcc (by simp)] at hf; cases hf
   ·exact ⟨ho,hf⟩⟩
 have S15:=S14.of_ext hED (fun b hb => by
  have:=QD hcc
  simp only [limD]; rw [if_neg (by omega)]; exact S14.lz b hb)
 have hrowc:Rt w14 limD (.sl (.int .u8)) E [.slice (some ⟨cc,0,none⟩) E.length (E.length + 3)]:=by
  refine ⟨some ⟨cc,0,none⟩,E.length,E.length + 3,rfl,rfl,by omega,.inr ⟨cc,0,rfl,fun i hi => ⟨[.int .u8 E[i]],rfl,fun j v hj => ?_⟩⟩⟩
  match j,hj with
  | 0,hj =>
   simp at hj; subst hj
   have e1:0 + i * (Ty.int .u8).size + 0 = i:=by simp [Ty.size]
   rw [e1,QQ hcc,UZ (by simpa using hi),Vh,VO hi]
   refine ⟨rfl,?_⟩
   simp only [limD,if_true]; exact hi
  | j + 1,hj => simp at hj
 refine T.seq (T.region (L.val 111 (Zas (x:=.tmp 2) (cs:=cs3) rfl (by exact A3 (2,.pointer (some ⟨b2,0,none⟩)) (by simp [F2])) (H14.at' (b2,.cells cs3.toArray 23) (by simp)) hu23' ha23 hn23 (by simp))
  (L.val 112 (ZE (x:=.tmp 11) (.inl rfl) (v:=.slice (some ⟨cc,0,none⟩) E.length (E.length + 3)) (by exact A3 (11,.slice (some ⟨cc,0,none⟩) E.length (E.length + 3)) (by simp [F2])))
  (L.call 113 (Xj (args := #[.tmp 111,.tmp 112]) rfl (Zju k).enters) (Zaz (Zju k) (x:=((c,d,r,()),E,())) hF rfl S15.lz S15.lies (vs:=[.agg cs3.toArray,.slice (some ⟨cc,0,none⟩) E.length (E.length + 3)]) ⟨[],[],rfl,Zmf (Zl5 c d r),[],[],rfl,ZGK hrowc,rfl⟩) ?_))))
 rintro v w16 ⟨kp,lim16,bb,hE,hz,hl,hT,-,-⟩
 have hT:TT w16 lim16 (.tup [.view frameT (n,ch,()),.view (.int .i64) (E.length:Int),.view (.int .i64) 0]) v bb:=hT
 obtain ⟨v1,v2,v3,x1,x2,x3,rfl,t1,t2,t3⟩:=Zs1 hT
 obtain ⟨cv,hrv,rfl,_⟩:=ZbZ t1
 obtain ⟨rfl,_⟩:=Zbu t2
 obtain ⟨rfl,_⟩:=Zbu t3
 have cv2:cv.length = 2:=Kn hrv
 have H16:=H14.next kp
 have S16:=S15.calls kp hE hz
 have hB16:=hB14.next kp
 clear kp hE hz hl hT H14 S14 S15 hB14 t1 t2 t3 hcc hrowc
 refine L.val 110 (ZE (x:=.tmp 113) (.inl rfl) rfl) (L.val 114 (X1 (x:=.tmp 110) (vs:=[.agg cv.toArray,.int .i64 E.length,.int .i64 0]) rfl rfl (v:=.agg cv.toArray) rfl) (L.val 115 (X1 (x:=.tmp 110) (vs:=[.agg cv.toArray,.int .i64 E.length,.int .i64 0]) rfl rfl (v:=.int .i64 E.length) rfl)
  (L.val 116 (X1 (x:=.tmp 110) (vs:=[.agg cv.toArray,.int .i64 E.length,.int .i64 0]) rfl rfl (v:=.int .i64 0) rfl) (L.val 17 (Zga rfl (zs:=z35) (by kernel_rfl)) ?_))))
 have kp:=Keep.alloc w16 (.cells z35.toArray 35)
 have H17:=H16.alloc (.cells z35.toArray 35)
 have S17:=S16.next kp
 have hrv17:=hrv.mono (S16.ext1 kp)
 have hB17:=hB16.next kp
 have K17:=(H.nil w16).alloc (.cells z35.toArray 35)
 have hl17:lim16 w16.heap.size = 0:=S16.lz _ (Jj _)
 clear kp
 generalize w16.alloc (.cells z35.toArray 35) = w17 at H17 S17 hrv17 hB17 K17 ⊢
 generalize w16.heap.size = b17 at H17 hl17 K17 ⊢
 refine L.unit (KI (x:=.tmp 17) (y:=.tmp 114) (vs:=cv) rfl rfl rfl (H17.at' _ (Jm ..)) Zzf hu35' (by rw [cv2]; exact hn35.symm) (ZjC hrv17) cv2) (L.val 18 (ZE (x:=.tmp 115) (.inr rfl) rfl) (L.val 19 (ZE (x:=.tmp 116) (.inr rfl) rfl) (L.nil ?_)))
 obtain ⟨S18,E18⟩:=S17.row (H17.at' _ (Jm ..)) (H17.new _ (Jm ..)) hl17 cv.toArray
 have H18:=H17.row (cs':=cv.toArray)
 have hrv18:=hrv17.mono E18
 have hB18:=hB16.next (K17.row (cs':=cv.toArray)).keep
 generalize w17.setRow b17 cv.toArray = w18 at H18 S18 hrv18 hB18 ⊢
 -- region 28
 let F3:List (Nat × Value):=[(3,.pointer (some ⟨b3,0,none⟩)),(6,vb),(11,.slice (some ⟨cc,0,none⟩) E.length (E.length + 3)),(14,.int .i64 0),(17,.pointer (some ⟨b17,0,none⟩)),(19,.int .i64 0)]
 refine ZJF (x:=(n,ch,())) hk S18 hS (b1:=b3) (b17:=b17) (cc:=cc) (n:=E.length) (cap:=E.length + 3) (ct:=cf) (cv:=cv) (E:=E) (vb:=vb) (Fe:=F3) (H18.at' (b3,.cells cf.toArray 26) (by simp)) (H18.at' (b17,.cells cv.toArray 35) (by simp)) (hcf.mono S18.ext) hrv18 hB18
  (H18.at' (cc,.cells (E.map (Jv .u8) ++ zs).toArray 5) (by simp)) rfl (by omega) (fun i hi => by
   rw [Ub,UZ (by simpa using hi),Vh,VO hi]; rfl) (by intro p hp; simp [F3] at hp; rcases hp with rfl | rfl | rfl | rfl | rfl | rfl <;> simp) (by intro p hp; simp [F3] at hp; rcases hp with rfl | rfl | rfl | rfl | rfl | rfl <;> simp)
  (by
   intro p hp; simp only [F3,VM,Uv,or_false] at hp
   rcases hp with rfl | rfl | rfl | rfl | rfl | rfl
   ·exact A3 (3,.pointer (some ⟨b3,0,none⟩)) (by simp [F2])
   ·exact A3 (6,vb) (by simp [F2])
   ·exact A3 (11,.slice (some ⟨cc,0,none⟩) E.length (E.length + 3)) (by simp [F2])
   ·exact A3 (14,.int .i64 0) (by simp [F2])
   ·rfl
   ·rfl) (by simp [F3]) (by simp [F3]) (by simp [F3]) (by simp [F3]) (by simp [F3]) (by simp [F3]) (fun e' w' he kp => ⟨.inr rfl,he,S18.keep.trans kp⟩)
end Go.Sh
namespace Go.Sh
open Go Go.Proofs
open Classical in
noncomputable def f8_F (k:Nat):Kd.dens (Q7 [shapeT,frameT]) → Option (Ans (Q7 [shapeT,frameT]) (.view .bool)):=fun x => if 4000000 ≤ k ∧ Sm x.2.1.2.1 then some (true,()) else none
theorem f8_ctr (k:Nat):Ctr Tryz.prog k 8 (mk (Q7 [shapeT,frameT]) (.view .bool) f8_F) where
 enters:=⟨Tryz.f8,by kernel_rfl,by kernel_rfl,by kernel_rfl⟩
 calls:=by
  intro rvs r hr w lim vs bs hlz hgl hT hnd hbs
  obtain ⟨x,hd,hF⟩:=Uy.1 hr
  have he:=QU _ rvs x hd
  subst he
  obtain ⟨s,f,⟨⟩⟩:=x
  have hF:f8_F k (s,f,()) = some r:=hF
  unfold f8_F at hF
  split at hF
  ·rename_i hc
   cases hF
   obtain ⟨us,c1,hT⟩:∃ us:List Value,us = vs ∧ TTs w lim [.view shapeT s,.view frameT f] us bs:=⟨vs,rfl,hT⟩
   subst c1
   match us,hT with
   | [v1,v2],hT =>
    obtain ⟨x1,y1,rfl,t1,x2,y2,rfl,t2,rfl⟩:=hT
    obtain ⟨cs,hr1,rfl,rfl⟩:=Zu1 t1
    obtain ⟨cf,hr2,rfl,rfl⟩:=ZbZ t2
    have:=ZDR hr1
    subst this
    obtain ⟨c,d,r,⟨⟩⟩:=s
    obtain ⟨n,ch,⟨⟩⟩:=f
    refine (ZqC (c:=c) (d:=d) (r:=r) hc.1 hlz hgl hc.2 hr2).mono ?_
    rintro e w' ⟨v,rfl,rfl,kp⟩
    refine ⟨_,lim,[],[],rfl,Ext.of_keep kp hlz (fun _ _ => rfl) hlz,fun c hc => hlz c (Nat.le_trans kp.size hc),kp.same,fun c hc _ => ⟨kp.old c hc,rfl⟩,?_,?_,?_,by simp,by simp⟩
    ·show TT w' lim (.view .bool true) (.bool true) []
     simp only [TT,Zdi,Rt]; exact ⟨⟨_,rfl,.inr ⟨rfl,rfl⟩⟩,trivial⟩
    ·show TL w' lim [.view shapeT,.view frameT] [_,_] [] []
     simp [TL]
    ·show X5 w w' [.view shapeT,.view frameT] [_,_]
     simp [X5]
  ·cases hF
theorem apart_plain:∀ x:Kd.dens (Q7 [shapeT,frameT]),ZwR [shapeT,frameT] x → Zfa [shapeT,frameT] x ≤ 1048576 → ∃ k u,f8_F k x = some (true,u):=by
 rintro ⟨⟨c,d,r,⟨⟩⟩,⟨n,ch,⟨⟩⟩,⟨⟩⟩ _ hb
 have hb:_ + (Ty.bulk frameT (n,ch,()) + 0) ≤ 1048576:=hb
 refine ⟨4000000,(),?_⟩
 unfold f8_F
 exact if_pos ⟨Jj _,Zsi (n:=n) (ch:=ch) (by omega)⟩
end Go.Sh
