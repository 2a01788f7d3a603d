/-
  What the row needs, part 10.
-/
import Derived.Test.YtlbgcegonmbddaaDoorXWavKeeps9
import Derived.ChangeArms
import Derived.ChangeShapes
import Derived.WideShapes
import Derived.ReadAgain
import Derived.Below
import Derived.ChangeSame
import Derived.RowKit
set_option linter.unusedSimpArgs false
set_option linter.unusedVariables false
set_option linter.unusedSectionVars false
open Array renaming getD_eq_getD_getElem?→VM,getElem?_eq_getElem→UF,getElem?_eq_some_iff→UG
open Bool renaming and_eq_true→Jh,not_true→HA
open Go.Instr renaming sliceAt→JL,sliceBounds→Ve
open Int renaming ofNat→UJ,ofNat_eq_natCast→UZ,toNat_natCast→Uk,mul_le_mul_of_nonneg_right→Hl,natCast_mul→HB,fdiv_eq_ediv_of_nonneg→HD,mul_ediv_cancel→HE,mul_le_mul→U3
open Go.IntKind renaming i64→Jy
open List renaming mem_cons_self→Jm,length_cons→JG,replicate→Jd,getElem_mem→U4,getElem?_eq_getElem→VP,getD_cons_zero→Hu,mem_cons→VN,range→Jc,append_inj→Hv,flatMap_cons→Hp,append_cancel_left→Hw,append_nil→Vh,length_nil→Hx,length_range→U2,length_singleton→Ut,not_mem_nil→Uw,take_length→Hq,drop_drop→JF,getD_eq_getElem?_getD→VT,getElem?_append_left→HC,getElem?_eq_some_iff→Uq,getElem?_map→Vi,map_cons→JS,cons_append→J2,drop_eq_getElem_cons→Um,flatMap_def→HF,flatMap_map→HG,getD_cons_succ→HH,getElem?_drop→Jp,length_map→HI,mem_map→VH,mem_of_getElem?→Vx,set_cons_zero→HJ,take_succ_eq_append_getElem→HK
open Nat renaming le_refl→Jj,zero_add→Uc,add_mul→Jg,beq→Ja,lt_of_lt_of_le→V1,le_trans→VJ,one_mul→Jq,lt_or_ge→VO,mul_one→VW,zero_le→UV,le_of_ble_eq_true→Ju,mul_le_mul_right→Jk
open Option renaming some→VG,bind_some→VL,bind_eq_some_iff→Uz
open Go.Value renaming int→Jw,slice→V6,agg→Hy,pointer→Hz
namespace Go.Sh
open Go Go.RowKit Go.WideShapes Go.ChangeShapes
def ZgN (P:Program) (g:TypeId → Ty → Bool):Nat → List Field → Ty → Bool
 | _,[],.unit => true
 | off,f :: l,.pair a b => Ja f.offset off && g f.type a && Ja (P.cellsOf f.type) a.size && ZgN P g (off + a.size) l b
 | _,_,_ => false
def Y3 (P:Program):Nat → TypeId → Ty → Bool
 | 0,_,_ => false
 | n + 1,T,t => match P.underlying T,t with
  | some .bool,.bool => true
  | some (.int k),.int k' => decide (k = k')
  | some .string,.str => true
  | some (.slice e),.sl t => Y3 P n e t && Ja (P.cellsOf e) t.size && Nat.ble 1 t.size
  | some (.struct fs),.pair a b => ZgN P (Y3 P n) 0 fs.toList (.pair a b) && Ja (P.cellsOf T) (Ty.size (.pair a b))
  | some (.struct fs),.unit => ZgN P (Y3 P n) 0 fs.toList .unit && Ja (P.cellsOf T) 0
  | _,_ => false
def Ty.bulk:(t:Ty) → t.den → Nat
 | .str,s => s.size + 1
 | .sl t,xs => (xs.map t.bulk).sum + 1
 | .pair a b,x => a.bulk x.1 + b.bulk x.2
 | .unit,_ => 0
 | .bool,_ => 1
 | .int _,_ => 1
 | .fl _,_ => 1
 | .cx _,_ => 1
 | .raw,_ => 1
def Ty.ok:(t:Ty) → t.den → Prop
 | .int k,n => k.min ≤ n ∧ n ≤ k.max
 | .sl t,xs => ∀ x ∈ xs,t.ok x
 | .pair a b,x => a.ok x.1 ∧ b.ok x.2
 | .bool,_ => True
 | .str,_ => True
 | .fl _,_ => True
 | .cx _,_ => True
 | .raw,_ => True
 | .unit,_ => True
mutual
def bulkD {H:Type}:DataW H → Nat
 | .lit (.string bytes) => bytes.length + 1
 | .lit _ => 1
 | .nil => 1
 | .ptr d => bulkD d + 1
 | .slice elems spare => bulkDs elems + bulkDs spare + 1
 | .agg parts => bulkDs parts + 1
 | .iface _ d => bulkD d + 1
 | .map entries => bulkEs entries + 1
 | .held _ => 1
def bulkDs {H:Type}:List (DataW H) → Nat
 | [] => 0
 | d :: r => bulkD d + bulkDs r
def bulkEs {H:Type}:List (Lit × DataW H) → Nat
 | [] => 0
 | x :: r => bulkE x + bulkEs r
def bulkE {H:Type}:Lit × DataW H → Nat
 | (.string bytes,d) => bytes.length + bulkD d + 1
 | (_,d) => bulkD d + 1
end
def whole (w:World) (b:Nat):Nat:=match w.heap[b]? with
 | some (.cells c _ _) => c.size
 | _ => 0
theorem Zm0 {w:World} {b o:Nat} {v:Value} (h:w.cell? ⟨b,o,none⟩ = some v):o < whole w b:=by
 unfold World.cell? at h
 unfold whole
 split at h
 ·rename_i c _ _ hb
  simp only at hb
  rw [hb]
  simp only [Option.isSome_none,Bool.false_eq_true,if_false] at h
  exact (UG.1 h).1
 ·cases h
theorem Zm1 (w:World):∀ b,w.heap.size ≤ b → whole w b = 0:=by
 intro b hb
 unfold whole
 rw [Array.getElem?_eq_none hb]
theorem cells?_at {w:World} {base n:Nat} {a:Addr} {cs:List Value} (h:w.cells? base a n = some cs):cs.length = n ∧ ∀ i v,cs[i]? = some v → w.cell? (a.add i) = some v:=by
 unfold World.cells? at h
 split at h
 ·have hl:=mapM_some_length h
  simp only [U2] at hl
  refine ⟨hl,fun i v hi => ?_⟩
  have hlt:i < n:=by have:=(Uq.1 hi).1; omega
  have:=mapM_some_get h i i (by simp [hlt])
  rw [this,hi]
 ·cases h
section
variable {H:Type} {enc:TypeId × Value → H} {P:Program} {w:World} {base:Nat} {spare:Nat → Bool} {held:Bool}
theorem ZeT {n n':Nat} (ih:∀ (T:TypeId) (t:Ty) (cs:List Value) (x:DataW H × List MemPlace),Y3 P n T t = true → DataW.trod enc P w base spare held n' T cs = some x → ∃ y,Rt w (whole w) t y cs ∧ t.ok y ∧ t.bulk y ≤ bulkD x.1) :
  ∀ (l:List Field) (t:Ty) (off:Nat) (cs:List Value) (xs:List (DataW H × List MemPlace)),ZgN P (Y3 P n) off l t = true → cs.length = off + t.size →
   (∀ (i:Nat) (f:Field),l[i]? = some f → DataW.trod enc P w base spare held n' f.type ((cs.drop f.offset).take (P.cellsOf f.type)) = xs[i]?) → xs.length = l.length →
   ∃ y,Rt w (whole w) t y (cs.drop off) ∧ t.ok y ∧ t.bulk y ≤ bulkDs (xs.map (·.1))
 | [],t,off,cs,xs,h,hl,hx,hn => by
  match t,h with
  | .unit,h =>
   refine ⟨(),?_,trivial,UV _⟩
   simp only [Rt,List.drop_eq_nil_iff]
   simp [Ty.size] at hl; omega
 | f :: l,t,off,cs,xs,h,hl,hx,hn => by
  match t,h with
  | .pair a b,h =>
   simp only [ZgN,Jh] at h
   obtain ⟨⟨⟨h1,h2⟩,h3⟩,h4⟩:=h
   match xs,hn with
   | x :: xs,hn =>
    have h0:=hx 0 f rfl
    rw [ZC h1,ZC h3] at h0
    simp only [List.getElem?_cons_zero] at h0
    obtain ⟨y,e1,e2,e3⟩:=ih f.type a _ x h2 h0
    simp only [Ty.size] at hl
    obtain ⟨z,g1,g2,g3⟩:=ZeT ih l b (off + a.size) cs xs h4 (by omega) (fun i f' hf' => by simpa using hx (i + 1) f' (by simpa using hf')) (by simpa using hn)
    refine ⟨(y,z),?_,⟨e2,g2⟩,?_⟩
    ·simp only [Rt]
     refine ⟨_,_,?_,e1,g1⟩
     rw [← JF,List.take_append_drop]
    ·simp only [Ty.bulk,JS,bulkDs]; omega
theorem Zav:∀ (n m:Nat) (T:TypeId) (t:Ty) (cs:List Value) (x:DataW H × List MemPlace),Y3 P m T t = true → DataW.trod enc P w base spare held n T cs = some x →
  ∃ y,Rt w (whole w) t y cs ∧ t.ok y ∧ t.bulk y ≤ bulkD x.1
 | 0,_,_,_,_,_,_,h => by simp [DataW.trod] at h
 | n + 1,0,_,_,_,_,hf,_ => by simp [Y3] at hf
 | n + 1,m + 1,T,t,cs,x,hf,h => by
  unfold Y3 at hf
  split at hf
  ·rename_i hu
   obtain ⟨b,rfl,rfl⟩:=DataW.trod_bool hu h
   exact ⟨b,rfl,trivial,Jj _⟩
  ·rename_i k k' hu
   obtain rfl:k = k':=of_decide_eq_true hf
   obtain ⟨v,rfl,rfl,hw⟩:=DataW.trod_int hu h
   refine ⟨v,rfl,?_,Jj _⟩
   simpa [Ty.ok,Lit.wf] using hw
  ·rename_i hu
   obtain ⟨s,rfl,rfl,_⟩:=DataW.trod_string hu h
   refine ⟨s,rfl,trivial,?_⟩
   simp only [Ty.bulk,bulkD,Array.length_toList]
   exact Jj _
  ·rename_i e t hu
   simp only [Jh] at hf
   obtain ⟨⟨hf,hsz⟩,hpos⟩:=hf
   have hsz:=ZC hsz
   have hpos:1 ≤ t.size:=Ju hpos
   rcases DataW.trod_slice hu h with ⟨rfl,rfl⟩ | ⟨a,len,cap,elems,rest,n',hn',rfl,rfl,hb,hlc,_,hlen,hel,_⟩
   ·refine ⟨[],?_,(by simp [Ty.ok]:Ty.ok (.sl t) []),(by simp [Ty.bulk,bulkD])⟩
    simp only [Rt]
    exact ⟨none,0,0,rfl,rfl,Jj _,.inl trivial⟩
   ·obtain rfl:n' = n:=by omega
    have each:∀ i (hi:i < elems.length),∃ cs',w.cells? base (a.add (i * P.cellsOf e)) (P.cellsOf e) = some cs' ∧ ∃ y,Rt w (whole w) t y cs' ∧ t.ok y ∧ t.bulk y ≤ bulkD elems[i].1:=by
     intro i hi
     have h1:=hel i (by omega)
     rw [VP hi] at h1
     obtain ⟨cs',h2,h3⟩:=Uz.1 h1
     exact ⟨cs',h2,Zav n' m e t cs' _ hf h3⟩
    -- the list
    have all:∀ (l:List (DataW H × List MemPlace)),(∀ i (hi:i < l.length),∃ y,(∃ cs',w.cells? base (a.add ((elems.length - l.length + i) * P.cellsOf e)) (P.cellsOf e) = some cs' ∧ Rt w (whole w) t y cs') ∧ t.ok y ∧ t.bulk y ≤ bulkD l[i].1) →
      l.length ≤ elems.length → ∃ ys:List t.den,ys.length = l.length ∧ (∀ y ∈ ys,t.ok y) ∧ (ys.map t.bulk).sum ≤ bulkDs (l.map (·.1)) ∧
       ∀ i (hi:i < ys.length),∃ cs',w.cells? base (a.add ((elems.length - l.length + i) * P.cellsOf e)) (P.cellsOf e) = some cs' ∧ Rt w (whole w) t ys[i] cs':=by
     intro l
     induction l with
     | nil => intro _ _; exact ⟨[],rfl,by simp,by simp [bulkDs],fun i hi => by simp at hi⟩
     | cons p l ih =>
      intro hp hle
      simp only [JG] at hle
      obtain ⟨y,⟨cs',c1,c2⟩,y1,y2⟩:=hp 0 (by simp)
      obtain ⟨ys,k1,k2,k3,k4⟩:=ih (fun i hi => by
       obtain ⟨y,⟨cs',c1,c2⟩,y1,y2⟩:=hp (i + 1) (by simpa using hi)
       refine ⟨y,⟨cs',?_,c2⟩,y1,by simpa using y2⟩
       rw [← c1]; congr 3; simp only [JG]; omega) (by omega)
      refine ⟨y :: ys,by simp [k1],?_,?_,?_⟩
      ·intro z hz
       rcases VN.1 hz with rfl | hz
       ·exact y1
       ·exact k2 z hz
      ·simp only [JS,List.sum_cons,bulkDs]
       simp only [List.getElem_cons_zero] at y2
       omega
      ·intro i hi
       cases i with
       | zero => exact ⟨cs',c1,c2⟩
       | succ i =>
        obtain ⟨cs'',d1,d2⟩:=k4 i (by simpa using hi)
        refine ⟨cs'',?_,by simpa using d2⟩
        rw [← d1]; congr 3; simp only [JG]; omega
    obtain ⟨ys,k1,k2,k3,k4⟩:=all elems (fun i hi => by
     obtain ⟨cs',c1,y,c2,c3,c4⟩:=each i hi
     exact ⟨y,⟨cs',by simpa using c1,c2⟩,c3,c4⟩) (Jj _)
    simp only [Nat.sub_self,Uc] at k4
    refine ⟨ys,?_,k2,?_⟩
    ·simp only [Rt]
     refine ⟨some a,len,cap,rfl,by omega,hlc,?_⟩
     by_cases hnil:ys = []
     ·exact .inl hnil
     ·right
      have h0:0 < ys.length:=List.length_pos_iff.2 hnil
      obtain ⟨c0,z1,z2⟩:=k4 0 h0
      obtain ⟨zl,zc⟩:=cells?_at z1
      obtain ⟨v0,hv0⟩:∃ v0,c0[0]? = some v0:=⟨c0[0]'(by omega),VP _⟩
      have hs:=zc 0 v0 hv0
      simp only [Nat.zero_mul,Addr.add,if_true] at hs
      obtain ⟨b,off,spot⟩:=a
      have hspot:spot = none:=by
       cases spot with
       | none => rfl
       | some s =>
        unfold World.cell? at hs
        split at hs
        ·simp at hs
        ·cases hs
      subst hspot
      refine ⟨b,off,rfl,fun i hi => ?_⟩
      obtain ⟨cs',d1,d2⟩:=k4 i hi
      refine ⟨cs',d2,fun j v hj => ?_⟩
      obtain ⟨_,zc⟩:=cells?_at d1
      have hc:=zc j v hj
      have e:((⟨b,off,none⟩:Addr).add (i * P.cellsOf e)).add j = ⟨b,off + i * t.size + j,none⟩:=by
       rw [hsz]
       unfold Addr.add
       split <;> split <;> simp_all <;> omega
      rw [e] at hc
      exact ⟨hc,Zm0 hc⟩
    ·simp only [Ty.bulk,bulkD]
     omega
  ·rename_i fs a b hu
   simp only [Jh] at hf
   obtain ⟨hf,hsz⟩:=hf
   obtain ⟨xs,n',hn',rfl,hl,hxs,hget⟩:=DataW.trod_struct hu h
   obtain rfl:n' = n:=by omega
   obtain ⟨y,e1,e2,e3⟩:=ZeT (n:=m) (n':=n') (fun T t cs x h1 h2 => Zav n' m T t cs x h1 h2) fs.toList (.pair a b) 0 cs xs hf (by rw [hl,ZC hsz]; omega) (fun i f hi => hget i f (by simpa using hi)) (by simpa using hxs)
   exact ⟨y,by simpa using e1,e2,by simp only [bulkD]; omega⟩
  ·rename_i fs hu
   simp only [Jh] at hf
   obtain ⟨hf,hsz⟩:=hf
   obtain ⟨xs,n',hn',rfl,hl,hxs,hget⟩:=DataW.trod_struct hu h
   refine ⟨(),?_,trivial,UV _⟩
   simp only [Rt]
   rw [ZC hsz] at hl
   exact List.length_eq_zero_iff.1 hl
  ·cases hf
end
end Go.Sh
namespace Go.Sh
open Go Go.RowKit Go.WideShapes Go.ChangeShapes
def Qi (tys:List Ty):List Kd:=tys.map .view
def Zjc:(tys:List Ty) → Kd.dens (Qi tys) → Prop
 | [],_ => True
 | t :: l,x => t.ok x.1 ∧ Zjc l x.2
def ZaF:(tys:List Ty) → Kd.dens (Qi tys) → Nat
 | [],_ => 0
 | t :: l,x => t.bulk x.1 + ZaF l x.2
def X8 (P:Program):List TypeId → List Ty → Bool
 | [],[] => true
 | T :: Ts,t :: ts => Y3 P 16 T t && X8 P Ts ts
 | _,_ => false
section
variable {H:Type} {enc:TypeId × Value → H} {P:Program} {w:World} {base:Nat} {spare:Nat → Bool} {held:Bool}
theorem XR {v:Value} (h:∀ cs,v ≠ .agg cs):v.cells = #[v]:=by
 cases v <;> first | rfl | (exact absurd rfl (h _))
theorem Zgg {b0 n:Nat} {r:Reach} {T:TypeId} {t:Ty} {v:Value} {d:DataW H} {ps:List MemPlace} (hval:Value.okWide P w r b0 T v) (h:DataW.Trod enc P w base spare held T v d ps) (hf:Y3 P n T t = true) :
  ∃ y,XN w (whole w) t y v ∧ t.ok y ∧ t.bulk y ≤ bulkD d:=by
 obtain ⟨m,hm⟩:=h
 obtain ⟨y,h1,h2,h3⟩:=Zav m n T t _ _ hf hm
 refine ⟨y,⟨_,h1,?_⟩,h2,h3⟩
 cases n with
 | zero => simp [Y3] at hf
 | succ n =>
  unfold Value.okWide at hval
  unfold Y3 at hf
  split at hf <;> rename_i hu <;> try (cases hf; done)
  all_goals
   rw [hu] at hval
   simp only at hval
  ·refine .inr ⟨rfl,?_⟩
   rw [XR]; rintro cs rfl; simp [Cell.okWide,Cell.ok,hu] at hval
  ·refine .inr ⟨rfl,?_⟩
   rw [XR]; rintro cs rfl; simp [Cell.okWide,Cell.ok,hu] at hval
  ·refine .inr ⟨rfl,?_⟩
   rw [XR]; rintro cs rfl; simp [Cell.okWide,Cell.ok,hu] at hval
  ·refine .inr ⟨rfl,?_⟩
   rw [XR]; rintro cs rfl; simp [Cell.okWide,Cell.ok,hu] at hval
  ·obtain ⟨cs,rfl,_⟩:=hval
   exact .inl ⟨rfl,rfl⟩
  ·obtain ⟨cs,rfl,_⟩:=hval
   exact .inl ⟨rfl,rfl⟩
theorem KK {b0:Nat} {r:Reach}:∀ {Ts:List TypeId} {tys:List Ty} {vs:List Value} {ds:List (DataW H)} {ps:List MemPlace},X8 P Ts tys = true →
  (∀ (j:Nat) t v,Ts[j]? = some t → vs[j]? = some v → Value.okWide P w r b0 t v) → DataW.TrodAll enc P w base spare held Ts vs ds ps →
  ∃ x:Kd.dens (Qi tys),KL w (whole w) (QD (Qi tys) x) vs [] ∧ Zjc tys x ∧ ZaF tys x ≤ bulkDs ds
 | [],[],vs,ds,ps,_,_,h => by
  obtain ⟨rfl,rfl,rfl⟩:=trodAll_nil h
  exact ⟨(),rfl,trivial,Jj _⟩
 | T :: Ts,t :: tys,vs,ds,ps,hf,hval,h => by
  simp only [X8,Jh] at hf
  obtain ⟨v,vs',d,ds',p,q,rfl,rfl,rfl,h1,h2⟩:=trodAll_cons h
  obtain ⟨y,e1,e2,e3⟩:=Zgg (hval 0 T v rfl rfl) h1 hf.1
  obtain ⟨x,g1,g2,g3⟩:=KK hf.2 (fun j t v ht hv => hval (j + 1) t v (by simpa using ht) (by simpa using hv)) h2
  refine ⟨(y,x),?_,⟨e2,g2⟩,?_⟩
  ·exact ⟨[],[],rfl,⟨e1,rfl⟩,g1⟩
  ·simp only [ZaF,bulkDs]; omega
 | [],_ :: _,_,_,_,hf,_,_ => by simp [X8] at hf
 | _ :: _,[],_,_,_,hf,_,_ => by simp [X8] at hf
end
section
variable {H:Type} {enc:TypeId × Value → H} {P:Program}
theorem ZdL {f:Func} {s:ChangeSpec} {apart fresh handsOn again:Bool} {W W':World} {args:Array Value} {v:Value} {ds gs:List (DataW H)} {before pa pv:List MemPlace}
  (hW:DataW.Whole enc P f.params.toList s.vars apart W args.toList ds gs before)
  (hres:∀ (b:Nat) (sp:Nat → Bool) (hd:Bool),DataW.TrodAll enc P W' b sp hd f.resultTypes.toList (v.resultList f.resultTypes.size) (s.fn H (ds ++ gs)).results [])
  (hargs:∀ sp:Nat → Bool,(∀ p ∈ before,sp p.block = true) → DataW.TrodAll enc P W' 0 sp true f.params.toList args.toList (s.fn H (ds ++ gs)).args pa)
  (hvars:∀ sp:Nat → Bool,(∀ p ∈ before,sp p.block = true) → DataW.TrodVars enc P W' sp s.vars (s.fn H (ds ++ gs)).vars pv)
  (hps:before = pa ++ pv) (hb:Below W.heap.size W W')
  (hok:∀ (j:Nat) (t:TypeId) (r:Value),f.resultTypes[j]? = some t → (v.resultList f.resultTypes.size)[j]? = some r → Value.okWide P W' .any 0 t r) :
  s.post enc P f apart fresh handsOn again W args v W':=by
 have hlt:∀ p ∈ before,p.block < W.heap.size:=fun p hp => hW.lt p hp
 have hold:∀ p ∈ before,(fun b => decide (b < W.heap.size)) p.block = true:=fun p hp => by simpa using hlt p hp
 refine ⟨ds,gs,before,[],pa,pv,hW,hres _ _ _,hargs _ hold,hvars _ hold,World.keptBut_mono (fun p hp => ⟨hp,?_⟩) (hb.frame (· ∈ before)),fun _ => ?_⟩
 ·rw [hps,List.mem_append] at hp
  exact Or.inr hp
 ·obtain ⟨_,_,_,_,_,hz,hn⟩:=hW
  refine ⟨hok,_,_,([] ++ pa) ++ pv,⟨[] ++ pa,pv,trodAll_append (hargs _ (fun _ _ => rfl)) (hres _ _ _),hvars _ (fun _ _ => rfl),rfl,?_,?_⟩,?_⟩
  ·intro b off hp
   have hin:MemPlace.cell b off ∈ before:=by rw [hps]; simpa using hp
   rw [hb.frozen (hlt _ hin)]
   exact hz b off hin
  ·intro ha
   have:=hn ha
   rw [hps] at this
   simpa using this
  ·intro p hp _
   rw [hps]
   simpa using hp
theorem Zag {w w':World} {base:Nat} {spare:Nat → Bool} {held:Bool}:∀ {ts:List TypeId} {vs:List Value} {ds:List (DataW H)} {ps:List MemPlace},
  DataW.TrodAll enc P w base spare held ts vs ds ps → (∀ p ∈ ps,w.sameAt w' p) → DataW.TrodAll enc P w' base spare held ts vs ds ps
 | [],[],[],_,h,_ => h
 | _ :: _,_ :: _,_ :: _,_,⟨p,q,⟨n,h1⟩,h2,e⟩,hs => ⟨p,q,⟨n,DataW.trod_carry n _ _ _ h1 (fun x hx => hs x (by rw [e]; exact List.mem_append_left _ hx))⟩,
   Zag h2 (fun x hx => hs x (by rw [e]; exact List.mem_append_right _ hx)),e⟩
variable [Gl]
theorem law_contract {K:FuncId} {fn:Func} {spec:ChangeSpec} {B:TypeId} (tys:List Ty) {F:Nat → Kd.dens (Qi tys) → Option (Ans (Qi tys) (.view .bool))} {bound:Nat}
  (hl:laidOutB P = true) (hm:mapsRowed P = true) (hz:((Jc P.types.size).all fun t => match P.underlying t with | some (.slice e) => decide (0 < P.cellsOf e) | _ => true) = true)
  (hts:fn.params.toList.all (fun t => decide (t < P.types.size)) = true) (hfit:X8 P fn.params.toList tys = true) (hres:fn.resultTypes = #[B]) (hB:P.underlying B = some .bool)
  (hvars:spec.vars = []) (hspec:∀ (H:Type) (ds:List (DataW H)),ds.length = tys.length → spec.fn H ds = { results:=[.lit (.bool true)],args:=ds })
  (hctr:∀ k,Ctr P k K (mk (Qi tys) (.view .bool) F)) (plain:∀ x:Kd.dens (Qi tys),Zjc tys x → ZaF tys x ≤ bound → ∃ k u,F k x = some (true,u))
  (enc:TypeId × Value → H) (W:World) (b0:Nat) (args:Array Value) (ds gs:List (DataW H)) (before:List MemPlace)
  (hval:∀ (j:Nat) t v,fn.params[j]? = some t → args[j]? = some v → Value.okWide P W .any b0 t v)
  (hW:DataW.Whole enc P fn.params.toList spec.vars false W args.toList ds gs before) (hk:bulkDs (ds ++ gs) ≤ bound) (hgl:Zbn W (whole W)) :
  Calls P K args W fun e W' => ∃ v,e = .returned v ∧ spec.post enc P fn false true false false W args v W':=by
 have hW':=hW
 obtain ⟨p,q,hA,hV,he,hfz,hnd⟩:=hW
 rw [hvars] at hV
 have hgs:gs = [] ∧ q = []:=by
  match gs,hV with
  | [],hV => exact ⟨rfl,hV⟩
  | _ :: _,hV => exact hV.elim
 obtain ⟨rfl,rfl⟩:=hgs
 simp only [Vh] at he hk
 obtain rfl:p = before:=he.symm
 obtain ⟨x,h1,h2,h3⟩:=KK (tys:=tys) hfit (fun j t v ht hv => hval j t v (by simpa using ht) (by simpa using hv)) hA
 obtain ⟨k,u,hF⟩:=plain x h2 (by omega)
 have hlen:ds.length = tys.length:=by
  have e1:∀ {Ts:List TypeId} {tys:List Ty} {vs:List Value} {ds:List (DataW H)} {ps:List MemPlace},X8 P Ts tys = true → DataW.TrodAll enc P W 0 (fun _ => true) true Ts vs ds ps → ds.length = tys.length:=by
   intro Ts
   induction Ts with
   | nil =>
    intro tys vs ds ps hf h
    obtain ⟨rfl,rfl,rfl⟩:=trodAll_nil h
    cases tys with
    | nil => rfl
    | cons => simp [X8] at hf
   | cons T Ts ih =>
    intro tys vs ds ps hf h
    obtain ⟨v,vs',d,ds',p,q,rfl,rfl,rfl,h1,h2⟩:=trodAll_cons h
    cases tys with
    | nil => simp [X8] at hf
    | cons t tys =>
     simp only [X8,Jh] at hf
     simp [ih hf.2 h2]
  exact e1 hfit hA
 have hcall:=(hctr k).calls (QD (Qi tys) x) (true,u) (by
  have hd:Yd (Qi tys) (QD (Qi tys) x) = some x:=by
   have e2:∀ (l:List Ty) (x:Kd.dens (Qi l)),Yd (Qi l) (QD (Qi l) x) = some x:=by
    intro l
    induction l with
    | nil => intro x; rfl
    | cons t l ih =>
     intro x
     obtain ⟨y,ys⟩:=x
     show ((Zbs t (.view t y)).bind fun y => (Yd (Qi l) (QD (Qi l) ys)).bind fun ys => some (y,ys)) = _
     rw [ih ys]
     simp only [Zbs,dite_true]
     rfl
   exact e2 tys x
  show (Yd (Qi tys) (QD (Qi tys) x)).bind (F k) = some (true,u)
  rw [hd]; exact hF) W (whole W) args.toList [] (Zm1 W) hgl h1 List.nodup_nil (by simp)
 rw [Array.toArray_toList] at hcall
 refine hcall.mono fun e W' h => ?_
 obtain ⟨v,lim',b1,b2,rfl,hE,_,⟨ho,ht,hout⟩,hold,hT,_⟩:=h
 have hv:v = .bool true:=by
  have hT:XN W' lim' .bool true v ∧ b1 = []:=hT
  obtain ⟨⟨cs,c1,c2⟩,_⟩:=hT
  rcases c2 with ⟨c2,_⟩ | ⟨_,c2⟩
  ·cases c2
  ·simp only [Rt] at c1
   subst c2
   simpa using c1
 subst hv
 have hBel:Below W.heap.size W W':=⟨ho,ht,hout,hE.size,fun b hb => (hold b hb (by simp)).1⟩
 have hlt:∀ x ∈ p,x.block < W.heap.size:=fun x hx => hW'.lt x hx
 refine ⟨_,rfl,ZdL (pa:=p) (pv:=[]) hW' (fun b sp hd => ?_) (fun sp hsp => ?_) (fun sp hsp => ?_) (by simp) hBel ?_⟩
 ·rw [Vh,hspec H ds hlen,hres]
  exact ⟨[],[],⟨1,by simp [DataW.trod,Value.cells,hB]⟩,rfl,rfl⟩
 ·rw [Vh,hspec H ds hlen]
  refine Zag (w:=W) (DataW.TrodAll.respare (kids_rows hl hm) (slices_full_of P hz) (fun t ht => ?_) hA hsp) (fun y hy => hBel.same (hlt y hy))
  simpa using List.all_eq_true.1 hts t ht
 ·rw [Vh,hspec H ds hlen,hvars]
  rfl
 ·exact ok_one hres rfl (okWide_bool_mk hB true)
end
end Go.Sh
namespace Go.Sh
open Go Go.Proofs
theorem ZeW:∀ (a b:List ByteArray),(∀ t ∈ a,YA t = true) → (∀ t ∈ b,YA t = true) → Zz a = Zz b → a = b
 | [],[],_,_,_ => rfl
 | [],t :: l,_,_,h => by rw [QI] at h; simp [Zz,Y9] at h
 | t :: l,[],_,_,h => by rw [QI] at h; simp [Zz,Y9] at h
 | t :: l,t' :: l',ha,hb,h => by
  have h1:=Xd (ha t (by simp))
  have h2:=Xd (hb t' (by simp))
  rw [QI,QI,KZ (by omega),KZ (by omega),J2,J2] at h
  obtain ⟨h3,h4⟩:=List.cons.inj h
  have hlen:(Zx t).length = (Zx t').length:=by rw [Qp,Qp]; omega
  obtain ⟨h5,h6⟩:=Hv h4 hlen
  have:t = t':=by rw [← Wo t,h5,Wo]
  rw [this,ZeW l l' (fun t ht => ha t (by simp [ht])) (fun t ht => hb t (by simp [ht])) h6]
theorem Zkn {a b:List ByteArray} {x y:List Int} (ha:Zd4 a) (hb:Zd4 b) (h:Zo a ++ (ZR ++ x) = Zo b ++ (ZR ++ y)):a = b ∧ x = y:=by
 have w4:(2:Int) ^ (8 * 4) = 4294967296:=rfl
 have hal:=ha.len
 have hbl:=hb.len
 have hp:∀ t:List ByteArray,t ≠ [] → ∀ z,Zo t ++ z = Qe ++ (low ((Zz t).length:Int) 4 ++ (Zz t ++ (Y8 (Zz t) ++ z))):=by
  intro t ht z
  unfold Zo
  rw [if_neg ht]; simp [ZO]
 by_cases h1:a = []
 ·by_cases h2:b = []
  ·subst h1 h2
   exact ⟨rfl,Hw (show ZR ++ x = ZR ++ y from h)⟩
  ·exfalso
   subst h1
   rw [hp b h2] at h
   have:=congrArg (List.take 4) h
   rw [show Zo [] ++ (ZR ++ x) = ZR ++ x from rfl,Qg (show ZR.length = 4 from rfl),Qg (show Qe.length = 4 from rfl)] at this
   exact absurd this (by decide)
 ·by_cases h2:b = []
  ·exfalso
   subst h2
   rw [hp a h1] at h
   have:=congrArg (List.take 4) h
   rw [show Zo [] ++ (ZR ++ y) = ZR ++ y from rfl,Qg (show ZR.length = 4 from rfl),Qg (show Qe.length = 4 from rfl)] at this
   exact absurd this (by decide)
  ·rw [hp a h1,hp b h2] at h
   have h3:=Hw h
   obtain ⟨h4,h5⟩:=Hv h3 (by rw [ZH,ZH])
   have h6:=Za8 (s:=4) (by omega) (by omega) h4
   obtain ⟨h7,h8⟩:=Hv h5 (by omega)
   have h9:=ZeW a b ha.2 hb.2 h7
   subst h9
   exact ⟨rfl,Hw (Hw h8)⟩
theorem IsFile.uniq {B:List Int} {c d r:Int} {tags:List ByteArray} {D:List Int} {c' d' r':Int} {tags':List ByteArray} {D':List Int} (h:IsFile B c d r tags D) (h':IsFile B c' d' r' tags' D'):c = c' ∧ d = d' ∧ r = r' ∧ tags = tags' ∧ D = D':=by
 have w4:(2:Int) ^ (8 * 4) = 4294967296:=rfl
 obtain ⟨_,_,_,_,a1,e,he,a2⟩:=h.walk
 obtain ⟨_,_,_,_,b1,e',he',b2⟩:=h'.walk
 obtain ⟨h1,h2,h3⟩:=ZgP h.shape h'.shape (a1.symm.trans b1)
 obtain ⟨h4,h5⟩:=Zkn h.tv h'.tv (a2.symm.trans b2)
 obtain ⟨h6,h7⟩:=Hv h5 (by rw [ZH,ZH])
 have g1:=h.D_len
 have g2:=h'.D_len
 have h8:=Za8 (s:=4) (by omega) (by omega) h6
 exact ⟨h1,h2,h3,h4,(Hv h7 (by omega)).1⟩
theorem ZaW {k:Nat} (hk:16777216 ≤ k) {B:List Int} (hb:B.length ≤ 1048576) (hB:Wc B) {c d r:Int} {tags:List ByteArray} {D:List Int} (hI:IsFile B c d r tags D):ZaV k (B,()) = some ((((c,d,r,()),tags,D,()),0,()),()):=by
 rcases Zlx hk B hb hB with ⟨c',d',r',tags',D',h,e⟩ | ⟨h,_⟩
 ·obtain ⟨rfl,rfl,rfl,rfl,rfl⟩:=hI.uniq h
  exact e
 ·exact absurd hI (h _ _ _ _ _)
def XB (c d:Int) (D:List Int):Int:=(D.length:Int) / (c * Zq d)
theorem IsFile.cnt_ok {B:List Int} {c d r:Int} {tags:List ByteArray} {D:List Int} (h:IsFile B c d r tags D):0 ≤ XB c d D ∧ XB c d D ≤ 4096 ∧ XB c d D * (c * Zq d) = D.length:=by
 have hb:=KX h.shape
 refine ⟨Int.ediv_nonneg (by omega) (by omega),h.cnt,?_⟩
 have h2:=Int.mul_ediv_add_emod (D.length:Int) (c * Zq d)
 rw [h.blk] at h2
 unfold XB
 rw [Int.mul_comm]; omega
theorem ZaX (k:Nat) {c d r:Int} (hs:QB c d r = true) (tags:List ByteArray) (D:List Int) (hD:D.length ≤ 1048576):Zc9 k (((c,d,r,()),tags,D,()),()) = some (XB c d D,()):=by
 show Zda k (((c,d,r,()),tags,D,()),()) = _
 simp only [Zda]
 have hb:=KX hs
 rw [Kn k (X1 hs) (X2 hs),VL]
 simp only
 rw [Zp (show ¬ c * Zq d = 0 by omega),Int.tdiv_eq_ediv_of_nonneg (by simp only [UZ]; omega)]
 have hq0:0 ≤ UJ D.length / (c * Zq d):=Int.ediv_nonneg (by simp only [UZ]; omega) (by omega)
 have hq1:UJ D.length / (c * Zq d) ≤ UJ D.length:=Int.ediv_le_self _ (by simp only [UZ]; omega)
 rw [YZ (n:=UJ D.length / (c * Zq d)) (by simp only [UZ] at *; omega)]
 rfl
theorem Zk5 {k:Nat} (hk:16777216 ≤ k) {c d r:Int} {tags:List ByteArray} {ch:List (List Int)} (hS:Small tags ch):Zix k (((c,d,r,()),tags,ch,()),()) = some (((c,d,r,()),tags,ch,()),()):=by
 have htl:=hS.tl
 have hcl:=hS.cl
 show ZaM k (Zfl k) (((c,d,r,()),tags,ch,()),()) = _
 simp only [ZaM]
 rw [Zp (by omega),List.nil_append]
 have key:=WC (step:=fun L1 => Kl k L1) (A:=Unit) (fun i _ => (UJ i,c,d,r,tags,ch,c,d,r,tags,ch.take i,(0:Int),(0:Int),(0:Int))) ch (fun _ _ => some (((c,d,r,()),tags,ch,()),()))
  (fun L a => by
   simp only [Kl]
   rw [ZE (Zbb _),Hq])
  (fun L i hi a hL => by
   simp only [Kl]
   have hl:=hS.chan ch[i] (U4 _)
   rw [Zp (ltR hi),Zp (inR hi),Xf hi,YZ (n:=UJ ch[i].length + 1) (by simp only [UZ]; omega),Zp (by simp only [UZ]; omega),Zp (inR hi),Zp (by omega),Zp (by rw [List.length_take]; simp; omega),X3 hi (by omega)]
   have e:ch.take i ++ [Jd 0 0 ++ ch[i]] = ch.take (i + 1):=by rw [HK hi]; rfl
   rw [e]
   exact hL ()) k 0 () (by omega) (by omega)
 exact key
theorem XM {c d r:Int} {tags:List ByteArray} {ch:List (List Int)}:Wc (Wb c d r tags ch):=ZjU (ZcO fun j _ => ZcO fun x _ => Xs _ _)
theorem Fine.tv {c d r:Int} {tags:List ByteArray} {ch:List (List Int)} (hF:Fine c d r tags ch):Zd4 tags:=⟨hF.tl,hF.tag⟩
theorem Fine.dlen {c d r:Int} {tags:List ByteArray} {ch:List (List Int)} (hF:Fine c d r tags ch) (n:Nat):((Wg d ch n).length:Int) = n * (c * Zq d):=by
 rw [Zev]
 have h1:=hF.cl
 have h2:=(Wm hF.d24).1
 rw [← h1,h2]
 simp
theorem Fine.file {c d r:Int} {tags:List ByteArray} {ch:List (List Int)} (hF:Fine c d r tags ch):IsFile (Wb c d r tags ch) c d r tags (Wg d ch (ch.getD 0 []).length) ∧ XB c d (Wg d ch (ch.getD 0 []).length) = UJ (ch.getD 0 []).length ∧ (Wb c d r tags ch).length ≤ 32768:=by
 have hb:=KX hF.shape
 have hz:=hF.z
 have hs:=hF.small
 have hcnt:XB c d (Wg d ch (ch.getD 0 []).length) = UJ (ch.getD 0 []).length:=by
  unfold XB
  rw [hF.dlen,HE _ (by omega)]; rfl
 refine ⟨Zj1 hF.shape hF.tv ?_ ?_ rfl rfl,hcnt,?_⟩
 ·rw [hF.dlen,Int.mul_emod_left]
 ·unfold XB at hcnt
  rw [hcnt]; simp only [UZ]; omega
 ·unfold Wb
  rw [ZbC]
  have:=Zep tags
  omega
theorem Zie:Small [] [[0,-128,127]]:=⟨by simp,by simp,by simp,by simp⟩
theorem ZkV {k:Nat} (hk:16777216 ≤ k):Zit k () = some (true,()):=by
 show ZcW k () = _
 simp only [ZcW]
 rw [ZcY hk Zie]
 kernel_rfl
theorem Zga {α:Type} (f:α → Nat):∀ (l:List α),(∀ x ∈ l,1 ≤ f x) → l.length ≤ (l.map f).sum ∧ ∀ x ∈ l,f x ≤ (l.map f).sum
 | [],_ => by simp
 | a :: l,h => by
  have ih:=Zga f l (fun x hx => h x (by simp [hx]))
  have ha:=h a (by simp)
  simp only [JS,List.sum_cons,JG]
  refine ⟨by omega,fun x hx => ?_⟩
  rcases VN.1 hx with rfl | hx
  ·omega
  ·have:=ih.2 x hx; omega
theorem Zhg {c d r:Int} {tags:List ByteArray} {ch:List (List Int)} (h:Ty.bulk trackT ((c,d,r,()),tags,ch,()) ≤ 1048576):Small tags ch:=by
 have h1:(3:Nat) + (((tags.map (Ty.bulk .str)).sum + 1) + (((ch.map (Ty.bulk (.sl (.int .i64)))).sum + 1) + 0)) ≤ 1048576:=h
 have t:=Zga (Ty.bulk .str) tags (fun x _ => by simp only [Ty.bulk]; omega)
 have s:=Zga (Ty.bulk (.sl (.int .i64))) ch (fun x _ => by simp only [Ty.bulk]; omega)
 refine ⟨by omega,fun x hx => ?_,by omega,fun x hx => ?_⟩
 ·have h2:=t.2 x hx
  have h3:Ty.bulk .str x = x.size + 1:=rfl
  omega
 ·have h2:=s.2 x hx
  have h3:Ty.bulk (.sl (.int .i64)) x = (x.map (Ty.bulk (.int .i64))).sum + 1:=rfl
  have h4:=Zga (Ty.bulk (.int .i64)) x (fun y _ => by simp only [Ty.bulk]; omega)
  omega
end Go.Sh
namespace Go.Sh
open Go Go.Proofs
def KS (n a b:Int):Bool:=decide (a < 0 ∨ b < 0 ∨ n < a ∨ n - a < b)
def Zo2 (m:Int) (D:List Int) (a b:Int):List Int:=(D.take ((a + b) * m).toNat).drop (a * m).toNat
theorem Zek {α:Type} {n a b:Int} (hn:0 ≤ n ∧ n ≤ 4096) {x y:α} :
  (bif decide (a < 0) then x else bif decide (b < 0) then x else bif decide (n < a) then x else bif decide (Jy.wrap (n - a) < b) then x else y) = bif KS n a b then x else y:=by
 unfold KS
 by_cases h1:a < 0
 ·rw [Zp h1,Zp (.inl h1)]
 rw [ZE h1]
 by_cases h2:b < 0
 ·rw [Zp h2,Zp (.inr (.inl h2))]
 rw [ZE h2]
 by_cases h3:n < a
 ·rw [Zp h3,Zp (.inr (.inr (.inl h3)))]
 rw [ZE h3,YZ (by omega)]
 by_cases h4:n - a < b
 ·rw [Zp h4,Zp (.inr (.inr (.inr h4)))]
 rw [ZE h4,ZE (by omega)]
theorem ZhZ {n a b m:Int} {L:Nat} (hm:1 ≤ m ∧ m ≤ 6) (hn:0 ≤ n ∧ n ≤ 4096) (hL:n * m = L) (ho:KS n a b = false) :
  Jy.wrap (a * m) = a * m ∧ Jy.wrap (a + b) = a + b ∧ Jy.wrap ((a + b) * m) = (a + b) * m ∧ 0 ≤ a * m ∧ a * m ≤ (a + b) * m ∧ (a + b) * m ≤ L ∧ 0 ≤ a ∧ 0 ≤ b ∧ a + b ≤ n:=by
 have h:=of_decide_eq_false ho
 have h1:0 ≤ a * m:=Int.mul_nonneg (by omega) (by omega)
 have h2:a * m ≤ (a + b) * m:=Hl (by omega) (by omega)
 have h3:(a + b) * m ≤ n * m:=Hl (by omega) (by omega)
 have h4:n * m ≤ 4096 * 6:=U3 (by omega) hm.2 (by omega) (by omega)
 exact ⟨YZ (by omega),YZ (by omega),YZ (by omega),h1,h2,by omega,by omega,by omega,by omega⟩
section
variable {k:Nat} (hk:16777216 ≤ k) {B:List Int} (hb:B.length ≤ 524288) (hB:Wc B) {c d r:Int} {tags:List ByteArray} {D:List Int} (hI:IsFile B c d r tags D) (a b:Int)
include hk hb hB hI
theorem Zk6:ZeB k (B,a,b,()) = some ((bif KS (XB c d D) a b then ([],9,()) else (XU c d r tags (Zo2 (c * Zq d) D a b),0,())),()):=by
 have hD:=hI.D_len
 have hcn:=hI.cnt_ok
 have hbl:=KX hI.shape
 have htv:=hI.tv
 have htl:=htv.len
 have ht8:=htv.1
 show Zc0 k (B,a,b,()) = _
 simp only [Zc0]
 rw [ZaW hk (by omega) hB hI,VL]
 simp only
 rw [ZV,ZE (fun h => h rfl),ZaX k hI.shape _ _ (by omega),VL,VL]
 simp only
 rw [Zek ⟨hcn.1,hcn.2.1⟩]
 cases ho:KS (XB c d D) a b with
 | true => rfl
 | false =>
  simp only [cond_false]
  obtain ⟨w1,w2,w3,q1,q2,q3,_,_,_⟩:=ZhZ hbl ⟨hcn.1,hcn.2.1⟩ hcn.2.2 ho
  rw [Kn k (X1 hI.shape) (X2 hI.shape),VL]
  simp only
  rw [w1,w2,w3,Zp (by simp only [UZ]; omega)]
  rw [Zc7 hk hI.shape _ _ (by omega) (by omega) (by simp; omega),VL]
  rfl
end
theorem ZeJ {α:Type} (f:α → List Int) (m:Nat):∀ (l:List α) (b:Nat),(∀ x ∈ l,(f x).length = m) → (l.flatMap f).take (b * m) = (l.take b).flatMap f
 | [],b,_ => by simp
 | x :: l,0,_ => by simp
 | x :: l,b + 1,h => by
  rw [Hp,List.take_succ_cons,Hp,Jg,Jq,Nat.add_comm,← h x (by simp),List.take_length_add_append,h x (by simp),ZeJ f m l b (fun y hy => h y (by simp [hy]))]
theorem KP {α:Type} (f:α → List Int) (m:Nat):∀ (l:List α) (b:Nat),(∀ x ∈ l,(f x).length = m) → (l.flatMap f).drop (b * m) = (l.drop b).flatMap f
 | [],b,_ => by simp
 | x :: l,0,_ => by simp
 | x :: l,b + 1,h => by
  rw [Hp,List.drop_succ_cons,Jg,Jq,Nat.add_comm,← h x (by simp),List.drop_length_add_append,h x (by simp),KP f m l b (fun y hy => h y (by simp [hy]))]
def W7 (ch:List (List Int)) (a b:Nat):List (List Int):=ch.map fun x => (x.take (a + b)).drop a
theorem Zkf {d:Int} {ch:List (List Int)} {a b j:Nat} (hj:j < b):K4 d (W7 ch a b) j = K4 d ch (a + j):=by
 unfold K4 W7
 rw [HG]
 congr 1
 funext x
 congr 2
 rw [VT,VT,Jp,List.getElem?_take_of_lt (by omega)]
theorem ZhH {d:Int} {ch:List (List Int)} {a b n:Nat} (h:a + b ≤ n):Wg d (W7 ch a b) b = ((Wg d ch n).take ((a + b) * (ch.length * Zj d))).drop (a * (ch.length * Zj d)):=by
 unfold Wg
 rw [ZeJ _ _ _ _ (fun j _ => Yv d ch j),KP _ _ _ _ (fun j _ => Yv d ch j)]
 have hr:((Jc n).take (a + b)).drop a = (Jc b).map (a + ·):=by
  apply List.ext_getElem
  ·simp; omega
  ·intro i h1 h2
   simp
 rw [hr,HG]
 rw [HF,HF]
 congr 1
 apply List.map_congr_left
 intro j hj
 exact Zkf (List.mem_range.1 hj)
theorem Zka {c d r:Int} {tags:List ByteArray} {ch:List (List Int)} (hF:Fine c d r tags ch) {a b:Nat} (h:a + b ≤ (ch.getD 0 []).length):Fine c d r tags (W7 ch a b) ∧ ((W7 ch a b).getD 0 []).length = b ∧ Small tags (W7 ch a b):=by
 have hz:=hF.z
 have hcl:=hF.cl2
 have hlen:∀ x ∈ W7 ch a b,x.length = b:=by
  intro x hx
  obtain ⟨y,hy,rfl⟩:=VH.1 hx
  have:=(hF.even y hy).2
  simp; omega
 have h0:((W7 ch a b).getD 0 []).length = b:=by
  cases hch:ch with
  | nil => rw [hch] at hcl; simp at hcl
  | cons y l => rw [← hch]; exact hlen _ (by rw [hch]; simp [W7])
 refine ⟨⟨hF.shape,hF.tl,hF.tag,by rw [W7,HI]; exact hF.cl,fun x hx => ?_,fun x hx y hy => ?_⟩,h0,?_⟩
 ·rw [hlen x hx,h0]; exact ⟨by omega,rfl⟩
 ·obtain ⟨z,hz,rfl⟩:=VH.1 hx
  exact hF.sgn z hz y (List.mem_of_mem_take (List.mem_of_mem_drop hy))
 ·have:=hF.tl
  exact ⟨by omega,fun t ht => by have:=(hF.tagsz t ht).2; omega,by rw [W7,HI]; omega,fun x hx => by have:=hlen x hx; omega⟩
theorem Zha {c d r:Int} {tags:List ByteArray} {ch:List (List Int)} (hF:Fine c d r tags ch) {a b:Nat} (h:a + b ≤ (ch.getD 0 []).length) :
  XU c d r tags (Zo2 (c * Zq d) (Wg d ch (ch.getD 0 []).length) (a:Int) (b:Int)) = Wb c d r tags (W7 ch a b):=by
 obtain ⟨_,h2,_⟩:=Zka hF h
 unfold Wb
 rw [h2,ZhH h]
 unfold Zo2
 have h3:=hF.cl
 have h4:=(Wm hF.d24).1
 have e:c * Zq d = ((ch.length * Zj d:Nat):Int):=by rw [← h3,h4]; simp
 rw [e]
 have e1:(((a:Int) + (b:Int)) * ((ch.length * Zj d:Nat):Int)).toNat = (a + b) * (ch.length * Zj d):=by
  rw [← Int.natCast_add,← HB,Uk]
 have e2:((a:Int) * ((ch.length * Zj d:Nat):Int)).toNat = a * (ch.length * Zj d):=by
  rw [← HB,Uk]
 rw [e1,e2]
end Go.Sh
namespace Go.Sh
open Go Go.Proofs
theorem ZlI {k:Nat} (hk:16777216 ≤ k) (x y:List Int) (hx:x.length ≤ 16777216) (hy:y.length ≤ 16777216):ZlD k ([x,y],()) = some (x ++ y,()):=by
 show ZfE k (UJ 2,0,[x,y],0,[x,y]) = _
 have two:∀ z:List Int,Zdc k (UJ 2,0,[x,y],([]:List Int)) = some (x ++ y,()):=by
  intro z
  show ZZ (fun L2 => ZaZ k L2) k (UJ 2,0,[x,y],[]) = _
  obtain ⟨k',hk'⟩:∃ k',k = k' + 3:=⟨k - 3,by omega⟩
  have:∀ s:(Int × Int × List (List Int) × List Int → Option (List Int × Unit)) → Int × Int × List (List Int) × List Int → Option (List Int × Unit),∀ v,ZZ s k v = s (s (s (ZZ s k'))) v:=by
   intro s v; rw [hk']; rfl
  rw [this]
  simp only [ZaZ,JG,Hx]
  rw [Zp (by decide),Zp (by decide),Zp (by simp; omega),YZ (n:=(0:Int) + 1) (by omega),show (0:Int) + 1 = 1 from rfl,Zp (by decide),Zp (by decide),Zp (by simp; omega),YZ (n:=(1:Int) + 1) (by omega),ZE (by decide)]
  rfl
 show ZZ (fun L1 => ZaY k (Zdc k) L1) k (UJ 2,0,[x,y],0,[x,y]) = _
 obtain ⟨k',hk'⟩:∃ k',k = k' + 3:=⟨k - 3,by omega⟩
 have:∀ s:(Int × Int × List (List Int) × Int × List (List Int) → Option (List Int × Unit)) → Int × Int × List (List Int) × Int × List (List Int) → Option (List Int × Unit),∀ v,ZZ s k v = s (s (s (ZZ s k'))) v:=by
  intro s v; rw [hk']; rfl
 rw [this]
 simp only [ZaY,JG,Hx]
 have g0:List.getD [x,y] (Int.toNat 0) [] = x:=rfl
 have g1:List.getD [x,y] (Int.toNat 1) [] = y:=rfl
 rw [Zp (by decide),Zp (by decide),g0]
 have e1:Jy.wrap ((0:Int) + UJ x.length) = UJ x.length:=by rw [YZ (by simp only [UZ]; omega)]; simp
 have e2:Jy.wrap (UJ x.length + UJ y.length) = UJ (x.length + y.length):=by rw [YZ (by simp only [UZ]; omega)]; rfl
 rw [e1,ZE (by simp only [UZ]; omega),YZ (n:=(0:Int) + 1) (by omega),show (0:Int) + 1 = 1 from rfl,Zp (by decide),Zp (by decide),g1,e2,ZE (by simp only [UZ]; omega),YZ (n:=(1:Int) + 1) (by omega),ZE (by decide)]
 have h59:Zi0 k (V6 none (0:Nat) (0:Nat),UJ (x.length + y.length),()) = some ([],()):=by
  show ZgQ _ = _
  unfold ZgQ
  simp only [W0,Bool.true_and]
  rw [ZgX (by simp only [UZ]; omega) (by simp only [UZ]; omega)]
  rfl
 rw [h59,VL]
 exact two []
def Yy (c d r c' d' r':Int):Bool:=decide (c = c') && (decide (d = d') && (decide (r = r') && true))
theorem Zen {c d r c' d' r':Int}:Yy c d r c' d' r' = true ↔ c = c' ∧ d = d' ∧ r = r':=by
 unfold Yy
 simp
section
variable {k:Nat} (hk:16777216 ≤ k) {A B:List Int} (ha:A.length ≤ 524288) (hb:B.length ≤ 524288) (hA:Wc A) (hB:Wc B)
include hk ha hb hA hB
theorem Zlg {c d r c' d' r':Int} {tags tags':List ByteArray} {D D':List Int} (hI:IsFile A c d r tags D) (hI':IsFile B c' d' r' tags' D'):ZeD k (A,B,()) =
  some ((bif Yy c d r c' d' r' then bif decide (4096 < XB c d D + XB c' d' D') then ([],14,()) else (XU c d r tags (D ++ D'),0,()) else ([],1,())),()):=by
 have hD:=hI.D_len
 have hD':=hI'.D_len
 have hcn:=hI.cnt_ok
 have hcn':=hI'.cnt_ok
 have htv:=hI.tv
 have htl:=htv.len
 have ht8:=htv.1
 show Zc1 k (A,B,()) = _
 simp only [Zc1]
 rw [ZaW hk (by omega) hA hI,VL]
 simp only
 rw [ZV,ZE (fun h => h rfl),ZaW hk (by omega) hB hI',VL]
 simp only
 rw [ZV,ZE (fun h => h rfl),ZjM]
 rw [show (decide (c = c') && (decide (d = d') && (decide (r = r') && true))) = Yy c d r c' d' r' from rfl]
 cases Yy c d r c' d' r' with
 | false => rfl
 | true =>
  simp only [cond_true]
  rw [ZaX k hI.shape _ _ (by omega),VL,ZaX k hI'.shape _ _ (by omega),VL]
  simp only
  rw [YZ (n:=XB c d D + XB c' d' D') (by omega)]
  by_cases h:4096 < XB c d D + XB c' d' D'
  ·rw [Zp h,Zp h]
  ·rw [ZE h,ZE h,ZlI hk D D' (by omega) (by omega),VL]
   simp only
   rw [Zc7 hk hI.shape _ _ (by omega) (by omega) (by simp; omega),VL]
end
end Go.Sh
namespace Go.Sh
open Go Go.Proofs
def ZpX (c d r:Int) (tags:List ByteArray) (ch:List (List Int)) (a b:Nat):List Int:=Wb c d r tags (W7 ch a b)
section
variable {k:Nat} (hk:16777216 ≤ k) {c d r:Int} {tags:List ByteArray} {ch:List (List Int)} (hF:Fine c d r tags ch)
include hF
include hk
theorem Zg2 {a b:Nat} (h:a + b ≤ (ch.getD 0 []).length):ZeB k (Wb c d r tags ch,UJ a,UJ b,()) = some ((ZpX c d r tags ch a b,0,()),()):=by
 obtain ⟨hI,hcnt,hlen⟩:=hF.file
 have hz:=hF.z
 rw [Zk6 hk (by omega) XM hI _ _,hcnt]
 have ho:KS (UJ (ch.getD 0 []).length) (UJ a) (UJ b) = false:=decide_eq_false (by simp only [UZ]; omega)
 rw [ho]
 simp only [cond_false]
 rw [show (UJ a) = (a:Int) from rfl,show (UJ b) = (b:Int) from rfl,Zha hF h]
 rfl
end
end Go.Sh
namespace Go.Sh
open Go
def ZmE (d y:Int):Int:=bif Zq d == 1 then y - 128 else bif decide ((2:Int) ^ (8 * Zj d - 1) ≤ y) then y - (2:Int) ^ (8 * Zj d) else y
def KI (d y:Int):Int:=(ZmE d y).fdiv ((2:Int) ^ sft d)
def Zb1 (w:Nat) (D:List Int) (i:Nat):List Int:=(D.drop (i * w)).take w
def Zh7 (c i:Nat) (x:Int) (ch:List (List Int)):List (List Int):=ch.set (i % c) (ch.getD (i % c) [] ++ [x])
def Qv (d:Int) (c:Nat) (D:List Int):Nat → List (List Int)
 | 0 => Jd c []
 | n + 1 => Zh7 c n (KI d (Z9 (Zb1 (Zj d) D n))) (Qv d c D n)
theorem Zes (d:Int) (c:Nat) (D:List Int):∀ n,(Qv d c D n).length = c
 | 0 => by simp [Qv]
 | n + 1 => by simp [Qv,Zh7,Zes d c D n]
theorem YH (d:Int) (c:Nat) (D:List Int):∀ n,∀ x ∈ Qv d c D n,x.length ≤ n
 | 0,x,hx => by
  simp only [Qv,List.mem_replicate] at hx
  rw [hx.2]; exact Jj _
 | n + 1,x,hx => by
  simp only [Qv,Zh7] at hx
  rcases List.mem_or_eq_of_mem_set hx with h | h
  ·have:=YH d c D n x h; omega
  ·subst h
   simp only [List.length_append,Ut]
   by_cases hl:n % c < (Qv d c D n).length
   ·rw [YK hl]
    have:=YH d c D n _ (U4 hl)
    omega
   ·rw [VT,List.getElem?_eq_none (by omega)]
    simp
theorem ZbL {α:Type} {i c:Nat} {ch:List (List Int)} {S x:Int} (hc:1 ≤ c) (hl:ch.length = c) (hS:0 ≤ S) (hch:∀ y ∈ ch,y.length ≤ 1048576) (L:List (List Int) → Option α) :
  (bif decide ¬(UJ c) = (0:Int) then bif decide ((0:Int) ≤ (UJ i).tmod (UJ c) ∧ (UJ i).tmod (UJ c) < UJ ch.length) then bif decide (((UJ i).tmod (UJ c)).toNat < ch.length) then bif decide ((0:Int) ≤ S) then bif decide ((ch.getD ((UJ i).tmod (UJ c)).toNat []).length + [x].length < (2147483648:Nat)) then bif decide ((0:Int) ≤ (UJ i).tmod (UJ c) ∧ (UJ i).tmod (UJ c) < UJ ch.length) then bif decide True then bif decide (((UJ i).tmod (UJ c)).toNat < ch.length) then L (ch.set ((UJ i).tmod (UJ c)).toNat (ch.getD ((UJ i).tmod (UJ c)).toNat [] ++ [x])) else none else none else none else none else none else none else none else none) = L (Zh7 c i x ch):=by
 have e:(UJ i).tmod (UJ c) = UJ (i % c):=by
  rw [UZ,UZ,Int.tmod_eq_emod_of_nonneg (by omega)]
  simp
 have hlt:i % c < c:=Nat.mod_lt _ (by omega)
 rw [e]
 have hin:(0:Int) ≤ UJ (i % c) ∧ UJ (i % c) < UJ ch.length:=by simp only [UZ]; omega
 have hlen:(ch.getD (i % c) []).length ≤ 1048576:=by
  rw [YK (by omega)]; exact hch _ (U4 _)
 rw [Zp (by simp only [UZ]; omega),Zp hin]
 rw [show (UJ (i % c)).toNat = i % c from rfl]
 rw [Zp (by omega),Zp hS,Zp (by rw [Ut]; omega),Zp hin,Zp trivial,Zp (by omega)]
 rfl
theorem Zmi {y p:Int} (hp:1 ≤ p) (h:0 ≤ y ∧ y < p * 2):(Int.fdiv y p == (1:Int)) = decide (p ≤ y):=by
 rw [KR]
 congr 1
 apply propext
 rw [HD _ (by omega)]
 constructor
 ·intro e
  have h1:=Int.ediv_mul_le y (show p ≠ 0 by omega)
  rw [e] at h1; omega
 ·intro e
  have h1:1 ≤ y / p:=(Int.le_ediv_iff_mul_le (by omega)).2 (by omega)
  have h2:y / p < 2:=Int.ediv_lt_of_lt_mul (by omega) (by omega)
  omega
section
variable {k:Nat} (hk:16777216 ≤ k) {B:List Int} (hb:B.length ≤ 524288) (hB:Wc B) {c d r:Int} {tags:List ByteArray} {D:List Int} (hI:IsFile B c d r tags D)
include hk hb hB hI
theorem ZoP:Wc D:=by
 obtain ⟨e,he,h⟩:=hI.eq
 intro x hx
 exact hB x (by rw [h]; simp [hx])
def ZcF (c d:Int) (D:List Int):Nat:=(XB c d D * c).toNat
omit hk hb hB in
theorem Zm4:XB c d D * c = UJ (ZcF c d D) ∧ ZcF c d D * Zj d = D.length ∧ ZcF c d D ≤ 8192:=by
 obtain ⟨h0,h1,h2⟩:=hI.cnt_ok
 have hc:=X1 hI.shape
 have hw:=(Wm (X2 hI.shape)).1
 have e:0 ≤ XB c d D * c:=Int.mul_nonneg h0 (by omega)
 have e1:XB c d D * c = UJ (ZcF c d D):=by
  unfold ZcF
  rw [UZ,Int.toNat_of_nonneg e]
 refine ⟨e1,?_,?_⟩
 ·have:((ZcF c d D * Zj d:Nat):Int) = (D.length:Int):=by
   rw [← h2,← Int.mul_assoc,e1,hw]
   simp
  exact_mod_cast this
 ·have:(UJ (ZcF c d D)) ≤ 4096 * 2:=by
   rw [← e1]
   exact U3 h1 hc.2 (by omega) (by omega)
  simp only [UZ] at this
  omega
theorem ZnF (w:Nat) (hw:1 ≤ w ∧ w ≤ 3):Jy.wrap ((8:Int) * UJ w) = UJ (8 * w) ∧ Jy.wrap (UJ (8 * w) - 1) = UJ (8 * w - 1) ∧ min (UJ (8 * w)).toNat 64 = 8 * w ∧ min (UJ (8 * w - 1)).toNat 64 = 8 * w - 1:=by
 refine ⟨by rw [YZ] <;> simp only [UZ] <;> omega,by rw [YZ] <;> simp only [UZ] <;> omega,?_,?_⟩
 ·simp only [UZ,Uk]; omega
 ·simp only [UZ,Uk]; omega
def ZkN (B:List Int) (c d r:Int) (tags:List ByteArray) (ch:List (List Int)):(((Int × Int × Int × Unit) × List ByteArray × List (List Int) × Unit) × Int × Unit) × Unit :=
 bif decide (chk c d r tags ch = 0) && decide (Wb c d r tags ch = B) then ((((c,d,r,()),tags,ch,()),0,()),()) else (((((0:Int),(0:Int),(0:Int),()),[],[],()),2,()),())
theorem Zk9:ZeC k (B,()) = some (ZkN B c d r tags (Qv d c.toNat D (ZcF c d D))):=by
 have hc:=X1 hI.shape
 have hd:=X2 hI.shape
 have hDl:=hI.D_len
 have hD:=ZoP hk hb hB hI
 obtain ⟨hn1,hn2,hn3⟩:=Zm4 hI
 obtain ⟨hw1,hw2,hw3⟩:=Wm hd
 have htv:=hI.tv
 have ht8:=htv.1
 generalize hn:ZcF c d D = n at *
 obtain ⟨cN,rfl⟩:=Int.eq_ofNat_of_zero_le (show 0 ≤ c by omega)
 have hcN:1 ≤ cN ∧ cN ≤ 2:=by omega
 show ZaN k (Zfo k) (B,()) = _
 simp only [ZaN]
 rw [ZaW hk (by omega) hB hI,VL]
 simp only
 rw [ZV,ZE (fun h => h rfl),Zp (by omega),Zc5 k hd,VL,ZaX k hI.shape _ _ (by omega),VL]
 simp only
 rw [YZ (by rw [hn1]; simp only [UZ]; omega),hn1,hw1]
 show ZZ (fun L1 => Yf k L1) k _ = _
 have hlen:∀ i,(Qv d cN D i).length = cN:=Zes d cN D
 have key:=WC (step:=fun L1 => Yf k L1) (A:=Unit) (fun i _ => (UJ n,UJ i,UJ (Zj d),B,D.drop (i * Zj d),false,(cN:Int),d,r,tags,D,(cN:Int),d,r,tags,Qv d cN D i,(0:Int),(0:Int),(0:Int))) (Jc n)
  (fun _ _ => some (ZkN B cN d r tags (Qv d cN D n)))
  (fun L _ => by
   simp only [Yf,U2]
   rw [ZE (Zbb _)]
   have hS:Small tags (Qv d cN D n):=⟨by omega,fun t ht => by have:=Xd (htv.2 t ht); omega,by rw [hlen]; omega,fun x hx => by have:=YH d cN D n x hx; omega⟩
   rw [ZcY hk hS,VL]
   unfold ZkN
   by_cases h:chk (cN:Int) d r tags (Qv d cN D n) = 0
   ·rw [Zp h]
    simp only
    rw [ZV,ZE (fun h => h rfl)]
    have h39:ZgF k (B,Wb (cN:Int) d r tags (Qv d cN D n),()) = some (decide (B = Wb (cN:Int) d r tags (Qv d cN D n)),()):=by
     show some ((bytesOf B).toList == (bytesOf _).toList,()) = _
     rw [ZcM]
     congr 3
     exact propext ⟨fun e => XQ hB XM e,fun e => by rw [e]⟩
    rw [h39,VL]
    simp only
    rw [ZjM,decide_eq_true h]
    by_cases e:B = Wb (cN:Int) d r tags (Qv d cN D n)
    ·rw [Zp e,decide_eq_true e.symm]; rfl
    ·rw [ZE e,decide_eq_false (Ne.symm e)]; rfl
   ·rw [ZE h]
    simp only
    rw [ZV,Zp h,decide_eq_false h]; rfl)
  (fun L i hi _ hL => by
   rw [U2] at hi
   simp only [Yf]
   have him:(i + 1) * Zj d ≤ D.length:=by rw [← hn2]; exact Jk _ hi
   rw [Jg,Jq] at him
   rw [Zp (ltR hi),ZfA hk (D.drop (i * Zj d)) false (Zj d) (by simp; omega) (by omega) (by simp; omega) (Wd hD _),VL]
   simp only
   have hbd:=XF _ (We (Wd hD (i * Zj d)) (Zj d))
   have hcl:((D.drop (i * Zj d)).take (Zj d)).length = Zj d:=by simp; omega
   rw [hcl] at hbd
   obtain ⟨q1,q2,q3,q4⟩:=ZnF hk hb hB hI (Zj d) ⟨hw2,hw3⟩
   obtain ⟨s1,s2⟩:=Zjr hd
   rw [hw1] at s1 s2
   have hch:∀ y ∈ Qv d cN D i,y.length ≤ 1048576:=fun y hy => by have:=YH d cN D i y hy; omega
   have hnext:∀ x,x = KI d (Z9 (Zb1 (Zj d) D i)) → L (UJ n,Jy.wrap (UJ i + 1),UJ (Zj d),B,(D.drop (i * Zj d)).drop (Zj d),false,(cN:Int),d,r,tags,D,(cN:Int),d,r,tags,Zh7 cN i x (Qv d cN D i),(0:Int),(0:Int),(0:Int)) = some (ZkN B cN d r tags (Qv d cN D n)):=by
    intro x hx
    rw [X3 hi (by omega),JF,show i * Zj d + Zj d = (i + 1) * Zj d by rw [Jg,Jq],hx]
    exact hL ()
   have hp1:(2:Int) ^ (8 * Zj d) = (2:Int) ^ (8 * Zj d - 1) * 2:=by
    rw [← Int.pow_succ]; congr 1; omega
   have hp0:1 ≤ (2:Int) ^ (8 * Zj d - 1) ∧ (2:Int) ^ (8 * Zj d - 1) ≤ 8388608:=by
    have:Zj d = 1 ∨ Zj d = 2 ∨ Zj d = 3:=by omega
    rcases this with h | h | h <;> rw [h] <;> decide
   by_cases hw:Zj d = 1
   ·have hw':(UJ (Zj d) == (1:Int)) = true:=by rw [hw]; rfl
    rw [hw',cond_true]
    refine (ZbL (x:=(Jy.wrap (Z9 ((D.drop (i * Zj d)).take (Zj d)) - 128)).fdiv ((2:Int) ^ min (Jy.wrap (Jy.wrap ((8:Int) * UJ (Zj d)) - d)).toNat (64:Nat))) hcN.1 (hlen i) s1 hch (fun ch => L (UJ n,Jy.wrap (UJ i + 1),UJ (Zj d),B,(D.drop (i * Zj d)).drop (Zj d),false,(cN:Int),d,r,tags,D,(cN:Int),d,r,tags,ch,(0:Int),(0:Int),(0:Int)))).trans (hnext _ ?_)
    rw [s2]
    unfold KI ZmE Zb1
    rw [hw1,hw',cond_true,YZ (by omega)]
   ·have hw':(UJ (Zj d) == (1:Int)) = false:=by rw [KR,decide_eq_false]; simp only [UZ]; omega
    rw [hw',cond_false,q1,q2,q3,q4,Zp (by simp only [UZ]; omega),Zmi hp0.1 (by rw [← hp1]; exact hbd)]
    rw [q1] at s1 s2
    by_cases hge:(2:Int) ^ (8 * Zj d - 1) ≤ Z9 ((D.drop (i * Zj d)).take (Zj d))
    ·rw [Zp hge,Zp (by simp only [UZ]; omega)]
     refine (ZbL (x:=(Jy.wrap (Z9 ((D.drop (i * Zj d)).take (Zj d)) - Jy.wrap ((1:Int) * (2:Int) ^ (8 * Zj d)))).fdiv ((2:Int) ^ min (Jy.wrap (UJ (8 * Zj d) - d)).toNat (64:Nat))) hcN.1 (hlen i) s1 hch (fun ch => L (UJ n,Jy.wrap (UJ i + 1),UJ (Zj d),B,(D.drop (i * Zj d)).drop (Zj d),false,(cN:Int),d,r,tags,D,(cN:Int),d,r,tags,ch,(0:Int),(0:Int),(0:Int)))).trans (hnext _ ?_)
     rw [s2]
     unfold KI ZmE Zb1
     rw [hw1,hw',cond_false,Zp hge,Int.one_mul,YZ (n:=(2:Int) ^ (8 * Zj d)) (by omega),YZ (by omega)]
    ·rw [ZE hge]
     refine (ZbL (x:=(Z9 ((D.drop (i * Zj d)).take (Zj d))).fdiv ((2:Int) ^ min (Jy.wrap (UJ (8 * Zj d) - d)).toNat (64:Nat))) hcN.1 (hlen i) s1 hch (fun ch => L (UJ n,Jy.wrap (UJ i + 1),UJ (Zj d),B,(D.drop (i * Zj d)).drop (Zj d),false,(cN:Int),d,r,tags,D,(cN:Int),d,r,tags,ch,(0:Int),(0:Int),(0:Int)))).trans (hnext _ ?_)
     rw [s2]
     unfold KI ZmE Zb1
     rw [hw1,hw',cond_false,ZE hge]) k 0 () (by rw [U2]; omega) (by omega)
 simpa [Qv] using key
end
end Go.Sh
namespace Go.Sh
open Go
theorem ZfV {s:Nat} (hs:s ≤ 3) (n:Int):Z9 (low n s) = n % (2:Int) ^ (8 * s):=by
 have:s = 0 ∨ s = 1 ∨ s = 2 ∨ s = 3:=by omega
 rcases this with rfl | rfl | rfl | rfl
 ·simp [low,Z9]
 ·have e:(2:Int) ^ (8 * 1) = 256:=by decide
  rw [Xi,e]; simp [low,Z9]
 ·have e:(2:Int) ^ (8 * 2) = 65536:=by decide
  rw [Xi,Xi,e]; simp [low,Z9]; omega
 ·have e:(2:Int) ^ (8 * 3) = 16777216:=by decide
  rw [Xi,Xi,Xi,e]; simp [low,Z9]; omega
theorem Zkd {d:Int} (hd:4 ≤ d ∧ d ≤ 24):(2:Int) ^ (d - 1).toNat * (2:Int) ^ sft d = (2:Int) ^ (8 * Zj d - 1):=by
 obtain ⟨h1,h2,h3⟩:=Wm hd
 have hw:=K0 hd
 rw [← Int.pow_add]
 congr 1
 unfold sft
 rw [h1] at hw ⊢
 simp only [UZ] at hw ⊢
 omega
theorem Zhj {d x:Int} (hd:4 ≤ d ∧ d ≤ 24) (h:sgn d x = true):KI d (Zg9 d x % (2:Int) ^ (8 * Zj d)) = x:=by
 have hs:=of_decide_eq_true h
 have hp:=Zjq hd
 have hsp:=Zkd hd
 obtain ⟨h1,h2,h3⟩:=Wm hd
 have hb1 : -(2:Int) ^ (8 * Zj d - 1) ≤ x * (2:Int) ^ sft d:=by
  rw [← hsp,← Int.neg_mul]
  exact Hl hs.1 (by omega)
 have hb2:x * (2:Int) ^ sft d < (2:Int) ^ (8 * Zj d - 1):=by
  rw [← hsp]
  exact Int.mul_lt_mul_of_pos_right hs.2 (by omega)
 have hdiv:(x * (2:Int) ^ sft d).fdiv ((2:Int) ^ sft d) = x:=by
  rw [HD _ (by omega),HE _ (by omega)]
 have hw:Zj d = 1 ∨ Zj d = 2 ∨ Zj d = 3:=by omega
 unfold KI ZmE Zg9
 rw [h1]
 generalize hv:x * (2:Int) ^ sft d = v at *
 rcases hw with hw | hw | hw
 ·rw [hw] at hb1 hb2 ⊢
  rw [show (UJ 1 == (1:Int)) = true from rfl]
  simp only [cond_true]
  have e:(2:Int) ^ (8 * 1) = 256:=by decide
  have e':(2:Int) ^ (8 * 1 - 1) = 128:=by decide
  rw [e'] at hb1 hb2
  rw [e,show (v + 128) % 256 - 128 = v by omega]; exact hdiv
 ·rw [hw] at hb1 hb2 ⊢
  rw [show (UJ 2 == (1:Int)) = false from rfl]
  simp only [cond_false]
  have e:(2:Int) ^ (8 * 2) = 65536:=by decide
  have e':(2:Int) ^ (8 * 2 - 1) = 32768:=by decide
  rw [e'] at hb1 hb2
  rw [e,e']
  by_cases hc:32768 ≤ v % 65536
  ·rw [Zp hc,show v % 65536 - 65536 = v by omega]; exact hdiv
  ·rw [ZE hc,show v % 65536 = v by omega]; exact hdiv
 ·rw [hw] at hb1 hb2 ⊢
  rw [show (UJ 3 == (1:Int)) = false from rfl]
  simp only [cond_false]
  have e:(2:Int) ^ (8 * 3) = 16777216:=by decide
  have e':(2:Int) ^ (8 * 3 - 1) = 8388608:=by decide
  rw [e'] at hb1 hb2
  rw [e,e']
  by_cases hc:8388608 ≤ v % 16777216
  ·rw [Zp hc,show v % 16777216 - 16777216 = v by omega]; exact hdiv
  ·rw [ZE hc,show v % 16777216 = v by omega]; exact hdiv
theorem ZjK {d:Int} {ch:List (List Int)} {n j q:Nat} (hj:j < n) (hq:q < ch.length) :
  Zb1 (Zj d) (Wg d ch n) (j * ch.length + q) = ((K4 d ch j).drop (q * Zj d)).take (Zj d):=by
 unfold Zb1 Wg
 rw [show (j * ch.length + q) * Zj d = j * (ch.length * Zj d) + q * Zj d by rw [Jg,Nat.mul_assoc],← JF,KP _ _ _ _ (fun j _ => Yv d ch j)]
 have hr:(Jc n).drop j = j :: (Jc n).drop (j + 1):=by
  rw [Um (by simpa using hj)]
  simp
 rw [hr,Hp]
 have hl:=Yv d ch j
 have hqw:q * Zj d + Zj d ≤ ch.length * Zj d:=by
  have:=Jk (Zj d) (show q + 1 ≤ ch.length by omega)
  rw [Jg,Jq] at this
  exact this
 rw [List.drop_append_of_le_length (by omega),List.take_append_of_le_length (by simp; omega)]
theorem ZbX {l:List Int} {j:Nat} (h:j < l.length):l.take j ++ [l.getD j 0] = l.take (j + 1):=by
 rw [YK h,← HK h]
section
variable {c d r:Int} {tags:List ByteArray} {ch:List (List Int)} (hF:Fine c d r tags ch)
include hF
theorem ZjL {j q:Nat} (hj:j < (ch.getD 0 []).length) (hq:q < ch.length) :
  KI d (Z9 (Zb1 (Zj d) (Wg d ch (ch.getD 0 []).length) (j * ch.length + q))) = (ch.getD q []).getD j 0:=by
 have hd:=hF.d24
 obtain ⟨h1,h2,h3⟩:=Wm hd
 have hcl:=hF.cl2
 rw [ZjK hj hq]
 have hx:ch.getD q [] ∈ ch:=by rw [YK hq]; exact U4 _
 have hlen:=(hF.even _ hx).2
 have hsg:sgn d ((ch.getD q []).getD j 0) = true:=by
  refine hF.sgn _ hx _ ?_
  rw [YK (l:=ch.getD q []) (i:=j) (by omega)]
  exact U4 _
 have e:((K4 d ch j).drop (q * Zj d)).take (Zj d) = low (Zg9 d ((ch.getD q []).getD j 0)) (Zj d):=by
  unfold K4
  rw [KP _ (Zj d) _ _ (fun x _ => ZH _ _)]
  rw [Um hq,Hp,Qg (ZH _ _),YK hq]
 rw [e,ZfV h3,Zhj hd hsg]
theorem ZhG:Qv d ch.length (Wg d ch (ch.getD 0 []).length) ((ch.getD 0 []).length * ch.length) = ch:=by
 have hcl:=hF.cl2
 have hval:=fun j q => ZjL hF (j:=j) (q:=q)
 have heven:=hF.even
 match ch,hcl,hval,heven with
 | [a],_,hval,heven =>
  have key:∀ j,j ≤ a.length → Qv d 1 (Wg d [a] a.length) j = [a.take j]:=by
   intro j
   induction j with
   | zero => intro _; simp [Qv]
   | succ j ih =>
    intro hj
    have hv:=hval j 0 (by simp; omega) (by simp)
    simp only [Ut,VW,Nat.add_zero,Hu] at hv
    simp only [Qv]
    rw [ih (by omega),hv]
    simp only [Zh7,Nat.mod_one,HJ,Hu]
    rw [ZbX hj]
  have:=key a.length (Jj _)
  simp only [Ut,Hu,VW]
  rw [this,Hq]
 | [a,b],_,hval,heven =>
  have hlen:b.length = a.length:=(heven b (by simp)).2
  have key:∀ j,j ≤ a.length → Qv d 2 (Wg d [a,b] a.length) (j * 2) = [a.take j,b.take j]:=by
   intro j
   induction j with
   | zero => intro _; simp [Qv,Jd]
   | succ j ih =>
    intro hj
    have hv0:=hval j 0 (by simp; omega) (by simp)
    have hv1:=hval j 1 (by simp; omega) (by simp)
    simp only [JG,Hx,Uc,Nat.reduceAdd,Nat.add_zero,Hu,HH] at hv0 hv1
    rw [show (j + 1) * 2 = j * 2 + 1 + 1 by omega]
    simp only [Qv]
    rw [ih (by omega),hv0,hv1]
    simp only [Zh7]
    rw [show j * 2 % 2 = 0 by omega,show (j * 2 + 1) % 2 = 1 by omega]
    simp only [HJ,List.set_cons_succ,Hu,HH]
    rw [ZbX hj,ZbX (by omega)]
  have:=key a.length (Jj _)
  simp only [JG,Hx,Uc,Nat.reduceAdd,Hu]
  rw [this,Hq,← hlen,Hq]
 | _ :: _ :: _ :: _,hcl,_,_ => simp only [JG] at hcl; omega
 | [],hcl,_,_ => simp at hcl
theorem Zfc {k:Nat} (hk:16777216 ≤ k):ZeC k (Wb c d r tags ch,()) = some ((((c,d,r,()),tags,ch,()),0,()),()):=by
 obtain ⟨hI,hcnt,hlen⟩:=hF.file
 rw [Zk9 hk (by omega) XM hI]
 have hc:c.toNat = ch.length:=by rw [← hF.cl]; rfl
 have hn:ZcF c d (Wg d ch (ch.getD 0 []).length) = (ch.getD 0 []).length * ch.length:=by
  unfold ZcF
  rw [hcnt,← hF.cl]
  simp only [UZ]
  rw [← HB,Uk]
 rw [hc,hn,ZhG hF]
 unfold ZkN
 rw [decide_eq_true (ZcQ.2 hF),decide_eq_true rfl]
 rfl
end
end Go.Sh
namespace Go.Sh
open Go
theorem ZlN {k:Nat} (hk:16777216 ≤ k) (a:List Int) (ha:a.length ≤ 1048576):ZlJ k (a,a,()) = some (true,()):=by
 show Za0 k (ZfH k) (a,a,()) = _
 simp only [Za0]
 rw [ZV,ZE (fun h => h rfl)]
 show ZZ (fun L1 => Yk k L1) k _ = _
 exact WC (step:=fun L1 => Yk k L1) (A:=Unit) (fun i _ => (UJ i,a,a)) a (fun _ _ => some (true,()))
  (fun L _ => by simp only [Yk]; rw [ZE (Zbb _)])
  (fun L i hi _ hL => by
   simp only [Yk]
   rw [Zp (ltR hi),Zp (inR hi),Zp (inR hi),ZV,ZE (fun h => h rfl),X3 hi (by omega)]
   exact hL ()) k 0 () (by omega) (by omega)
theorem Zgz {k:Nat} (hk:16777216 ≤ k) (n:Int) (ch:List (List Int)) (h1:ch.length ≤ 1048576) (h2:∀ c ∈ ch,c.length ≤ 1048576):ZiG k ((n,ch,()),(n,ch,()),()) = some (true,()):=by
 show ZaP k (Zfs k) ((n,ch,()),(n,ch,()),()) = _
 simp only [ZaP]
 rw [ZV,ZE (fun h => h rfl),ZV,ZE (fun h => h rfl)]
 show ZZ (fun L1 => Yh k L1) k _ = _
 exact WC (step:=fun L1 => Yh k L1) (A:=Unit) (fun i _ => (UJ i,n,ch,n,ch)) ch (fun _ _ => some (true,()))
  (fun L _ => by simp only [Yh]; rw [ZE (Zbb _)])
  (fun L i hi _ hL => by
   simp only [Yh]
   rw [Zp (ltR hi),Zp (inR hi),Zp (inR hi),Xf hi,ZlN hk _ (h2 _ (U4 _)),VL]
   simp only [HA,cond_false]
   rw [X3 hi (by omega)]
   exact hL ()) k 0 () (by omega) (by omega)
theorem Zld {k:Nat} (hk:16777216 ≤ k) {c d r:Int} {tags:List ByteArray} {ch:List (List Int)} (hS:Small tags ch):ZiC k (((c,d,r,()),tags,ch,()),((c,d,r,()),tags,ch,()),()) = some (true,()):=by
 show ZaO k (Zfq k) (((c,d,r,()),tags,ch,()),((c,d,r,()),tags,ch,()),()) = _
 simp only [ZaO]
 simp only [decide_true,Bool.and_self,HA,cond_false]
 rw [ZV,ZE (fun h => h rfl),Zgz hk _ _ hS.cl hS.chan,VL]
 simp only [HA,cond_false]
 show ZZ (fun L1 => Yg k L1) k _ = _
 have htl:=hS.tl
 exact WC (step:=fun L1 => Yg k L1) (A:=Unit) (fun i _ => (UJ i,c,d,r,tags,ch,c,d,r,tags,ch)) tags (fun _ _ => some (true,()))
  (fun L _ => by simp only [Yg]; rw [ZE (Zbb _)])
  (fun L i hi _ hL => by
   simp only [Yg]
   rw [Zp (ltR hi),Zp (inR hi),Zp (inR hi),ZcM,ZjM,Zp rfl,X3 hi (by omega)]
   exact hL ()) k 0 () (by omega) (by omega)
end Go.Sh
namespace Go.Sh
open Go Go.Proofs
abbrev Trk:=(Int × Int × Int × Unit) × List ByteArray × List (List Int) × Unit
theorem Zkr {k:Nat} (hk:16777216 ≤ k) {x:Trk} (hS:Small x.2.1 x.2.2.1):∃ E er,ZeA k (x,()) = some ((E,er,()),()) ∧ (er = 0 → E.length ≤ 32768 ∧ ZeC k (E,()) = some ((x,0,()),()) ∧
  ∃ S J h,ZeB k (E,0,0,()) = some ((S,0,()),()) ∧ ZeD k (E,E,()) = some ((J,h,()),()) ∧ (h = 0 ∨ h = 14)):=by
 obtain ⟨⟨c,d,r,⟨⟩⟩,tags,ch,⟨⟩⟩:=x
 have hS:Small tags ch:=hS
 have h12:=ZcY (c:=c) (d:=d) (r:=r) hk hS
 by_cases h:chk c d r tags ch = 0
 ·rw [Zp h] at h12
  have hF:=ZcQ.1 h
  obtain ⟨hI,hcnt,hlen⟩:=hF.file
  have hj:=Zlg hk (by omega) (by omega) XM XM hI hI
  rw [Zen.2 ⟨rfl,rfl,rfl⟩] at hj
  simp only [cond_true] at hj
  have hj:∃ J h,ZeD k (Wb c d r tags ch,Wb c d r tags ch,()) = some ((J,h,()),()) ∧ (h = 0 ∨ h = 14):=by
   by_cases h4:4096 < XB c d (Wg d ch (ch.getD 0 []).length) + XB c d (Wg d ch (ch.getD 0 []).length)
   ·rw [Zp h4] at hj
    exact ⟨_,_,hj,.inr rfl⟩
   ·rw [ZE h4] at hj
    exact ⟨_,_,hj,.inl rfl⟩
  obtain ⟨J,h',hj,hh⟩:=hj
  exact ⟨_,_,h12,fun _ => ⟨hlen,Zfc hF hk,_,J,h',Zg2 hk hF (a:=0) (b:=0) (by omega),hj,hh⟩⟩
 ·rw [ZE h] at h12
  exact ⟨_,_,h12,fun h0 => absurd h0 h⟩
theorem Zo4 {k:Nat} (hk:16777216 ≤ k) {x:Trk} (hS:Small x.2.1 x.2.2.1):Zix k (x,()) = some (x,()):=by
 obtain ⟨⟨c,d,r,⟨⟩⟩,tags,ch,⟨⟩⟩:=x
 exact Zk5 hk hS
theorem ZnE {k:Nat} {x:Trk}:Zle k (x,()) = some (x,()):=by
 obtain ⟨⟨c,d,r,⟨⟩⟩,tags,ch,⟨⟩⟩:=x
 rfl
theorem Zo1 {k:Nat} (hk:16777216 ≤ k) {x:Trk} (hS:Small x.2.1 x.2.2.1):ZiC k (x,x,()) = some (true,()):=by
 obtain ⟨⟨c,d,r,⟨⟩⟩,tags,ch,⟨⟩⟩:=x
 exact Zld hk hS
end Go.Sh
namespace Go.Sh
open Go Go.Proofs
theorem ZhU {w1 w2:World} {l1 l2:Nat → Nat} (hE:Ext w1 l1 w2 l2) (hz2:∀ b,w2.heap.size ≤ b → l2 b = 0) (hl:∀ b,b < w1.heap.size → l2 b = l1 b) (hz1:∀ b,w1.heap.size ≤ b → l1 b = 0)
  (hc:∀ b o v,o < l1 b → w1.cell? ⟨b,o,none⟩ = some v → ∃ m,v = .int .u8 m) {b o:Nat} {v:Value} (ho:o < l2 b) (hv:w2.cell? ⟨b,o,none⟩ = some v) (hn:∀ m,v ≠ .int .u8 m) :
  w1.heap.size ≤ b ∧ b < w2.heap.size ∧ w2.frozen? ⟨b,o,none⟩ = false:=by
 have h1:w1.heap.size ≤ b:=by
  rcases VO b w1.heap.size with h | h
  ·rw [hl b h] at ho
   rw [hE.cell b o ho] at hv
   obtain ⟨m,rfl⟩:=hc b o v ho hv
   exact absurd rfl (hn m)
  ·exact h
 refine ⟨h1,?_,?_⟩
 ·rcases VO b w2.heap.size with h | h
  ·exact h
  ·rw [hz2 b h] at ho; omega
 ·cases hf:w2.frozen? ⟨b,o,none⟩ with
  | false => rfl
  | true =>
   have:=(hE.nf b o ho hf).1
   rw [hz1 b h1] at this; omega
theorem Zp1 {w1 w2:World} {l1 l2:Nat → Nat} (hE:Ext w1 l1 w2 l2) (hz2:∀ b,w2.heap.size ≤ b → l2 b = 0) (hl:∀ b,b < w1.heap.size → l2 b = l1 b) (hz1:∀ b,w1.heap.size ≤ b → l1 b = 0)
  (hc:∀ b o v,o < l1 b → w1.cell? ⟨b,o,none⟩ = some v → ∃ m,v = .int .u8 m) {xs:List Int} (hx:xs.length < 4294967296) {A:Option Addr} {len cap:Nat} (h:Rt w2 l2 (.sl (.int .i64)) xs [.slice A len cap]):Zjz w1 w2 w2.heap.size A len:=by
 obtain ⟨A',n',c',he,hlen,-,h⟩:=h
 cases he
 refine ⟨by omega,fun k hk => ?_⟩
 rcases h with rfl | ⟨b,o,rfl,h⟩
 ·simp at hlen; omega
 ·obtain ⟨c,hr,hcell⟩:=h k (by omega)
  have hr:c = [.int .i64 xs[k]]:=hr
  subst hr
  obtain ⟨h1,h2⟩:=hcell 0 _ rfl
  have e1:o + k * (Ty.int .i64).size + 0 = o + k:=by simp [Ty.size]
  rw [e1] at h1 h2
  obtain ⟨f1,f2,f3⟩:=ZhU hE hz2 hl hz1 hc h2 h1 (fun m h => by cases h)
  exact ⟨b,o,xs[k],rfl,h1,f1,f2,f3,by omega⟩
theorem Zo0 {w1 w2:World} {l1 l2:Nat → Nat} (hE:Ext w1 l1 w2 l2) (hz2:∀ b,w2.heap.size ≤ b → l2 b = 0) (hl:∀ b,b < w1.heap.size → l2 b = l1 b) (hz1:∀ b,w1.heap.size ≤ b → l1 b = 0)
  (hc:∀ b o v,o < l1 b → w1.cell? ⟨b,o,none⟩ = some v → ∃ m,v = .int .u8 m) {xs:List (List Int)} (hx:xs.length < 4294967296) (hxs:∀ l ∈ xs,l.length < 4294967296) {A:Option Addr} {len cap:Nat} (h:Rt w2 l2 (.sl (.sl (.int .i64))) xs [.slice A len cap]):Zeq w1 w2 w2.heap.size A len:=by
 obtain ⟨A',n',c',he,hlen,-,h⟩:=h
 cases he
 refine ⟨by omega,fun k hk => ?_⟩
 rcases h with rfl | ⟨b,o,rfl,h⟩
 ·simp at hlen; omega
 ·obtain ⟨c,hr,hcell⟩:=h k (by omega)
  obtain ⟨A2,n2,c2,rfl,h3⟩:=hr
  obtain ⟨h1,h2⟩:=hcell 0 _ rfl
  have e1:o + k * (Ty.sl (.int .i64)).size + 0 = o + k:=by simp [Ty.size]
  rw [e1] at h1 h2
  exact ⟨b,o,A2,n2,c2,rfl,h1,Zp1 hE hz2 hl hz1 hc (hxs _ (U4 (by omega))) ⟨A2,n2,c2,rfl,h3⟩⟩
theorem ZdV {w:World} {lim:Nat → Nat} {x:Trk} {cs:List Value} (h:Rt w lim trackT x cs):∃ slT slC,cs = [.int .i64 x.1.1,.int .i64 x.1.2.1,.int .i64 x.1.2.2.1,slT,slC] ∧ Rt w lim (.sl .str) x.2.1 [slT] ∧ Rt w lim (.sl (.sl (.int .i64))) x.2.2.1 [slC]:=by
 obtain ⟨⟨c,d,r,⟨⟩⟩,tags,ch,⟨⟩⟩:=x
 obtain ⟨a1,a2,rfl,⟨b1,b2,rfl,rfl,b3,b4,rfl,rfl,b5,b6,rfl,rfl,rfl⟩,a3,a4,rfl,ht,a5,a6,rfl,hc,rfl⟩:=h
 obtain ⟨A,n,cp,rfl,h1⟩:=ht
 obtain ⟨A',n',cp',rfl,h2⟩:=hc
 exact ⟨_,_,rfl,⟨A,n,cp,rfl,h1⟩,⟨A',n',cp',rfl,h2⟩⟩
theorem XO {w:World} {lim:Nat → Nat} {x:Trk} {v:Value} {bs:List Nat} (h:TT w lim (.view trackT x) v bs):∃ cs,Rt w lim trackT x cs ∧ v = .agg cs.toArray ∧ bs = []:=by
 simp only [TT,XN] at h
 obtain ⟨⟨cs,h1,h⟩,hb⟩:=h
 rcases h with ⟨_,h⟩ | ⟨h,_⟩
 ·exact ⟨cs,h1,h,hb⟩
 ·cases h
theorem KH {w:World} {lim:Nat → Nat} {x:Trk} {cs:List Value} (h:Rt w lim trackT x cs):TT w lim (.view trackT x) (.agg cs.toArray) []:=by
 simp only [TT]; exact ⟨⟨cs,h,.inl ⟨rfl,rfl⟩⟩,trivial⟩
theorem YC {w:World} {lim:Nat → Nat} {k:IntKind} {n:Int} {v:Value} {bs:List Nat} (h:TT w lim (.view (.int k) n) v bs):v = .int k n ∧ bs = []:=by
 simp only [TT,XN,Rt] at h
 obtain ⟨⟨cs,rfl,h⟩,hb⟩:=h
 rcases h with ⟨h,_⟩ | ⟨_,h⟩
 ·cases h
 ·cases h; exact ⟨rfl,hb⟩
theorem ZaB {w:World} {lim:Nat → Nat} {b:Bool} {v:Value} {bs:List Nat} (h:TT w lim (.view .bool b) v bs):v = .bool b:=by
 simp only [TT,XN,Rt] at h
 obtain ⟨⟨cs,rfl,h⟩,_⟩:=h
 rcases h with ⟨h,_⟩ | ⟨_,h⟩
 ·cases h
 ·cases h; rfl
theorem ZnH {w:World} {lim:Nat → Nat} {t:Ty} {xs:List t.den} {v:Value} {bs:List Nat} (h:TT w lim (.view (.sl t) xs) v bs):Rt w lim (.sl t) xs [v] ∧ bs = []:=by
 simp only [TT,XN] at h
 obtain ⟨⟨cs,h1,h⟩,hb⟩:=h
 rcases h with ⟨h,_⟩ | ⟨_,rfl⟩
 ·cases h
 ·exact ⟨h1,hb⟩
theorem ZmT {w:World} {lim:Nat → Nat} {k:IntKind} (n:Int):TT w lim (.view (.int k) n) (.int k n) []:=by
 simp only [TT,XN,Rt]; exact ⟨⟨_,rfl,.inr ⟨rfl,rfl⟩⟩,trivial⟩
theorem Zhi {w:World} {lim:Nat → Nat} {t:Ty} {xs:List t.den} {v:Value} (h:Rt w lim (.sl t) xs [v]):TT w lim (.view (.sl t) xs) v []:=by
 simp only [TT]; exact ⟨⟨_,h,.inr ⟨rfl,rfl⟩⟩,trivial⟩
theorem Zii {w:World} {lim:Nat → Nat} {a b:RV} {v:Value} {bs:List Nat} (h:TT w lim (.tup [a,b]) v bs):∃ v1 v2 x1 x2,v = .tuple [v1,v2].toArray ∧ TT w lim a v1 x1 ∧ TT w lim b v2 x2:=by
 simp only [TT] at h
 obtain ⟨us,rfl,h⟩:=h
 match us,h with
 | [v1,v2],h =>
  obtain ⟨x1,y1,rfl,t1,x2,y2,rfl,t2,rfl⟩:=h
  exact ⟨v1,v2,x1,x2,rfl,t1,t2⟩
structure SW (w0:World) (lim0:Nat → Nat) (w:World) (lim:Nat → Nat):Prop where
 keep:Keep w0 w
 ext:Ext w0 lim0 w lim
 lz:∀ b,w.heap.size ≤ b → lim b = 0
 lies:Zbn w lim
theorem SW.ext1 {w0:World} {lim0:Nat → Nat} {w w':World} {lim:Nat → Nat} (h:SW w0 lim0 w lim) (k:Keep w w'):Ext w lim w' lim:=Ext.of_keep k h.lz (fun _ _ => rfl) h.lz
theorem SW.next {w0:World} {lim0:Nat → Nat} {w w':World} {lim:Nat → Nat} (h:SW w0 lim0 w lim) (k:Keep w w'):SW w0 lim0 w' lim :=
 ⟨h.keep.trans k,h.ext.trans (h.ext1 k),fun b hb => h.lz b (VJ k.size hb),h.lies.mono (h.ext1 k)⟩
theorem SW.calls {w0:World} {lim0:Nat → Nat} {w w':World} {lim lim':Nat → Nat} (h:SW w0 lim0 w lim) (k:Keep w w') (hE:Ext w lim w' lim') (hz:∀ b,w'.heap.size ≤ b → lim' b = 0):SW w0 lim0 w' lim' :=
 ⟨h.keep.trans k,h.ext.trans hE,hz,h.lies.mono hE⟩
theorem SW.of_ext {w0:World} {lim0:Nat → Nat} {w:World} {lim lim':Nat → Nat} (h:SW w0 lim0 w lim) (hE:Ext w lim w lim') (hz:∀ b,w.heap.size ≤ b → lim' b = 0):SW w0 lim0 w lim':=⟨h.keep,h.ext.trans hE,hz,h.lies.mono hE⟩
theorem SW.row {w0:World} {lim0:Nat → Nat} {w:World} {lim:Nat → Nat} (h:SW w0 lim0 w lim) {b:Nat} {vs:Array Value} {U:TypeId} {fz:Nat × Nat} (hb:w.heap[b]? = some (.cells vs U fz)) (h0:w0.heap.size ≤ b) (hl:lim b = 0) (cs:Array Value) :
  SW w0 lim0 (w.setRow b cs) lim ∧ Ext w lim (w.setRow b cs) lim:=by
 have hs:(w.setRow b cs).heap.size = w.heap.size:=by simp [World.setRow]
 have hoth:∀ c,c ≠ b → (w.setRow b cs).heap[c]? = w.heap[c]? := fun c hc => setRow_other w b c cs hc
 have hE:Ext w lim (w.setRow b cs) lim:=⟨by omega,fun c o ho => by
   have:c ≠ b:=fun e => by subst e; omega
   simp only [World.cell?,hoth c this],fun _ _ h => h,fun c T hT => by
   by_cases e:c = b
   ·subst e
    simp only [Z8,hb] at hT
    simp only [Z8,setRow_heap w c vs cs U fz hb]; exact hT
   ·simp only [Z8,hoth c e]; exact hT,NF.row hb (setRow_heap w b vs cs U fz hb) hoth⟩
 exact ⟨⟨⟨by rw [hs]; exact h.keep.size,fun c hc => by rw [hoth c (by omega)]; exact h.keep.old c hc,by simp [World.setRow]; exact h.keep.same⟩,h.ext.trans hE,fun c hc => h.lz c (by omega),h.lies.mono hE⟩,hE⟩
theorem Loose.box {w1 w2 w:World} (h:Loose w1 w2 w) {b:Nat} {cs:Array Value} (hb:w2.heap.size ≤ b) (h12:w1.heap.size ≤ w2.heap.size):Loose w1 w2 (w.setRow b cs):=by
 have hoth:∀ c,c ≠ b → (w.setRow b cs).heap[c]? = w.heap[c]? := fun c hc => setRow_other w b c cs hc
 have hc:∀ c o v,w2.cell? ⟨c,o,none⟩ = some v → (w.setRow b cs).cell? ⟨c,o,none⟩ = w.cell? ⟨c,o,none⟩:=fun c o v hv => by
  obtain ⟨vs,T,fz,h1,_⟩:=Yc hv
  have:=ZJ h1
  simp only [World.cell?,hoth c (by omega)]
 refine ⟨⟨by simp [World.setRow]; exact h.keep.size,fun c hcs => by rw [hoth c (by omega)]; exact h.keep.old c hcs,by simp [World.setRow]; exact h.keep.same⟩,by simp [World.setRow]; exact h.size,fun c o k m hv => ?_,fun c o s hv => ?_,fun c o A l cc hv => ?_,fun c o hcs => ?_⟩
 ·rw [hc _ _ _ hv]; exact h.int _ _ _ _ hv
 ·rw [hc _ _ _ hv]; exact h.str _ _ _ hv
 ·rw [hc _ _ _ hv]; exact h.sl _ _ _ _ _ hv
 ·rw [Qm (hoth c (by omega)) o]; exact h.frz c o hcs
def Bts (w:World) (v:Value) (E:List Int):Prop := ∃ lim,Rt w lim (.sl (.int .u8)) E [v]
theorem Bts.next {w w':World} {v:Value} {E:List Int} (h:Bts w v E) (k:Keep w w'):Bts w' v E:=by
 obtain ⟨lim,A,n,c,e,hl,hc,h⟩:=h
 refine ⟨lim,A,n,c,e,hl,hc,?_⟩
 rcases h with h | ⟨b,o,ho,h⟩
 ·exact .inl h
 ·refine .inr ⟨b,o,ho,fun i hi => ?_⟩
  obtain ⟨cs,h1,h2⟩:=h i hi
  exact ⟨cs,h1,fun j u hj => ⟨WA k (h2 j u hj).1,(h2 j u hj).2⟩⟩
theorem Zay {k:Nat} {w0:World} {lim0:Nat → Nat} {w:World} {lim:Nat → Nat} (h:SW w0 lim0 w lim) {x:Trk} {cs:List Value} (hr:Rt w lim trackT x cs) :
  Calls Tryd.prog 20 [Hy cs.toArray].toArray w fun en w' => ∃ v,en = .returned v ∧ Keep w w' ∧ ∃ lim' cs',SW w0 lim0 w' lim' ∧ Ext w lim w' lim' ∧ v = .agg cs'.toArray ∧ Rt w' lim' trackT x cs':=by
 refine (Wf (Zcr k) (x:=(x,())) (ZnE (k:=k)) rfl h.lz h.lies (vs:=[.agg cs.toArray]) ⟨[],[],rfl,KH hr,rfl⟩).mono ?_
 rintro en w' ⟨v,rfl,kp,lim',b1,hE,hz,hl,hT,-,-⟩
 obtain ⟨cs',h1,rfl,_⟩:=XO hT
 exact ⟨_,rfl,kp,lim',cs',h.calls kp hE hz,hE,rfl,h1⟩
theorem ZbT {k:Nat} (hk:16777216 ≤ k) {w0:World} {lim0:Nat → Nat} {w:World} {lim:Nat → Nat} (h:SW w0 lim0 w lim) {x:Trk} (hS:Small x.2.1 x.2.2.1) {cs cs':List Value} (hr:Rt w lim trackT x cs) (hr':Rt w lim trackT x cs') :
  Calls Tryd.prog 19 [Hy cs.toArray,.agg cs'.toArray].toArray w fun en w' => ∃ v,en = .returned v ∧ Keep w w' ∧ v = .bool true:=by
 refine (Wf (Zcq k) (x:=(x,x,())) (Zo1 hk hS) rfl h.lz h.lies (vs:=[.agg cs.toArray,.agg cs'.toArray]) ⟨[],[],rfl,KH hr,[],[],rfl,KH hr',rfl⟩).mono ?_
 rintro en w' ⟨v,rfl,kp,lim',b1,hE,hz,hl,hT,-,-⟩
 exact ⟨_,rfl,kp,ZaB hT⟩
theorem Q6 {w:World} {lim:Nat → Nat} {x:Trk} {cs:List Value} (h:Rt w lim trackT x cs):cs.length = 5:=h.length
def lmB (cc n:Nat):Nat → Nat:=fun b => if b = cc then n else 0
theorem Zmt {w:World} {cc n:Nat} (h:cc < w.heap.size):∀ b,w.heap.size ≤ b → lmB cc n b = 0:=fun b hb => by
 unfold lmB; rw [if_neg (by omega)]
theorem Zdx {w:World} {cc n:Nat}:Zbn w (lmB cc n):=fun g j m hj => by
 have:(([]:List Int))[j]? = some m:=hj
 simp at this
theorem Za6 {w:World} {cc cap:Nat} {E:List Int} {zs:List Value} {U:TypeId} {fz:Nat × Nat} (hcap:E.length ≤ cap) (hcc:w.heap[cc]? = some (.cells (E.map (Jw .u8) ++ zs).toArray U fz)) {lim:Nat → Nat} (hl:E.length ≤ lim cc):Rt w lim (.sl (.int .u8)) E [.slice (some ⟨cc,0,none⟩) E.length cap]:=by
 refine ⟨some ⟨cc,0,none⟩,E.length,cap,rfl,rfl,hcap,.inr ⟨cc,0,rfl,fun i hi => ⟨[.int .u8 E[i]],rfl,fun j v hj => ?_⟩⟩⟩
 match j,hj with
 | 0,hj =>
  simp at hj; subst hj
  have e1:0 + i * (Ty.int .u8).size + 0 = i:=by simp [Ty.size]
  rw [e1,Wp hcc,HC (by simpa using hi),Vi,VP hi]
  exact ⟨rfl,by omega⟩
 | j + 1,hj => simp at hj
theorem Za7 (cc n:Nat):n ≤ lmB cc n cc:=by simp [lmB]
theorem Zgu {k:Nat} {w:World} {x:Trk} {E:List Int} (hS:Small x.2.1 x.2.2.1) (hF:ZeC k (E,()) = some ((x,0,()),())) {cc cap:Nat} (hcap:E.length ≤ cap) {zs:List Value} {fz:Nat × Nat} {U:TypeId} (hcc:w.heap[cc]? = some (.cells (E.map (Jw .u8) ++ zs).toArray U fz)) :
  Calls Tryd.prog 18 [V6 (some ⟨cc,0,none⟩) E.length cap].toArray w fun en w' => ∃ v,en = .returned v ∧ Keep w w' ∧ ∃ A3 n3 c3 A4 n4 c4,v = .tuple [.agg [Jw .i64 x.1.1,.int .i64 x.1.2.1,.int .i64 x.1.2.2.1,.slice A3 n3 c3,.slice A4 n4 c4].toArray,.int .i64 0].toArray ∧ Zeq w w' w'.heap.size A4 n4:=by
 have hz1:=Zmt (n:=E.length) (ZJ hcc)
 have hlies:=Zdx (w:=w) (cc:=cc) (n:=E.length)
 have hc:∀ b o v,o < lmB cc E.length b → w.cell? ⟨b,o,none⟩ = some v → ∃ m,v = .int .u8 m:=fun b o v ho hv => by
  unfold lmB at ho
  split at ho
  ·rename_i e
   subst e
   rw [Wp hcc,HC (by simpa using ho),Vi] at hv
   cases he:E[o]? with
   | none => rw [he] at hv; cases hv
   | some m => rw [he] at hv; cases hv; exact ⟨m,rfl⟩
  ·omega
 refine (Wf (Zcp k) (x:=(E,())) hF rfl hz1 hlies (vs:=[.slice (some ⟨cc,0,none⟩) E.length cap]) ⟨[],[],rfl,Zhi (Za6 hcap hcc (Za7 _ _)),rfl⟩).mono ?_
 rintro en w' ⟨v,rfl,kp,l2,b1,hE,hz2,hl,hT,-,-⟩
 have hT:TT w' l2 (.tup [.view trackT x,.view (.int .i64) 0]) v b1:=hT
 obtain ⟨v1,v2,x1,x2,rfl,t1,t2⟩:=Zii hT
 obtain ⟨cs,hr,rfl,_⟩:=XO t1
 obtain ⟨rfl,_⟩:=YC t2
 obtain ⟨slT,slC,rfl,hrT,hrC⟩:=ZdV hr
 obtain ⟨A3,n3,c3,e3,q3⟩:=hrT
 obtain ⟨A4,n4,c4,e4,q4⟩:=hrC
 cases e3; cases e4
 exact ⟨_,rfl,kp,A3,n3,c3,A4,n4,c4,rfl,Zo0 (xs:=x.2.2.1) hE hz2 hl hz1 hc (by have:=hS.cl; omega) (fun l hl => by have:=hS.chan l hl; omega) ⟨A4,n4,c4,rfl,q4⟩⟩
theorem Zg0 {w w':World} {bx:Nat} (hbx:bx < w.heap.size) {lim:Nat → Nat} {sh:Bool} {E:List Int} {v:Value} {bs:List Nat} (h:TT w' lim (.own (.int .u8) sh E) v bs) (hn:∀ b ∈ bs,w.heap.size ≤ b):∃ A cap,v = .slice A E.length cap ∧ Zgj w w' bx A E.length:=by
 simp only [TT] at h
 obtain ⟨_,h | ⟨b,off,cap,vs,U,fz,h1,h2,h3,h4,h5,h6,h7,h8⟩⟩:=h
 ·obtain ⟨rfl,rfl,rfl⟩:=h
  exact ⟨none,0,rfl,by simp,fun k hk => by simp at hk⟩
 ·have hb:=h5.big
  have e1:(Ty.int .u8).size = 1:=rfl
  rw [e1] at hb h4
  refine ⟨some ⟨b,off,none⟩,cap,h1,by omega,fun k hk => ⟨b,off,E[k],rfl,?_,hn b (by rw [h8]; simp),ZJ h3,KQ h3 (by
   have:=h5.free (off + k) (by omega); simpa using this),by
   have:=hn b (by rw [h8]; simp)
   omega⟩⟩
  have h6:(vs.toList.drop (off + k * 1)).take 1 = [.int .u8 E[k]]:=h6 k hk
  rw [Wp h3]
  rw [VW] at h6
  have:((vs.toList.drop (off + k)).take 1)[0]? = vs.toList[off + k]? := by simp [List.getElem?_take,Jp]
  rw [← this,h6]; rfl
theorem Zjw {w w':World} {lim:Nat → Nat} {a b:RV} {v:Value} {bs:List Nat} (h:TT w' lim (.tup [a,b]) v bs) (hn:∀ b ∈ bs,w.heap.size ≤ b):∃ v1 v2 x1 x2,v = .tuple [v1,v2].toArray ∧ TT w' lim a v1 x1 ∧ TT w' lim b v2 x2 ∧ ∀ b ∈ x1,w.heap.size ≤ b:=by
 simp only [TT] at h
 obtain ⟨us,rfl,h⟩:=h
 match us,h with
 | [v1,v2],h =>
  obtain ⟨x1,y1,rfl,t1,x2,y2,rfl,t2,rfl⟩:=h
  exact ⟨v1,v2,x1,x2,rfl,t1,t2,fun b hb => hn b (by simp [hb])⟩
theorem Zid {k:Nat} {w:World} {bx:Nat} (hbx:bx < w.heap.size) {E S:List Int} {er:Int} (hF:ZeB k (E,0,0,()) = some ((S,er,()),())) {cc cap:Nat} (hcap:E.length ≤ cap) {zs:List Value} {fz:Nat × Nat} {U:TypeId} (hcc:w.heap[cc]? = some (.cells (E.map (Jw .u8) ++ zs).toArray U fz)) :
  Calls Tryd.prog 16 [V6 (some ⟨cc,0,none⟩) E.length cap,.int .i64 0,.int .i64 0].toArray w fun en w' => ∃ v,en = .returned v ∧ Keep w w' ∧ ∃ A n c,v = .tuple [.slice A n c,.int .i64 er].toArray ∧ Zgj w w' bx A n:=by
 refine (Wf (ZiA k) (x:=(E,(0:Int),(0:Int),())) hF rfl (Zmt (n:=E.length) (ZJ hcc)) Zdx (vs:=[.slice (some ⟨cc,0,none⟩) E.length cap,.int .i64 0,.int .i64 0]) ⟨[],[],rfl,Zhi (Za6 hcap hcc (Za7 _ _)),[],[],rfl,ZmT 0,[],[],rfl,ZmT 0,rfl⟩).mono ?_
 rintro en w' ⟨v,rfl,kp,l2,b1,hE,hz2,hl,hT,-,hn⟩
 have hT:TT w' l2 (.tup [.own (.int .u8) false S,.view (.int .i64) er]) v b1:=hT
 obtain ⟨v1,v2,x1,x2,rfl,t1,t2,hn1⟩:=Zjw hT hn
 obtain ⟨A,c,rfl,hR⟩:=Zg0 hbx t1 hn1
 obtain ⟨rfl,_⟩:=YC t2
 exact ⟨_,rfl,kp,A,_,c,rfl,hR⟩
theorem Zj2 {k:Nat} {w:World} {bx:Nat} (hbx:bx < w.heap.size) {E S:List Int} {er:Int} (hF:ZeD k (E,E,()) = some ((S,er,()),())) {cc cap:Nat} (hcap:E.length ≤ cap) {zs:List Value} {fz:Nat × Nat} {U:TypeId} (hcc:w.heap[cc]? = some (.cells (E.map (Jw .u8) ++ zs).toArray U fz)) :
  Calls Tryd.prog 23 [V6 (some ⟨cc,0,none⟩) E.length cap,V6 (some ⟨cc,0,none⟩) E.length E.length].toArray w fun en w' => ∃ v,en = .returned v ∧ Keep w w' ∧ ∃ A n c,v = .tuple [.slice A n c,.int .i64 er].toArray ∧ Zgj w w' bx A n:=by
 refine (Wf (ZiE k) (x:=(E,E,())) hF rfl (Zmt (n:=E.length) (ZJ hcc)) Zdx (vs:=[.slice (some ⟨cc,0,none⟩) E.length cap,.slice (some ⟨cc,0,none⟩) E.length E.length]) ⟨[],[],rfl,Zhi (Za6 hcap hcc (Za7 _ _)),[],[],rfl,Zhi (Za6 (Jj _) hcc (Za7 _ _)),rfl⟩).mono ?_
 rintro en w' ⟨v,rfl,kp,l2,b1,hE,hz2,hl,hT,-,hn⟩
 have hT:TT w' l2 (.tup [.own (.int .u8) false S,.view (.int .i64) er]) v b1:=hT
 obtain ⟨v1,v2,x1,x2,rfl,t1,t2,hn1⟩:=Zjw hT hn
 obtain ⟨A,c,rfl,hR⟩:=Zg0 hbx t1 hn1
 obtain ⟨rfl,_⟩:=YC t2
 exact ⟨_,rfl,kp,A,_,c,rfl,hR⟩
theorem Zb6 {w w':World} (k:Keep w w') {b o:Nat} (hb:b < w.heap.size):w'.frozen? ⟨b,o,none⟩ = w.frozen? ⟨b,o,none⟩:=Qm (k.old b hb) o
theorem Zgj.next {w0 w1 w2 w3:World} {bx:Nat} {A:Option Addr} {n:Nat} (h:Zgj w1 w2 bx A n) (k0:Keep w0 w1) (k:Keep w2 w3):Zgj w0 w3 bx A n:=⟨h.1,fun i hi => by
 obtain ⟨b,o,m,e,h1,h2,h3,h4,h5⟩:=h.2 i hi
 exact ⟨b,o,m,e,WA k h1,VJ k0.size h2,V1 h3 k.size,(Zb6 k h3).trans h4,h5⟩⟩
theorem Zjz.next {w0 w1 w2 w3:World} {bx:Nat} {A:Option Addr} {n:Nat} (h:Zjz w1 w2 bx A n) (k0:Keep w0 w1) (k:Keep w2 w3):Zjz w0 w3 bx A n:=⟨h.1,fun i hi => by
 obtain ⟨b,o,m,e,h1,h2,h3,h4,h5⟩:=h.2 i hi
 exact ⟨b,o,m,e,WA k h1,VJ k0.size h2,V1 h3 k.size,(Zb6 k h3).trans h4,h5⟩⟩
theorem Zeq.next {w0 w1 w2 w3:World} {bx:Nat} {A:Option Addr} {n:Nat} (h:Zeq w1 w2 bx A n) (k0:Keep w0 w1) (k:Keep w2 w3):Zeq w0 w3 bx A n:=⟨h.1,fun i hi => by
 obtain ⟨bo,oo,A',len,cap,e,h1,h2⟩:=h.2 i hi
 exact ⟨bo,oo,A',len,cap,e,WA k h1,h2.next k0 k⟩⟩
theorem Zmm {k:Nat} (hk:16777216 ≤ k) {w0:World} {lim0:Nat → Nat} {w:World} {lim:Nat → Nat} (h:SW w0 lim0 w lim) {ch:List (List Int)} (h1:ch.length ≤ 1048576) (h2:∀ c ∈ ch,c.length ≤ 1048576) {a b:Value} (ha:Rt w lim (.sl (.sl (.int .i64))) ch [a]) (hb:Rt w lim (.sl (.sl (.int .i64))) ch [b]) :
  Calls Tryd.prog 25 [Hy [Jw .i64 0,a].toArray,.agg [Jw .i64 0,b].toArray].toArray w fun en w' => ∃ v,en = .returned v ∧ Keep w w' ∧ v = .bool true:=by
 have rtf:∀ v,Rt w lim (.sl (.sl (.int .i64))) ch [v] → TT w lim (.view ZfN ((0,ch,()):Int × List (List Int) × Unit)) (.agg [Jw .i64 0,v].toArray) []:=fun v hv => by
  have:Rt w lim ZfN ((0,ch,()):Int × List (List Int) × Unit) [Jw .i64 0,v]:=⟨[.int .i64 0],[v],rfl,rfl,[v],[],rfl,hv,rfl⟩
  simp only [TT]
  exact ⟨⟨_,this,.inl ⟨rfl,rfl⟩⟩,trivial⟩
 refine (Wf (ZiI k) (x:=((0,ch,()),(0,ch,()),())) (Zgz hk 0 ch h1 h2) rfl h.lz h.lies (vs:=[.agg [Jw .i64 0,a].toArray,.agg [Jw .i64 0,b].toArray]) ⟨[],[],rfl,rtf a ha,[],[],rfl,rtf b hb,rfl⟩).mono ?_
 rintro en w' ⟨v,rfl,kp,lim',b1,hE,hz,hl,hT,-,-⟩
 exact ⟨_,rfl,kp,ZaB hT⟩
end Go.Sh
namespace Go.Sh
open Go
section
variable [Gl]
variable {P:Program} {n:Nat} {Q:Exit → En → World → Prop} {e:En} {w:World} {ops:Array Oper} {rest:List Oper} {o:Oper} {d:Nat}
def Unw (gs:Array Oper) (o:Oper) (e:En):Prop := ∃ p want d,o.guard = some (p,want) ∧ (gs[p]?).bind (·.dst) = some d ∧ e d = .bool (!want)
def QL2 (P:Program) (gs:Array Oper) (ld:List Nat) (D:Nat → Nat) (qv:Nat → Value) (Ph:Nat → En → World → Prop):Nat → List Oper → Prop
 | _,[] => True
 | i,o :: l => (ld.contains i = false → ∀ m e w,Ph m e w → (∀ j,(Z0 o).contains j = true → ld.contains j = false → e (D j) = qv j) → (∀ j,(Z0 o).contains j = true → ∀ p,ld[p]? = some j → p < m) → (∀ p j oj,ld[p]? = some j → gs[j]? = some oj → (Z0 oj).contains i = true → m ≤ p) → ((Q4 gs o e ∧ (execOp (ev e) o).run P w = .ok (.value (qv i)) w) ∨ (Unw gs o e ∧ qv i = undef))) ∧ QL2 P gs ld D qv Ph (i + 1) l
theorem QL2.at {ld:List Nat} {D:Nat → Nat} {qv:Nat → Value} {Ph:Nat → En → World → Prop} {gs:Array Oper} : {l:List Oper} → {k:Nat} → QL2 P gs ld D qv Ph k l → ∀ {i:Nat} {o:Oper},l[i]? = some o →
  (ld.contains (k + i) = false → ∀ m e w,Ph m e w → (∀ j,(Z0 o).contains j = true → ld.contains j = false → e (D j) = qv j) → (∀ j,(Z0 o).contains j = true → ∀ p,ld[p]? = some j → p < m) → (∀ p j oj,ld[p]? = some j → gs[j]? = some oj → (Z0 oj).contains (k + i) = true → m ≤ p) → ((Q4 gs o e ∧ (execOp (ev e) o).run P w = .ok (.value (qv (k + i))) w) ∨ (Unw gs o e ∧ qv (k + i) = undef)))
 | [],k,_,i,o,h => by simp at h
 | o' :: l,k,hq,0,o,h => by simp at h; subst h; exact hq.1
 | o' :: l,k,hq,i + 1,o,h => by
  have:=QL2.at (k:=k + 1) hq.2 (i:=i) (o:=o) (by simpa using h)
  rw [show k + (i + 1) = k + 1 + i by omega]; exact this
theorem T.mixed2 {id:Nat} {l:List Oper} (ld:List Nat) (D:Nat → Nat) (qv:Nat → Value) (Ph:Nat → En → World → Prop) (hm:P.follows .mixedOrders = true) (chk:Zja n l ld D = true)
  (h0:Ph 0 e (drw w)) (hs:∀ m e w i v,i < l.length → ld.contains i = false → Ph m e w → Ph m (upd e (D i) v) w)
  (hq:QL2 P l.toArray ld D qv Ph 0 l) (hl:LL P n Q l ld D qv Ph 0 ld)
  (hQ:∀ e w,Ph ld.length e w → (∀ i,i < l.length → ld.contains i = false → e (D i) = qv i) → Q .normal e w):T P n (.region id l.toArray true) Q e w:=by
 have K:=ZdC chk
 intro a ha
 refine wp_region_any hm ?_
 let I:Array Bool → Act → World → Prop:=fun listed a w => listed.size = l.length ∧ ∃ e m,X n e a ∧ m ≤ ld.length ∧ Ph m e w ∧ (∀ p i,ld[p]? = some i → (listed.getD i true = true ↔ p < m)) ∧ (∀ j oj,l[j]? = some oj → listed.getD j true = true → ∀ p ∈ Z0 oj,listed.getD p true = true) ∧
  ∀ i,i < l.length → ld.contains i = false → listed.getD i true = true → e (D i) = qv i
 have fin:∀ listed a w,I listed a w → (∀ i,i < l.length → listed.getD i true = true) → Zef n Q .normal a w:=by
  rintro listed a w ⟨hsz,e,m,hx,hm,hP,hld,hdn,hv⟩ hall
  have em:m = ld.length:=by
   rcases VO m ld.length with h | h
   ·have:=(hld m ld[m] (VP h)).1 (hall _ (K.inl _ (U4 h)))
    omega
   ·omega
  subst em
  exact ⟨e,hx,hQ e w hP fun i hi hc => hv i hi hc (hall i hi)⟩
 have main:∀ fuel listed a w,I listed a w → (left l.length listed).length ≤ fuel → wpAny P .any l.toArray (Zef n Q) fuel listed a w:=by
  intro fuel
  induction fuel with
  | zero =>
   intro listed a w hI hf
   have hl0:left l.length listed = []:=List.eq_nil_of_length_eq_zero (by omega)
   have hall:∀ i,i < l.length → listed.getD i true = true:=by
    intro i hi
    have:i ∉ left l.length listed:=by rw [hl0]; simp
    simpa [left,hi] using this
   refine ⟨?_,fin listed a w hI hall⟩
   cases hr:Region.ready .any l.toArray listed with
   | nil => rfl
   | cons i r =>
    obtain ⟨o,ho,hli,_⟩:=Xy (i:=i) (by rw [hr]; exact Jm ..)
    have hi:i < l.length:=by
     have:=(UG.1 ho).1; simpa using this
    rw [hall i hi] at hli; cases hli
  | succ fuel ih =>
   intro listed a w hI hf
   refine ⟨fun hr => fin listed a w hI ?_,?_⟩
   ·intro i
    induction i using Nat.strongRecOn with
    | _ i ihi =>
     intro hi
     cases hli:listed.getD i true with
     | true => rfl
     | false =>
      have ho:l.toArray[i]? = some l[i]:=by simp [hi]
      have:=ZdR (listed:=listed) ho hli (fun p hp => by
       have hpi:=K.back i l[i] (by simp [hi]) p hp
       have:=ihi p hpi (by omega)
       rw [VM] at this ⊢
       have hsz:=hI.1
       rw [UF (by omega)] at this ⊢
       exact this)
      rw [hr] at this; cases this
   ·intro i hi
    obtain ⟨o,ho,hli,hpr⟩:=Xy hi
    have ho':l[i]? = some o:=by simpa using ho
    have hil:i < l.length:=(Uq.1 ho').1
    obtain ⟨hsz,e,m,hx,hm,hP,hld,hdn,hv⟩:=hI
    have hT:∀ p ∈ Z0 o,listed.getD p true = true:=fun p hp => by
     have hpi:=K.back i o ho' p hp
     have:=hpr p hp
     rw [VM] at this ⊢
     rw [UF (by omega)] at this ⊢
     exact this
    have hpq:∀ j,(Z0 o).contains j = true → ld.contains j = false → e (D j) = qv j:=fun j hj hc => hv j (Nat.lt_trans (K.back i o ho' j (by simpa using hj)) hil) hc (hT j (by simpa using hj))
    have hlen:(left l.length (listed.setIfInBounds i true)).length ≤ fuel:=by
     obtain ⟨pre,post,e1,e2,_⟩:=Zao hil hli
     rw [e1] at hf; rw [e2]; simp at hf ⊢; omega
    have hdn':∀ j oj,l[j]? = some oj → (listed.setIfInBounds i true).getD j true = true → ∀ p ∈ Z0 oj,(listed.setIfInBounds i true).getD p true = true:=fun j oj hj hlj p hp => by
     rw [QN hli] at hlj ⊢
     by_cases hip:i = p
     ·simp [hip]
     ·simp only [hip,if_false]
      by_cases hij:i = j
      ·subst hij; rw [ho'] at hj; cases hj; exact hT p hp
      ·simp only [hij,if_false] at hlj; exact hdn j oj hj hlj p hp
    unfold wpOp
    simp only [ho]
    cases hc:ld.contains i with
    | false =>
     obtain ⟨hd,hn⟩:=K.dst i o ho' hc
     have hrun:=QL2.at hq ho' (by rw [Uc]; exact hc) m e w hP hpq (fun j hj p hp => (hld p j hp).1 (hT j (by simpa using hj))) (fun p j oj hp hj hc => by
      rcases VO p m with h | h
      ·have:=hdn j oj (by simpa using hj) ((hld p j hp).2 h) i (by simpa using hc)
       rw [this] at hli; cases hli
      ·exact h)
     rw [Uc] at hrun
     have fin2:wpAny P .any l.toArray (Zef n Q) fuel (listed.setIfInBounds i true) (a.put (some (D i)) (qv i)) w:=by
      refine ih _ _ _ ⟨by simp [hsz],upd e (D i) (qv i),m,hx.put hn _,hm,hs m e w i _ hil hc hP,fun p j hp => ?_,hdn',fun j hj hcj hlj => ?_⟩ hlen
      ·rw [QN hli]
       have:i ≠ j:=by
        intro h; subst h
        have:=Vx hp
        simp at hc; exact hc this
       simp only [this,if_false]
       exact hld p j hp
      ·by_cases hij:i = j
       ·subst hij; exact ZY ..
       ·rw [QN hli] at hlj
        simp only [hij,if_false] at hlj
        rw [Zn _ _ (fun h => K.apart i o j ho' hj hij hcj (by rw [hd,h]))]
        exact hv j hj hcj hlj
     rcases hrun with ⟨hgu,hrun⟩ | ⟨⟨p,want,d0,hg1,hg2,hg3⟩,hqu⟩
     ·rw [if_pos (hgu.wanted hx)]
      refine .inl ?_
      unfold Oper.wp
      rw [hx.eval,hrun,Oper.upon_value,hd]
      exact fin2
     ·rw [if_neg (by rw [Zhk hg1 hg2 hg3 hx]; simp),hd,← hqu]
      exact fin2
    | true =>
     have hmem:i ∈ ld:=by simpa using hc
     obtain ⟨q,hq1,hq2⟩:=List.mem_iff_getElem.1 hmem
     have hqi:ld[q]? = some i:=by rw [VP hq1,hq2]
     have hqm:q = m:=by
      have h1:¬ q < m:=fun h => by rw [(hld q i hqi).2 h] at hli; cases hli
      cases q with
      | zero => omega
      | succ q =>
       have hp:ld[q]? = some ld[q]:=VP (by omega)
       have:=(hld q _ hp).1 (hT _ (K.chain q i _ o hqi hp ho'))
       omega
     subst hqm
     have hLo:=LL.at hl hqi o ho' e w (by rw [Uc]; exact hP) hpq
     rw [Uc] at hLo
     obtain ⟨hgu,hLo⟩:=hLo
     rw [if_pos (hgu.wanted hx)]
     refine .inl ?_
     refine Oper.wp_mono ?_ (hLo a hx)
     rintro a' w' ⟨e',hx',hsame,hP'⟩
     refine ih _ _ _ ⟨by simp [hsz],e',q + 1,hx',by omega,hP',fun p j hp => ?_,hdn',fun j hj hcj hlj => ?_⟩ hlen
     ·rw [QN hli]
      by_cases hij:i = j
      ·subst hij
       simp only [if_true,true_iff]
       have:p = q:=by
        exact ((List.getElem?_inj hq1 K.nd).1 (by rw [hqi,hp])).symm
       omega
      ·simp only [hij,if_false]
       rw [hld p j hp]
       have:p ≠ q:=fun h => by subst h; rw [hqi] at hp; cases hp; exact hij rfl
       omega
     ·have hij:i ≠ j:=fun h => by subst h; rw [hc] at hcj; cases hcj
      rw [QN hli] at hlj
      simp only [hij,if_false] at hlj
      rw [hsame _ (K.apart i o j ho' hj hij hcj)]
      exact hv j hj hcj hlj
 refine main _ _ _ _ ⟨by simp,e,0,ha,UV _,h0,fun p i hp => ?_,fun j oj hj hlj => ?_,fun i hi hc hli => ?_⟩ ?_
 ·have:=K.inl i (Vx hp)
  simp [VM,this]
 ·have hj':=(Uq.1 hj).1
  simp [VM,hj'] at hlj
 ·simp [VM,hi] at hli
 ·simp only [left,List.size_toArray]
  exact VJ (List.length_filter_le _ _) (by simp)
end
end Go.Sh
namespace Go.Sh
open Go Go.Proofs
noncomputable def Zp6:Code:=cl (cr (cr (cr (cr v9))))
set_option maxRecDepth 20000 in
theorem Zp9 {k:Nat} (hk:16777216 ≤ k) {w0:World} {lim0:Nat → Nat} {w:World} {lim:Nat → Nat} (h:SW w0 lim0 w lim) {x:Trk} (hS:Small x.2.1 x.2.2.1) {b1 b3:Nat} {ct ci:List Value} (hb1:w.heap[b1]? = some (.cells ct.toArray 27 (0,0))) (hb3:w.heap[b3]? = some (.cells ci.toArray 35 (0,0)))
  (hrt:Rt w lim trackT x ct) (hri:Rt w lim trackT x ci) {e:En} (h1:e 1 = .pointer (some ⟨b1,0,none⟩)) (h3:e 3 = .pointer (some ⟨b3,0,none⟩)) {Q:Exit → En → World → Prop} (hQ:∀ e' w',e' 2 = .bool true → Keep w w' → Q .ret e' w') :
  T Tryd.prog 173 (match cr Zp6 with | .cond _ a _ => a | c => c) Q e w:=by
 let qv:Nat → Value:=fun j => match j with
  | 0 => .agg ci.toArray | 2 => .agg ct.toArray | _ => undef
 let Ph:Nat → En → World → Prop:=fun m e w' => e 1 = .pointer (some ⟨b1,0,none⟩) ∧ e 3 = .pointer (some ⟨b3,0,none⟩) ∧ Keep w w' ∧ match m with
  | 0 => True
  | 1 => ∃ lim' cs',SW w0 lim0 w' lim' ∧ Ext w lim w' lim' ∧ e 39 = .agg cs'.toArray ∧ Rt w' lim' trackT x cs'
  | 2 => e 41 = .bool true
  | 3 => e 2 = .bool true
  | _ => False
 refine T.seq (T.mixed [1,3,4] (fun j => 38 + j) qv Ph YP (by kernel_rfl) ?_ ?_ ?_ ?_ ?_)
 ·exact ⟨h1,h3,Keep.drw w,trivial⟩
 ·rintro m e w' j v hj hc ⟨q1,q2,q3,q4⟩
  have hne:j ≠ 1 ∧ j ≠ 3 ∧ j ≠ 4:=by
   refine ⟨?_,?_,?_⟩ <;> (rintro rfl; simp at hc)
  have hj':j < 5:=hj
  refine ⟨(Zn e v (by omega)).trans q1,(Zn e v (by omega)).trans q2,q3,?_⟩
  match m,q4 with
  | 0,_ => trivial
  | 1,⟨lim,cs,a1,a2,a3,a4⟩ => exact ⟨lim,cs,a1,a2,(Zn e v (by omega)).trans a3,a4⟩
  | 2,a => exact (Zn e v (by omega)).trans a
  | 3,a => exact (Zn e v (by omega)).trans a
 ·refine ⟨fun _ m e w' hP hd hp _ => ⟨trivial,?_⟩,fun h => (by cases h),fun _ m e w' hP hd hp _ => ⟨trivial,?_⟩,fun h => (by cases h),fun h => (by cases h),trivial⟩
  ·exact KF (x:=.tmp 3) (cs:=ci) rfl hP.2.1 ((hP.2.2.1.old b3 (ZJ hb3)).trans hb3) (dd:=Tryd.prog.underlying 35 |>.getD default) (by kernel_rfl) (by kernel_rfl) (by rw [Q6 hri]; kernel_rfl) (by simp)
  ·exact KF (x:=.tmp 1) (cs:=ct) rfl hP.1 ((hP.2.2.1.old b1 (ZJ hb1)).trans hb1) (dd:=Tryd.prog.underlying 27 |>.getD default) (by kernel_rfl) (by kernel_rfl) (by rw [Q6 hrt]; kernel_rfl) (by simp)
 ·refine ⟨fun o ho e w' hP hd => ⟨?_,?_⟩,fun o ho e w' hP hd => ⟨?_,?_⟩,fun o ho e w' hP hd => ⟨?_,?_⟩,trivial⟩
  ·obtain rfl:=VG.inj ho; trivial
  ·obtain rfl:=VG.inj ho
   obtain ⟨q1,q2,q3,_⟩:=hP
   have hv:e 38 = .agg ci.toArray:=hd 0 rfl rfl
   refine Lo.call 39 (Z7 (args := #[.tmp 38]) rfl (Zcr k).enters) (by
    show Calls Tryd.prog 20 [e 38].toArray w' _
    rw [hv]; exact Zay (k:=k) (h.next q3) (hri.mono (h.ext1 q3))) ?_
   rintro v w'' ⟨kp,lim',cs',s1,s2,rfl,s3⟩
   exact ⟨(Zn _ _ (by decide)).trans q1,(Zn _ _ (by decide)).trans q2,q3.trans kp,lim',cs',s1,(h.ext1 q3).trans s2,ZY ..,s3⟩
  ·obtain rfl:=VG.inj ho; trivial
  ·obtain rfl:=VG.inj ho
   obtain ⟨q1,q2,q3,lim',cs',s1,s2,s3,s4⟩:=hP
   have hv:e 40 = .agg ct.toArray:=hd 2 rfl rfl
   refine Lo.call 41 (Z7 (args := #[.tmp 39,.tmp 40]) rfl (Zcq k).enters) (by
    show Calls Tryd.prog 19 [e 39,e 40].toArray w' _
    rw [s3,hv]; exact ZbT hk s1 hS s4 (hrt.mono s2)) ?_
   rintro v w'' ⟨kp,rfl⟩
   exact ⟨(Zn _ _ (by decide)).trans q1,(Zn _ _ (by decide)).trans q2,q3.trans kp,ZY ..⟩
  ·obtain rfl:=VG.inj ho; trivial
  ·obtain rfl:=VG.inj ho
   obtain ⟨q1,q2,q3,q4⟩:=hP
   refine Lo.val 2 (Zi (x:=.tmp 41) (.inr rfl) q4) ?_
   exact ⟨(Zn _ _ (by decide)).trans q1,(Zn _ _ (by decide)).trans q2,q3,ZY ..⟩
 ·rintro e w' ⟨q1,q2,q3,q4⟩ _
  exact T.ret (hQ _ _ q4 q3)
set_option maxRecDepth 20000 in
theorem Zp8 {k:Nat} (hk:16777216 ≤ k) {w0:World} {lim0:Nat → Nat} {w:World} {lim:Nat → Nat} (h:SW w0 lim0 w lim) {x:Trk} (hS:Small x.2.1 x.2.2.1) {b1 b3:Nat} {er:Int} {ct ci:List Value} (hb1:w.heap[b1]? = some (.cells ct.toArray 27 (0,0))) (hb3:w.heap[b3]? = some (.cells ci.toArray 35 (0,0)))
  (hrt:Rt w lim trackT x ct) (hri:Rt w lim trackT x ci) {Fe:List (Nat × Value)} (hFe:∀ p ∈ Fe,p.1 < 9) {e:En} (hat:At Fe e) (h1:(1,Hz (some ⟨b1,0,none⟩)) ∈ Fe) (h3:(3,Hz (some ⟨b3,0,none⟩)) ∈ Fe) (h5:(5,Jw .i64 er) ∈ Fe) {Q:Exit → En → World → Prop}
  (hQ:∀ e' w',e' 2 = .bool true → Keep w w' → Q .ret e' w') (hN:er = 0 → ∀ e' w',At Fe e' → Keep w w' → Q .normal e' w'):T Tryd.prog 173 Zp6 Q e w:=by
 let qv:Nat → Value:=fun j => match j with
  | 0 => .agg ci.toArray | 2 => .agg ct.toArray | _ => undef
 let Ph:Nat → En → World → Prop:=fun m e w' => At Fe e ∧ Keep w w' ∧ match m with
  | 0 => True
  | 1 => ∃ lim' cs',SW w0 lim0 w' lim' ∧ Ext w lim w' lim' ∧ e 30 = .agg cs'.toArray ∧ Rt w' lim' trackT x cs'
  | 2 => e 32 = .bool true
  | 3 => e 33 = .bool false
  | 4 => e 34 = .bool false
  | 5 => e 34 = .bool false ∧ e 35 = .int .i64 er
  | 6 => e 34 = .bool false ∧ e 36 = .bool (er != 0)
  | 7 => e 37 = .bool (er != 0)
  | _ => False
 refine T.seq (T.mixed [1,3,4,5,6,7,8] (fun j => 29 + j) qv Ph YP (by kernel_rfl) ?_ ?_ ?_ ?_ ?_)
 ·exact ⟨hat,Keep.drw w,trivial⟩
 ·rintro m e w' j v hj hc ⟨q1,q3,q4⟩
  have hne:j = 0 ∨ j = 2:=by
   have hj':j < 9:=hj
   have hn:j ≠ 1 ∧ j ≠ 3 ∧ j ≠ 4 ∧ j ≠ 5 ∧ j ≠ 6 ∧ j ≠ 7 ∧ j ≠ 8:=by refine ⟨?_,?_,?_,?_,?_,?_,?_⟩ <;> (rintro rfl; simp at hc)
   omega
  have ho:∀ s,s ≠ 29 → s ≠ 31 → upd e (29 + j) v s = e s:=fun s h h' => Zn e v (by rcases hne with rfl | rfl <;> omega)
  refine ⟨q1.same hFe (fun s hs => ho s (by omega) (by omega)),q3,?_⟩
  match m,q4 with
  | 0,_ => trivial
  | 1,⟨lim,cs,a1,a2,a3,a4⟩ => exact ⟨lim,cs,a1,a2,(ho 30 (by decide) (by decide)).trans a3,a4⟩
  | 2,a => exact (ho 32 (by decide) (by decide)).trans a
  | 3,a => exact (ho 33 (by decide) (by decide)).trans a
  | 4,a => exact (ho 34 (by decide) (by decide)).trans a
  | 5,⟨a,a'⟩ => exact ⟨(ho 34 (by decide) (by decide)).trans a,(ho 35 (by decide) (by decide)).trans a'⟩
  | 6,⟨a,a'⟩ => exact ⟨(ho 34 (by decide) (by decide)).trans a,(ho 36 (by decide) (by decide)).trans a'⟩
  | 7,a => exact (ho 37 (by decide) (by decide)).trans a
 ·refine ⟨fun _ m e w' hP hd hp _ => ⟨trivial,?_⟩,fun h => (by cases h),fun _ m e w' hP hd hp _ => ⟨trivial,?_⟩,fun h => (by cases h),fun h => (by cases h),fun h => (by cases h),fun h => (by cases h),fun h => (by cases h),fun h => (by cases h),trivial⟩
  ·exact KF (x:=.tmp 3) (cs:=ci) rfl (hP.1 _ h3) ((hP.2.1.old b3 (ZJ hb3)).trans hb3) (dd:=Tryd.prog.underlying 35 |>.getD default) (by kernel_rfl) (by kernel_rfl) (by rw [Q6 hri]; kernel_rfl) (by simp)
  ·exact KF (x:=.tmp 1) (cs:=ct) rfl (hP.1 _ h1) ((hP.2.1.old b1 (ZJ hb1)).trans hb1) (dd:=Tryd.prog.underlying 27 |>.getD default) (by kernel_rfl) (by kernel_rfl) (by rw [Q6 hrt]; kernel_rfl) (by simp)
 ·refine ⟨fun o ho e w' hP hd => ⟨?_,?_⟩,fun o ho e w' hP hd => ⟨?_,?_⟩,fun o ho e w' hP hd => ⟨?_,?_⟩,fun o ho e w' hP hd => ⟨?_,?_⟩,fun o ho e w' hP hd => ⟨?_,?_⟩,fun o ho e w' hP hd => ⟨?_,?_⟩,fun o ho e w' hP hd => ⟨?_,?_⟩,trivial⟩
  ·obtain rfl:=VG.inj ho; trivial
  ·obtain rfl:=VG.inj ho
   obtain ⟨q1,q3,_⟩:=hP
   have hv:e 29 = .agg ci.toArray:=hd 0 rfl rfl
   refine Lo.call 30 (Z7 (args := #[.tmp 29]) rfl (Zcr k).enters) (by
    show Calls Tryd.prog 20 [e 29].toArray w' _
    rw [hv]; exact Zay (k:=k) (h.next q3) (hri.mono (h.ext1 q3))) ?_
   rintro v w'' ⟨kp,lim',cs',s1,s2,rfl,s3⟩
   exact ⟨q1.same hFe (fun s hs => Zn _ _ (by omega)),q3.trans kp,lim',cs',s1,(h.ext1 q3).trans s2,ZY ..,s3⟩
  ·obtain rfl:=VG.inj ho; trivial
  ·obtain rfl:=VG.inj ho
   obtain ⟨q1,q3,lim',cs',s1,s2,s3,s4⟩:=hP
   have hv:e 31 = .agg ct.toArray:=hd 2 rfl rfl
   refine Lo.call 32 (Z7 (args := #[.tmp 30,.tmp 31]) rfl (Zcq k).enters) (by
    show Calls Tryd.prog 19 [e 30,e 31].toArray w' _
    rw [s3,hv]; exact ZbT hk s1 hS s4 (hrt.mono s2)) ?_
   rintro v w'' ⟨kp,rfl⟩
   exact ⟨q1.same hFe (fun s hs => Zn _ _ (by omega)),q3.trans kp,ZY ..⟩
  ·obtain rfl:=VG.inj ho; trivial
  ·obtain rfl:=VG.inj ho
   obtain ⟨q1,q3,q4⟩:=hP
   refine Lo.val 33 (Zp0 (x:=.tmp 32) rfl q4 (v:=.bool false) rfl) ?_
   exact ⟨q1.same hFe (fun s hs => Zn _ _ (by omega)),q3,ZY ..⟩
  ·obtain rfl:=VG.inj ho; trivial
  ·obtain rfl:=VG.inj ho
   obtain ⟨q1,q3,q4⟩:=hP
   refine Lo.val 34 (Zi (x:=.tmp 33) (.inl rfl) q4) ?_
   exact ⟨q1.same hFe (fun s hs => Zn _ _ (by omega)),q3,ZY ..⟩
  ·obtain rfl:=VG.inj ho; exact ⟨34,rfl,hP.2.2⟩
  ·obtain rfl:=VG.inj ho
   obtain ⟨q1,q3,q4⟩:=hP
   refine Lo.val 35 (Zi (x:=.tmp 5) (.inl rfl) (q1 _ h5)) ?_
   exact ⟨q1.same hFe (fun s hs => Zn _ _ (by omega)),q3,(Zn _ _ (by decide)).trans q4,ZY ..⟩
  ·obtain rfl:=VG.inj ho; exact ⟨34,rfl,hP.2.2.1⟩
  ·obtain rfl:=VG.inj ho
   obtain ⟨q1,q3,q4,q5⟩:=hP
   refine Lo.val 36 (WV (x:=.tmp 35) (y:=.const (.int .i64 0)) rfl q5 rfl rfl (v:=.bool (er != 0)) rfl) ?_
   exact ⟨q1.same hFe (fun s hs => Zn _ _ (by omega)),q3,(Zn _ _ (by decide)).trans q4,ZY ..⟩
  ·obtain rfl:=VG.inj ho; trivial
  ·obtain rfl:=VG.inj ho
   obtain ⟨q1,q3,q4,q5⟩:=hP
   refine Lo.val 37 (YQ (c:=.tmp 34) (a:=.const (.bool true)) (b:=.tmp 36) rfl q4 q5) ?_
   exact ⟨q1.same hFe (fun s hs => Zn _ _ (by omega)),q3,ZY ..⟩
 ·rintro e w' ⟨q1,q3,q4⟩ _
  by_cases h0:er = 0
  ·exact T.condF (by show e 37 = _; rw [q4,h0]; rfl) (T.skip (hN h0 _ _ q1 q3))
  ·refine T.condT (by show e 37 = _; rw [q4]; simp [h0]) ?_
   exact Zp9 hk (h.next q3) hS ((q3.old b1 (ZJ hb1)).trans hb1) ((q3.old b3 (ZJ hb3)).trans hb3) (hrt.mono (h.ext1 q3)) (hri.mono (h.ext1 q3)) (q1 _ h1) (q1 _ h3) (fun e' w'' a b => hQ e' w'' a (q3.trans b))
end Go.Sh
namespace Go.Sh
open Go Go.Proofs
theorem Zna (s:ByteArray):Wr Tryd.prog (binOp .eql 9 (.string s) (.string s)) = some (.bool true):=by
 have:Wr Tryd.prog (binOp .eql 9 (.string s) (.string s)) = some (.bool (s.toList == s.toList)):=by kernel_rfl
 rw [this]; simp
noncomputable def ZoQ:Array Field:=(match Tryd.prog.underlying 27 with | some (.struct fs) => fs | _ => #[])
theorem Zqj:Tryd.prog.underlying 27 = some (.struct ZoQ):=by kernel_rfl
noncomputable def ZoN (n:Nat):Field:=(ZoQ[n]?).getD default
theorem hvf:ZoQ[2]? = some (ZoN 2):=by kernel_rfl
theorem hvo:4 = 0 + (ZoN 2).offset:=by kernel_rfl
theorem hvz:Ja (Tryd.prog.cellsOf (ZoN 2).type) 0 = false:=by kernel_rfl
noncomputable def ZpR:Array Field:=(match Tryd.prog.underlying 63 with | some (.struct fs) => fs | _ => #[])
noncomputable def Zp4:Code:=v9P 4
def Zql (hh:Int) (vb:Value) (cc n cap:Nat) (E:List Int) (ct cv:List Value) (b1 b18:Nat) (slt slv:Value):Nat → Value:=fun j => match j with
  | 0 => .int .i64 0 | 1 => .bool true | 2 => .bool true | 3 => .int .i64 0 | 4 => .bool true | 5 => .bool true | 6 => .bool true
  | 7 => .int .i64 hh | 8 => .bool (hh == 0) | 9 => .bool (hh == 0) | 10 => bif hh == 0 then undef else .int .i64 hh | 11 => bif hh == 0 then undef else .bool (hh == 14) | 12 => .bool true | 13 => .bool true | 14 => .bool true
  | 15 => .int .i64 0 | 16 => .bool true | 17 => .bool true | 18 => .bool true | 19 => .slice (some ⟨cc,0,none⟩) n cap | 20 => .string (bytesOf E) | 21 => vb | 22 => .string (bytesOf E) | 23 => .bool true | 24 => .bool true | 25 => .bool true
  | 26 => .agg cv.toArray | 28 => .agg ct.toArray | 32 => .pointer (some ⟨b18,4,none⟩) | 33 => slv | 34 => .agg [Jw .i64 0,slv].toArray | 35 => .pointer (some ⟨b1,4,none⟩) | 36 => slt | 37 => .agg [Jw .i64 0,slt].toArray | _ => undef
set_option maxRecDepth 20000 in
set_option maxHeartbeats 2000000 in
theorem Zo9 {k:Nat} (hk:16777216 ≤ k) {w0:World} {lim0:Nat → Nat} {w:World} {lim:Nat → Nat} (h:SW w0 lim0 w lim) {x:Trk} (hS:Small x.2.1 x.2.2.1) {b1 b18 cc n cap:Nat} {ct cv:List Value} {E:List Int} {vb:Value} {vs:Array Value} {U:TypeId} {fz:Nat × Nat} {hh:Int} (hhh:hh = 0 ∨ hh = 14)
  (hb1:w.heap[b1]? = some (.cells ct.toArray 27 (0,0))) (hb18:w.heap[b18]? = some (.cells cv.toArray 35 (0,0))) (hrt:Rt w lim trackT x ct) (hrv:Rt w lim trackT x cv) (hE:Bts w vb E)
  (hcc:w.heap[cc]? = some (.cells vs U fz)) (hn:E.length = n) (hcap:n ≤ cap) (hcs:∀ i (h:i < E.length),vs.toList[0 + i]? = some (.int .u8 E[i]))
  {Fe:List (Nat × Value)} (hFe:∀ p ∈ Fe,p.1 < 20) (hF2:∀ p ∈ Fe,p.1 ≠ 2) {e:En} (hat:At Fe e) (h1:(1,Hz (some ⟨b1,0,none⟩)) ∈ Fe) (h4:(4,vb) ∈ Fe) (h6:(6,V6 (some ⟨cc,0,none⟩) n cap) ∈ Fe) (h5:(5,Jw .i64 0) ∈ Fe) (h9:(9,Jw .i64 0) ∈ Fe) (h11:(11,Jw .i64 hh) ∈ Fe)
  (h18:(18,Hz (some ⟨b18,0,none⟩)) ∈ Fe) (h19:(19,Jw .i64 0) ∈ Fe) {Q:Exit → En → World → Prop} (hQ:∀ e' w',e' 2 = .bool true → Keep w w' → Q .ret e' w'):T Tryd.prog 173 Zp4 Q e w:=by
 have hct5:ct.length = 5:=Q6 hrt
 have hcv5:cv.length = 5:=Q6 hrv
 obtain ⟨slTt,slt,hct,hrTt,hrCt⟩:=ZdV hrt
 obtain ⟨slTv,slv,hcv,hrTv,hrCv⟩:=ZdV hrv
 have hslt:∃ A l c,slt = .slice A l c:=by obtain ⟨A,l,c,e,_⟩:=hrCt; cases e; exact ⟨_,_,_,rfl⟩
 have hslv:∃ A l c,slv = .slice A l c:=by obtain ⟨A,l,c,e,_⟩:=hrCv; cases e; exact ⟨_,_,_,rfl⟩
 let Ph:Nat → En → World → Prop:=fun m e w' => At Fe e ∧ Keep w w' ∧ (4 ≤ m → e 164 = .bool true) ∧ match m with
  | 0 => True
  | 1 => ∃ lim' cs',SW w0 lim0 w' lim' ∧ Ext w lim w' lim' ∧ e 160 = .agg cs'.toArray ∧ Rt w' lim' trackT x cs'
  | 2 => e 162 = .bool true
  | 3 => e 163 = .bool true
  | 4 => True
  | 5 => e 171 = .bool true
  | 6 => e 172 = .bool true
  | 7 => e 2 = .bool true
  | _ => False
 refine T.seq (T.mixed2 [27,29,30,31,38,39,40] (fun j => 133 + j) (Zql hh vb cc n cap E ct cv b1 b18 slt slv) Ph YP (by kernel_rfl) ?_ ?_ ?_ ?_ ?_)
 ·exact ⟨hat,Keep.drw w,fun h => by omega,trivial⟩
 ·rintro m e w' j v hj hc ⟨q1,q3,q5,q4⟩
  have hj':j < 41:=hj
  have hn:j ≠ 27 ∧ j ≠ 29 ∧ j ≠ 30 ∧ j ≠ 31 ∧ j ≠ 38 ∧ j ≠ 39 ∧ j ≠ 40:=by refine ⟨?_,?_,?_,?_,?_,?_,?_⟩ <;> (rintro rfl; simp at hc)
  have ho:∀ s,(s < 133 ∨ s = 160 ∨ s = 162 ∨ s = 163 ∨ s = 164 ∨ s = 171 ∨ s = 172) → upd e (133 + j) v s = e s:=fun s h => Zn e v (by omega)
  refine ⟨q1.same hFe (fun s hs => ho s (by omega)),q3,fun h => (ho 164 (by simp)).trans (q5 h),?_⟩
  match m,q4 with
  | 0,_ => trivial
  | 1,⟨lim,cs,a1,a2,a3,a4⟩ => exact ⟨lim,cs,a1,a2,(ho 160 (by simp)).trans a3,a4⟩
  | 2,a => exact (ho 162 (by simp)).trans a
  | 3,a => exact (ho 163 (by simp)).trans a
  | 4,a => trivial
  | 5,a => exact (ho 171 (by simp)).trans a
  | 6,a => exact (ho 172 (by simp)).trans a
  | 7,a => exact (ho 2 (by simp)).trans a
 ·refine ⟨fun _ m e w' hP hd hp _ => .inl ⟨trivial,?_⟩,fun _ m e w' hP hd hp _ => .inl ⟨trivial,?_⟩,fun _ m e w' hP hd hp _ => .inl ⟨trivial,?_⟩,fun _ m e w' hP hd hp _ => .inl ⟨⟨135,rfl,hd 2 rfl rfl⟩,?_⟩,fun _ m e w' hP hd hp _ => .inl ⟨⟨135,rfl,hd 2 rfl rfl⟩,?_⟩,fun _ m e w' hP hd hp _ => .inl ⟨trivial,?_⟩,fun _ m e w' hP hd hp _ => .inl ⟨trivial,?_⟩,
   fun _ m e w' hP hd hp _ => .inl ⟨⟨139,rfl,hd 6 rfl rfl⟩,?_⟩,fun _ m e w' hP hd hp _ => .inl ⟨⟨139,rfl,hd 6 rfl rfl⟩,?_⟩,fun _ m e w' hP hd hp _ => .inl ⟨⟨139,rfl,hd 6 rfl rfl⟩,?_⟩,fun _ m e w' hP hd hp _ => ?_,fun _ m e w' hP hd hp _ => ?_,fun _ m e w' hP hd hp _ => .inl ⟨⟨139,rfl,hd 6 rfl rfl⟩,?_⟩,
   fun _ m e w' hP hd hp _ => .inl ⟨trivial,?_⟩,fun _ m e w' hP hd hp _ => .inl ⟨trivial,?_⟩,fun _ m e w' hP hd hp _ => .inl ⟨⟨147,rfl,hd 14 rfl rfl⟩,?_⟩,fun _ m e w' hP hd hp _ => .inl ⟨⟨147,rfl,hd 14 rfl rfl⟩,?_⟩,fun _ m e w' hP hd hp _ => .inl ⟨trivial,?_⟩,fun _ m e w' hP hd hp _ => .inl ⟨trivial,?_⟩,
   fun _ m e w' hP hd hp _ => .inl ⟨⟨151,rfl,hd 18 rfl rfl⟩,?_⟩,fun _ m e w' hP hd hp _ => .inl ⟨⟨151,rfl,hd 18 rfl rfl⟩,?_⟩,fun _ m e w' hP hd hp _ => .inl ⟨⟨151,rfl,hd 18 rfl rfl⟩,?_⟩,fun _ m e w' hP hd hp _ => .inl ⟨⟨151,rfl,hd 18 rfl rfl⟩,?_⟩,fun _ m e w' hP hd hp _ => .inl ⟨⟨151,rfl,hd 18 rfl rfl⟩,?_⟩,
   fun _ m e w' hP hd hp _ => .inl ⟨trivial,?_⟩,fun _ m e w' hP hd hp _ => .inl ⟨trivial,?_⟩,fun _ m e w' hP hd hp _ => .inl ⟨⟨158,rfl,hd 25 rfl rfl⟩,?_⟩,fun h => (by cases h),fun _ m e w' hP hd hp _ => .inl ⟨⟨158,rfl,hd 25 rfl rfl⟩,?_⟩,fun h => (by cases h),fun h => (by cases h),fun h => (by cases h),
   fun _ m e w' hP hd hp _ => .inl ⟨⟨164,rfl,hP.2.2.1 (hp 31 rfl 3 rfl)⟩,?_⟩,fun _ m e w' hP hd hp _ => .inl ⟨⟨164,rfl,hP.2.2.1 (hp 31 rfl 3 rfl)⟩,?_⟩,fun _ m e w' hP hd hp _ => .inl ⟨⟨164,rfl,hP.2.2.1 (hp 31 rfl 3 rfl)⟩,?_⟩,fun _ m e w' hP hd hp _ => .inl ⟨⟨164,rfl,hP.2.2.1 (hp 31 rfl 3 rfl)⟩,?_⟩,fun _ m e w' hP hd hp _ => .inl ⟨⟨164,rfl,hP.2.2.1 (hp 31 rfl 3 rfl)⟩,?_⟩,fun _ m e w' hP hd hp _ => .inl ⟨⟨164,rfl,hP.2.2.1 (hp 31 rfl 3 rfl)⟩,?_⟩,
   fun h => (by cases h),fun h => (by cases h),fun h => (by cases h),trivial⟩
  ·exact Zi (x:=.tmp 5) (.inl rfl) (hP.1 _ h5)
  ·exact WV (x:=.tmp 133) (y:=.const (.int .i64 0)) rfl (hd 0 rfl rfl) rfl rfl rfl
  ·exact Zi (x:=.tmp 134) (.inl rfl) (hd 1 rfl rfl)
  ·exact Zi (x:=.tmp 9) (.inl rfl) (hP.1 _ h9)
  ·exact WV (x:=.tmp 136) (y:=.const (.int .i64 0)) rfl (hd 3 rfl rfl) rfl rfl rfl
  ·exact YQ (c:=.tmp 135) (a:=.tmp 137) (b:=.const (.bool false)) rfl (hd 2 rfl rfl) (hd 4 rfl rfl)
  ·exact Zi (x:=.tmp 138) (.inl rfl) (hd 5 rfl rfl)
  ·exact Zi (x:=.tmp 11) (.inl rfl) (hP.1 _ h11)
  ·exact WV (x:=.tmp 140) (y:=.const (.int .i64 0)) rfl (hd 7 rfl rfl) rfl rfl rfl
  ·exact Zi (x:=.tmp 141) (.inl rfl) (hd 8 rfl rfl)
  ·rcases hhh with rfl | rfl
   ·exact .inr ⟨⟨9,false,142,rfl,rfl,hd 9 rfl rfl⟩,rfl⟩
   ·exact .inl ⟨⟨142,rfl,hd 9 rfl rfl⟩,Zi (x:=.tmp 11) (.inl rfl) (hP.1 _ h11)⟩
  ·rcases hhh with rfl | rfl
   ·exact .inr ⟨⟨9,false,142,rfl,rfl,hd 9 rfl rfl⟩,rfl⟩
   ·exact .inl ⟨⟨142,rfl,hd 9 rfl rfl⟩,WV (x:=.tmp 143) (y:=.const (.int .i64 14)) rfl (hd 10 rfl rfl) rfl rfl rfl⟩
  ·rcases hhh with rfl | rfl
   ·exact YQ (c:=.tmp 142) (a:=.const (.bool true)) (b:=.tmp 144) rfl (hd 9 rfl rfl) rfl
   ·exact YQ (c:=.tmp 142) (a:=.const (.bool true)) (b:=.tmp 144) rfl (hd 9 rfl rfl) (hd 11 rfl rfl)
  ·exact YQ (c:=.tmp 139) (a:=.tmp 145) (b:=.const (.bool false)) rfl (hd 6 rfl rfl) (hd 12 rfl rfl)
  ·exact Zi (x:=.tmp 146) (.inl rfl) (hd 13 rfl rfl)
  ·exact Zi (x:=.tmp 19) (.inl rfl) (hP.1 _ h19)
  ·exact WV (x:=.tmp 148) (y:=.const (.int .i64 0)) rfl (hd 15 rfl rfl) rfl rfl rfl
  ·exact YQ (c:=.tmp 147) (a:=.tmp 149) (b:=.const (.bool false)) rfl (hd 14 rfl rfl) (hd 16 rfl rfl)
  ·exact Zi (x:=.tmp 150) (.inl rfl) (hd 17 rfl rfl)
  ·exact Zi (x:=.tmp 6) (.inl rfl) (hP.1 _ h6)
  ·exact ZnB (x:=.tmp 152) (el:=5) (xs:=E) rfl (hd 19 rfl rfl) (by kernel_rfl) (by kernel_rfl) (by kernel_rfl) ((hP.2.1.old cc (ZJ hcc)).trans hcc) hn hcap hcs
  ·exact Zi (x:=.tmp 4) (.inl rfl) (hP.1 _ h4)
  ·exact ZmD (x:=.tmp 154) (el:=5) (lim:=(hE.next hP.2.1).choose) rfl (hd 21 rfl rfl) (by kernel_rfl) (by kernel_rfl) (by kernel_rfl) (hE.next hP.2.1).choose_spec
  ·exact WV (x:=.tmp 153) (y:=.tmp 155) rfl (hd 20 rfl rfl) (hd 22 rfl rfl) rfl (Zna _)
  ·exact YQ (c:=.tmp 151) (a:=.tmp 156) (b:=.const (.bool false)) rfl (hd 18 rfl rfl) (hd 23 rfl rfl)
  ·exact Zi (x:=.tmp 157) (.inl rfl) (hd 24 rfl rfl)
  ·exact KF (x:=.tmp 18) (cs:=cv) rfl (hP.1 _ h18) ((hP.2.1.old b18 (ZJ hb18)).trans hb18) (dd:=Tryd.prog.underlying 35 |>.getD default) (by kernel_rfl) (by kernel_rfl) (by rw [hcv5]; kernel_rfl) (by simp)
  ·exact KF (x:=.tmp 1) (cs:=ct) rfl (hP.1 _ h1) ((hP.2.1.old b1 (ZJ hb1)).trans hb1) (dd:=Tryd.prog.underlying 27 |>.getD default) (by kernel_rfl) (by kernel_rfl) (by rw [hct5]; kernel_rfl) (by simp)
  ·exact Xk (x:=.tmp 18) (f:=2) (b:=b18) (off:=0) (off':=4) rfl (hP.1 _ h18) Znn hwf hwz hwo
  ·exact KU (x:=.tmp 165) (v:=slv) rfl (hd 32 rfl rfl) ((hP.2.1.old b18 (ZJ hb18)).trans hb18) (dd:=.slice 39) (by kernel_rfl) rfl (by rw [hcv]; rfl)
  ·obtain ⟨A,l,c,hsl⟩:=hslv
   refine Zji (zs:=[.int .i64 0,.slice none 0 0]) (us:=[.int .i64 0,slv]) (fs:=ZpR) rfl (by kernel_rfl) (by kernel_rfl) (by kernel_rfl) ?_
   show Instr.fill _ _ [(1,e 166)] = _
   rw [show e 166 = slv from hd 33 rfl rfl,hsl]
   kernel_rfl
  ·exact Xk (x:=.tmp 1) (f:=2) (b:=b1) (off:=0) (off':=4) rfl (hP.1 _ h1) Zqj hvf hvz hvo
  ·exact KU (x:=.tmp 168) (v:=slt) rfl (hd 35 rfl rfl) ((hP.2.1.old b1 (ZJ hb1)).trans hb1) (dd:=.slice 39) (by kernel_rfl) rfl (by rw [hct]; rfl)
  ·obtain ⟨A,l,c,hsl⟩:=hslt
   refine Zji (zs:=[.int .i64 0,.slice none 0 0]) (us:=[.int .i64 0,slt]) (fs:=ZpR) rfl (by kernel_rfl) (by kernel_rfl) (by kernel_rfl) ?_
   show Instr.fill _ _ [(1,e 169)] = _
   rw [show e 169 = slt from hd 36 rfl rfl,hsl]
   kernel_rfl
 ·refine ⟨fun o ho e w' hP hd => ⟨?_,?_⟩,fun o ho e w' hP hd => ⟨?_,?_⟩,fun o ho e w' hP hd => ⟨?_,?_⟩,fun o ho e w' hP hd => ⟨?_,?_⟩,fun o ho e w' hP hd => ⟨?_,?_⟩,fun o ho e w' hP hd => ⟨?_,?_⟩,fun o ho e w' hP hd => ⟨?_,?_⟩,trivial⟩
  ·obtain rfl:=VG.inj ho; exact ⟨158,rfl,hd 25 rfl rfl⟩
  ·obtain rfl:=VG.inj ho
   obtain ⟨q1,q3,_⟩:=hP
   have hv:e 159 = .agg cv.toArray:=hd 26 rfl rfl
   refine Lo.call 160 (Z7 (args := #[.tmp 159]) rfl (Zcr k).enters) (by
    show Calls Tryd.prog 20 [e 159].toArray w' _
    rw [hv]; exact Zay (k:=k) (h.next q3) (hrv.mono (h.ext1 q3))) ?_
   rintro v w'' ⟨kp,lim',cs',s1,s2,rfl,s3⟩
   exact ⟨q1.same hFe (fun s hs => Zn _ _ (by omega)),q3.trans kp,fun h => by omega,lim',cs',s1,(h.ext1 q3).trans s2,ZY ..,s3⟩
  ·obtain rfl:=VG.inj ho; exact ⟨158,rfl,hd 25 rfl rfl⟩
  ·obtain rfl:=VG.inj ho
   obtain ⟨q1,q3,_,lim',cs',s1,s2,s3,s4⟩:=hP
   have hv:e 161 = .agg ct.toArray:=hd 28 rfl rfl
   refine Lo.call 162 (Z7 (args := #[.tmp 160,.tmp 161]) rfl (Zcq k).enters) (by
    show Calls Tryd.prog 19 [e 160,e 161].toArray w' _
    rw [s3,hv]; exact ZbT hk s1 hS s4 (hrt.mono s2)) ?_
   rintro v w'' ⟨kp,rfl⟩
   exact ⟨q1.same hFe (fun s hs => Zn _ _ (by omega)),q3.trans kp,fun h => by omega,ZY ..⟩
  ·obtain rfl:=VG.inj ho; trivial
  ·obtain rfl:=VG.inj ho
   obtain ⟨q1,q3,_,q4⟩:=hP
   have hv:e 158 = .bool true:=hd 25 rfl rfl
   refine Lo.val 163 (YQ (c:=.tmp 158) (a:=.tmp 162) (b:=.const (.bool false)) rfl hv q4) ?_
   exact ⟨q1.same hFe (fun s hs => Zn _ _ (by omega)),q3,fun h => by omega,ZY ..⟩
  ·obtain rfl:=VG.inj ho; trivial
  ·obtain rfl:=VG.inj ho
   obtain ⟨q1,q3,_,q4⟩:=hP
   refine Lo.val 164 (Zi (x:=.tmp 163) (.inl rfl) q4) ?_
   exact ⟨q1.same hFe (fun s hs => Zn _ _ (by omega)),q3,fun h => ZY ..,trivial⟩
  ·obtain rfl:=VG.inj ho; exact ⟨164,rfl,hP.2.2.1 (Jj _)⟩
  ·obtain rfl:=VG.inj ho
   obtain ⟨q1,q3,q5,_⟩:=hP
   have hv:e 167 = .agg [Jw .i64 0,slv].toArray:=hd 34 rfl rfl
   have hv':e 170 = .agg [Jw .i64 0,slt].toArray:=hd 37 rfl rfl
   refine Lo.call 171 (Z7 (args := #[.tmp 167,.tmp 170]) rfl (ZiI k).enters) (by
    show Calls Tryd.prog 25 [e 167,e 170].toArray w' _
    rw [hv,hv']
    exact Zmm hk (h.next q3) hS.cl hS.chan (by
     obtain ⟨A,l,c,e,hr⟩:=hrCv
     cases e
     have:Rt w lim (.sl (.sl (.int .i64))) x.2.2.1 [.slice A l c]:=⟨A,l,c,rfl,hr⟩
     exact this.mono (h.ext1 q3)) (by
     obtain ⟨A,l,c,e,hr⟩:=hrCt
     cases e
     have:Rt w lim (.sl (.sl (.int .i64))) x.2.2.1 [.slice A l c]:=⟨A,l,c,rfl,hr⟩
     exact this.mono (h.ext1 q3))) ?_
   rintro v w'' ⟨kp,rfl⟩
   exact ⟨q1.same hFe (fun s hs => Zn _ _ (by omega)),q3.trans kp,fun h => (Zn _ _ (by decide)).trans (q5 (Jj _)),ZY ..⟩
  ·obtain rfl:=VG.inj ho; trivial
  ·obtain rfl:=VG.inj ho
   obtain ⟨q1,q3,q5,q4⟩:=hP
   refine Lo.val 172 (YQ (c:=.tmp 164) (a:=.tmp 171) (b:=.const (.bool false)) rfl (q5 (by decide)) q4) ?_
   exact ⟨q1.same hFe (fun s hs => Zn _ _ (by omega)),q3,fun h => (Zn _ _ (by decide)).trans (q5 (by decide)),ZY ..⟩
  ·obtain rfl:=VG.inj ho; trivial
  ·obtain rfl:=VG.inj ho
   obtain ⟨q1,q3,q5,q4⟩:=hP
   refine Lo.val 2 (Zi (x:=.tmp 172) (.inr rfl) q4) ?_
   refine ⟨fun p hp => ?_,q3,fun h => (Zn _ _ (by decide)).trans (q5 (by decide)),ZY ..⟩
   rw [Zn _ _ (hF2 p hp)]; exact q1 p hp
 ·rintro e w' ⟨q1,q3,_,q4⟩ _
  exact T.ret (hQ _ _ q4 q3)
end Go.Sh
namespace Go.Sh
open Go
section
variable [Gl]
variable {P:Program} {n:Nat} {e:En} {w:World} {o:Oper}
theorem ZmC {T el:TypeId} {dd:TypeDesc} {x y z:Operand} {A:Option Addr} {len cap h m:Nat} (ho:o.op = .slice T x none (some y) (some z)) (hx:ev e x = .slice A len cap) (hy:ev e y = .int .i64 (h:Int)) (hz:ev e z = .int .i64 (m:Int)) (hh:h ≤ m) (hm:m ≤ cap)
  (hu:P.underlying T = some (.slice el)) (hd0:P.underlying el = some dd):(execOp (ev e) o).run P w = .ok (.value (.slice A h m)) w:=by
 have hb:(Ve true len cap none (some (.int .i64 (h:Int))) (some (.int .i64 (m:Int)))).run P w = .ok (0,h,m) w:=by
  have h1:=Xb (P:=P) (kk:=.i64) (n:=(m:Int)) (y:=cap) (code:=.slice3Acap) (by omega) (by omega) w
  have h2:=Xb (P:=P) (kk:=.i64) (n:=(h:Int)) (y:=m) (code:=.slice3B) (by omega) (by omega) w
  simp [Ve,h1,h2]
 have run:(JL T (.slice A len cap) none (some (.int .i64 (h:Int))) (some (.int .i64 (m:Int)))).run P w = .ok (.slice (if m = 0 then A else A.map (·.add (0 * P.cellsOf el))) (h - 0) (m - 0)) w:=by
  simp only [JL,Sem.run_bind,run_underlying hu,Result.andThen_ok,Instr.slice,hb,Z2 hd0,Sem.run_pure]
 simp only [execOp,ho,Option.map_none,Option.map_some,hx,hy,hz]
 simp only [bind_pure_comp,Sem.run_map,run,Result.andThen_ok]
 cases A with
 | none => simp
 | some a => simp [Addr.add]
end
end Go.Sh
namespace Go.Sh
open Go Go.Proofs
def zs5:List Value:=[.int .i64 0,.int .i64 0,.int .i64 0,.slice none 0 0,.slice none 0 0]
set_option maxRecDepth 20000 in
set_option maxHeartbeats 4000000 in
theorem ZgW {k:Nat} (hk:16777216 ≤ k) {w0:World} {lim0:Nat → Nat} (hlz:∀ b,w0.heap.size ≤ b → lim0 b = 0) (hlies:Zbn w0 lim0) {x:Trk} (hS:Small x.2.1 x.2.2.1) {ct:List Value} (hct:Rt w0 lim0 trackT x ct) :
  Calls Tryd.prog 9 [Hy ct.toArray].toArray w0 fun e w' => ∃ v,e = .returned v ∧ v = .bool true ∧ Keep w0 w':=by
 have hkn:Zit k () = some (true,()):=ZkV hk
 obtain ⟨E,er,henc,himp⟩:=Zkr hk hS
 have ct5:ct.length = 5:=Q6 hct
 have S0:SW w0 lim0 w0 lim0:=⟨Keep.refl _,Ext.refl _ _,hlz,hlies⟩
 let d27:TypeDesc:=Tryd.prog.underlying 27 |>.getD default
 let d35:TypeDesc:=Tryd.prog.underlying 35 |>.getD default
 have hu27:Tryd.prog.underlying 27 = some d27:=by kernel_rfl
 have ha27:Y7 d27 = true:=by kernel_rfl
 have hu35':Tryd.prog.underlying 35 = some d35:=by kernel_rfl
 have ha35:Y7 d35 = true:=by kernel_rfl
 have hn27:5 = Tryd.prog.cellsOf 27:=by kernel_rfl
 have hn35:5 = Tryd.prog.cellsOf 35:=by kernel_rfl
 refine ZjJ (fn:=Tryd.f9) (code:=v9) (t:=2) (vs:=[.agg ct.toArray]) (R:=fun v w' => v = .bool true ∧ Keep w0 w') (by kernel_rfl) (by kernel_rfl) (by kernel_rfl) (by show 1 ≤ 173; decide) ?_
 show T Tryd.prog 173 _ _ _ _
 -- region 0
 refine T.seq (T.region (L.val 1 (ZpY rfl (vs:=ct) rfl) (L.val 2 (Zi (x:=.const (.bool false)) (.inr rfl) rfl) (L.nil ?_))))
 have H1:H w0 (w0.alloc (.cells ct.toArray 27)) [(w0.heap.size,.cells ct.toArray 27)]:=(H.nil w0).alloc _
 have S1:=S0.next H1.keep
 generalize w0.alloc (.cells ct.toArray 27) = w1 at H1 S1 ⊢
 obtain ⟨b1,hb1⟩:∃ b1,b1 = w0.heap.size:=⟨_,rfl⟩
 rw [← hb1] at H1 ⊢
 -- region 1
 refine T.seq (T.seq (T.region (L.call 20 (Z7 (args := #[]) rfl (Ziu k).enters) (Wf (Ziu k) (x:=()) hkn rfl S1.lz S1.lies (vs:=[]) rfl) ?_)))
 rintro v w3 ⟨kp,lim3,bb,hE,hz,hl,hT,-,-⟩
 have hv:=ZaB hT
 subst hv
 have H3:=H1.next kp
 have S3:=S1.calls kp hE hz
 clear kp hE hz hl hT H1 S1
 refine L.val 21 (Zp0 (x:=.tmp 20) rfl rfl (v:=.bool false) rfl) (L.nil ?_)
 refine T.condF rfl (T.skip ?_)
 -- region 3
 have hrt3:Rt w3 lim3 trackT x ct:=hct.mono S3.ext
 refine T.seq (T.region (L.val 22 (KF (x:=.tmp 1) (cs:=ct) rfl rfl (H3.at' (b1,.cells ct.toArray 27) (by simp)) hu27 ha27 (by rw [ct5]; exact hn27) (by simp))
  (L.call 23 (Z7 (args := #[.tmp 22]) rfl (Ziz k).enters) (Wf (Ziz k) (x:=(x,())) (Zo4 hk hS) rfl S3.lz S3.lies (vs:=[.agg ct.toArray]) ⟨[],[],rfl,KH hrt3,rfl⟩) ?_)))
 rintro v w4 ⟨kp,lim4,bb,hE,hz,hl,hT,-,-⟩
 obtain ⟨ci,hri,rfl,_⟩:=XO hT
 have ci5:ci.length = 5:=Q6 hri
 have H4:=H3.next kp
 have S4:=S3.calls kp hE hz
 clear kp hE hz hl hT H3 S3 hrt3
 refine L.val 3 (Zf1 rfl (zs:=zs5) (by kernel_rfl)) ?_
 have H5:=H4.alloc (.cells zs5.toArray 35)
 have S5:=S4.next (Keep.alloc w4 (.cells zs5.toArray 35))
 have hri5:Rt _ lim4 trackT x ci:=hri.mono (S4.ext1 (Keep.alloc w4 (.cells zs5.toArray 35)))
 have hlb3:lim4 w4.heap.size = 0:=S4.lz _ (Jj _)
 generalize w4.alloc (.cells zs5.toArray 35) = w5 at H5 S5 hri5 ⊢
 generalize w4.heap.size = b3 at H5 hlb3 ⊢
 refine L.unit (Zar (x:=.tmp 3) (y:=.tmp 23) (vs:=ci) rfl rfl rfl (H5.at' _ (Jm ..)) ZoU hu35' (by rw [ci5]; exact hn35.symm) (Zbi hri5) ci5) (L.nil ?_)
 obtain ⟨S6,E6⟩:=S5.row (H5.at' _ (Jm ..)) (H5.new _ (Jm ..)) hlb3 ci.toArray
 have H6:=H5.row (cs':=ci.toArray)
 have hri6:=hri5.mono E6
 generalize w5.setRow b3 ci.toArray = w6 at H6 S6 hri6 ⊢
 clear hri hri5 H4 H5 S4 S5 E6
 -- region 4
 refine T.seq (T.region (L.val 25 (KF (x:=.tmp 3) (cs:=ci) rfl rfl (H6.at' (b3,.cells ci.toArray 35) (by simp)) hu35' ha35 (by rw [ci5]; exact hn35) (by simp))
  (L.call 26 (Z7 (args := #[.tmp 25]) rfl (Ziw k).enters) (Wf (Ziw k) (x:=(x,())) henc rfl S6.lz S6.lies (vs:=[.agg ci.toArray]) ⟨[],[],rfl,KH hri6,rfl⟩) ?_)))
 rintro v w7 ⟨kp,lim7,bb,hE,hz,hl,hT,-,-⟩
 have hT:TT w7 lim7 (.tup [.view (.sl (.int .u8)) E,.view (.int .i64) er]) v bb:=hT
 obtain ⟨vb,v2,x1,x2,rfl,t1,t2⟩:=Zii hT
 obtain ⟨rfl,_⟩:=YC t2
 obtain ⟨hEb,_⟩:=ZnH t1
 have hB7:Bts w7 vb E:=⟨_,hEb⟩
 have H7:=H6.next kp
 have S7:=S6.calls kp hE hz
 have hri7:=hri6.mono hE
 clear kp hE hz hl hT H6 S6 hri6 t1 t2 hEb
 refine L.val 24 (Zi (x:=.tmp 26) (.inl rfl) rfl) (L.val 27 (QQ (x:=.tmp 24) (vs:=[vb,.int .i64 er]) rfl rfl (v:=vb) rfl) (L.val 28 (QQ (x:=.tmp 24) (vs:=[vb,.int .i64 er]) rfl rfl (v:=.int .i64 er) rfl)
  (L.val 4 (Zi (x:=.tmp 27) (.inr rfl) rfl) (L.val 5 (Zi (x:=.tmp 28) (.inr rfl) rfl) (L.nil ?_)))))
 -- region 5
 let Fe:List (Nat × Value):=[(1,.pointer (some ⟨b1,0,none⟩)),(3,.pointer (some ⟨b3,0,none⟩)),(4,vb),(5,.int .i64 er)]
 have hFe:∀ p ∈ Fe,p.1 < 9:=by intro p hp; simp [Fe] at hp; rcases hp with rfl | rfl | rfl | rfl <;> simp
 refine T.seq (Zp8 (er:=er) hk S7 hS (H7.at' (b1,.cells ct.toArray 27) (by simp)) (H7.at' (b3,.cells ci.toArray 35) (by simp)) (hct.mono S7.ext) hri7 hFe (by intro p hp; simp only [Fe,VN,Uw,or_false] at hp; rcases hp with rfl | rfl | rfl | rfl <;> rfl) (by simp [Fe]) (by simp [Fe]) (by simp [Fe])
  (fun e' w' he kp => ⟨.inr rfl,he,S7.keep.trans kp⟩) ?_)
 intro her e1 w8 A1 kp
 obtain ⟨hE2,hdec,Sl,Jn,hh,hsl,hjn,hhh⟩:=himp her
 have H8:=H7.next kp
 have S8:=S7.next kp
 have hB8:=hB7.next kp
 clear kp H7 S7 hri7 hB7
 have h4:e1 4 = vb:=A1 (4,vb) (by simp [Fe])
 have h1:e1 1 = .pointer (some ⟨b1,0,none⟩):=A1 (1,.pointer (some ⟨b1,0,none⟩)) (by simp [Fe])
 obtain ⟨Ae,ce,hvb,hlce,css,hcss,hpos⟩:=KV (KW hB8.choose_spec)
 have hfl:=Zjk hcss
 have hrep:∀ m,(Jd m [Jw .u8 0]).flatten = Jd m (.int .u8 0):=fun m => by
  induction m with
  | zero => rfl
  | succ m ih => simp [List.replicate_succ,ih]
 -- region 7
 let zo:Obj:=.cells (Jd (E.length + 4) [Jw .u8 0]).flatten.toArray 5
 refine T.seq (T.region (L.val 42 (Zi (x:=.tmp 4) (.inl rfl) (by exact h4)) (L.val 43 (Zbe (x:=.tmp 42) (A:=Ae) (len:=E.length) (cap:=ce) rfl hvb (el:=5) (by kernel_rfl))
  (L.val 44 (WV (x:=.tmp 43) (y:=.const (.int .i64 4)) rfl rfl rfl rfl (v:=.int .i64 ((E.length + 4:Nat):Int)) (by
   show some (Jw .i64 (Jy.wrap ((E.length:Int) + 4))) = _
   rw [Qu (by omega) (by omega)]; rfl))
  (L.val 45 (ZoZ (x:=.const (.int .i64 0)) (y:=.tmp 44) rfl rfl rfl (ee:=5) (t:=.int .u8) (zs:=[.int .u8 0]) (by kernel_rfl) (by kernel_rfl) rfl (by decide) (Ju (by kernel_rfl)) (by omega)) ?_)))))
 have kp:Keep w8 (w8.alloc zo):=Keep.alloc w8 zo
 have H9:H w0 (w8.alloc zo) _:=H8.alloc zo
 have S9:=S8.next kp
 have hl11:lim7 w8.heap.size = 0:=S8.lz _ (Jj _)
 have hpos9:E = [] ∨ ∃ b off,Ae = some ⟨b,off,none⟩ ∧ ∀ j u,css.flatten[j]? = some u → (w8.alloc zo).cell? ⟨b,off + j,none⟩ = some u:=by
  rcases hpos with h | ⟨b,off,e,h⟩
  ·exact .inl h
  ·exact .inr ⟨b,off,e,fun j u hj => WA kp (h j u hj)⟩
 have K9:H w8 (w8.alloc zo) _:=(H.nil w8).alloc zo
 show L Tryd.prog 173 _ _ _ _ (w8.alloc zo)
 generalize w8.alloc zo = w9 at H9 S9 hpos9 K9 ⊢
 generalize w8.heap.size = cc at H9 hl11 K9 ⊢
 clear kp
 refine L.val 46 (Zi (x:=.tmp 4) (.inl rfl) (by exact h4)) (L.val 47 (ZmB (x:=.tmp 45) (y:=.tmp 46) (T:=32) (U:=32) (ee:=5) (eU:=5) (t:=.int .u8) (A:=Ae) (cap:=ce) (ys:=E) rfl (by kernel_rfl) (by kernel_rfl) rfl (K9.at' _ (Jm ..)) hvb hcss hpos9 (by omega) (by
  rw [hrep]; simp [Ty.size])) (L.val 6 (Zi (x:=.tmp 47) (.inr rfl) rfl) (L.nil ?_)))
 have hcur:∀ x:Array Value,x = (Jd (E.length + 4) [Jw .u8 0]).flatten.toArray → (x.toList.take (0 + 0 * (Ty.int .u8).size) ++ css.flatten ++ x.toList.drop (0 + 0 * (Ty.int .u8).size + css.flatten.length)).toArray = (E.map (Jw .u8) ++ Jd 4 (Jw .u8 0)).toArray:=by
  rintro x rfl
  rw [hrep,hfl]
  simp
 rw [hcur _ rfl,Uc]
 clear hcur
 obtain ⟨zs,hzs⟩:∃ zs,zs = Jd 4 (Jw .u8 0):=⟨_,rfl⟩
 rw [← hzs]
 obtain ⟨S10,E10⟩:=S9.row (H9.at' _ (Jm ..)) (H9.new _ (Jm ..)) hl11 (E.map (Jw .u8) ++ zs).toArray
 have H10:=H9.row (cs':=(E.map (Jw .u8) ++ zs).toArray)
 have K10:=K9.row (cs':=(E.map (Jw .u8) ++ zs).toArray)
 have hB10:=hB8.next K10.keep
 generalize w9.setRow cc (E.map (Jw .u8) ++ zs).toArray = w10 at H10 S10 hB10 E10 K10 ⊢
 clear H9 S9 K9 K10 E10 hpos9 H8 S8
 -- region 8
 have hcc10:w10.heap[cc]? = some (.cells (E.map (Jw .u8) ++ zs).toArray 5 (0,0)):=H10.at' (cc,_) (Jm ..)
 have hcap:E.length ≤ E.length + 4:=by omega
 refine T.seq (T.region (L.val 49 (Zi (x:=.tmp 6) (.inl rfl) (v:=.slice (some ⟨cc,0,none⟩) E.length (E.length + 4)) rfl)
  (L.call 50 (Z7 (args := #[.tmp 49]) rfl (Zcp k).enters) (Zgu hS hdec hcap hcc10) ?_)))
 rintro v w11 ⟨kp11,A3,n3,c3,A4,n4,c4,rfl,hRSI⟩
 let cu:List Value:=[Jw .i64 x.1.1,.int .i64 x.1.2.1,.int .i64 x.1.2.2.1,.slice A3 n3 c3,.slice A4 n4 c4]
 refine L.val 48 (Zi (x:=.tmp 50) (.inl rfl) rfl) (L.val 51 (QQ (x:=.tmp 48) (vs:=[.agg cu.toArray,.int .i64 0]) rfl rfl (v:=.agg cu.toArray) rfl) (L.val 52 (QQ (x:=.tmp 48) (vs:=[.agg cu.toArray,.int .i64 0]) rfl rfl (v:=.int .i64 0) rfl)
  (L.val 7 (Zf1 rfl (zs:=zs5) (by kernel_rfl)) ?_)))
 have K12:=(H.nil w11).alloc (.cells zs5.toArray 35)
 generalize w11.alloc (.cells zs5.toArray 35) = w12 at K12 ⊢
 have hRSI:=hRSI
 generalize w11.heap.size = b7 at K12 hRSI ⊢
 refine L.unit (Zar (x:=.tmp 7) (y:=.tmp 51) (vs:=cu) rfl rfl rfl (K12.at' _ (Jm ..)) ZoU hu35' hn35.symm (by intro v hv; simp only [cu,VN,Uw,or_false] at hv; rcases hv with rfl | rfl | rfl | rfl | rfl <;> rfl) rfl) (L.val 5 (Zi (x:=.tmp 52) (.inr rfl) rfl) (L.nil ?_))
 have K13:=K12.row (cs':=cu.toArray)
 have hb7lt:=ZJ (K13.at' _ (Jm ..))
 simp only at hb7lt
 generalize w12.setRow b7 cu.toArray = w13 at K13 hb7lt ⊢
 clear K12
 have kp13:Keep w10 w13:=kp11.trans K13.keep
 have hcc13:w13.heap[cc]? = some (.cells (E.map (Jw .u8) ++ zs).toArray 5 (0,0)):=(kp13.old _ (ZJ hcc10)).trans hcc10
 have hRSI:=hRSI.next (Keep.refl w10) K13.keep
 -- region 9
 refine T.seq (T.region (L.val 54 (Zi (x:=.tmp 6) (.inl rfl) (v:=.slice (some ⟨cc,0,none⟩) E.length (E.length + 4)) rfl)
  (L.call 55 (Z7 (args := #[.tmp 54,.const (.int .i64 0),.const (.int .i64 0)]) rfl (ZiA k).enters) (Zid (bx:=b7) hb7lt hsl hcap hcc13) ?_)))
 rintro v w14 ⟨kp14,A5,n5,c5,rfl,hR5⟩
 refine L.val 53 (Zi (x:=.tmp 55) (.inl rfl) rfl) (L.val 56 (QQ (x:=.tmp 53) (vs:=[.slice A5 n5 c5,.int .i64 0]) rfl rfl (v:=.slice A5 n5 c5) rfl) (L.val 57 (QQ (x:=.tmp 53) (vs:=[.slice A5 n5 c5,.int .i64 0]) rfl rfl (v:=.int .i64 0) rfl)
  (L.val 8 (Zi (x:=.tmp 56) (.inr rfl) rfl) (L.val 9 (Zi (x:=.tmp 57) (.inr rfl) rfl) (L.nil ?_)))))
 have hcc14:w14.heap[cc]? = some (.cells (E.map (Jw .u8) ++ zs).toArray 5 (0,0)):=(kp14.old _ (ZJ hcc13)).trans hcc13
 -- region 10
 refine T.seq (T.region (L.val 59 (Zi (x:=.tmp 6) (.inl rfl) (v:=.slice (some ⟨cc,0,none⟩) E.length (E.length + 4)) rfl) (L.val 60 (Zi (x:=.tmp 6) (.inl rfl) (v:=.slice (some ⟨cc,0,none⟩) E.length (E.length + 4)) rfl) (L.val 61 (Zi (x:=.tmp 6) (.inl rfl) (v:=.slice (some ⟨cc,0,none⟩) E.length (E.length + 4)) rfl)
  (L.val 62 (Zbe (x:=.tmp 61) (A:=some ⟨cc,0,none⟩) (len:=E.length) (cap:=E.length + 4) rfl rfl (el:=5) (by kernel_rfl)) (L.val 63 (Zi (x:=.tmp 6) (.inl rfl) (v:=.slice (some ⟨cc,0,none⟩) E.length (E.length + 4)) rfl) (L.val 64 (Zbe (x:=.tmp 63) (A:=some ⟨cc,0,none⟩) (len:=E.length) (cap:=E.length + 4) rfl rfl (el:=5) (by kernel_rfl))
  (L.val 65 (ZmC (x:=.tmp 60) (y:=.tmp 62) (z:=.tmp 64) (A:=some ⟨cc,0,none⟩) (len:=E.length) (cap:=E.length + 4) (h:=E.length) (m:=E.length) rfl rfl rfl rfl (Jj _) hcap (el:=5) (dd:=.int .u8) (by kernel_rfl) (by kernel_rfl))
  (L.call 66 (Z7 (args := #[.tmp 59,.tmp 65]) rfl (ZiE k).enters) (Zj2 (bx:=b7) (V1 hb7lt kp14.size) hjn hcap hcc14) ?_)))))))))
 rintro v w15 ⟨kp15,A6,n6,c6,rfl,hR6⟩
 refine L.val 58 (Zi (x:=.tmp 66) (.inl rfl) rfl) (L.val 67 (QQ (x:=.tmp 58) (vs:=[.slice A6 n6 c6,.int .i64 hh]) rfl rfl (v:=.slice A6 n6 c6) rfl) (L.val 68 (QQ (x:=.tmp 58) (vs:=[.slice A6 n6 c6,.int .i64 hh]) rfl rfl (v:=.int .i64 hh) rfl)
  (L.val 10 (Zi (x:=.tmp 67) (.inr rfl) rfl) (L.val 11 (Zi (x:=.tmp 68) (.inr rfl) rfl) (L.nil ?_)))))
 have kp1:Keep w13 w15:=kp14.trans kp15
 have kp0:Keep w10 w15:=kp13.trans kp1
 have hRSI:=hRSI.next (Keep.refl w10) kp1
 have hR5:=hR5.next kp13 kp15
 have hR6:=hR6.next (kp13.trans kp14) (Keep.refl w15)
 have hb7:w15.heap[b7]? = some (.cells cu.toArray 35 (0,0)):=(K13.next kp1).at' _ (Jm ..)
 have W15:LW w10 w15 w15 b7 cu.toArray 35:=⟨Loose.start kp0,hb7⟩
 -- regions 11 .. 25
 let F2:List (Nat × Value):=[(1,.pointer (some ⟨b1,0,none⟩)),(4,vb),(5,.int .i64 0),(6,.slice (some ⟨cc,0,none⟩) E.length (E.length + 4)),(7,.pointer (some ⟨b7,0,none⟩)),(8,.slice A5 n5 c5),(9,.int .i64 0),(10,.slice A6 n6 c6),(11,.int .i64 hh)]
 have hF2:∀ p ∈ F2,p.1 < 12:=by intro p hp; simp [F2] at hp; rcases hp with rfl | rfl | rfl | rfl | rfl | rfl | rfl | rfl | rfl <;> simp
 refine T.seq (T.seq (T.region (L.val 12 (Zi (x:=.const (.int .i64 0)) (.inr rfl) rfl) (L.nil ?_))))
 refine Zo7 hF2 (b7:=b7) (by simp [F2]) (cs7:=cu.toArray) (A:=A4) (n:=n4) (cap:=c4) rfl hRSI (by
  intro p hp; simp only [F2,VN,Uw,or_false] at hp
  rcases hp with rfl | rfl | rfl | rfl | rfl | rfl | rfl | rfl | rfl
  ·exact h1
  ·exact h4
  ·rfl
  ·rfl
  ·rfl
  ·rfl
  ·rfl
  ·rfl
  ·rfl) rfl W15 ?_
 intro e2 w16 A2 W16
 refine T.seq (T.seq (T.region (L.val 14 (Zi (x:=.const (.int .i64 0)) (.inr rfl) rfl) (L.nil ?_))))
 refine ZnI (Fe:=F2) (fun p hp => V1 (hF2 p hp) (by decide)) (A:=A5) (len:=n5) (cap:=c5) (by simp [F2]) hR5 (A2.same hF2 (fun s hs => Zn _ _ (by omega))) rfl W16 ?_
 intro e3 w17 A3' W17
 refine T.seq (T.seq (T.region (L.val 15 (Zi (x:=.const (.int .i64 0)) (.inr rfl) rfl) (L.nil ?_))))
 refine ZnJ (Fe:=F2) (fun p hp => V1 (hF2 p hp) (by decide)) (A:=A6) (len:=n6) (cap:=c6) (by simp [F2]) hR6 (A3'.same hF2 (fun s hs => Zn _ _ (by omega))) rfl W17 ?_
 intro e4 w18 A4' W18
 have kp:=W18.lo.keep
 have H18:=H10.next kp
 have S18:=S10.next kp
 have hB18:=hB10.next kp
 clear kp H10 S10 hB10 W15 W16 W17 W18 hcc10 hcc13 hcc14 hRSI hR5 hR6 K13 kp1 kp0 kp11 kp13 kp14 kp15
 have g6:e4 6 = .slice (some ⟨cc,0,none⟩) E.length (E.length + 4):=A4' (6,.slice (some ⟨cc,0,none⟩) E.length (E.length + 4)) (by simp [F2])
 -- region 26
 refine T.seq (T.region (L.val 111 (Zi (x:=.tmp 6) (.inl rfl) g6) (L.val 112 (Zi (x:=.tmp 6) (.inl rfl) (v:=.slice (some ⟨cc,0,none⟩) E.length (E.length + 4)) (by exact g6))
  (L.val 113 (ZpZ (x:=.tmp 112) (A:=some ⟨cc,0,none⟩) (len:=E.length) (cap:=E.length + 4) rfl rfl (el:=5) (by kernel_rfl))
  (L.val 114 (Zke (x:=.tmp 111) (y:=.tmp 113) (A:=some ⟨cc,0,none⟩) (len:=E.length) (cap:=E.length + 4) (h:=E.length + 4) rfl rfl rfl (Jj _) (el:=5) (dd:=.int .u8) (by kernel_rfl) (by kernel_rfl))
  (L.val 16 (Zi (x:=.tmp 114) (.inr rfl) rfl) (L.nil ?_)))))))
 -- region 27,the spare room
 refine T.seq (T.seq (T.region (L.val 115 (Zi (x:=.tmp 6) (.inl rfl) (v:=.slice (some ⟨cc,0,none⟩) E.length (E.length + 4)) (by exact g6)) (L.val 116 (Zbe (x:=.tmp 115) (A:=some ⟨cc,0,none⟩) (len:=E.length) (cap:=E.length + 4) rfl rfl (el:=5) (by kernel_rfl)) (L.val 17 (Zi (x:=.tmp 116) (.inr rfl) rfl) (L.nil ?_))))))
 have hcc:w18.heap[cc]? = some (.cells (E.map (Jw .u8) ++ zs).toArray 5 (0,0)):=H18.at' (cc,_) (Jm ..)
 refine Zp7 (Fe:=F2) (fun p hp => V1 (hF2 p hp) (by decide)) (cc:=cc) (n:=E.length) (E:=E) rfl (by omega) (by rw [← hzs]; exact hcc) (A4'.same hF2 (fun s hs => by
  simp only [upd]
  rw [Zc (show s ≠ 17 by omega),Zc (show s ≠ 116 by omega),Zc (show s ≠ 115 by omega),Zc (show s ≠ 16 by omega),Zc (show s ≠ 114 by omega),Zc (show s ≠ 113 by omega),Zc (show s ≠ 112 by omega),Zc (show s ≠ 111 by omega)]
  rfl)) rfl rfl (Keep.refl _) ?_
 intro e5 w19 A5' kp
 have H19:=H18.next kp
 have S19:=S18.next kp
 have hB19:=hB18.next kp
 clear kp H18 S18 hB18 hcc
 have hcc:w19.heap[cc]? = some (.cells (E.map (Jw .u8) ++ zs).toArray 5 (0,0)):=H19.at' (cc,_) (Jm ..)
 -- region 32
 let limD:Nat → Nat:=fun b => if b = cc then E.length else lim7 b
 have hED:Ext w19 lim7 w19 limD:=⟨Jj _,fun _ _ _ => rfl,fun b o ho => by
   simp only [limD]
   split
   ·rename_i h; subst h; omega
   ·exact ho,fun _ _ h => h,fun b o ho hf => by
   simp only [limD] at ho
   split at ho
   ·rename_i h; subst h
    rw [KQ hcc (by simp)] at hf; cases hf
   ·exact ⟨ho,hf⟩⟩
 have S20:=S19.of_ext hED (fun b hb => by
  have:=ZJ hcc
  simp only [limD]; rw [if_neg (by omega)]; exact S19.lz b hb)
 have hrowc:Rt w19 limD (.sl (.int .u8)) E [.slice (some ⟨cc,0,none⟩) E.length (E.length + 4)]:=Za6 hcap hcc (by simp [limD])
 refine T.seq (T.region (L.val 129 (Zi (x:=.tmp 6) (.inl rfl) (v:=.slice (some ⟨cc,0,none⟩) E.length (E.length + 4)) (by exact A5' (6,.slice (some ⟨cc,0,none⟩) E.length (E.length + 4)) (by simp [F2])))
  (L.call 130 (Z7 (args := #[.tmp 129]) rfl (Zcp k).enters) (Wf (Zcp k) (x:=(E,())) hdec rfl S20.lz S20.lies (vs:=[.slice (some ⟨cc,0,none⟩) E.length (E.length + 4)]) ⟨[],[],rfl,Zhi hrowc,rfl⟩) ?_)))
 rintro v w21 ⟨kp,lim21,bb,hE,hz,hl,hT,-,-⟩
 have hT:TT w21 lim21 (.tup [.view trackT x,.view (.int .i64) 0]) v bb:=hT
 obtain ⟨v1,v2,x1,x2,rfl,t1,t2⟩:=Zii hT
 obtain ⟨cv,hrv,rfl,_⟩:=XO t1
 obtain ⟨rfl,_⟩:=YC t2
 have cv5:cv.length = 5:=Q6 hrv
 have H21:=H19.next kp
 have S21:=S20.calls kp hE hz
 have hB21:=hB19.next kp
 clear kp hE hz hl hT H19 S19 S20 hB19 t1 t2 hcc hrowc
 refine L.val 128 (Zi (x:=.tmp 130) (.inl rfl) rfl) (L.val 131 (QQ (x:=.tmp 128) (vs:=[.agg cv.toArray,.int .i64 0]) rfl rfl (v:=.agg cv.toArray) rfl) (L.val 132 (QQ (x:=.tmp 128) (vs:=[.agg cv.toArray,.int .i64 0]) rfl rfl (v:=.int .i64 0) rfl)
  (L.val 18 (Zf1 rfl (zs:=zs5) (by kernel_rfl)) ?_)))
 have kp:=Keep.alloc w21 (.cells zs5.toArray 35)
 have H22:=H21.alloc (.cells zs5.toArray 35)
 have S22:=S21.next kp
 have hrv22:=hrv.mono (S21.ext1 kp)
 have K22:=(H.nil w21).alloc (.cells zs5.toArray 35)
 have hl18:lim21 w21.heap.size = 0:=S21.lz _ (Jj _)
 clear kp
 generalize w21.alloc (.cells zs5.toArray 35) = w22 at H22 S22 hrv22 K22 ⊢
 generalize w21.heap.size = b18 at H22 hl18 K22 ⊢
 refine L.unit (Zar (x:=.tmp 18) (y:=.tmp 131) (vs:=cv) rfl rfl rfl (H22.at' _ (Jm ..)) ZoU hu35' (by rw [cv5]; exact hn35.symm) (Zbi hrv22) cv5) (L.val 19 (Zi (x:=.tmp 132) (.inr rfl) rfl) (L.nil ?_))
 obtain ⟨S23,E23⟩:=S22.row (H22.at' _ (Jm ..)) (H22.new _ (Jm ..)) hl18 cv.toArray
 have H23:=H22.row (cs':=cv.toArray)
 have hrv23:=hrv22.mono E23
 have hB23:=hB21.next (K22.row (cs':=cv.toArray)).keep
 generalize w22.setRow b18 cv.toArray = w23 at H23 S23 hrv23 hB23 ⊢
 -- region 33
 let F3:List (Nat × Value):=[(1,.pointer (some ⟨b1,0,none⟩)),(4,vb),(5,.int .i64 0),(6,.slice (some ⟨cc,0,none⟩) E.length (E.length + 4)),(9,.int .i64 0),(11,.int .i64 hh),(18,.pointer (some ⟨b18,0,none⟩)),(19,.int .i64 0)]
 refine Zo9 hk S23 hS (b1:=b1) (b18:=b18) (cc:=cc) (n:=E.length) (cap:=E.length + 4) (ct:=ct) (cv:=cv) (E:=E) (vb:=vb) (hh:=hh) hhh (Fe:=F3) (H23.at' (b1,.cells ct.toArray 27) (by simp)) (H23.at' (b18,.cells cv.toArray 35) (by simp)) (hct.mono S23.ext) hrv23 hB23
  (H23.at' (cc,.cells (E.map (Jw .u8) ++ zs).toArray 5) (by simp)) rfl (by omega) (fun i hi => by
   rw [Uc,HC (by simpa using hi),Vi,VP hi]; rfl) (by intro p hp; simp [F3] at hp; rcases hp with rfl | rfl | rfl | rfl | rfl | rfl | rfl | rfl <;> simp) (by intro p hp; simp [F3] at hp; rcases hp with rfl | rfl | rfl | rfl | rfl | rfl | rfl | rfl <;> simp)
  (by
   intro p hp; simp only [F3,VN,Uw,or_false] at hp
   rcases hp with rfl | rfl | rfl | rfl | rfl | rfl | rfl | rfl
   ·exact A5' (1,.pointer (some ⟨b1,0,none⟩)) (by simp [F2])
   ·exact A5' (4,vb) (by simp [F2])
   ·exact A5' (5,.int .i64 0) (by simp [F2])
   ·exact A5' (6,.slice (some ⟨cc,0,none⟩) E.length (E.length + 4)) (by simp [F2])
   ·exact A5' (9,.int .i64 0) (by simp [F2])
   ·exact A5' (11,.int .i64 hh) (by simp [F2])
   ·rfl
   ·rfl) (by simp [F3]) (by simp [F3]) (by simp [F3]) (by simp [F3]) (by simp [F3]) (by simp [F3]) (by simp [F3]) (by simp [F3]) (fun e' w' he kp => ⟨.inr rfl,he,S23.keep.trans kp⟩)
end Go.Sh
namespace Go.Sh
open Go Go.Proofs
open Classical in
noncomputable def f9_F (k:Nat):Kd.dens (Qi [trackT]) → Option (Ans (Qi [trackT]) (.view .bool)):=fun x => if 16777216 ≤ k ∧ Small x.1.2.1 x.1.2.2.1 then some (true,()) else none
theorem f9_ctr (k:Nat):Ctr Tryd.prog k 9 (mk (Qi [trackT]) (.view .bool) f9_F) where
 enters:=⟨Tryd.f9,by kernel_rfl,by kernel_rfl,by kernel_rfl⟩
 calls:=by
  intro rvs r hr w lim vs bs hlz hgl hT hnd hbs
  obtain ⟨x,hd,hF⟩:=Uz.1 hr
  have he:=Z6 _ rvs x hd
  subst he
  obtain ⟨x,⟨⟩⟩:=x
  have hF:f9_F k (x,()) = some r:=hF
  unfold f9_F at hF
  split at hF
  ·rename_i hc
   cases hF
   obtain ⟨us,c1,hT⟩:∃ us:List Value,us = vs ∧ KL w lim [.view trackT x] us bs:=⟨vs,rfl,hT⟩
   subst c1
   match us,hT with
   | [v1],hT =>
    obtain ⟨x1,y1,rfl,t1,rfl⟩:=hT
    obtain ⟨cs,hr1,rfl,rfl⟩:=XO t1
    refine (ZgW hc.1 hlz hgl hc.2 hr1).mono ?_
    rintro e w' ⟨v,rfl,rfl,kp⟩
    refine ⟨_,lim,[],[],rfl,Ext.of_keep kp hlz (fun _ _ => rfl) hlz,fun c hc => hlz c (VJ kp.size hc),kp.same,fun c hc _ => ⟨kp.old c hc,rfl⟩,?_,?_,?_,by simp,by simp⟩
    ·show TT w' lim (.view .bool true) (.bool true) []
     simp only [TT,XN,Rt]; exact ⟨⟨_,rfl,.inr ⟨rfl,rfl⟩⟩,trivial⟩
    ·show TL w' lim [.view trackT] [_] [] []
     simp [TL]
    ·show WI w w' [.view trackT] [_]
     simp [WI]
  ·cases hF
theorem keeps_plain:∀ x:Kd.dens (Qi [trackT]),Zjc [trackT] x → ZaF [trackT] x ≤ 1048576 → ∃ k u,f9_F k x = some (true,u):=by
 rintro ⟨⟨⟨c,d,r,⟨⟩⟩,tags,ch,⟨⟩⟩,⟨⟩⟩ _ hb
 have hb:Ty.bulk trackT ((c,d,r,()),tags,ch,()) + 0 ≤ 1048576:=hb
 refine ⟨16777216,(),?_⟩
 unfold f9_F
 exact if_pos ⟨Jj _,Zhg hb⟩
end Go.Sh
