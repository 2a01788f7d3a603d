/-
  What the row needs, part 12.
-/
import Derived.Test.YtgbhjfacjekhcaaGreatDoorXStreamApart11
import Derived.ChangeArms
import Derived.ChangeShapes
import Derived.WideShapes
import Derived.ReadAgain
import Derived.Below
import Derived.ChangeSame
import Derived.RowKit
set_option linter.unusedSimpArgs false
set_option linter.unusedVariables false
set_option linter.unusedSectionVars false
open BitVec renaming ofInt→UN,ofNat→Hx,toNat_ofNat→Hy,ofInt_natCast→HP,toNat_and→HQ
open Bool renaming and_eq_true→Jh,false_eq_true→JJ,not_true→Hz,true_eq_false→HR
open Eq renaming trans→Hn
open Go.FloatKind renaming f64→Je
open Int renaming ofNat→UJ,pow_pos→Hm,compare_eq_lt→HA,emod_nonneg→HB,fdiv_eq_ediv_of_nonneg→HC,le_of_lt→HD,min_le_left→HE,min_le_right→HF,mul_sub→HG,natAbs_mul→HH,natCast_mul→HI,neg_neg→HJ,compare_eq_gt→HS,mul_lt_mul_of_pos_right→HT,mul_neg_of_neg_of_pos→HU,toNat_of_nonneg→UK
open Go.IntKind renaming i64→Jx,u64→UO,u8→UQ
open List renaming replicate→Jd,getElem_mem→Ha,length_cons→JF,drop_zero→U9,all_eq_true→Vf,append_nil→Vg,mem_map→VG,of_mem_zip→Vy,drop→US,takeWhile_cons→Ht,any_cons→HK,getElem?_eq_getElem→VO,map_cons→JR,mem_cons_of_mem→Jn,mem_cons_self→Jm,all_cons→UA,any_eq_false→Uk,append_assoc→Ju,ext_getElem→HV,foldl_cons→HW,getElem_set→HX,length_nil→HY,length_singleton→Us,nil_append→VT
open Nat renaming pow_pos→Hj,pow_add→Hk,min_eq_left→Hl,zero_le→UH,mod_lt→U1,add_sub_cancel→Ho,le_refl→Jj,mul_assoc→Hp,beq→Ja,mul_lt_mul_of_pos_right→Hq,pow_le_pow_right→Hr,shiftLeft_eq→Hs,div_eq_of_lt→Hu,shiftLeft_zero→Hv,xor_lt_two_pow→Hw,and_two_pow_sub_one_eq_mod→HL,log2_eq_iff→HM,mul_comm→Ua,pow_succ→HN,pow_zero→HO,and_one_is_mod→HZ,div_div_eq_div_mul→H0,lt_of_lt_of_le→V0,mul_le_mul_right→Jk,one_shiftLeft→Ea,testBit_mod_two_pow→Eb
namespace Go.Sh
open Go Go.RowKit Go.WideShapes Go.ChangeShapes
def ZyS (P:Program) (g:TypeId → Ty → Bool):Nat → List Field → Ty → Bool
 | _,[],.unit => true
 | off,f :: l,.pair a b => Ja f.offset off && g f.type a && Ja (P.cellsOf f.type) a.size && ZyS P g (off + a.size) l b
 | _,_,_ => false
def ZdW (P:Program):Nat → TypeId → Ty → Bool
 | 0,_,_ => false
 | n + 1,T,t => match P.underlying T,t with
  | some .bool,.bool => true
  | some (.int k),.int k' => decide (k = k')
  | some .string,.str => true
  | some (.slice e),.sl t => ZdW P n e t && Ja (P.cellsOf e) t.size && Nat.ble 1 t.size
  | some (.struct fs),.pair a b => ZyS P (ZdW P n) 0 fs.toList (.pair a b) && Ja (P.cellsOf T) (Ty.size (.pair a b))
  | some (.struct fs),.unit => ZyS P (ZdW P n) 0 fs.toList .unit && Ja (P.cellsOf T) 0
  | _,_ => false
def Ty.bulk:(t:Ty) → t.den → Nat
 | .str,s => s.size + 1
 | .sl t,xs => (xs.map t.bulk).sum + 1
 | .pair a b,x => a.bulk x.1 + b.bulk x.2
 | .unit,_ => 0
 | .bool,_ => 1
 | .int _,_ => 1
 | .fl _,_ => 1
 | .cx _,_ => 1
 | .raw,_ => 1
def Ty.ok:(t:Ty) → t.den → Prop
 | .int k,n => k.min ≤ n ∧ n ≤ k.max
 | .sl t,xs => ∀ x ∈ xs,t.ok x
 | .pair a b,x => a.ok x.1 ∧ b.ok x.2
 | .bool,_ => True
 | .str,_ => True
 | .fl _,_ => True
 | .cx _,_ => True
 | .raw,_ => True
 | .unit,_ => True
mutual
def bulkD {H:Type}:DataW H → Nat
 | .lit (.string bytes) => bytes.length + 1
 | .lit _ => 1
 | .nil => 1
 | .ptr d => bulkD d + 1
 | .slice elems spare => bulkDs elems + bulkDs spare + 1
 | .agg parts => bulkDs parts + 1
 | .iface _ d => bulkD d + 1
 | .map entries => bulkEs entries + 1
 | .held _ => 1
def bulkDs {H:Type}:List (DataW H) → Nat
 | [] => 0
 | d :: r => bulkD d + bulkDs r
def bulkEs {H:Type}:List (Lit × DataW H) → Nat
 | [] => 0
 | x :: r => bulkE x + bulkEs r
def bulkE {H:Type}:Lit × DataW H → Nat
 | (.string bytes,d) => bytes.length + bulkD d + 1
 | (_,d) => bulkD d + 1
end
def whole (w:World) (b:Nat):Nat:=match w.heap[b]? with
 | some (.cells c _ _) => c.size
 | _ => 0
theorem ZzS {w:World} {b o:Nat} {v:Value} (h:w.cell? ⟨b,o,none⟩ = some v):o < whole w b:=by
 unfold World.cell? at h
 unfold whole
 split at h
 ·rename_i c _ _ hb
  simp only at hb
  rw [hb]
  simp only [Option.isSome_none,JJ,if_false] at h
  exact (Array.getElem?_eq_some_iff.1 h).1
 ·cases h
theorem ZNL (w:World):∀ b,w.heap.size ≤ b → whole w b = 0:=by
 intro b hb
 unfold whole
 rw [Array.getElem?_eq_none hb]
theorem cells?_at {w:World} {base n:Nat} {a:Addr} {cs:List Value} (h:w.cells? base a n = some cs):cs.length = n ∧ ∀ i v,cs[i]? = some v → w.cell? (a.add i) = some v:=by
 unfold World.cells? at h
 split at h
 ·have hl:=mapM_some_length h
  simp only [List.length_range] at hl
  refine ⟨hl,fun i v hi => ?_⟩
  have hlt:i < n:=by have:=(List.getElem?_eq_some_iff.1 hi).1; omega
  have:=mapM_some_get h i i (by simp [hlt])
  rw [this,hi]
 ·cases h
section
variable {H:Type} {enc:TypeId × Value → H} {P:Program} {w:World} {base:Nat} {spare:Nat → Bool} {held:Bool}
theorem Ztm {n n':Nat} (ih:∀ (T:TypeId) (t:Ty) (cs:List Value) (x:DataW H × List MemPlace),ZdW P n T t = true → DataW.trod enc P w base spare held n' T cs = some x → ∃ y,Rt w (whole w) t y cs ∧ t.ok y ∧ t.bulk y ≤ bulkD x.1) :
  ∀ (l:List Field) (t:Ty) (off:Nat) (cs:List Value) (xs:List (DataW H × List MemPlace)),ZyS P (ZdW P n) off l t = true → cs.length = off + t.size →
   (∀ (i:Nat) (f:Field),l[i]? = some f → DataW.trod enc P w base spare held n' f.type ((cs.drop f.offset).take (P.cellsOf f.type)) = xs[i]?) → xs.length = l.length →
   ∃ y,Rt w (whole w) t y (cs.drop off) ∧ t.ok y ∧ t.bulk y ≤ bulkDs (xs.map (·.1))
 | [],t,off,cs,xs,h,hl,hx,hn => by
  match t,h with
  | .unit,h =>
   refine ⟨(),?_,trivial,UH _⟩
   simp only [Rt,List.drop_eq_nil_iff]
   simp [Ty.size] at hl; omega
 | f :: l,t,off,cs,xs,h,hl,hx,hn => by
  match t,h with
  | .pair a b,h =>
   simp only [ZyS,Jh] at h
   obtain ⟨⟨⟨h1,h2⟩,h3⟩,h4⟩:=h
   match xs,hn with
   | x :: xs,hn =>
    have h0:=hx 0 f rfl
    rw [ZW h1,ZW h3] at h0
    simp only [List.getElem?_cons_zero] at h0
    obtain ⟨y,e1,e2,e3⟩:=ih f.type a _ x h2 h0
    simp only [Ty.size] at hl
    obtain ⟨z,g1,g2,g3⟩:=Ztm ih l b (off + a.size) cs xs h4 (by omega) (fun i f' hf' => by simpa using hx (i + 1) f' (by simpa using hf')) (by simpa using hn)
    refine ⟨(y,z),?_,⟨e2,g2⟩,?_⟩
    ·simp only [Rt]
     refine ⟨_,_,?_,e1,g1⟩
     rw [← List.drop_drop,List.take_append_drop]
    ·simp only [Ty.bulk,JR,bulkDs]; omega
theorem Zhz:∀ (n m:Nat) (T:TypeId) (t:Ty) (cs:List Value) (x:DataW H × List MemPlace),ZdW P m T t = true → DataW.trod enc P w base spare held n T cs = some x →
  ∃ y,Rt w (whole w) t y cs ∧ t.ok y ∧ t.bulk y ≤ bulkD x.1
 | 0,_,_,_,_,_,_,h => by simp [DataW.trod] at h
 | n + 1,0,_,_,_,_,hf,_ => by simp [ZdW] at hf
 | n + 1,m + 1,T,t,cs,x,hf,h => by
  unfold ZdW at hf
  split at hf
  ·rename_i hu
   obtain ⟨b,rfl,rfl⟩:=DataW.trod_bool hu h
   exact ⟨b,rfl,trivial,Jj _⟩
  ·rename_i k k' hu
   obtain rfl:k = k':=of_decide_eq_true hf
   obtain ⟨v,rfl,rfl,hw⟩:=DataW.trod_int hu h
   refine ⟨v,rfl,?_,Jj _⟩
   simpa [Ty.ok,Lit.wf] using hw
  ·rename_i hu
   obtain ⟨s,rfl,rfl,_⟩:=DataW.trod_string hu h
   refine ⟨s,rfl,trivial,?_⟩
   simp only [Ty.bulk,bulkD,Array.length_toList]
   exact Jj _
  ·rename_i e t hu
   simp only [Jh] at hf
   obtain ⟨⟨hf,hsz⟩,hpos⟩:=hf
   have hsz:=ZW hsz
   have hpos:1 ≤ t.size:=Nat.le_of_ble_eq_true hpos
   rcases DataW.trod_slice hu h with ⟨rfl,rfl⟩ | ⟨a,len,cap,elems,rest,n',hn',rfl,rfl,hb,hlc,_,hlen,hel,_⟩
   ·refine ⟨[],?_,(by simp [Ty.ok]:Ty.ok (.sl t) []),(by simp [Ty.bulk,bulkD])⟩
    simp only [Rt]
    exact ⟨none,0,0,rfl,rfl,Jj _,.inl trivial⟩
   ·obtain rfl:n' = n:=by omega
    have each:∀ i (hi:i < elems.length),∃ cs',w.cells? base (a.add (i * P.cellsOf e)) (P.cellsOf e) = some cs' ∧ ∃ y,Rt w (whole w) t y cs' ∧ t.ok y ∧ t.bulk y ≤ bulkD elems[i].1:=by
     intro i hi
     have h1:=hel i (by omega)
     rw [VO hi] at h1
     obtain ⟨cs',h2,h3⟩:=Option.bind_eq_some_iff.1 h1
     exact ⟨cs',h2,Zhz n' m e t cs' _ hf h3⟩
    -- the list
    have all:∀ (l:List (DataW H × List MemPlace)),(∀ i (hi:i < l.length),∃ y,(∃ cs',w.cells? base (a.add ((elems.length - l.length + i) * P.cellsOf e)) (P.cellsOf e) = some cs' ∧ Rt w (whole w) t y cs') ∧ t.ok y ∧ t.bulk y ≤ bulkD l[i].1) →
      l.length ≤ elems.length → ∃ ys:List t.den,ys.length = l.length ∧ (∀ y ∈ ys,t.ok y) ∧ (ys.map t.bulk).sum ≤ bulkDs (l.map (·.1)) ∧
       ∀ i (hi:i < ys.length),∃ cs',w.cells? base (a.add ((elems.length - l.length + i) * P.cellsOf e)) (P.cellsOf e) = some cs' ∧ Rt w (whole w) t ys[i] cs':=by
     intro l
     induction l with
     | nil => intro _ _; exact ⟨[],rfl,by simp,by simp [bulkDs],fun i hi => by simp at hi⟩
     | cons p l ih =>
      intro hp hle
      simp only [JF] at hle
      obtain ⟨y,⟨cs',c1,c2⟩,y1,y2⟩:=hp 0 (by simp)
      obtain ⟨ys,k1,k2,k3,k4⟩:=ih (fun i hi => by
       obtain ⟨y,⟨cs',c1,c2⟩,y1,y2⟩:=hp (i + 1) (by simpa using hi)
       refine ⟨y,⟨cs',?_,c2⟩,y1,by simpa using y2⟩
       rw [← c1]; congr 3; simp only [JF]; omega) (by omega)
      refine ⟨y :: ys,by simp [k1],?_,?_,?_⟩
      ·intro z hz
       rcases List.mem_cons.1 hz with rfl | hz
       ·exact y1
       ·exact k2 z hz
      ·simp only [JR,List.sum_cons,bulkDs]
       simp only [List.getElem_cons_zero] at y2
       omega
      ·intro i hi
       cases i with
       | zero => exact ⟨cs',c1,c2⟩
       | succ i =>
        obtain ⟨cs'',d1,d2⟩:=k4 i (by simpa using hi)
        refine ⟨cs'',?_,by simpa using d2⟩
        rw [← d1]; congr 3; simp only [JF]; omega
    obtain ⟨ys,k1,k2,k3,k4⟩:=all elems (fun i hi => by
     obtain ⟨cs',c1,y,c2,c3,c4⟩:=each i hi
     exact ⟨y,⟨cs',by simpa using c1,c2⟩,c3,c4⟩) (Jj _)
    simp only [Nat.sub_self,Nat.zero_add] at k4
    refine ⟨ys,?_,k2,?_⟩
    ·simp only [Rt]
     refine ⟨some a,len,cap,rfl,by omega,hlc,?_⟩
     by_cases hnil:ys = []
     ·exact .inl hnil
     ·right
      have h0:0 < ys.length:=List.length_pos_iff.2 hnil
      obtain ⟨c0,z1,z2⟩:=k4 0 h0
      obtain ⟨zl,zc⟩:=cells?_at z1
      obtain ⟨v0,hv0⟩:∃ v0,c0[0]? = some v0:=⟨c0[0]'(by omega),VO _⟩
      have hs:=zc 0 v0 hv0
      simp only [Nat.zero_mul,Addr.add,if_true] at hs
      obtain ⟨b,off,spot⟩:=a
      have hspot:spot = none:=by
       cases spot with
       | none => rfl
       | some s =>
        unfold World.cell? at hs
        split at hs
        ·simp at hs
        ·cases hs
      subst hspot
      refine ⟨b,off,rfl,fun i hi => ?_⟩
      obtain ⟨cs',d1,d2⟩:=k4 i hi
      refine ⟨cs',d2,fun j v hj => ?_⟩
      obtain ⟨_,zc⟩:=cells?_at d1
      have hc:=zc j v hj
      have e:((⟨b,off,none⟩:Addr).add (i * P.cellsOf e)).add j = ⟨b,off + i * t.size + j,none⟩:=by
       rw [hsz]
       unfold Addr.add
       split <;> split <;> simp_all <;> omega
      rw [e] at hc
      exact ⟨hc,ZzS hc⟩
    ·simp only [Ty.bulk,bulkD]
     omega
  ·rename_i fs a b hu
   simp only [Jh] at hf
   obtain ⟨hf,hsz⟩:=hf
   obtain ⟨xs,n',hn',rfl,hl,hxs,hget⟩:=DataW.trod_struct hu h
   obtain rfl:n' = n:=by omega
   obtain ⟨y,e1,e2,e3⟩:=Ztm (n:=m) (n':=n') (fun T t cs x h1 h2 => Zhz n' m T t cs x h1 h2) fs.toList (.pair a b) 0 cs xs hf (by rw [hl,ZW hsz]; omega) (fun i f hi => hget i f (by simpa using hi)) (by simpa using hxs)
   exact ⟨y,by simpa using e1,e2,by simp only [bulkD]; omega⟩
  ·rename_i fs hu
   simp only [Jh] at hf
   obtain ⟨hf,hsz⟩:=hf
   obtain ⟨xs,n',hn',rfl,hl,hxs,hget⟩:=DataW.trod_struct hu h
   refine ⟨(),?_,trivial,UH _⟩
   simp only [Rt]
   rw [ZW hsz] at hl
   exact List.length_eq_zero_iff.1 hl
  ·cases hf
end
end Go.Sh
namespace Go.Sh
open Go Go.RowKit Go.WideShapes Go.ChangeShapes
def Wo (tys:List Ty):List Kd:=tys.map .view
def ZE4:(tys:List Ty) → Kd.dens (Wo tys) → Prop
 | [],_ => True
 | t :: l,x => t.ok x.1 ∧ ZE4 l x.2
def ZhQ:(tys:List Ty) → Kd.dens (Wo tys) → Nat
 | [],_ => 0
 | t :: l,x => t.bulk x.1 + ZhQ l x.2
def ZbT (P:Program):List TypeId → List Ty → Bool
 | [],[] => true
 | T :: Ts,t :: ts => ZdW P 16 T t && ZbT P Ts ts
 | _,_ => false
section
variable {H:Type} {enc:TypeId × Value → H} {P:Program} {w:World} {base:Nat} {spare:Nat → Bool} {held:Bool}
theorem Zbl {v:Value} (h:∀ cs,v ≠ .agg cs):v.cells = #[v]:=by
 cases v <;> first | rfl | (exact absurd rfl (h _))
theorem Zws {b0 n:Nat} {r:Reach} {T:TypeId} {t:Ty} {v:Value} {d:DataW H} {ps:List MemPlace} (hval:Value.okWide P w r b0 T v) (h:DataW.Trod enc P w base spare held T v d ps) (hf:ZdW P n T t = true) :
  ∃ y,Zbd w (whole w) t y v ∧ t.ok y ∧ t.bulk y ≤ bulkD d:=by
 obtain ⟨m,hm⟩:=h
 obtain ⟨y,h1,h2,h3⟩:=Zhz m n T t _ _ hf hm
 refine ⟨y,⟨_,h1,?_⟩,h2,h3⟩
 cases n with
 | zero => simp [ZdW] at hf
 | succ n =>
  unfold Value.okWide at hval
  unfold ZdW at hf
  split at hf <;> rename_i hu <;> try (cases hf; done)
  all_goals
   rw [hu] at hval
   simp only at hval
  ·refine .inr ⟨rfl,?_⟩
   rw [Zbl]; rintro cs rfl; simp [Cell.okWide,Cell.ok,hu] at hval
  ·refine .inr ⟨rfl,?_⟩
   rw [Zbl]; rintro cs rfl; simp [Cell.okWide,Cell.ok,hu] at hval
  ·refine .inr ⟨rfl,?_⟩
   rw [Zbl]; rintro cs rfl; simp [Cell.okWide,Cell.ok,hu] at hval
  ·refine .inr ⟨rfl,?_⟩
   rw [Zbl]; rintro cs rfl; simp [Cell.okWide,Cell.ok,hu] at hval
  ·obtain ⟨cs,rfl,_⟩:=hval
   exact .inl ⟨rfl,rfl⟩
  ·obtain ⟨cs,rfl,_⟩:=hval
   exact .inl ⟨rfl,rfl⟩
theorem Zfy {b0:Nat} {r:Reach}:∀ {Ts:List TypeId} {tys:List Ty} {vs:List Value} {ds:List (DataW H)} {ps:List MemPlace},ZbT P Ts tys = true →
  (∀ (j:Nat) t v,Ts[j]? = some t → vs[j]? = some v → Value.okWide P w r b0 t v) → DataW.TrodAll enc P w base spare held Ts vs ds ps →
  ∃ x:Kd.dens (Wo tys),TTs w (whole w) (Wf (Wo tys) x) vs [] ∧ ZE4 tys x ∧ ZhQ tys x ≤ bulkDs ds
 | [],[],vs,ds,ps,_,_,h => by
  obtain ⟨rfl,rfl,rfl⟩:=trodAll_nil h
  exact ⟨(),rfl,trivial,Jj _⟩
 | T :: Ts,t :: tys,vs,ds,ps,hf,hval,h => by
  simp only [ZbT,Jh] at hf
  obtain ⟨v,vs',d,ds',p,q,rfl,rfl,rfl,h1,h2⟩:=trodAll_cons h
  obtain ⟨y,e1,e2,e3⟩:=Zws (hval 0 T v rfl rfl) h1 hf.1
  obtain ⟨x,g1,g2,g3⟩:=Zfy hf.2 (fun j t v ht hv => hval (j + 1) t v (by simpa using ht) (by simpa using hv)) h2
  refine ⟨(y,x),?_,⟨e2,g2⟩,?_⟩
  ·exact ⟨[],[],rfl,⟨e1,rfl⟩,g1⟩
  ·simp only [ZhQ,bulkDs]; omega
 | [],_ :: _,_,_,_,hf,_,_ => by simp [ZbT] at hf
 | _ :: _,[],_,_,_,hf,_,_ => by simp [ZbT] at hf
end
section
variable {H:Type} {enc:TypeId × Value → H} {P:Program}
theorem ZqG {f:Func} {s:ChangeSpec} {apart fresh handsOn again:Bool} {W W':World} {args:Array Value} {v:Value} {ds gs:List (DataW H)} {before pa pv:List MemPlace}
  (hW:DataW.Whole enc P f.params.toList s.vars apart W args.toList ds gs before)
  (hres:∀ (b:Nat) (sp:Nat → Bool) (hd:Bool),DataW.TrodAll enc P W' b sp hd f.resultTypes.toList (v.resultList f.resultTypes.size) (s.fn H (ds ++ gs)).results [])
  (hargs:∀ sp:Nat → Bool,(∀ p ∈ before,sp p.block = true) → DataW.TrodAll enc P W' 0 sp true f.params.toList args.toList (s.fn H (ds ++ gs)).args pa)
  (hvars:∀ sp:Nat → Bool,(∀ p ∈ before,sp p.block = true) → DataW.TrodVars enc P W' sp s.vars (s.fn H (ds ++ gs)).vars pv)
  (hps:before = pa ++ pv) (hb:Below W.heap.size W W')
  (hok:∀ (j:Nat) (t:TypeId) (r:Value),f.resultTypes[j]? = some t → (v.resultList f.resultTypes.size)[j]? = some r → Value.okWide P W' .any 0 t r) :
  s.post enc P f apart fresh handsOn again W args v W':=by
 have hlt:∀ p ∈ before,p.block < W.heap.size:=fun p hp => hW.lt p hp
 have hold:∀ p ∈ before,(fun b => decide (b < W.heap.size)) p.block = true:=fun p hp => by simpa using hlt p hp
 refine ⟨ds,gs,before,[],pa,pv,hW,hres _ _ _,hargs _ hold,hvars _ hold,World.keptBut_mono (fun p hp => ⟨hp,?_⟩) (hb.frame (· ∈ before)),fun _ => ?_⟩
 ·rw [hps,List.mem_append] at hp
  exact Or.inr hp
 ·obtain ⟨_,_,_,_,_,hz,hn⟩:=hW
  refine ⟨hok,_,_,([] ++ pa) ++ pv,⟨[] ++ pa,pv,trodAll_append (hargs _ (fun _ _ => rfl)) (hres _ _ _),hvars _ (fun _ _ => rfl),rfl,?_,?_⟩,?_⟩
  ·intro b off hp
   have hin:MemPlace.cell b off ∈ before:=by rw [hps]; simpa using hp
   rw [hb.frozen (hlt _ hin)]
   exact hz b off hin
  ·intro ha
   have:=hn ha
   rw [hps] at this
   simpa using this
  ·intro p hp _
   rw [hps]
   simpa using hp
theorem ZgS {w w':World} {base:Nat} {spare:Nat → Bool} {held:Bool}:∀ {ts:List TypeId} {vs:List Value} {ds:List (DataW H)} {ps:List MemPlace},
  DataW.TrodAll enc P w base spare held ts vs ds ps → (∀ p ∈ ps,w.sameAt w' p) → DataW.TrodAll enc P w' base spare held ts vs ds ps
 | [],[],[],_,h,_ => h
 | _ :: _,_ :: _,_ :: _,_,⟨p,q,⟨n,h1⟩,h2,e⟩,hs => ⟨p,q,⟨n,DataW.trod_carry n _ _ _ h1 (fun x hx => hs x (by rw [e]; exact List.mem_append_left _ hx))⟩,
   ZgS h2 (fun x hx => hs x (by rw [e]; exact List.mem_append_right _ hx)),e⟩
variable [Gl]
theorem law_contract {K:FuncId} {fn:Func} {spec:ChangeSpec} {B:TypeId} (tys:List Ty) {F:Nat → Kd.dens (Wo tys) → Option (Ans (Wo tys) (.view .bool))} {bound:Nat}
  (hl:laidOutB P = true) (hm:mapsRowed P = true) (hz:((List.range P.types.size).all fun t => match P.underlying t with | some (.slice e) => decide (0 < P.cellsOf e) | _ => true) = true)
  (hts:fn.params.toList.all (fun t => decide (t < P.types.size)) = true) (hfit:ZbT P fn.params.toList tys = true) (hres:fn.resultTypes = #[B]) (hB:P.underlying B = some .bool)
  (hvars:spec.vars = []) (hspec:∀ (H:Type) (ds:List (DataW H)),ds.length = tys.length → spec.fn H ds = { results:=[.lit (.bool true)],args:=ds })
  (hctr:∀ k,Ctr P k K (mk (Wo tys) (.view .bool) F)) (plain:∀ x:Kd.dens (Wo tys),ZE4 tys x → ZhQ tys x ≤ bound → ∃ k u,F k x = some (true,u))
  (enc:TypeId × Value → H) (W:World) (b0:Nat) (args:Array Value) (ds gs:List (DataW H)) (before:List MemPlace)
  (hval:∀ (j:Nat) t v,fn.params[j]? = some t → args[j]? = some v → Value.okWide P W .any b0 t v)
  (hW:DataW.Whole enc P fn.params.toList spec.vars false W args.toList ds gs before) (hk:bulkDs (ds ++ gs) ≤ bound) (hgl:ZhL W (whole W)) :
  Calls P K args W fun e W' => ∃ v,e = .returned v ∧ spec.post enc P fn false true false false W args v W':=by
 have hW':=hW
 obtain ⟨p,q,hA,hV,he,hfz,hnd⟩:=hW
 rw [hvars] at hV
 have hgs:gs = [] ∧ q = []:=by
  match gs,hV with
  | [],hV => exact ⟨rfl,hV⟩
  | _ :: _,hV => exact hV.elim
 obtain ⟨rfl,rfl⟩:=hgs
 simp only [Vg] at he hk
 obtain rfl:p = before:=he.symm
 obtain ⟨x,h1,h2,h3⟩:=Zfy (tys:=tys) hfit (fun j t v ht hv => hval j t v (by simpa using ht) (by simpa using hv)) hA
 obtain ⟨k,u,hF⟩:=plain x h2 (by omega)
 have hlen:ds.length = tys.length:=by
  have e1:∀ {Ts:List TypeId} {tys:List Ty} {vs:List Value} {ds:List (DataW H)} {ps:List MemPlace},ZbT P Ts tys = true → DataW.TrodAll enc P W 0 (fun _ => true) true Ts vs ds ps → ds.length = tys.length:=by
   intro Ts
   induction Ts with
   | nil =>
    intro tys vs ds ps hf h
    obtain ⟨rfl,rfl,rfl⟩:=trodAll_nil h
    cases tys with
    | nil => rfl
    | cons => simp [ZbT] at hf
   | cons T Ts ih =>
    intro tys vs ds ps hf h
    obtain ⟨v,vs',d,ds',p,q,rfl,rfl,rfl,h1,h2⟩:=trodAll_cons h
    cases tys with
    | nil => simp [ZbT] at hf
    | cons t tys =>
     simp only [ZbT,Jh] at hf
     simp [ih hf.2 h2]
  exact e1 hfit hA
 have hcall:=(hctr k).calls (Wf (Wo tys) x) (true,u) (by
  have hd:Zb1 (Wo tys) (Wf (Wo tys) x) = some x:=by
   have e2:∀ (l:List Ty) (x:Kd.dens (Wo l)),Zb1 (Wo l) (Wf (Wo l) x) = some x:=by
    intro l
    induction l with
    | nil => intro x; rfl
    | cons t l ih =>
     intro x
     obtain ⟨y,ys⟩:=x
     show ((Zj5 t (.view t y)).bind fun y => (Zb1 (Wo l) (Wf (Wo l) ys)).bind fun ys => some (y,ys)) = _
     rw [ih ys]
     simp only [Zj5,dite_true]
     rfl
   exact e2 tys x
  show (Zb1 (Wo tys) (Wf (Wo tys) x)).bind (F k) = some (true,u)
  rw [hd]; exact hF) W (whole W) args.toList [] (ZNL W) hgl h1 List.nodup_nil (by simp)
 rw [Array.toArray_toList] at hcall
 refine hcall.mono fun e W' h => ?_
 obtain ⟨v,lim',b1,b2,rfl,hE,_,⟨ho,ht,hout⟩,hold,hT,_⟩:=h
 have hv:v = .bool true:=by
  have hT:Zbd W' lim' .bool true v ∧ b1 = []:=hT
  obtain ⟨⟨cs,c1,c2⟩,_⟩:=hT
  rcases c2 with ⟨c2,_⟩ | ⟨_,c2⟩
  ·cases c2
  ·simp only [Rt] at c1
   subst c2
   simpa using c1
 subst hv
 have hBel:Below W.heap.size W W':=⟨ho,ht,hout,hE.size,fun b hb => (hold b hb (by simp)).1⟩
 have hlt:∀ x ∈ p,x.block < W.heap.size:=fun x hx => hW'.lt x hx
 refine ⟨_,rfl,ZqG (pa:=p) (pv:=[]) hW' (fun b sp hd => ?_) (fun sp hsp => ?_) (fun sp hsp => ?_) (by simp) hBel ?_⟩
 ·rw [Vg,hspec H ds hlen,hres]
  exact ⟨[],[],⟨1,by simp [DataW.trod,Value.cells,hB]⟩,rfl,rfl⟩
 ·rw [Vg,hspec H ds hlen]
  refine ZgS (w:=W) (DataW.TrodAll.respare (kids_rows hl hm) (slices_full_of P hz) (fun t ht => ?_) hA hsp) (fun y hy => hBel.same (hlt y hy))
  simpa using Vf.1 hts t ht
 ·rw [Vg,hspec H ds hlen,hvars]
  rfl
 ·exact ok_one hres rfl (okWide_bool_mk hB true)
end
end Go.Sh
namespace Go.Sh
open Go Go.Proofs
section doc
variable {k:Nat} {c d r:Int} {tags:List ByteArray} {ch:List (List Int)} {n:Nat}
theorem ZBa (hk:16777216 ≤ k) (hS:Small tags ch):Znq k (((c,d,r,()),tags,ch,()),()) = some (((c,d,r,()),tags,ch,()),()):=by
 have htl:=hS.tl
 have hcl:=hS.cl
 show Zdg k (Zim k) (((c,d,r,()),tags,ch,()),()) = _
 simp only [Zdg]
 rw [Zb (by omega),VT]
 have key:=Qv (step:=fun L1 => Zax k L1) (A:=Unit) (fun i _ => (UJ i,c,d,r,tags,ch,c,d,r,tags,ch.take i,(0:Int),(0:Int),(0:Int))) ch (fun _ _ => some (((c,d,r,()),tags,ch,()),()))
  (fun L a => by
   grind [Zax])
  (fun L i hi a hL => by
   simp only [Zax]
   have hl:=hS.chan ch[i] (Ha _)
   rw [Zb (KX hi),Zb (Ya hi),ZE hi,Zb (by omega),Zb (by rw [List.length_take]; simp; omega),Qc hi (by omega)]
   simp_all) k 0 () (by omega) (by omega)
 exact key
end doc
theorem ZMF:Zuy 20000000 () = some (true,()):=by kernel_rfl
end Go.Sh
namespace Go.Sh
open Go Go.Proofs
def Za (n:Nat):Nat → List Bool
 | 0 => []
 | w + 1 => n.testBit w :: Za n w
theorem Ze (n:Nat):∀ w,(Za n w).length = w
 | 0 => rfl
 | w + 1 => by simp [Za,Ze n w]
def YZ (f:Nat → Bool):Nat:=(f 0).toNat * 128 + (f 1).toNat * 64 + (f 2).toNat * 32 + (f 3).toNat * 16 + (f 4).toNat * 8 + (f 5).toNat * 4 + (f 6).toNat * 2 + (f 7).toNat
def Wd (bs:List Bool) (i:Nat):Nat:=YZ fun j => bs.getD (8 * i + j) false
def ZF (bs:List Bool):List Int:=(List.range ((bs.length + 7) / 8)).map fun i => ((Wd bs i:Nat):Int)
theorem Z9 (bs:List Bool):(ZF bs).length = (bs.length + 7) / 8:=by simp [ZF]
theorem X2 {bs:List Bool} {i:Nat} (h:i < (ZF bs).length):(ZF bs)[i] = ((Wd bs i:Nat):Int):=by simp [ZF]
theorem ZwK (f:Nat → Bool):YZ f < 256:=by
 unfold YZ
 cases f 0 <;> cases f 1 <;> cases f 2 <;> cases f 3 <;> cases f 4 <;> cases f 5 <;> cases f 6 <;> cases f 7 <;> decide
abbrev Kn (bs:List Bool):List Int × Int × Unit:=(ZF bs,(bs.length:Int),())
def orB (v:Int) (r:Nat) (x:Int):Int:=UQ.wrap (UJ (UN 8 v ||| UN 8 (UQ.wrap (Jx.wrap (x * (2:Int) ^ min (7 - r) 64)))).toNat)
theorem ZPU:∀ (r:Fin 8) (v:Fin 256) (c:Bool),v.val % 2 ^ (8 - r.val) = 0 → orB (v.val:Int) r.val (if c then 1 else 0) = ((v.val + c.toNat * 2 ^ (7 - r.val):Nat):Int):=by
 decide +kernel
theorem ZFD {f:Nat → Bool} {r:Nat} (hr:r < 8) (hf:∀ j,r ≤ j → f j = false):YZ f % 2 ^ (8 - r) = 0:=by
 unfold YZ
 grind
theorem ZFE {f:Nat → Bool} {r:Nat} (hr:r < 8) (hf:f r = false) (c:Bool):YZ (fun j => if j = r then c else f j) = YZ f + c.toNat * 2 ^ (7 - r):=by
 unfold YZ
 grind
theorem Zoe {bs:List Bool} (c:Bool) {i:Nat} (h:8 * i + 8 ≤ bs.length):Wd (bs ++ [c]) i = Wd bs i:=by
 unfold Wd YZ
 grind
theorem Zod {bs:List Bool} (c:Bool) {i r:Nat} (hr:r < 8) (h:bs.length = 8 * i + r):Wd (bs ++ [c]) i = Wd bs i + c.toNat * 2 ^ (7 - r):=by
 have h2:(bs.getD (8 * i + r) false) = false:=by simp_all
 unfold Wd
 rw [← ZFE (f:=fun j => bs.getD (8 * i + j) false) hr h2 c]
 grind
theorem ZAn {bs:List Bool} {i r:Nat} (hr:r < 8) (h:bs.length = 8 * i + r):Wd bs i % 2 ^ (8 - r) = 0:=by
 refine ZFD hr fun j hj => ?_
 simp_all
theorem Ztu (n:Nat):((n:Int)).tdiv 8 = ((n / 8:Nat):Int):=by rfl
theorem ZQ5 (n:Nat):((n:Int)).tmod 8 = ((n % 8:Nat):Int):=by rfl
theorem Zrw {bs:List Bool} (c:Bool) {q r:Nat} (hr:r < 8) (h0:r ≠ 0) (h:bs.length = 8 * q + r) :
  ZF (bs ++ [c]) = (ZF bs).set q ((Wd bs q + c.toNat * 2 ^ (7 - r):Nat):Int):=by
 have hl1:(ZF bs).length = q + 1:=by rw [Z9]; omega
 have hl2:(ZF (bs ++ [c])).length = q + 1:=by rw [Z9,Q3,Us]; omega
 apply HV
 ·rw [List.length_set,hl1,hl2]
 ·intro i h1 h2
  rw [X2,HX]
  split
  ·rename_i e; subst e; rw [Zod c hr h]
  ·rw [X2,Zoe c (by omega)]
theorem Zrv {bs:List Bool} (c:Bool) {q:Nat} (h:bs.length = 8 * q) :
  ZF (bs ++ [c]) = (ZF bs ++ [0]).set q ((c.toNat * 2 ^ 7:Nat):Int):=by
 have hl1:(ZF bs).length = q:=by rw [Z9]; omega
 have hl2:(ZF (bs ++ [c])).length = q + 1:=by rw [Z9,Q3,Us]; omega
 have hz:Wd bs q = 0:=by
  unfold Wd YZ
  simp_all
 apply HV
 ·simp_all
 ·intro i h1 h2
  rw [X2,HX]
  split
  ·rename_i e; subst e
   rw [Zod c (r:=0) (by omega) (by omega),hz]; simp
  ·rw [List.getElem_append_left (by omega),X2,Zoe c (by omega)]
theorem Zkn (k:Nat) (bs:List Bool) (hb:bs.length < 4294967296) (x:Int) (c:Bool) (hx:x = if c then 1 else 0):Zoz k (Kn bs,x,()) = some ((),Kn (bs ++ [c]),()):=by
 show Zkm k _ = _
 obtain ⟨q,r,hr,hq⟩:∃ q r,r < 8 ∧ bs.length = 8 * q + r:=⟨bs.length / 8,bs.length % 8,U1 _ (by omega),by omega⟩
 have e1:Jx.wrap (((bs.length:Nat):Int).tdiv 8) = ((q:Nat):Int):=by rw [Ztu,Z2 (by omega)]; omega
 have e2:((bs.length:Nat):Int).tmod 8 = ((r:Nat):Int):=by rw [ZQ5]; omega
 have e3:Jx.wrap ((7:Int) - (r:Int)) = ((7 - r:Nat):Int):=by rw [Z2 (by omega)]; omega
 have e4:Jx.wrap (((bs.length:Nat):Int) + 1) = (((bs ++ [c]).length:Nat):Int):=by rw [Z2 (by omega),Q3]; simp
 have e5:∀ v:Nat,v < 256 → v % 2 ^ (8 - r) = 0 → UQ.wrap (UJ (UN 8 (v:Int) ||| UN 8 (UQ.wrap (Jx.wrap (x * (2:Int) ^ min ((7 - r:Nat):Int).toNat 64)))).toNat) = ((v + c.toNat * 2 ^ (7 - r):Nat):Int):=by
  intro v hv hm
  have:=ZPU ⟨r,hr⟩ ⟨v,hv⟩ c hm
  grind [orB,Xa]
 simp only [Zkm,e1,e2,e3,Xa]
 by_cases h0:r = 0
 ·subst h0
  have hlen:(ZF bs).length = q:=by rw [Z9]; omega
  rw [show ((((0:Nat):Int)) == (0:Int)) = true from rfl]
  simp only [cond_true]
  have hl:(ZF bs ++ [(0:Int)]).length = q + 1:=by simp [hlen]
  rw [Zb (by rw [hlen]; omega),Zb (by grind),Zb (by omega),Zb (by omega),Zb (by grind),Zb (by omega)]
  have hg:(ZF bs ++ [(0:Int)]).getD q (OfNat.ofNat 0) = ((0:Nat):Int):=by simp_all
  have h5:=e5 0 (by omega) (by simp)
  simp only [Xa] at h5
  rw [hg,h5,e4]
  show _ = some ((),(ZF (bs ++ [c]),_,()),())
  rw [Zrv c (by omega)]
  simp
 ·rw [show ((((r:Nat):Int)) == (0:Int)) = false from by rw [ZP]; simp; omega]
  simp only [cond_false]
  have hlen:(ZF bs).length = q + 1:=by rw [Z9]; omega
  rw [Zb (by grind),Zb (by omega),Zb (by omega),Zb (by grind),Zb (by omega)]
  have hg:(ZF bs).getD q (OfNat.ofNat 0) = ((Wd bs q:Nat):Int):=by rw [List.getD_eq_getElem?_getD,VO (by omega),X2]; rfl
  have h5:=e5 _ (ZwK _) (ZAn hr hq)
  simp only [Xa] at h5
  rw [hg]
  rw [show YZ (fun j => bs.getD (8 * q + j) false) = Wd bs q from rfl] at h5
  rw [h5,e4]
  show _ = some ((),(ZF (bs ++ [c]),_,()),())
  rw [Zrw c hr h0 hq]
end Go.Sh
namespace Go.Sh
open Go Go.Proofs
theorem Ze2 (n j:Nat):((n:Nat):Int).fdiv ((2:Int) ^ j) = ((n / 2 ^ j:Nat):Int):=by
 grind
theorem ZUz (n j:Nat) (hj:j < 64):Jx.wrap (UO.wrap (UJ (UN 64 (((n:Nat):Int).fdiv ((2:Int) ^ min (j:Int).toNat 64)) &&& UN 64 1).toNat)) = if n.testBit j then 1 else 0:=by
 rw [Xa,Hl (by omega),Ze2,HP,show UN 64 1 = 1#64 from rfl,HQ,Hy]
 rw [show (1#64).toNat = 1 from rfl,HZ,Nat.mod_mod_of_dvd _ (by decide:2 ∣ 2 ^ 64)]
 have h2:n.testBit j = decide (n / 2 ^ j % 2 = 1):=Nat.testBit_eq_decide_div_mod_eq
 rw [h2]
 have:n / 2 ^ j % 2 < 2:=U1 _ (by omega)
 generalize n / 2 ^ j % 2 = m at this ⊢
 match m,this with
 | 0,_ => rfl
 | 1,_ => rfl
theorem ZyB (k:Nat):∀ (w:Nat) (bs:List Bool) (n:Nat),w < k → w ≤ 64 → bs.length + w < 4294967296 →
  ZgG k (Kn bs,(n:Int),(w:Int),()) = some ((),Kn (bs ++ Za n w),()):=by
 intro w bs n hk hw hb
 show Zjf k (Zvr k) _ = _
 simp only [Zjf]
 suffices H:∀ (w:Nat) (m:Nat) (bs:List Bool),w < m → w ≤ 64 → bs.length + w < 4294967296 →
   Zh (fun L1 => ZeS k L1) m (Jx.wrap ((w:Int) - 1),(n:Int),(bs.length:Int),ZF bs) = some ((),Kn (bs ++ Za n w),()) from H w k bs hk hw hb
 intro w
 induction w with
 | zero =>
  intro m bs hm _ _
  obtain ⟨m,rfl⟩:=Zw hm
  rw [Zd]
  rw [show Jx.wrap (((0:Nat):Int) - 1) = -1 from by rw [Z2 (by omega)]; rfl]
  grind [ZeS,Za]
 | succ w ih =>
  intro m bs hm hw hb
  obtain ⟨m,rfl⟩:=Zw (show 0 < m by omega)
  rw [Zd]
  have e1:Jx.wrap (((w + 1:Nat):Int) - 1) = (w:Int):=by rw [Z2 (by omega)]; omega
  rw [e1]
  simp only [ZeS]
  rw [Zb (by omega)]
  simp only [Zb (show (0:Int) ≤ (w:Int) by omega)]
  rw [ZUz n w (by omega)]
  rw [show ((ZF bs,((bs.length:Nat):Int),()):List Int × Int × Unit) = Kn bs from rfl,Zkn k bs (by omega) _ (n.testBit w) rfl]
  grind [Za]
theorem ZpK (k w:Nat) (h:w ≤ 32):ZyA k ((w:Int),()) = some (false,()):=by
 show ZpJ k _ = _
 grind [ZpJ]
theorem QI (k:Nat) (bs:List Bool) (n w:Nat) (hk:64 < k) (hw:w ≤ 32) (hn:n < 2 ^ w) (hb:bs.length + w < 4294967296) :
  ZO k (Kn bs,(n:Int),(w:Int),()) = some (0,Kn (bs ++ Za n w),()):=by
 show Zpy k _ = _
 have h32:n < 2 ^ 32:=V0 hn (Hr (by omega) hw)
 simp only [Zpy]
 rw [ZpK k w hw]
 simp only [ZX,cond_false]
 rw [Zl (by omega),Zb (by omega),Xa,Hl (by omega),Ze2,Hu hn]
 rw [show ((((0:Nat):Int)) != (0:Int)) = false from rfl]
 simp only [cond_false]
 rw [show UO.wrap (n:Int) = (n:Int) from by rw [IntKind.wrap_u64]; omega]
 rw [show ((ZF bs,((bs.length:Nat):Int),()):List Int × Int × Unit) = Kn bs from rfl,ZyB k w bs n (by omega) (by omega) hb]
 rfl
def Xg (n:Int) (w:Nat):Bool:=if w = 0 then n = 0 else -(2 ^ (w - 1):Int) ≤ n ∧ n < 2 ^ (w - 1)
def WA (n:Int) (w:Nat):List Bool:=Za (n % 2 ^ w).toNat w
theorem Zn9 (n v:Nat):∀ w,w ≤ v → Za (n % 2 ^ v) w = Za n w
 | 0,_ => rfl
 | w + 1,h => by
  simp only [Za]
  rw [Zn9 n v w (by omega),Eb]
  simp [show w < v by omega]
theorem Zak (n:Int) (w:Nat):(WA n w).length = w:=Ze _ _
theorem Zml (n:Int) (w v:Nat) (h:w ≤ v):(n % 2 ^ v).toNat % 2 ^ w = (n % 2 ^ w).toNat:=by
 have hv:(0:Int) < 2 ^ v:=Hm (by omega)
 have hw:(0:Int) < 2 ^ w:=Hm (by omega)
 have h1:0 ≤ n % 2 ^ v:=HB _ (by omega)
 have h2:0 ≤ n % 2 ^ w:=HB _ (by omega)
 have hd:((2:Int) ^ w) ∣ 2 ^ v:=⟨2 ^ (v - w),by rw [← Int.pow_add]; congr 1; omega⟩
 apply UJ.inj
 show (((n % 2 ^ v).toNat % 2 ^ w:Nat):Int) = ((n % 2 ^ w).toNat:Int)
 rw [Int.natCast_emod,UK h1,UK h2,Int.natCast_pow]
 exact Int.emod_emod_of_dvd n hd
theorem ZtJ (n:Int) (w v:Nat) (h:w ≤ v):Za (n % 2 ^ v).toNat w = WA n w:=by
 unfold WA
 rw [← Zml n w v h,Zn9 _ _ _ (Jj w)]
theorem ZyP {n:Int} {w:Nat} (hw:0 < w) (h:Xg n w = true):n.fdiv (2 ^ (w - 1)) = 0 ∨ n.fdiv (2 ^ (w - 1)) = -1:=by
 unfold Xg at h
 rw [if_neg (by omega)] at h
 obtain ⟨h1,h2⟩:=of_decide_eq_true h
 have hp:(0:Int) < 2 ^ (w - 1):=Hm (by omega)
 rw [HC _ (by omega)]
 rcases Int.lt_or_le n 0 with hn | hn
 ·right
  rw [Int.ediv_eq_iff_of_pos hp]
  constructor <;> omega
 ·left
  exact Int.ediv_eq_zero_of_lt hn h2
theorem ZrY (k:Nat) (bs:List Bool) (n:Int) (w:Nat) (hk:64 < k) (hw:w ≤ 32) (hn:Xg n w = true) (hb:bs.length + w < 4294967296) :
  Zt9 k (Kn bs,n,(w:Int),()) = some (0,Kn (bs ++ WA n w),()):=by
 show Zkt k _ = _
 have hput:ZgG k ((ZF bs,((bs.length:Nat):Int),()),UO.wrap n,(w:Int),()) = some ((),Kn (bs ++ WA n w),()):=by
  rw [show UO.wrap n = (((n % 2 ^ 64).toNat:Nat):Int) from by
   rw [IntKind.wrap_u64]
   omega]
  rw [show ((ZF bs,((bs.length:Nat):Int),()):List Int × Int × Unit) = Kn bs from rfl,ZyB k w bs _ (by omega) (by omega) hb,ZtJ n w 64 (by omega)]
 simp only [Zkt]
 rw [ZpK k w hw]
 simp only [ZX,cond_false,hput]
 by_cases h0:w = 0
 ·subst h0
  unfold Xg at hn
  simp_all
 ·rw [show ((((w:Nat):Int)) == (0:Int)) = false from by rw [ZP]; simp; omega]
  simp only [cond_false]
  have e1:Jx.wrap ((w:Int) - 1) = ((w - 1:Nat):Int):=by rw [Z2 (by omega)]; omega
  rw [e1]
  simp only [Xa,Hl (show w - 1 ≤ 64 by omega)]
  rw [Zb (by omega),Zb (by omega)]
  rcases ZyP (by omega) hn with h | h
  ·simp_all
  simp_all
theorem ZyE (k:Nat) (bs:List Bool) (n:Nat) (hk:n < k) (hn:n ≤ 65536) (hb:bs.length + n + 1 < 4294967296) :
  ZsQ k (Kn bs,(n:Int),()) = some (0,Kn (bs ++ (Jd n false ++ [true])),()):=by
 show Zjj k (ZvB k) _ = _
 simp only [Zjj]
 rw [Zl (by omega),Zl (by omega)]
 suffices H:∀ (r i m:Nat) (bs:List Bool),n = i + r → r < m → bs.length + r + 1 < 4294967296 →
   Zh (fun L1 => ZeW k L1) m ((n:Int),(i:Int),(bs.length:Int),ZF bs) = some (0,Kn (bs ++ (Jd r false ++ [true])),()) from H n 0 k bs (by omega) hk hb
 intro r
 induction r with
 | zero =>
  intro i m bs he hm hb
  obtain ⟨m,rfl⟩:=Zw hm
  rw [Zd]
  simp only [ZeW]
  rw [Zl (by omega),show ((ZF bs,((bs.length:Nat):Int),()):List Int × Int × Unit) = Kn bs from rfl,Zkn k bs (by omega) 1 true rfl]
  simp
 | succ r ih =>
  intro i m bs he hm hb
  obtain ⟨m,rfl⟩:=Zw (show 0 < m by omega)
  rw [Zd]
  simp only [ZeW]
  rw [Zb (by omega),show ((ZF bs,((bs.length:Nat):Int),()):List Int × Int × Unit) = Kn bs from rfl,Zkn k bs (by omega) 0 false rfl]
  simp only [ZX]
  rw [show Jx.wrap ((i:Int) + 1) = ((i + 1:Nat):Int) from by rw [Z2 (by omega)]; omega]
  rw [ih (i + 1) m (bs ++ [false]) (by omega) (by omega) (by simp; omega)]
  simp [List.replicate_succ]
def Zac (n:Nat):Nat:=(8 - n % 8) % 8
theorem ZAo (bs:List Bool) (m i:Nat):Wd (bs ++ Jd m false) i = Wd bs i:=by
 unfold Wd
 grind
theorem ZM2 (bs:List Bool):ZF (bs ++ Jd (Zac bs.length) false) = ZF bs:=by
 unfold ZF
 rw [show ((bs ++ Jd (Zac bs.length) false).length + 7) / 8 = (bs.length + 7) / 8 from by simp [Zac]; omega]
 apply List.map_congr_left
 intro i _
 rw [ZAo]
theorem ZUy (n:Nat) (h:n < 4294967296):Jx.wrap (UJ (UN 64 (Jx.wrap ((0:Int) - (n:Int))) &&& UN 64 7).toNat) = ((Zac n:Nat):Int):=by
 rw [Z2 (n:=(0:Int) - (n:Int)) (by omega)]
 have e:UN 64 ((0:Int) - (n:Int)) = Hx 64 (18446744073709551616 - n):=by
  apply BitVec.eq_of_toNat_eq
  simp_all <;> omega
 rw [e,show UN 64 7 = 7#64 from rfl,HQ,Hy,show (7#64).toNat = 2 ^ 3 - 1 from rfl,HL]
 have:(18446744073709551616 - n) % 2 ^ 64 % 2 ^ 3 = Zac n:=by unfold Zac; omega
 rw [this,Z2 (by grind)]
 rfl
theorem ZLe (k:Nat) (bs:List Bool) (hb:bs.length < 4294967000):ZLd k (Kn bs,()) = some (((Zac bs.length:Nat):Int),Kn (bs ++ Jd (Zac bs.length) false),()):=by
 show ZpD k _ = _
 simp only [ZpD]
 rw [ZUy _ (by omega)]
 have h8:Zac bs.length < 8:=by unfold Zac; omega
 rw [show Jx.wrap (((bs.length:Nat):Int) + ((Zac bs.length:Nat):Int)) = (((bs ++ Jd (Zac bs.length) false).length:Nat):Int) from by rw [Z2 (by omega)]; simp]
 show _ = some (_,(ZF (bs ++ Jd (Zac bs.length) false),_,()),())
 rw [ZM2]
theorem Zi7 (k:Nat) (bs:List Bool) (hb:bs.length < 4294967296):ZsP k (Kn bs,()) = some (ZF bs,Kn bs,()):=by
 show ZpB k _ = _
 simp only [ZpB]
 have:(ZF bs).length < 2147483648:=by rw [Z9]; omega
 rw [show Zjh k (ZF bs,()) = some (ZF bs,()) from by show XL _ = _; unfold XL; rw [Zb this]]
 rfl
theorem Zyk (k:Nat):ZsO k () = some (Kn [],()):=rfl
end Go.Sh
namespace Go.Sh
open Go Go.Proofs
theorem Zq8 {n:Nat} (h:n < 18446744073709551616):UO.wrap (n:Int) = (n:Int):=by rw [IntKind.wrap_u64]; omega
theorem ZTy {a:Nat} (ha:a < 18446744073709551616):(UN 64 (a:Int)).toNat = a:=by simp_all
theorem ZFs {a b:Nat} (ha:a < 18446744073709551616) (hb:b < 18446744073709551616):UJ (UN 64 (a:Int) &&& UN 64 (b:Int)).toNat = ((a &&& b:Nat):Int):=by
 grind
theorem orN {a b:Nat} (ha:a < 18446744073709551616) (hb:b < 18446744073709551616):UJ (UN 64 (a:Int) ||| UN 64 (b:Int)).toNat = ((a ||| b:Nat):Int):=by
 grind
theorem ZUs {a b:Nat} (ha:a < 18446744073709551616) (hb:b < 18446744073709551616):UJ (UN 64 (a:Int) ^^^ UN 64 (b:Int)).toNat = ((a ^^^ b:Nat):Int):=by
 grind
theorem Xu (j:Nat):((2:Int) ^ j) = ((2 ^ j:Nat):Int):=by rw [Int.natCast_pow]; rfl
def Zoo (s p r:Nat):Nat:=(2 * r) % 2 ^ s ^^^ (r / 2 ^ (s - 1) % 2) * p
def ZhW (s p:Nat):Nat → Nat → Nat
 | 0,r => r
 | n + 1,r => ZhW s p n (Zoo s p r)
def ZhX (s p r x:Nat):Nat:=ZhW s p 8 (r ^^^ x * 2 ^ (s - 8))
def ZNY (s p:Nat) (l:List Nat):Nat:=l.foldl (ZhX s p) 0
def Zu (l:List Int):Bool:=l.all fun x => decide (0 ≤ x) && decide (x < 256)
def Zqp (l:List Int):List Nat:=l.map Int.toNat
theorem Zkd {s p r:Nat} (hp:p < 2 ^ s):Zoo s p r < 2 ^ s:=by
 unfold Zoo
 refine Hw (U1 _ (Hj (by omega))) ?_
 have:r / 2 ^ (s - 1) % 2 < 2:=U1 _ (by omega)
 generalize r / 2 ^ (s - 1) % 2 = b at this
 have h0:0 < 2 ^ s:=Hj (by omega)
 match b,this with
 | 0,_ => simpa using h0
 | 1,_ => simpa using hp
theorem Zop {s p:Nat} (hp:p < 2 ^ s):∀ (n r:Nat),r < 2 ^ s → ZhW s p n r < 2 ^ s
 | 0,r,h => h
 | n + 1,r,h => Zop hp n _ (Zkd hp)
theorem Zoq {s p r x:Nat} (hs:8 ≤ s) (hp:p < 2 ^ s) (hr:r < 2 ^ s) (hx:x < 256):ZhX s p r x < 2 ^ s:=by
 refine Zop hp _ _ (Hw hr ?_)
 have h1:2 ^ s = 2 ^ 8 * 2 ^ (s - 8):=by rw [← Hk]; congr 1; omega
 have:x * 2 ^ (s - 8) < 256 * 2 ^ (s - 8):=Hq hx (Hj (by omega))
 rw [h1]; exact this
theorem Zg1 {s p:Nat} (hs:8 ≤ s) (hp:p < 2 ^ s):∀ (l:List Nat) (r:Nat),(∀ x ∈ l,x < 256) → r < 2 ^ s → l.foldl (ZhX s p) r < 2 ^ s
 | [],r,_,h => h
 | x :: l,r,hl,h => by
  simp only [HW]
  exact Zg1 hs hp l _ (fun y hy => hl y (Jn _ hy)) (Zoq hs hp h (hl x (Jm ..)))
theorem ZNV {s p r:Nat} (hs:8 ≤ s) (hs':s ≤ 16) (hp:p < 2 ^ s) (hr:r < 2 ^ s) :
  UO.wrap (UJ (UN 64 (UO.wrap (UJ (UN 64 (UO.wrap ((r:Int) * (2:Int))) &&& UN 64 (UO.wrap (UO.wrap ((1:Int) * (2:Int) ^ min (s:Int).toNat 64) - (1:Int)))).toNat)) ^^^
   UN 64 (UO.wrap (UO.wrap (UJ (UN 64 ((r:Int).fdiv ((2:Int) ^ min (Jx.wrap ((s:Int) - (1:Int))).toNat 64)) &&& UN 64 (1:Int)).toNat) * (p:Int)))).toNat) = ((Zoo s p r:Nat):Int):=by
 have hpow:2 ^ s ≤ 2 ^ 16:=Hr (by omega) hs'
 have hpos:0 < 2 ^ s:=Hj (by omega)
 rw [show Jx.wrap ((s:Int) - 1) = ((s - 1:Nat):Int) from by rw [Z2 (by omega)]; omega]
 rw [Xa,Xa,Hl (by omega),Hl (by omega),Ze2,Int.one_mul,Xu]
 rw [Zq8 (n:=2 ^ s) (by omega),show ((2 ^ s:Nat):Int) - 1 = ((2 ^ s - 1:Nat):Int) from by omega,Zq8 (n:=2 ^ s - 1) (by omega)]
 rw [show (r:Int) * 2 = ((2 * r:Nat):Int) from by omega,Zq8 (n:=2 * r) (by omega)]
 rw [ZFs (by omega) (by omega),HL]
 have hm:2 * r % 2 ^ s < 2 ^ s:=U1 _ hpos
 rw [Zq8 (n:=2 * r % 2 ^ s) (by omega)]
 have hdl:r / 2 ^ (s - 1) ≤ r:=Nat.div_le_self _ _
 rw [show ((1:Int)) = ((1:Nat):Int) from rfl,ZFs (by omega) (by omega),HZ]
 have hb:r / 2 ^ (s - 1) % 2 < 2:=U1 _ (by omega)
 have hbp:r / 2 ^ (s - 1) % 2 * p < 2 ^ s:=by
  generalize r / 2 ^ (s - 1) % 2 = b at hb
  match b,hb with
  | 0,_ => simpa using hpos
  | 1,_ => simpa using hp
 rw [Zq8 (n:=r / 2 ^ (s - 1) % 2) (by omega),← HI,Zq8 (n:=r / 2 ^ (s - 1) % 2 * p) (by omega),ZUs (by omega) (by omega)]
 have:=Zkd (s:=s) (p:=p) (r:=r) hp
 unfold Zoo at this ⊢
 rw [Zq8 (by omega)]
theorem ZIE {s r x:Nat} (hs:8 ≤ s) (hs':s ≤ 16) (hr:r < 2 ^ s) (hx:x < 256) :
  UO.wrap (UJ (UN 64 (r:Int) ^^^ UN 64 (UO.wrap (UO.wrap (x:Int) * (2:Int) ^ min (Jx.wrap ((s:Int) - (8:Int))).toNat 64))).toNat) = ((r ^^^ x * 2 ^ (s - 8):Nat):Int):=by
 have hpow:2 ^ s ≤ 2 ^ 16:=Hr (by omega) hs'
 have h1:2 ^ s = 2 ^ 8 * 2 ^ (s - 8):=by rw [← Hk]; congr 1; omega
 have hxp:x * 2 ^ (s - 8) < 2 ^ s:=by
  rw [h1]; exact Hq hx (Hj (by omega))
 rw [show Jx.wrap ((s:Int) - 8) = ((s - 8:Nat):Int) from by rw [Z2 (by omega)]; omega]
 rw [Xa,Hl (by omega),Xu,Zq8 (n:=x) (by omega),← HI,Zq8 (n:=x * 2 ^ (s - 8)) (by omega),ZUs (by omega) (by omega)]
 have:r ^^^ x * 2 ^ (s - 8) < 2 ^ s:=Hw hr hxp
 rw [Zq8 (by omega)]
theorem ZHm (k:Nat) {s p:Nat} (hs:8 ≤ s) (hs':s ≤ 16) (hp:p < 2 ^ s) (L1:Int × Int × List Int × Int × Int × Int → Option (Int × Unit)) (v4 v5:Int) (v6:List Int) :
  ∀ (n m i r:Nat),i + n = 8 → n < m → r < 2 ^ s →
  Zh (fun L2 => ZeU k L1 L2) m ((i:Int),(r:Int),(s:Int),(p:Int),v4,v5,v6) = L1 (v5,Jx.wrap (v4 + 1),v6,((ZhW s p n r:Nat):Int),(s:Int),(p:Int)):=by
 intro n
 induction n with
 | zero =>
  intro m i r hi hm hr
  obtain ⟨m,rfl⟩:=Zw hm
  rw [Zd]
  simp only [ZeU]
  rw [Zl (by omega)]
  rfl
 | succ n ih =>
  intro m i r hi hm hr
  obtain ⟨m,rfl⟩:=Zw (show 0 < m by omega)
  rw [Zd]
  simp only [ZeU]
  rw [Zb (by omega),Zb (by rw [Z2 (by omega)]; omega),Zb (by omega),ZNV hs hs' hp hr]
  rw [show Jx.wrap ((i:Int) + 1) = ((i + 1:Nat):Int) from by rw [Z2 (by omega)]; omega]
  rw [ih m (i + 1) _ (by omega) (by omega) (Zkd hp)]
  rfl
theorem Zao {l:List Int} (h:Zu l = true) {i:Nat} (hi:i < l.length):∃ x:Nat,x < 256 ∧ l[i] = (x:Int):=by
 have:=Vf.1 h l[i] (Ha hi)
 simp only [Jh,decide_eq_true_eq] at this
 exact ⟨l[i].toNat,by omega,by omega⟩
theorem Zs7 {l:List Int} (h:Zu l = true):∀ x ∈ Zqp l,x < 256:=by
 intro x hx
 obtain ⟨y,hy,rfl⟩:=VG.1 hx
 have:=Vf.1 h y hy
 simp_all
theorem ZyC (k:Nat) (l:List Int) {s p:Nat} (hs:8 ≤ s) (hs':s ≤ 16) (hp:p < 2 ^ s) (hl:Zu l = true) (hk:l.length + 8 < k) (hk':l.length < 4294967296) :
  Zmc k (l,(s:Int),(p:Int),()) = some (((ZNY s p (Zqp l):Nat):Int),()):=by
 show Zjg k (Zvt k) _ = _
 simp only [Zjg]
 have h16:2 ^ s ≤ 2 ^ 16:=Hr (by omega) hs'
 have:=Zs (A:=Nat) (step:=fun L1 => ZeT k (Zvu k L1) L1) (fun i r => (UJ l.length,UJ i,l,(r:Int),(s:Int),(p:Int))) l
  (fun l' r => some (((l'.foldl (fun r x => ZhX s p r x.toNat) r:Nat):Int),())) (fun i r => r < 2 ^ s)
  (fun L r hr => by
   simp only [ZeT]
   rw [Zl (Zaa _),Z2 (by omega)]; rfl)
  (fun L i hi r hr hL => by
   obtain ⟨x,hx,hxe⟩:=Zao hl hi
   simp only [ZeT]
   rw [Zb (KX hi),Zb (Ya hi),Zb (by rw [Z2 (by omega)]; omega),ZE hi,hxe,ZIE hs hs' hr hx]
   have hx2:r ^^^ x * 2 ^ (s - 8) < 2 ^ s:=Hw hr (by
    have h1:2 ^ s = 2 ^ 8 * 2 ^ (s - 8):=by rw [← Hk]; congr 1; omega
    rw [h1]; exact Hq hx (Hj (by omega)))
   have hin:=ZHm k hs hs' hp L (UJ i) (UJ l.length) l 8 k 0 (r ^^^ x * 2 ^ (s - 8)) rfl (by omega) hx2
   refine Hn hin ?_
   rw [Qc hi (by omega)]
   rw [show ZhW s p 8 (r ^^^ x * 2 ^ (s - 8)) = ZhX s p r x from rfl]
   rw [hL _ (Zoq hs hp hr hx)]
   rw [HW,Xa]) k 0 0 (Hj (by omega)) (by omega) (UH _)
 refine Hn this ?_
 rw [U9]
 unfold ZNY Zqp
 rw [List.foldl_map]
theorem ZFB (bs:List Bool) (i:Nat):Wd bs i < 256:=ZwK _
theorem Yl (bs:List Bool):Zu (ZF bs) = true:=by
 refine Vf.2 fun x hx => ?_
 obtain ⟨i,_,rfl⟩:=VG.1 hx
 have h:=ZFB bs i
 grind
def Zgu (l:List Int):Nat:=ZNY 8 7 (Zqp l)
def Zb0 (l:List Int):Nat:=ZNY 16 32773 (Zqp l)
theorem ZCX {l:List Int} (h:Zu l = true):Zgu l < 2 ^ 8:=Zg1 (by omega) (by omega) _ _ (Zs7 h) (by omega)
theorem ZwT {l:List Int} (h:Zu l = true):Zb0 l < 2 ^ 16:=Zg1 (by omega) (by omega) _ _ (Zs7 h) (by omega)
theorem Zyn (k:Nat) (l:List Int) (hl:Zu l = true) (hk:l.length + 8 < k) (hk':l.length < 4294967296):ZEk k (l,()) = some (((Zgu l:Nat):Int),()):=by
 show ZpA k _ = _
 simp only [ZpA]
 have:=ZyC k l (s:=8) (p:=7) (by omega) (by omega) (by omega) hl hk hk'
 rw [show Zmc k (l,8,7,()) = Zmc k (l,((8:Nat):Int),((7:Nat):Int),()) from rfl,this]
 rfl
theorem Zyp (k:Nat) (l:List Int) (hl:Zu l = true) (hk:l.length + 8 < k) (hk':l.length < 4294967296):ZEn k (l,()) = some (((Zb0 l:Nat):Int),()):=by
 show ZpE k _ = _
 simp only [ZpE]
 have:=ZyC k l (s:=16) (p:=32773) (by omega) (by omega) (by omega) hl hk hk'
 rw [show Zmc k (l,16,32773,()) = Zmc k (l,((16:Nat):Int),((32773:Nat):Int),()) from rfl,this]
 rfl
def YB (k:Nat):Nat:=if k = 1 then 7 else 5 * k + 1
def XQ:Nat → Nat → List Nat
 | _,0 => []
 | n,i + 1 => XQ (n / 64) i ++ [128 + n % 64]
def Zbf (n:Nat):Nat:=if n < 2 ^ 7 then 1 else if n < 2 ^ 11 then 2 else if n < 2 ^ 16 then 3 else if n < 2 ^ 21 then 4 else if n < 2 ^ 26 then 5 else if n < 2 ^ 31 then 6 else 7
def ZdC (k m:Nat):Nat:=(65280 / 2 ^ k % 256) ||| m
def Qp (n:Nat):List Nat:=if n < 128 then [n] else ZdC (Zbf n) (n / 64 ^ (Zbf n - 1)) :: XQ n (Zbf n - 1)
def Q6 (l:List Nat):List Int:=l.map fun (n:Nat) => (n:Int)
theorem ZPV:∀ m:Fin 64,UQ.wrap (UJ (UN 8 (128:Int) ||| UN 8 (UQ.wrap (Jx.wrap (m.val:Int)))).toNat) = ((128 + m.val:Nat):Int):=by decide +kernel
theorem ZMZ:∀ (k:Fin 8) (m:Fin 64),2 ≤ k.val → UQ.wrap (UJ (UN 8 (UQ.wrap (Int.fdiv (65280:Int) ((2:Int) ^ min (k.val:Int).toNat 64))) ||| UN 8 (UQ.wrap (m.val:Int))).toNat) = ((ZdC k.val m.val:Nat):Int):=by decide +kernel
theorem ZHi (k:Nat) {kk:Nat} (h2:2 ≤ kk) (h7:kk ≤ 7):∀ (i m n:Nat) (suf:List Int),i < m → i < kk → n < 18446744073709551616 → n / 64 ^ i < 64 →
  Zh (fun L2 => ZeL k L2) m ((i:Int),(n:Int),(kk:Int),Jd (i + 1) 0 ++ suf) = some ((Q6 (ZdC kk (n / 64 ^ i) :: XQ n i) ++ suf,0,()),()):=by
 intro i
 induction i with
 | zero =>
  intro m n suf hm hi hn hq
  obtain ⟨m,rfl⟩:=Zw hm
  rw [Zd]
  simp only [ZeL]
  rw [Zl (by omega),Zb (by omega),Zb (by simp_all),Zb (by simp)]
  rw [HO,Nat.div_one] at hq ⊢
  have:=ZMZ ⟨kk,by omega⟩ ⟨n,hq⟩ h2
  simp only at this
  rw [this]
  rfl
 | succ i ih =>
  intro m n suf hm hi hn hq
  obtain ⟨m,rfl⟩:=Zw (show 0 < m by omega)
  rw [Zd]
  simp only [ZeL]
  have hl:(Jd (i + 1 + 1) (0:Int) ++ suf).length = i + 2 + suf.length:=by simp
  rw [Zb (by omega),Zb (by grind),Zb (by rw [hl]; omega)]
  rw [show (63:Int) = ((63:Nat):Int) from rfl,ZFs hn (by omega)]
  have h63:n &&& 63 = n % 64:=HL n 6
  have:=ZPV ⟨n % 64,U1 _ (by omega)⟩
  simp only at this
  rw [h63,this]
  rw [show Jx.wrap (((i + 1:Nat):Int) - 1) = (i:Int) from by rw [Z2 (by omega)]; omega]
  rw [show ((n:Int)).fdiv 64 = ((n / 64:Nat):Int) from by grind]
  have hset:(Jd (i + 1 + 1) (0:Int) ++ suf).set (((i + 1:Nat):Int)).toNat ((128 + n % 64:Nat):Int) = Jd (i + 1) 0 ++ (((128 + n % 64:Nat):Int) :: suf):=by
   rw [Xa,List.replicate_succ' (n:=i + 1),Ju,List.set_append_right _ _ (by simp)]
   simp
  rw [hset,ih m (n / 64) _ (by omega) (by omega) (by omega) (by rw [H0,Ua,← HN]; exact hq)]
  rw [H0,Ua,← HN]
  simp only [Q6,XQ,JR,List.map_append,List.map_nil,Ju,List.cons_append,VT]
theorem ZpM (k kk:Nat) (h:kk ≤ 8):ZEx k ((kk:Int),()) = some (((YB kk:Nat):Int),()):=by
 show ZpL k _ = _
 simp only [ZpL]
 unfold YB
 by_cases h1:kk = 1
 ·subst h1; rfl
 ·rw [show (((kk:Nat):Int) == (1:Int)) = false from by rw [ZP]; simp; omega,if_neg h1]
  simp only [cond_false]
  rw [Z2 (n:=5 * (kk:Int)) (by omega),Z2 (by omega)]
  congr 2
theorem ZqS:YB 2 = 11 ∧ YB 3 = 16 ∧ YB 4 = 21 ∧ YB 5 = 26 ∧ YB 6 = 31 ∧ YB 7 = 36:=by decide
theorem ZPB {kk n:Nat} (h2:2 ≤ kk) (h7:kk ≤ 7) (hlt:n < 2 ^ YB kk) (hge:2 < kk → 2 ^ YB (kk - 1) ≤ n) (h128:128 ≤ n):Zbf n = kk:=by
 obtain ⟨r2,r3,r4,r5,r6,r7⟩:=ZqS
 obtain rfl | rfl | rfl | rfl | rfl | rfl:kk = 2 ∨ kk = 3 ∨ kk = 4 ∨ kk = 5 ∨ kk = 6 ∨ kk = 7:=by omega
 ·rw [r2] at hlt
  unfold Zbf
  rw [if_neg (by omega),if_pos hlt]
 ·have hge:=hge (by omega)
  rw [Ho (n:=2) (m:=1),r2] at hge
  rw [r3] at hlt
  unfold Zbf
  grind
 ·have hge:=hge (by omega)
  rw [Ho (n:=3) (m:=1),r3] at hge
  rw [r4] at hlt
  unfold Zbf
  grind
 ·have hge:=hge (by omega)
  rw [Ho (n:=4) (m:=1),r4] at hge
  rw [r5] at hlt
  unfold Zbf
  grind
 ·have hge:=hge (by omega)
  rw [Ho (n:=5) (m:=1),r5] at hge
  rw [r6] at hlt
  unfold Zbf
  grind
 ·have hge:=hge (by omega)
  rw [Ho (n:=6) (m:=1),r6] at hge
  unfold Zbf
  grind
theorem Zhm {kk n:Nat} (h2:2 ≤ kk) (h7:kk ≤ 7) (hlt:n < 2 ^ YB kk):n / 64 ^ (kk - 1) < 64:=by
 have h64:(64:Nat) = 2 ^ 6:=rfl
 rw [Nat.div_lt_iff_lt_mul (Hj (by omega))]
 refine V0 hlt ?_
 rw [h64,← Nat.pow_mul,← Hk]
 refine Hr (by omega) ?_
 unfold YB
 rw [if_neg (by omega)]
 omega
theorem Zym (k:Nat) (hk:20 < k) {n:Nat} (hn:n < 2 ^ 36) (kk:Nat) (h2:2 ≤ kk) (h7:kk ≤ 7) (hlt:n < 2 ^ YB kk) (hge:2 < kk → 2 ^ YB (kk - 1) ≤ n) (h128:128 ≤ n) :
  Zpz k (Jx.wrap ((kk:Int) - 1),(n:Int),(kk:Int),Jd (kk:Int).toNat (0:Int)) = some ((Q6 (Qp n),0,()),()):=by
 have hlen:=ZPB h2 h7 hlt hge h128
 have hq:=Zhm h2 h7 hlt
 have hn':n < 18446744073709551616:=Nat.lt_trans hn (by decide)
 have:=ZHi k h2 h7 (kk - 1) k n [] (by omega) (by omega) hn' hq
 rw [show Jx.wrap ((kk:Int) - 1) = ((kk - 1:Nat):Int) from by rw [Z2 (by omega)]; omega,Xa]
 rw [show kk - 1 + 1 = kk by omega,Vg,Vg] at this
 refine Hn this ?_
 unfold Qp
 rw [if_neg (by omega),hlen]
theorem ZHj (k:Nat) (hk:20 < k) {n:Nat} (hn:n < 2 ^ 36):∀ (d kk m:Nat),d < m → kk + d = 7 → 2 ≤ kk → (2 < kk → 2 ^ YB (kk - 1) ≤ n) → 128 ≤ n →
  Zh (fun L1 => ZeK k (Zpz k) L1) m ((n:Int),(kk:Int)) = some ((Q6 (Qp n),0,()),()):=by
 intro d
 induction d with
 | zero =>
  intro kk m hm hkk h2 hge h128
  obtain rfl:kk = 7:=by omega
  obtain ⟨m,rfl⟩:=Zw hm
  rw [Zd]
  simp only [ZeK]
  rw [ZpM k 7 (by omega)]
  simp only [ZX]
  rw [Zb (by omega),Xa,Hl (show YB 7 ≤ 64 by decide),Ze2,Hu (show n < 2 ^ YB 7 from hn),Zl (by omega),Zb (by omega)]
  exact Zym k hk hn 7 (by omega) (by omega) hn hge h128
 | succ d ih =>
  intro kk m hm hkk h2 hge h128
  obtain ⟨m,rfl⟩:=Zw (show 0 < m by omega)
  rw [Zd]
  simp only [ZeK]
  rw [ZpM k kk (by omega)]
  simp only [ZX]
  have hroom:YB kk ≤ 64:=by unfold YB; split <;> omega
  rw [Zb (by omega),Xa,Hl hroom,Ze2]
  by_cases hlt:n < 2 ^ YB kk
  ·rw [Hu hlt,Zl (by omega),Zb (by omega)]
   exact Zym k hk hn kk h2 (by omega) hlt hge h128
  ·have hpos:0 < n / 2 ^ YB kk:=Nat.div_pos (by omega) (Hj (by omega))
   rw [Zb (by omega),show Jx.wrap ((kk:Int) + 1) = ((kk + 1:Nat):Int) from by rw [Z2 (by omega)]; omega]
   exact ih (kk + 1) m (by omega) (by omega) (by omega) (fun _ => by rw [Ho]; omega) h128
theorem ZK8 (k:Nat) (hk:20 < k) {n:Nat} (hn:n < 2 ^ 36):Zyl k ((n:Int),()) = some ((Q6 (Qp n),0,()),()):=by
 show Zi6 k (Zu9 k) _ = _
 simp only [Zi6]
 rw [Zl (by omega),Zl (by omega)]
 by_cases h:n < 128
 ·rw [Zb (by omega),wu8 (by omega)]
  unfold Qp
  rw [if_pos h]
  rfl
 ·rw [Zl (by omega)]
  exact ZHj k hk hn 5 2 k (by omega) (by omega) (by omega) (fun h => by omega) (by omega)
end Go.Sh
namespace Go.Sh
open Go Go.Proofs
abbrev Y0:=Ieee.double
theorem Zg3:Y0.binade = 4503599627370496:=by decide
theorem ZtS:Y0.infRung = 9218868437227405312:=by decide
theorem Zh1:Y0.signWeight = 9223372036854775808:=by decide
theorem Zkh:Y0.leastPlace = -1074:=by decide
theorem ZIH:Y0.fractionBits = 52:=rfl
theorem ZHV (s:Bool) {R:Nat} (h0:4503599627370496 ≤ R) (h1:R < 9218868437227405312) :
  Y0.read (Y0.word s R) = .number s (4503599627370496 + R % 4503599627370496) (-1074 + (R / 4503599627370496 - 1:Nat)):=by
 have e1:Y0.word s R / 9223372036854775808 % 2 = s.toNat:=by
  unfold Ieee.Format.word
  rw [Zh1]
  cases s <;> simp <;> omega
 have e2:Y0.word s R % 9223372036854775808 = R:=by
  unfold Ieee.Format.word
  rw [Zh1]
  cases s <;> simp <;> omega
 unfold Ieee.Format.read
 simp only [Zh1,Zg3,ZtS,Zkh,e1,e2]
 rw [if_neg (by omega),if_pos h1]
 cases s <;> rfl
theorem Zth (s:Bool):Y0.read (Y0.word s 0) = .number s 0 (-1074):=by cases s <;> decide
theorem ZjA (s:Bool) {m K L:Nat} {e:Int} (hm:m ≠ 0) (hL:L ≤ 52) (hl:(m.log2:Int) = L - 1 - e)
  (hcut:Ieee.Toward.even.cut s (m <<< (e - ((L:Int) - 53)).toNat) ((L:Int) - 53 - e).toNat = K) (hK:4503599627370496 ≤ K) (hK2:K < 9007199254740992) :
  Y0.read (Y0.nearest s m e) = .number s K ((L:Int) - 53):=by
 unfold Ieee.Format.nearest
 rw [if_neg hm]
 simp only [ZIH,Zkh,Zg3,ZtS]
 have hlast:max (e + (m.log2:Int) - ((52:Nat):Int)) (-1074) = (L:Int) - 53:=by omega
 rw [hlast,hcut]
 have h1:((L:Int) - 53 - -1074).toNat = L + 1021:=by omega
 rw [h1,Hl (by omega)]
 rw [ZHV s (by omega) (by omega)]
 simp_all <;> omega
theorem Zos (s:Bool) {n d q:Nat} (hd:d ≤ n.log2 + 2) (h:n = q * 2 ^ d):Ieee.Toward.even.cut s n d = q:=by
 unfold Ieee.Toward.cut
 simp only [Hl hd,Ea]
 have hp:0 < 2 ^ d:=Hj (by omega)
 simp_all
theorem YQ {N:Nat} (h:N ≠ 0) (t:Nat):(N * 2 ^ t).log2 = N.log2 + t:=by
 have hp:0 < 2 ^ t:=Hj (by omega)
 rw [HM (Nat.mul_ne_zero h (by omega))]
 obtain ⟨h1,h2⟩:=(HM h).1 rfl
 constructor
 ·rw [Hk]; exact Jk _ h1
 ·rw [show N.log2 + t + 1 = (N.log2 + 1) + t by omega,Hk]; exact Hq h2 hp
theorem Zjx {N:Nat} (h:N ≠ 0) (h':N < 9007199254740992):N.log2 ≤ 52:=by
 have:=(Nat.log2_lt h (k:=53)).2 h'
 omega
theorem Zp6 {N:Nat} (h:N ≠ 0) (h':N < 9007199254740992):4503599627370496 ≤ N * 2 ^ (52 - N.log2) ∧ N * 2 ^ (52 - N.log2) < 9007199254740992:=by
 have hL:=Zjx h h'
 obtain ⟨h1,h2⟩:=(HM h).1 rfl
 have hp:0 < 2 ^ (52 - N.log2):=Hj (by omega)
 have e1:2 ^ N.log2 * 2 ^ (52 - N.log2) = 4503599627370496:=by rw [← Hk,show N.log2 + (52 - N.log2) = 52 by omega]
 have e2:2 ^ (N.log2 + 1) * 2 ^ (52 - N.log2) = 9007199254740992:=by grind
 constructor
 ·rw [← e1]; exact Jk _ h1
 ·rw [← e2]; exact Hq h2 hp
theorem Zv0 (s:Bool) {N t:Nat} (h:N ≠ 0) (h':N < 9007199254740992) :
  Y0.read (Y0.nearest s (N * 2 ^ t) (-1 - (t:Int))) = .number s (N * 2 ^ (52 - N.log2)) ((N.log2:Int) - 53):=by
 have hL:=Zjx h h'
 obtain ⟨f1,f2⟩:=Zp6 h h'
 have hp:0 < 2 ^ t:=Hj (by omega)
 refine ZjA s (Nat.mul_ne_zero h (by omega)) hL (by rw [YQ h]; omega) ?_ f1 f2
 by_cases hc:52 - N.log2 ≤ t
 ·have e1:((-1 - (t:Int)) - ((N.log2:Int) - 53)).toNat = 0:=by omega
  have e2:((N.log2:Int) - 53 - (-1 - (t:Int))).toNat = t - (52 - N.log2):=by omega
  rw [e1,e2,Hv]
  refine Zos s (by rw [YQ h]; omega) ?_
  rw [Hp,← Hk]
  congr 2; omega
 ·have e1:((-1 - (t:Int)) - ((N.log2:Int) - 53)).toNat = 52 - N.log2 - t:=by omega
  have e2:((N.log2:Int) - 53 - (-1 - (t:Int))).toNat = 0:=by omega
  rw [e1,e2]
  refine Zos s (by omega) ?_
  rw [Hs,Hp,← Hk,HO,Nat.mul_one]
  congr 2; omega
theorem ZgI (s:Bool) {N:Nat} (h:N ≠ 0) (h':N < 4503599627370496) :
  Y0.read (Y0.nearest s N 0) = .number s (2 * N * 2 ^ (52 - (2 * N).log2)) (((2 * N).log2:Int) - 53):=by
 have hl:(2 * N).log2 = N.log2 + 1:=by rw [Ua]; exact YQ h 1
 have h2:2 * N ≠ 0:=by omega
 have hL:=Zjx h2 (by omega)
 obtain ⟨f1,f2⟩:=Zp6 h2 (by omega)
 refine ZjA s h hL (by rw [hl]; omega) ?_ f1 f2
 have e1:((0:Int) - (((2 * N).log2:Int) - 53)).toNat = 53 - (2 * N).log2:=by omega
 have e2:(((2 * N).log2:Int) - 53 - 0).toNat = 0:=by omega
 rw [e1,e2]
 refine Zos s (by omega) ?_
 rw [Hs,HO,Nat.mul_one,show 53 - (2 * N).log2 = 1 + (52 - (2 * N).log2) by omega,Hk]
 rw [← Hp]; congr 1; omega
def Val (x:Nat) (n:Int):Prop:=n.natAbs < 9007199254740992 ∧
 ((n = 0 ∧ ∃ s,Y0.read x = .number s 0 (-1074)) ∨ (n ≠ 0 ∧ Y0.read x = .number (decide (n < 0)) (n.natAbs * 2 ^ (52 - n.natAbs.log2)) ((n.natAbs.log2:Int) - 53)))
theorem Val.num {x:Nat} {n:Int} (h:Val x n):∃ s m e,Y0.read x = .number s m e ∧ e ≤ -1 ∧ -1074 ≤ e ∧ ∀ (b:Int),b ≤ e → Ieee.signed s m (e - b).toNat = n * 2 ^ (-1 - b).toNat:=by
 obtain ⟨hb,⟨rfl,s,hr⟩ | ⟨hn,hr⟩⟩:=h
 ·refine ⟨s,0,_,hr,by omega,by omega,fun b hb => ?_⟩
  unfold Ieee.signed
  cases s <;> simp
 ·have h0:n.natAbs ≠ 0:=by omega
  have hL:=Zjx h0 hb
  refine ⟨_,_,_,hr,by omega,by omega,fun b hb => ?_⟩
  unfold Ieee.signed
  have e1:(n.natAbs * 2 ^ (52 - n.natAbs.log2)) <<< ((n.natAbs.log2:Int) - 53 - b).toNat = n.natAbs * 2 ^ (-1 - b).toNat:=by
   rw [Hs,Hp,← Hk]
   congr 2; omega
  rw [e1]
  grind
theorem Zc2 {s:Bool} {m:Nat} {e:Int} {n:Int} {t:Nat} (he:e = -1 - (t:Int)) (hm:m = n.natAbs * 2 ^ t) (hs:n ≠ 0 → s = decide (n < 0)) (hb:n.natAbs < 9007199254740992):Val (Y0.write (.number s m e)) n:=by
 refine ⟨hb,?_⟩
 show _ ∨ (_ ∧ Y0.read (Y0.nearest s m e) = _)
 by_cases hn:n = 0
 ·left
  refine ⟨hn,s,?_⟩
  show Y0.read (Y0.nearest s m e) = _
  subst hn
  rw [show m = 0 by rw [hm]; simp]
  unfold Ieee.Format.nearest
  rw [if_pos rfl]
  exact Zth s
 ·right
  refine ⟨hn,?_⟩
  rw [hm,he,← hs hn]
  exact Zv0 s (by omega) hb
theorem Zmn (n:Int) (hb:n.natAbs < 4503599627370496):Val (Je.nearest n) (2 * n):=by
 show Val (Y0.nearest (decide (n < 0)) n.natAbs 0) (2 * n)
 refine ⟨by omega,?_⟩
 by_cases hn:n = 0
 ·left
  subst hn
  exact ⟨rfl,false,by decide⟩
 ·right
  refine ⟨by omega,?_⟩
  rw [ZgI _ (by omega) hb]
  have e1:(2 * n).natAbs = 2 * n.natAbs:=by omega
  simp_all <;> omega
theorem ZwP {a b:Int} {p:Int} (hp:0 < p):compare (a * p) (b * p) = compare a b:=by
 rcases Int.lt_trichotomy a b with h | h | h
 ·have:=HT h hp
  rw [HA.2 h,HA.2 this]
 ·subst h; simp
 ·have:=HT h hp
  rw [HS.2 h,HS.2 this]
theorem Zly {x y:Nat} {a b:Int} (hx:Val x a) (hy:Val y b):Je.format.order x y = some (compare a b):=by
 obtain ⟨s,m,i,h1,h2,_,h3⟩:=hx.num
 obtain ⟨t,n,j,g1,g2,_,g3⟩:=hy.num
 show (Y0.read x).order (Y0.read y) = _
 rw [h1,g1]
 unfold Ieee.Datum.order
 simp only
 rw [h3 _ (HE i j),g3 _ (HF i j),ZwP (Hm (by omega))]
theorem ZCQ {x y:Nat} {a b:Int} (hx:Val x a) (hy:Val y b) (hb:(a + b).natAbs < 9007199254740992):∃ z,floatBits .add .f64 x y = some z ∧ Val z (a + b):=by
 obtain ⟨s,m,i,h1,h2,h2',h3⟩:=hx.num
 obtain ⟨t,n,j,g1,g2,g2',g3⟩:=hy.num
 show ∃ z,((Y0.read x).sum (Y0.read y)).map Y0.write = some z ∧ _
 rw [h1,g1]
 unfold Ieee.Datum.sum
 simp only
 rw [h3 _ (HE i j),g3 _ (HF i j),← Int.add_mul]
 refine ⟨_,rfl,?_⟩
 have hp:(0:Int) < 2 ^ (-1 - min i j).toNat:=Hm (by omega)
 refine Zc2 (t:=(-1 - min i j).toNat) (by omega) ?_ (fun hn => ?_) hb
 ·rw [HH,Int.natAbs_pow]; rfl
 ·rw [if_neg (by simp_all <;> omega)]
  by_cases hlt:a + b < 0
  ·rw [dTr hlt,dTr (HU hlt hp)]
  ·rw [dFa hlt,dFa (by
    have:=Int.mul_nonneg (show 0 ≤ a + b by omega) (HD hp)
    omega)]
theorem ZPR {x:Nat} {n:Int} (h:Val x n):∃ s m e,(Y0.read x).opposite = .number s m e ∧ e ≤ -1 ∧ ∀ (b:Int),b ≤ e → Ieee.signed s m (e - b).toNat = -n * 2 ^ (-1 - b).toNat:=by
 obtain ⟨s,m,e,h1,h2,_,h3⟩:=h.num
 refine ⟨!s,m,e,by rw [h1]; rfl,h2,fun b hb => ?_⟩
 have:=h3 b hb
 unfold Ieee.signed at this ⊢
 grind
theorem ZP4 {x y:Nat} {a b:Int} (hx:Val x a) (hy:Val y b) (hb:(a - b).natAbs < 9007199254740992):∃ z,floatBits .sub .f64 x y = some z ∧ Val z (a - b):=by
 obtain ⟨s,m,i,h1,h2,h2',h3⟩:=hx.num
 obtain ⟨t,n,j,g1,g2,g3⟩:=ZPR hy
 show ∃ z,((Y0.read x).sum (Y0.read y).opposite).map Y0.write = some z ∧ _
 rw [h1,g1]
 unfold Ieee.Datum.sum
 simp only
 rw [h3 _ (HE i j),g3 _ (HF i j),← Int.add_mul,← Int.sub_eq_add_neg]
 refine ⟨_,rfl,?_⟩
 have hp:(0:Int) < 2 ^ (-1 - min i j).toNat:=Hm (by omega)
 refine Zc2 (t:=(-1 - min i j).toNat) (by omega) ?_ (fun hn => ?_) hb
 ·rw [HH,Int.natAbs_pow]; rfl
 ·rw [if_neg (by simp_all <;> omega)]
  by_cases hlt:a - b < 0
  ·rw [dTr hlt,dTr (HU hlt hp)]
  ·rw [dFa hlt,dFa (by
    have:=Int.mul_nonneg (show 0 ≤ a - b by omega) (HD hp)
    omega)]
end Go.Sh
namespace Go.Sh
open Go Go.Proofs
theorem ZMW (s:Bool) (m:Nat):(Ieee.Datum.number s 0 (-1074)) = Ieee.Datum.number s ((0:Int).natAbs * m) (-((1074:Nat):Int)):=by
 simp_all
theorem Val.nat {x:Nat} {n:Int} (h:Val x n):∃ (s:Bool) (t:Nat),Y0.read x = .number s (n.natAbs * 2 ^ (t - 1)) (-(t:Int)) ∧ 1 ≤ t ∧ (n ≠ 0 → s = decide (n < 0) ∧ (n.natAbs * 2 ^ (t - 1)).log2 = 52):=by
 obtain ⟨hb,⟨rfl,s,hr⟩ | ⟨hn,hr⟩⟩:=h
 ·exact ⟨s,1074,hr.trans (ZMW s _),by omega,fun h => absurd rfl h⟩
 ·have h0:n.natAbs ≠ 0:=by omega
  have hL:=Zjx h0 hb
  refine ⟨_,53 - n.natAbs.log2,hr.trans ?_,by omega,fun _ => ⟨rfl,?_⟩⟩
  ·grind
  ·rw [YQ h0]; omega
theorem ZMX:Y0.read 4607182418800017408 = .number false 4503599627370496 (-52):=by decide
theorem ZNA:Y0.read 4611686018427387904 = .number false 4503599627370496 (-51):=by decide
theorem Zmm {x:Nat} {a:Int} (hx:Val x a):∃ z,floatBits .mul .f64 x 4607182418800017408 = some z ∧ Val z a:=by
 obtain ⟨s,t,hr,h1,hs⟩:=hx.nat
 show ∃ z,((Y0.read x).product (Y0.read 4607182418800017408)).map Y0.write = some z ∧ _
 rw [hr,ZMX]
 refine ⟨_,rfl,Zc2 (t:=t + 51) (by omega) ?_ (fun hn => by rw [(hs hn).1]; simp) hx.1⟩
 rw [Hp,show (4503599627370496:Nat) = 2 ^ 52 from rfl,← Hk]
 congr 2; omega
theorem ZMu {x:Nat} {c:Int} (hx:Val x (2 * c)):∃ z,floatBits .quo .f64 x 4611686018427387904 = some z ∧ Val z c:=by
 obtain ⟨s,t,hr,h1,hs⟩:=hx.nat
 show ∃ z,((Y0.read x).quotient 54 (Y0.read 4611686018427387904)).map Y0.write = some z ∧ _
 rw [hr,ZNA]
 unfold Ieee.Datum.quotient
 simp only
 rw [if_neg (by omega)]
 refine ⟨_,rfl,?_⟩
 have hb:=hx.1
 by_cases hn:c = 0
 ·subst hn
  simp only [Int.mul_zero,Int.natAbs_zero,Nat.zero_mul,Nat.zero_shiftLeft,Nat.zero_div,Nat.zero_mod]
  have e1:(4503599627370496:Nat).log2 = 52:=by decide
  have e2:(0:Nat).log2 = 0:=by decide
  rw [e1,e2]
  exact Zc2 (t:=t + 55) (by simp; omega) (by simp) (fun h => absurd rfl h) (by simp)
 ·obtain ⟨h2,h3⟩:=hs (by omega)
  rw [h3,show (4503599627370496:Nat).log2 = 52 from by decide,show 54 + 52 - 52 = 54 from rfl,Hs]
  have e0:(2 ^ 54:Nat) = 4 * 4503599627370496:=by decide
  rw [e0,← Hp,Nat.mul_div_cancel _ (by omega),Nat.mul_mod_left]
  refine Zc2 (t:=t + 3) (by omega) ?_ (fun _ => ?_) (by omega)
  ·have e1:(2 * c).natAbs = 2 * c.natAbs:=by omega
   rw [e1]
   have e2:2 ^ (t + 3) = 2 ^ (t - 1) * 16:=by rw [show t + 3 = (t - 1) + 4 by omega,Hk]
   grind
  grind
theorem Zmv {s:Bool} {q:Nat} {n:Int} (hq:q = n.natAbs) (hs:n ≠ 0 → s = decide (n < 0)) (hb:n.natAbs < 4503599627370496):Val (Y0.write (.number s q 0)) (2 * n):=by
 subst hq
 refine ⟨by omega,?_⟩
 show _ ∨ (_ ∧ Y0.read (Y0.nearest s n.natAbs 0) = _)
 by_cases hn:n = 0
 ·left
  refine ⟨by omega,s,?_⟩
  show Y0.read (Y0.nearest s n.natAbs 0) = _
  subst hn
  unfold Ieee.Format.nearest
  rw [if_pos (by rfl)]
  exact Zth s
 ·right
  refine ⟨by omega,?_⟩
  rw [ZgI _ (by omega) hb,hs hn]
  have e1:(2 * n).natAbs = 2 * n.natAbs:=by omega
  simp_all <;> omega
theorem Zkg {s:Bool} {a t:Nat} (way:Ieee.Toward) (hway:way = .down ∨ way = .zero) (ht:1 ≤ t) (hl:a ≠ 0 → (a * 2 ^ (t - 1)).log2 = 52) (ht':a ≠ 0 → t ≤ 53) :
  way.cut s (a * 2 ^ (t - 1)) t = a / 2 + (if way = .down then (s && decide (a % 2 ≠ 0)).toNat else 0):=by
 by_cases h0:a = 0
 ·subst h0
  rcases hway with rfl | rfl <;> simp [Ieee.Toward.cut]
 ·unfold Ieee.Toward.cut
  have h1:=hl h0
  have h2:=ht' h0
  simp only [Hl (show t ≤ (a * 2 ^ (t - 1)).log2 + 2 by omega),Ea]
  have hp:0 < 2 ^ (t - 1):=Hj (by omega)
  have e1:2 ^ t = 2 * 2 ^ (t - 1):=by rw [show t = (t - 1) + 1 by omega,HN,Ho]; omega
  rw [e1,Nat.mul_div_mul_right _ _ hp,Nat.mul_mod_mul_right]
  have e2:(a % 2 * 2 ^ (t - 1) != 0) = decide (a % 2 ≠ 0):=by
   grind
  grind
theorem Zwm {x:Nat} {n:Int} {s:Bool} {t:Nat} (h:n.natAbs ≠ 0) (ht:1 ≤ t) (hl:(n.natAbs * 2 ^ (t - 1)).log2 = 52):t ≤ 53:=by
 rw [YQ h] at hl; omega
theorem ZHu {x:Nat} {n:Int} (hx:Val x n) (hb:n.natAbs < 4503599627370496):∃ z,WG .down x = some z ∧ Val z (2 * (n / 2)):=by
 obtain ⟨s,t,hr,h1,hs⟩:=hx.nat
 unfold WG
 have hd:Je.decode x = .number s (n.natAbs * 2 ^ (t - 1)) (-(t:Int)):=hr
 rw [hd]
 refine ⟨_,rfl,?_⟩
 show Val (Y0.write (Ieee.Datum.integral .down (.number s (n.natAbs * 2 ^ (t - 1)) (-(t:Int))))) _
 unfold Ieee.Datum.integral
 simp only [HJ,Xa,show (-(t:Int)).toNat = 0 by omega,Hv]
 rw [Zkg .down (.inl rfl) h1 (fun h => (hs (by omega)).2) (fun h => Zwm (x:=x) (s:=s) h h1 (hs (by omega)).2),if_pos rfl]
 refine Zmv ?_ (fun hne => ?_) (by omega)
 ·by_cases h0:n = 0
  ·subst h0; simp
  ·rw [(hs h0).1]
   by_cases hlt:n < 0
   ·rw [dTr hlt]
    by_cases ho:n.natAbs % 2 = 0
    ·simp [ho]; omega
    ·simp [ho]; omega
   grind
 grind
theorem ZH6 {x:Nat} {v:Int} (hx:Val x (2 * v)) (hb:v.natAbs < 1125899906842624):∃ z,WG .zero x = some z ∧ Val z (2 * v):=by
 obtain ⟨s,t,hr,h1,hs⟩:=hx.nat
 unfold WG
 have hd:Je.decode x = .number s ((2 * v).natAbs * 2 ^ (t - 1)) (-(t:Int)):=hr
 rw [hd]
 refine ⟨_,rfl,?_⟩
 show Val (Y0.write (Ieee.Datum.integral .zero (.number s ((2 * v).natAbs * 2 ^ (t - 1)) (-(t:Int))))) _
 unfold Ieee.Datum.integral
 simp only [HJ,Xa,show (-(t:Int)).toNat = 0 by omega,Hv]
 rw [Zkg .zero (.inr rfl) h1 (fun h => (hs (by omega)).2) (fun h => Zwm (x:=x) (s:=s) h h1 (hs (by omega)).2),if_neg (by decide)]
 refine Zmv (by omega) (fun hne => ?_) (by omega)
 grind
theorem Zbx {x:Nat} {v:Int} (hx:Val x (2 * v)) (hb:v.natAbs < 1125899906842624):floatToIntVal .f64 x .i64 = some v:=by
 obtain ⟨s,t,hr,h1,hs⟩:=hx.nat
 unfold floatToIntVal
 have hd:Je.decode x = .number s ((2 * v).natAbs * 2 ^ (t - 1)) (-(t:Int)):=hr
 rw [hd]
 have:Ieee.Datum.toInt .zero (.number s ((2 * v).natAbs * 2 ^ (t - 1)) (-(t:Int))) = some v:=by
  unfold Ieee.Datum.toInt Ieee.Datum.integral
  simp only [HJ,Xa,show (-(t:Int)).toNat = 0 by omega,Hv]
  rw [Zkg .zero (.inr rfl) h1 (fun h => (hs (by omega)).2) (fun h => Zwm (x:=x) (s:=s) h h1 (hs (by omega)).2),if_neg (by decide)]
  unfold Ieee.signed
  grind
 grind [IntKind.min,IntKind.max,IntKind.signed,IntKind.bits]
theorem ZNa (x:Nat):Y0.read (x % 9223372036854775808) = match Y0.read x with | .number _ m e => .number false m e | .infinity _ => .infinity false | .nan _ f => .nan false f:=by
 unfold Ieee.Format.read
 simp only [Zh1,Zg3,ZtS,Zkh]
 have e1:x % 9223372036854775808 / 9223372036854775808 = 0:=Hu (U1 _ (by omega))
 rw [e1,Nat.mod_mod]
 grind
theorem Ztz {x:Nat} {n:Int} (hx:Val x n):Val (x % 9223372036854775808) (n.natAbs:Int):=by
 obtain ⟨hb,h⟩:=hx
 refine ⟨by simpa using hb,?_⟩
 rw [ZNa]
 grind
theorem ZoJ (k x:Nat):ZkE k (x,()) = some (x % 9223372036854775808,()):=by
 show ZkF k _ = _
 simp only [ZkF]
 congr 2
 have e1:UN 64 (UJ x) &&& ~~~UN 64 (9223372036854775808:Int) = Hx 64 (x % 9223372036854775808):=by
  apply BitVec.eq_of_getLsbD_eq
  intro i hi
  have h1:UN 64 (UJ x) = Hx 64 x:=HP ..
  have h2:UN 64 (9223372036854775808:Int) = BitVec.twoPow 64 63:=by decide
  rw [h1,h2]
  simp only [BitVec.getLsbD_and,BitVec.getLsbD_not,BitVec.getLsbD_ofNat,BitVec.getLsbD_twoPow,show (9223372036854775808:Nat) = 2 ^ 63 from rfl,Eb]
  grind
 rw [e1,Hy]
 have:x % 9223372036854775808 < 9223372036854775808:=U1 _ (by omega)
 rw [Nat.mod_eq_of_lt (by omega)]
 show (UO.wrap ((x % 9223372036854775808:Nat):Int)).toNat = _
 rw [Zq8 (by omega),Xa]
end Go.Sh
namespace Go.Sh
open Go Go.Proofs
def Qe (n:Int):Prop := -16777216 ≤ n ∧ n ≤ 16777216
def PV2 (p:Nat × Nat) (l r:Int):Prop:=Val p.1 (2 * l) ∧ Val p.2 (2 * r) ∧ Qe l ∧ Qe r
structure PP (p:List (Nat × Nat)) (L R:List Int):Prop where
 hl:p.length = L.length
 hr:p.length = R.length
 at_:∀ i (h:i < p.length),PV2 p[i] (L[i]'(hl ▸ h)) (R[i]'(hr ▸ h))
def Zfd (L R:List Int):List (Nat × Nat):=(L.zip R).map fun x => (Je.nearest x.1,Je.nearest x.2)
theorem Zy5 {L R:List Int} (h:L.length = R.length) (hL:∀ x ∈ L,Qe x) (hR:∀ x ∈ R,Qe x):PP (Zfd L R) L R where
 hl:=by simp [Zfd,h]
 hr:=by simp [Zfd,h]
 at_:=fun i hi => by
  simp only [Zfd,List.length_map,List.length_zip] at hi
  have h1:=hL L[i] (Ha (by omega))
  have h2:=hR R[i] (Ha (by omega))
  simp only [Zfd,List.getElem_map,List.getElem_zip]
  exact ⟨Zmn _ (by unfold Qe at h1; omega),Zmn _ (by unfold Qe at h2; omega),h1,h2⟩
theorem ZLB (k:Nat) {L R:List Int} (hk:L.length < k) (h:L.length = R.length) (hn:L.length ≤ 8192) (hL:∀ x ∈ L,Qe x) (hR:∀ x ∈ R,Qe x) :
  Zyx k (L,R,()) = some ((Zfd L R,0,()),()):=by
 show ZcD k (ZpH k) _ = _
 simp only [ZcD]
 rw [show (UJ L.length != UJ R.length) = false from by rw [h]; simp]
 simp only [cond_false]
 rw [Zl (by simp only [QY]; omega)]
 have:=Zs (A:=List (Nat × Nat)) (step:=fun L1 => KK k L1) (fun i acc => (UJ L.length,UJ i,L,R,acc)) (L.zip R)
  (fun l acc => some ((acc ++ l.map (fun x => (Je.nearest x.1,Je.nearest x.2)),0,()),())) (fun i acc => acc.length = i)
  (fun L1 acc ha => by
   grind [KK])
  (fun L1 i hi acc ha hL1 => by
   have hi2:i < L.length:=by simp at hi; omega
   have hi3:i < R.length:=by omega
   have b1:=hL L[i] (Ha hi2)
   have b2:=hR R[i] (Ha hi3)
   unfold Qe at b1 b2
   simp only [KK]
   rw [Zb (KX hi2),Zb (Ya hi2),Zb (Ya hi3),ZE hi2,ZE hi3]
   rw [Zl (by omega),Zl (by omega),Zl (by omega),Zl (by omega),Zb (by simp; omega),Qc hi2 (by omega)]
   rw [hL1 _ (by simp [ha])]
   simp) k 0 [] rfl (by simp; omega) (UH _)
 exact Hn this (by rw [U9]; rfl)
theorem Zoy (k:Nat) {x y:Nat} {a b:Int} (hx:Val x a) (hy:Val y b) (hb:(a - b).natAbs < 9007199254740992) (hb2:(a + b).natAbs < 9007199254740992):∃ z,Zox k ((x,y),()) = some (z,()) ∧ Val z (a - b):=by
 show ∃ z,Zkk k _ = _ ∧ _
 simp only [Zkk]
 unfold cMulBits
 obtain ⟨z1,e1,v1⟩:=Zmm hx
 obtain ⟨z2,e2,v2⟩:=Zmm hy
 obtain ⟨z3,e3,v3⟩:=ZP4 v1 v2 hb
 obtain ⟨z4,e4,v4⟩:=ZCQ v1 v2 hb2
 simp_all
theorem ZIQ (k:Nat) {x:Nat} {n:Int} (hx:Val x n) (hb:n.natAbs < 4503599627370496):∃ z,ZAx k (x,()) = some (z,()) ∧ Val z (2 * (n / 2)):=by
 obtain ⟨z,e,v⟩:=ZHu hx hb
 refine ⟨z,?_,v⟩
 show Zkl k _ = _
 simp only [Zkl,e,ZX]
theorem Zxj (k:Nat) {x:Nat} {v:Int} (hx:Val x (2 * v)) (hb:v.natAbs < 1125899906842624):∃ z,ZkB k (x,()) = some (z,()) ∧ Val z (2 * v):=by
 obtain ⟨z,e,w⟩:=ZH6 hx hb
 refine ⟨z,?_,w⟩
 show ZkC k _ = _
 simp only [ZkC,e,ZX]
theorem ZMM:Y0.read 9218868437227405311 = .number false 9007199254740991 971:=by decide
theorem ZPM {x:Nat} {n:Int} (hx:Val x n) (h0:0 ≤ n):(Je.format.order x 9218868437227405311 == some Ordering.gt) = false:=by
 obtain ⟨s,m,i,h1,h2,h2',h3⟩:=hx.num
 have:Je.format.order x 9218868437227405311 = some Ordering.lt:=by
  show (Y0.read x).order (Y0.read 9218868437227405311) = _
  rw [h1,ZMM]
  unfold Ieee.Datum.order
  simp only
  have hmin:min i 971 = i:=by omega
  rw [hmin,h3 i (Int.le_refl _)]
  congr 1
  rw [HA]
  unfold Ieee.signed
  simp only [JJ,if_false]
  rw [Hs,HI]
  have hp:(0:Int) < 2 ^ (-1 - i).toNat:=Hm (by omega)
  obtain ⟨d,hd,hd1⟩:∃ d:Nat,(971 - i).toNat = (-1 - i).toNat + d ∧ d ≠ 0:=⟨972,by omega,by omega⟩
  have hq:(((2 ^ (971 - i).toNat:Nat):Int)) = 2 ^ (-1 - i).toNat * ((2 ^ d:Nat):Int):=by
   grind
  rw [hq]
  have hb:=hx.1
  have hQ:1 < 2 ^ d:=Nat.one_lt_two_pow hd1
  have e1:n * 2 ^ (-1 - i).toNat ≤ 9007199254740991 * 2 ^ (-1 - i).toNat:=Int.mul_le_mul_of_nonneg_right (by omega) (HD hp)
  grind
 rw [this]; rfl
theorem Zxk (k:Nat) {x:Nat} {n:Int} (hx:Val x n):Zui k (x,0,()) = some (false,()):=by
 show ZkD k _ = _
 simp only [ZkD]
 rw [show ((0:Int) == (0:Int)) = true from rfl]
 simp only [cond_true,ZoJ,ZX]
 rw [ZPM (Ztz hx) (by omega)]
theorem ZPu:Val 4715268809856909312 33554432:=by
 refine ⟨by decide,.inr ⟨by decide,by decide⟩⟩
theorem ZPG {x y:Nat} {a b:Int} (hx:Val x a) (hy:Val y b):∃ z,Zza .f64 x y = some z ∧ Val z (max a b):=by
 unfold Zza
 rw [Zly hx hy]
 grind
theorem Zze {x y:Nat} {a:Int} (hx:Val x a) (hy:Val y a):(Je.format.order x y != some Ordering.eq) = false:=by
 rw [Zly hx hy]; simp
theorem ZHN {x:Nat} {a:Int} (hx:Val x a) (h:a ≤ 33554432):(Je.format.order x 4715268809856909312 == some Ordering.gt) = false:=by
 rw [Zly hx ZPu]
 grind
theorem ZAw (k:Nat) (hk:4 < k) (L1:Int × Int × List (Nat × Nat) × List (Nat × Nat) → Option (Int × Unit)) {x y:Nat} {l r:Int} (h:PV2 (x,y) l r) (v3 v4:Int) (v5 v6:List (Nat × Nat)) :
  Zh4 k L1 (0,x,y,v3,v4,v5,v6) = L1 (v4,Jx.wrap (v3 + 1),v5,v6):=by
 obtain ⟨hx,hy,b1,b2⟩:=h
 unfold Qe at b1 b2
 obtain ⟨k,rfl⟩:∃ m,k = m + 3:=⟨k - 3,by omega⟩
 obtain ⟨z1,e1,w1⟩:=Zxj (k + 3) hx (by omega)
 obtain ⟨z2,e2,w2⟩:=Zxj (k + 3) hy (by omega)
 show Zh (fun L2 => Zb4 (k + 3) L1 L2) (k + 3) _ = _
 rw [Zd]
 simp only [Zb4]
 rw [Zb (by omega),Zb (by omega)]
 show ((ZkB (k + 3) (x,())).bind _) = _
 rw [e1]
 simp only [ZX]
 rw [show [x,y].getD (0:Int).toNat (0:Nat) = x from rfl,Zze w1 hx]
 simp only [cond_false]
 rw [Zxk _ hx]
 simp only [ZX,cond_false]
 rw [show Jx.wrap ((0:Int) + 1) = 1 from by rw [Z2 (by omega)]; rfl,Zd]
 simp only [Zb4]
 rw [Zb (by omega),Zb (by omega)]
 show ((ZkB (k + 3) (y,())).bind _) = _
 rw [e2]
 simp only [ZX]
 rw [show [x,y].getD (1:Int).toNat (0:Nat) = y from rfl,Zze w2 hy]
 simp only [cond_false]
 rw [Zxk _ hy]
 rfl
theorem ZFT (k:Nat) {p:List (Nat × Nat)} {L R:List Int} (hp:PP p L R) (hk:p.length + 4 < k) (hn:p.length ≤ 8192):ZAv k (p,()) = some (0,()):=by
 show ZfG k (ZmI k) _ = _
 simp only [ZfG]
 rw [Zl (by simp only [QY]; omega)]
 have h3:Zh5 k (UJ p.length,(0:Int),p) = some (0,()):=by
  have:=Qv (A:=Unit) (step:=fun L3 => Zb5 k L3) (fun i _ => (UJ p.length,UJ i,p)) p (fun _ _ => some (0,()))
   (fun L _ => by grind [Zb5])
   (fun L i hi _ hL => by
    obtain ⟨hx,hy,b1,b2⟩:=hp.at_ i hi
    unfold Qe at b1 b2
    simp only [Zb5]
    rw [Zb (KX hi),Zb (Ya hi),ZE hi,ZoJ,ZoJ]
    simp only [ZX]
    obtain ⟨z,e,w⟩:=ZPG (Ztz hx) (Ztz hy)
    rw [e]
    simp only [ZX]
    rw [ZHN w (by omega)]
    simp only [cond_false]
    rw [Qc hi (by omega),hL ()]) k 0 () (by omega) (UH _)
  exact this
 have:=Qv (A:=Unit) (step:=fun L1 => Zb3 k (Zh4 k L1) (Zh5 k) L1) (fun i _ => (UJ p.length,UJ i,p,p)) p (fun _ _ => some (0,()))
  (fun L _ => by grind [Zb3])
  (fun L i hi _ hL => by
   simp only [Zb3]
   rw [Zb (KX hi),Zb (Ya hi),ZE hi]
   rw [ZAw k (by omega) L (x:=p[i].1) (y:=p[i].2) (hp.at_ i hi),Qc hi (by omega),hL ()]) k 0 () (by omega) (UH _)
 exact this
def apA (m l r:Int):Int:=if m = 9 then l - r else if m = 10 then (l + r) / 2 else l
def apB (m l r:Int):Int:=if m = 8 then l - r else if m = 10 then l - r else r
def Zju (m:Int):Prop:=m = 0 ∨ m = 8 ∨ m = 9 ∨ m = 10
def WX (m:Int) (L R:List Int):List Int:=(L.zip R).map fun x => apA m x.1 x.2
def WY (m:Int) (L R:List Int):List Int:=(L.zip R).map fun x => apB m x.1 x.2
theorem ZyL (k:Nat) {m:Int} (h:Zju m):ZEO k (m,()) = some (true,()):=by
 rcases h with rfl | rfl | rfl | rfl <;> rfl
theorem ZpI (k:Nat) {p:List (Nat × Nat)} {L R:List Int} (hp:PP p L R) (hk:p.length + 4 < k) (hn:p.length ≤ 8192) {m:Int} (hm:Zju m) :
  Zyz k (p,m,()) = some ((WX m L R,WY m L R,0,()),()):=by
 show Zje k (Zvp k) _ = _
 simp only [Zje]
 rw [ZyL k hm]
 simp only [ZX,Hz,cond_false]
 rw [ZFT k hp hk hn]
 simp only [ZX]
 rw [show ((0:Int) != (0:Int)) = false from rfl]
 simp only [cond_false]
 have hl:=hp.hl
 have hr:=hp.hr
 have:=Zs (A:=List Int × List Int) (step:=fun L1 => ZeR k L1) (fun i a => (UJ p.length,UJ i,p,m,a.1,a.2)) (L.zip R)
  (fun l a => some ((a.1 ++ l.map (fun x => apA m x.1 x.2),a.2 ++ l.map (fun x => apB m x.1 x.2),0,()),())) (fun i a => a.1.length = i ∧ a.2.length = i)
  (fun L1 a ha => by
   grind [ZeR])
  (fun L1 i hi a ha hL1 => by
   have hi2:i < p.length:=by simp at hi; omega
   obtain ⟨hx,hy,b1,b2⟩:=hp.at_ i hi2
   unfold Qe at b1 b2
   simp only [ZeR]
   rw [Zb (KX hi2),Zb (Ya hi2),ZE hi2]
   have s1:(a.1.length + [(0:Int)].length < 2147483648):=by simp; omega
   have s2:(a.2.length + [(0:Int)].length < 2147483648):=by simp; omega
   have hz:(L.zip R)[i] = (L[i]'(by omega),R[i]'(by omega)):=by simp
   rw [hz]
   have fin:∀ (u v:Int),u = apA m (L[i]'(by omega)) (R[i]'(by omega)) → v = apB m (L[i]'(by omega)) (R[i]'(by omega)) →
     L1 (UJ p.length,Jx.wrap (UJ i + 1),p,m,a.1 ++ [u],a.2 ++ [v]) = some ((a.1 ++ List.map (fun x => apA m x.1 x.2) ((L[i]'(by omega),R[i]'(by omega)) :: US (i + 1) (L.zip R)),a.2 ++ List.map (fun x => apB m x.1 x.2) ((L[i]'(by omega),R[i]'(by omega)) :: US (i + 1) (L.zip R)),0,()),()):=by
    intro u v hu hv
    rw [Qc hi2 (by omega)]
    simp_all
   rcases hm with rfl | rfl | rfl | rfl
   ·rw [show ((0:Int) == (8:Int)) = false from rfl,show ((0:Int) == (9:Int)) = false from rfl,show ((0:Int) == (10:Int)) = false from rfl]
    simp only [cond_false]
    rw [Zbx hx (by omega)]
    simp only [ZX]
    rw [Zb (by simp; omega),Zbx hy (by omega)]
    simp only [ZX]
    rw [Zb (by simp; omega)]
    exact fin _ _ rfl rfl
   ·rw [show ((8:Int) == (8:Int)) = true from rfl]
    simp only [cond_true]
    obtain ⟨z,e,w⟩:=Zoy k hx hy (by omega) (by omega)
    rw [← HG] at w
    rw [e]
    simp only [ZX]
    rw [Zbx hx (by omega)]
    simp only [ZX]
    rw [Zb (by simp; omega),Zbx w (by omega)]
    simp only [ZX]
    rw [Zb (by simp; omega)]
    exact fin _ _ rfl rfl
   ·rw [show ((9:Int) == (8:Int)) = false from rfl,show ((9:Int) == (9:Int)) = true from rfl]
    simp only [cond_true,cond_false]
    obtain ⟨z,e,w⟩:=Zoy k hx hy (by omega) (by omega)
    rw [← HG] at w
    rw [e]
    simp only [ZX]
    rw [Zbx w (by omega)]
    simp only [ZX]
    rw [Zb (by simp; omega),Zbx hy (by omega)]
    simp only [ZX]
    rw [Zb (by simp; omega)]
    exact fin _ _ rfl rfl
   ·rw [show ((10:Int) == (8:Int)) = false from rfl,show ((10:Int) == (9:Int)) = false from rfl,show ((10:Int) == (10:Int)) = true from rfl]
    simp only [cond_true,cond_false]
    obtain ⟨z1,e1,w1⟩:=ZCQ hx hy (by omega)
    rw [← Int.mul_add] at w1
    obtain ⟨z2,e2,w2⟩:=ZMu w1
    obtain ⟨z3,e3,w3⟩:=ZIQ k w2 (by omega)
    obtain ⟨z,e,w⟩:=Zoy k hx hy (by omega) (by omega)
    rw [← HG] at w
    rw [e1]
    simp only [ZX]
    rw [e2]
    simp only [ZX]
    rw [e3]
    simp only [ZX]
    rw [e]
    simp only [ZX]
    rw [Zbx w3 (by omega)]
    simp only [ZX]
    rw [Zb (by simp; omega),Zbx w (by omega)]
    simp only [ZX]
    rw [Zb (by simp; omega)]
    exact fin _ _ rfl rfl) k 0 ([],[]) ⟨rfl,rfl⟩ (by simp; omega) (UH _)
 exact Hn this (by rw [U9]; rfl)
end Go.Sh
namespace Go.Sh
open Go Go.Proofs
theorem Zzu (x:Int) {w:Nat} (hw:0 < w):Xg x w = (x.fdiv (2 ^ (w - 1)) == 0 || x.fdiv (2 ^ (w - 1)) == -1):=by
 rw [Bool.eq_iff_iff]
 constructor
 ·intro h
  rcases ZyP hw h with h | h
  ·rw [h]; rfl
  ·rw [h]; rfl
 ·intro h
  unfold Xg
  rw [if_neg (by omega),decide_eq_true_eq]
  have hp:(0:Int) < 2 ^ (w - 1):=Hm (by omega)
  rw [HC _ (by omega)] at h
  have h1:=Int.mul_ediv_add_emod x (2 ^ (w - 1))
  have h2:=HB x (show (2:Int) ^ (w - 1) ≠ 0 by omega)
  have h3:=Int.emod_lt_of_pos x hp
  grind
def Zhw:List Int → Int → Int → Int
 | [],n,_ => n
 | x :: l,n,last => Zhw l (n + ((x - last).natAbs:Int)) x
def Zfu (l:List Int):Int:=Zhw l 0 0
def Qo (n:Int):Prop := -67108864 ≤ n ∧ n ≤ 67108864
theorem ZyM (k:Nat) (l:List Int) (hk:l.length < k) (hn:l.length ≤ 8192) (hl:∀ x ∈ l,Qo x):ZEP k (l,()) = some (Zfu l,()):=by
 show Zjn k (ZvJ k) _ = _
 simp only [Zjn]
 have:=Zs (A:=Int × Int) (step:=fun L1 => Ze1 k L1) (fun i a => (UJ l.length,UJ i,l,a.1,a.2)) l
  (fun l' a => some (Zhw l' a.1 a.2,())) (fun i a => 0 ≤ a.1 ∧ a.1 ≤ (i:Int) * 268435456 ∧ Qo a.2)
  (fun L a _ => by simp only [Ze1]; rw [Zl (Zaa _)]; rfl)
  (fun L i hi a ha hL => by
   have hx:=hl _ (Ha hi)
   unfold Qo at hx ha
   simp only [Ze1]
   rw [Zb (KX hi),Zb (Ya hi),ZE hi,Qc hi (by omega)]
   have e1:Jx.wrap (l[i] - a.2) = l[i] - a.2:=Z2 (by omega)
   have e2:Jx.wrap (a.2 - l[i]) = a.2 - l[i]:=Z2 (by omega)
   rw [e1,e2]
   have e3:(if l[i] - a.2 < a.2 - l[i] then a.2 - l[i] else l[i] - a.2) = (((l[i] - a.2).natAbs:Nat):Int):=by split <;> omega
   rw [e3]
   have hi':(i:Int) ≤ 8192:=by omega
   have e4:Jx.wrap (a.1 + (((l[i] - a.2).natAbs:Nat):Int)) = a.1 + (((l[i] - a.2).natAbs:Nat):Int):=Z2 (by omega)
   rw [e4,hL (a.1 + (((l[i] - a.2).natAbs:Nat):Int),l[i]) ⟨by omega,by push_cast; omega,hx⟩]
   rfl) k 0 (0,0) ⟨by omega,by omega,by unfold Qo; omega⟩ (by omega) (UH _)
 exact this
theorem ZjM:∀ (l:List Int) (n last:Int),(∀ x ∈ l,Qo x) → Qo last → n ≤ Zhw l n last ∧ Zhw l n last ≤ n + (l.length:Int) * 134217728
 | [],n,last,_,_ => by simp [Zhw]
 | x :: l,n,last,h,hb => by
  have hx:=h x (Jm ..)
  have:=ZjM l (n + ((x - last).natAbs:Int)) x (fun y hy => h y (Jn _ hy)) hx
  unfold Qo at hx hb
  grind [Zhw,JF]
theorem ZjN {l:List Int} (h:∀ x ∈ l,Qo x) (hn:l.length ≤ 8192):0 ≤ Zfu l ∧ Zfu l ≤ 1099511627776:=by
 have:=ZjM l 0 0 h (by unfold Qo; omega)
 unfold Zfu
 omega
theorem ZwB {m l r:Int} (hl:Qe l) (hr:Qe r):Qo (apA m l r) ∧ Qo (apB m l r):=by
 unfold Qe at hl hr
 unfold Qo apA apB
 omega
theorem ZwD {m:Int} {L R:List Int} (hL:∀ x ∈ L,Qe x) (hR:∀ x ∈ R,Qe x):(∀ x ∈ WX m L R,Qo x) ∧ (∀ x ∈ WY m L R,Qo x):=by
 constructor
 ·intro x hx
  obtain ⟨⟨l,r⟩,h,rfl⟩:=VG.1 hx
  exact (ZwB (hL _ (Vy h).1) (hR _ (Vy h).2)).1
 ·intro x hx
  obtain ⟨⟨l,r⟩,h,rfl⟩:=VG.1 hx
  exact (ZwB (hL _ (Vy h).1) (hR _ (Vy h).2)).2
theorem ZfB {m:Int} {L R:List Int} (h:L.length = R.length):(WX m L R).length = L.length ∧ (WY m L R).length = L.length:=by
 unfold WX WY
 simp [h]
def ZIG (L R:List Int) (m:Int):Int:=Zfu (WX m L R) + Zfu (WY m L R)
def ZjD (L R:List Int) (b:Int × Int) (m:Int):Int × Int:=if b.1 < 0 ∨ ZIG L R m < b.1 then (ZIG L R m,m) else b
def Z1 (L R:List Int):Int:=(ZjD L R (ZjD L R (ZjD L R (ZjD L R (-1,0) 0) 8) 9) 10).2
theorem ZjE {L R:List Int} {b:Int × Int} {m:Int} (hb:Zju b.2) (hm:Zju m):Zju (ZjD L R b m).2:=by
 unfold ZjD; split
 ·exact hm
 ·exact hb
theorem Zg0 (L R:List Int):Zju (Z1 L R):=by
 unfold Z1
 exact ZjE (ZjE (ZjE (ZjE (.inl rfl) (.inl rfl)) (.inr (.inl rfl))) (.inr (.inr (.inl rfl)))) (.inr (.inr (.inr rfl)))
theorem Zjd (k:Nat) (L1:Int × Int × Int × Int × Int × List (Nat × Nat) × Int × Int → Option ((Int × Int × Unit) × Unit)) {p:List (Nat × Nat)} {L R:List Int} (hp:PP p L R) (hLR:L.length = R.length) (hL:∀ x ∈ L,Qe x) (hR:∀ x ∈ R,Qe x)
  (hk:p.length + 4 < k) (hn:p.length ≤ 8192) (j:Nat) (hj:j < 4) (m:Int) (hm:Zju m) (hg:[(0:Int),8,9,10].getD j 0 = m) (b:Int × Int) :
  ZeQ k L1 ((j:Int),0,8,9,10,p,b.1,b.2) = L1 (((j + 1:Nat):Int),0,8,9,10,p,(ZjD L R b m).1,(ZjD L R b m).2):=by
 have hl:=hp.hl
 obtain ⟨sA,sB⟩:=ZwD (m:=m) hL hR
 obtain ⟨lA,lB⟩:=ZfB (m:=m) hLR
 have bA:=ZjN sA (by omega)
 have bB:=ZjN sB (by omega)
 simp only [ZeQ]
 rw [Zb (by omega),Zb (by omega),Xa,hg,ZpI k hp hk hn hm]
 simp only [ZX]
 rw [show ((0:Int) != (0:Int)) = false from rfl]
 simp only [cond_false]
 rw [ZyM k _ (by omega) (by omega) sA]
 simp only [ZX]
 rw [ZyM k _ (by omega) (by omega) sB]
 simp only [ZX]
 rw [Z2 (n:=Zfu (WX m L R) + Zfu (WY m L R)) (by omega),Z2 (n:=(j:Int) + 1) (by omega)]
 unfold ZjD ZIG
 grind
theorem ZLF (k:Nat) {p:List (Nat × Nat)} {L R:List Int} (hp:PP p L R) (hLR:L.length = R.length) (hL:∀ x ∈ L,Qe x) (hR:∀ x ∈ R,Qe x)
  (hk:p.length + 8 < k) (hn:p.length ≤ 8192):ZLC k (p,()) = some ((Z1 L R,0,()),()):=by
 obtain ⟨k,rfl⟩:∃ m,k = m + 5:=⟨k - 5,by omega⟩
 show Zh (fun L1 => ZeQ (k + 5) L1) (k + 5) ((0:Nat),0,8,9,10,p,(-1,(0:Int)).1,(-1,(0:Int)).2) = _
 rw [Zd,Zjd (k + 5) _ hp hLR hL hR (by omega) hn 0 (by omega) 0 (.inl rfl) rfl]
 rw [Zd,Zjd (k + 5) _ hp hLR hL hR (by omega) hn 1 (by omega) 8 (.inr (.inl rfl)) rfl]
 rw [Zd,Zjd (k + 5) _ hp hLR hL hR (by omega) hn 2 (by omega) 9 (.inr (.inr (.inl rfl))) rfl]
 rw [Zd,Zjd (k + 5) _ hp hLR hL hR (by omega) hn 3 (by omega) 10 (.inr (.inr (.inr rfl))) rfl]
 rfl
def YO (ch:List (List Int)):List (List Int) × Int:=match ch with
 | [L,R] => ([WX (Z1 L R) L R,WY (Z1 L R) L R],if Z1 L R = 0 then 1 else Z1 L R)
 | ch => (ch,0)
theorem ZK0 (k:Nat) (n:Int) (ch:List (List Int)) (hk:9000 < k) (h:ch.length = 1 ∨ (∃ L R,ch = [L,R] ∧ L.length = R.length ∧ L.length ≤ 8192 ∧ (∀ x ∈ L,Qe x) ∧ ∀ x ∈ R,Qe x)) :
  ZKZ k ((n,ch,()),()) = some (((YO ch).1,(YO ch).2,0,()),()):=by
 show Zpw k _ = _
 simp only [Zpw]
 rcases h with h | ⟨L,R,rfl,hLR,hn,hL,hR⟩
 ·match ch,h with
  | [L],_ => rfl
 ·rw [show (UJ [L,R].length == (1:Int)) = false from rfl]
  simp only [cond_false]
  rw [Zb (by simp),Zb (by simp)]
  have hp:=Zy5 hLR hL hR
  have hpl:(Zfd L R).length ≤ 8192:=by rw [hp.hl]; exact hn
  rw [show [L,R].getD 0 [] = L from rfl,show [L,R].getD 1 [] = R from rfl,ZLB k (by omega) hLR hn hL hR]
  simp only [ZX]
  rw [show ((0:Int) != (0:Int)) = false from rfl]
  simp only [cond_false]
  rw [ZLF k hp hLR hL hR (by omega) hpl]
  simp only [ZX]
  rw [show ((0:Int) != (0:Int)) = false from rfl]
  simp only [cond_false]
  rw [ZpI k hp (by omega) hpl (Zg0 L R)]
  simp only [ZX]
  rw [ZP]
  show (bif decide (Z1 L R = 0) then _ else _) = some ((([_,_],if Z1 L R = 0 then 1 else Z1 L R,0,()),()))
  grind
def Z8 (c d m:Int):List Int:=if c = 1 then [d] else if m = 8 ∨ m = 10 then [d,d + 1] else if m = 9 then [d + 1,d] else [d,d]
theorem Zyo (k:Nat) {c d r m:Int} (hc:c = 1 ∧ m = 0 ∨ c = 2) (hd:0 ≤ d ∧ d ≤ 24):ZEl k ((c,d,r,()),m,()) = some (Z8 c d m,()):=by
 show ZpC k _ = _
 simp only [ZpC]
 have e:Jx.wrap (d + 1) = d + 1:=Z2 (by omega)
 unfold Z8
 rcases hc with ⟨rfl,rfl⟩ | rfl
 ·rw [Zb (by simp)]
  rfl
 grind
def ZbX (c d r:Int):Bool:=decide (1 ≤ c ∧ c ≤ 2 ∧ 4 ≤ d ∧ d ≤ 24 ∧ 1 ≤ r ∧ r ≤ 655350)
theorem ZoH (k:Nat) (c d r:Int):ZoG k ((c,d,r,()),()) = some (if ZbX c d r then 0 else 2,()):=by
 show Zer k _ = _
 simp only [Zer]
 unfold ZbX
 grind
def Zlq (n:Nat) (l:List Int):Bool:=decide (l.length = n ∧ 1 ≤ n ∧ n ≤ 512)
def Ye (c d r n:Int) (ch:List (List Int)):Int :=
 if ZbX c d r = false then 2 else if n < 0 ∨ 2147483647 < n ∨ (ch.length:Int) ≠ c then 1
 else if ch.all (Zlq (ch.headD []).length) = false then 1
 else if ch.all (fun l => l.all fun x => Xg x d.toNat) = false then 12 else 0
theorem Zyj (k:Nat) (c d r n:Int) (ch:List (List Int)) (hk:1000 < k):Zma k ((c,d,r,()),(n,ch,()),()) = some (Ye c d r n ch,()):=by
 show Zi5 k (Zpu k) _ = _
 simp only [Zi5]
 rw [ZoH]
 simp only [ZX]
 unfold Ye
 cases hs:ZbX c d r with
 | false => rfl
 | true =>
  simp only [if_true,HR,if_false]
  rw [show ((0:Int) != (0:Int)) = false from rfl]
  simp only [cond_false]
  have hs:=of_decide_eq_true hs
  by_cases h1:n < 0
  ·rw [Zb h1,if_pos (.inl h1)]
  ·rw [Zl h1]
   by_cases h2:2147483647 < n
   ·rw [Zb h2,if_pos (.inr (.inl h2))]
   ·rw [Zl h2,ZD]
    by_cases h3:UJ ch.length = c
    ·rw [Zl (by simpa using h3),if_neg (by simp_all)]
     simp only [QY] at h3
     have hch:ch.length ≤ 2:=by omega
     rw [Zb (by simp only [QY]; omega)]
     have hhd:ch.getD 0 [] = ch.headD []:=by cases ch <;> rfl
     rw [hhd]
     generalize hN:(ch.headD []).length = N
     have hstep2:ch.all (Zlq N) = true → ZeI k (UJ ch.length,(0:Int),ch,c,d,r) = some (if ch.all (fun l => l.all fun x => Xg x d.toNat) = false then 12 else 0,()):=by
      intro hall
      have:=Zai (step:=fun L2 => ZcB k (Zpv k L2) L2) (fun i => (UJ ch.length,UJ i,ch,c,d,r)) ch (fun l => l.all fun x => Xg x d.toNat) (some ((12:Int),())) (some ((0:Int),()))
       (fun L => by grind [ZcB])
       (fun L i hi => by
        simp only [ZcB]
        rw [Zb (KX hi),Zb (Ya hi),ZE hi]
        have hlen:=of_decide_eq_true (Vf.1 hall ch[i] (Ha hi))
        have:=Zai (step:=fun L3 => ZeJ k L L3) (fun j => (UJ ch[i].length,UJ j,ch[i],UJ i,UJ ch.length,ch,c,d,r)) ch[i] (fun x => Xg x d.toNat) (some ((12:Int),()))
         (L (UJ ch.length,UJ (i + 1),ch,c,d,r))
         (fun L3 => by simp only [ZeJ]; rw [Zl (Zaa _),Qc hi (by omega)])
         (fun L3 j hj => by
          simp only [ZeJ]
          rw [Zb (KX hj),Zb (Ya hj),ZE hj]
          have ew:Jx.wrap (d - 1) = ((d.toNat - 1:Nat):Int):=by rw [Z2 (by omega)]; omega
          simp only [ew,Xa,Hl (show d.toNat - 1 ≤ 64 by omega)]
          rw [Zb (by omega),Zzu _ (by omega),Qc hj (by omega)]
          grind) k (by omega)
        rw [← this]
        rfl) k (by omega)
      rw [show ZeI k (UJ ch.length,(0:Int),ch,c,d,r) = Zh (fun L2 => ZcB k (Zpv k L2) L2) k (UJ ch.length,UJ 0,ch,c,d,r) from rfl,this]
      grind
     have:=Zai (step:=fun L1 => ZcA k (ZeI k) L1) (fun i => (UJ ch.length,UJ i,ch,UJ N,n,ch,c,d,r)) ch (Zlq N) (some ((1:Int),()))
      (ZeI k (UJ ch.length,(0:Int),ch,c,d,r))
      (fun L => by grind [ZcA])
      (fun L i hi => by
       simp only [ZcA]
       rw [Zb (KX hi),Zb (Ya hi),ZE hi,ZD]
       unfold Zlq
       simp only [QY]
       by_cases e1:ch[i].length = N
       ·rw [Zl (by omega)]
        by_cases e2:N < 1
        ·simp_all
        ·rw [Zl (by omega)]
         by_cases e3:512 < N
         ·grind
         ·rw [Zl (by omega),dTr (by omega),Z2 (by omega)]; rfl
       grind) k (by omega)
     rw [show Zpu k (UJ ch.length,(0:Int),ch,UJ N,n,ch,c,d,r) = Zh (fun L1 => ZcA k (ZeI k) L1) k (UJ ch.length,UJ 0,ch,UJ N,n,ch,c,d,r) from rfl,this]
     grind
    simp_all
end Go.Sh
namespace Go.Sh
open Go Go.Proofs
def ZlO:List Int → Int
 | [] => 0
 | x :: l => x + ZlO l
def ZgC (x:Int):Bool:=decide (-2048 ≤ x ∧ x ≤ 2047)
def Qy (x:Int):Bool:=decide (x ≤ -2147483648 ∨ 2147483648 ≤ x)
def Za1 (c:List Int) (sh:Int):Bool:=decide (c.length ≤ 8 ∧ 0 ≤ sh ∧ sh ≤ 15) && c.all ZgC
theorem ZG6 (k:Nat) (x:Int):ZA2 k (x,()) = some (!ZgC x,()):=by
 show Zk6 k _ = _
 simp only [Zk6]
 unfold ZgC
 by_cases h:x < -2048
 ·simp_all
 ·rw [Zl h]
  by_cases h2:2047 < x
  ·simp_all
  simp_all
theorem Zw4 (k:Nat) (c:List Int) (hk:c.length < k) (hn:c.length < 4294967296):ZoE k (c,(),()) = some (!c.all ZgC,()):=by
 show Zen k _ = _
 simp only [Zen]
 have key:∃ i:Int,ZoS k (c,(),()) = some (i,()) ∧ (0 ≤ i ↔ c.all ZgC = false):=by
  have:=Qv (A:=Unit) (R:=Int × Unit) (step:=fun L1 => KF k L1) (fun i _ => (UJ c.length,UJ i,c)) c
   (fun l _ => some (if l.all ZgC then -1 else UJ (c.length - l.length + (l.takeWhile ZgC).length),()))
   (fun L _ => by grind [KF])
   (fun L i hi _ hL => by
    simp only [KF]
    rw [Zb (KX hi),Zb (Ya hi),ZE hi,ZG6]
    simp only [ZX]
    have hlen:(US (i + 1) c).length = c.length - (i + 1):=by simp
    cases hc:ZgC c[i] with
    | true =>
     simp only [Hz,cond_false]
     rw [Qc hi (by omega),hL ()]
     simp only [UA,hc,Bool.true_and,Ht,if_true,JF,hlen]
     grind
    | false =>
     simp only [Bool.not_false,cond_true,UA,hc,Bool.false_and,JJ,if_false,Ht,JF,hlen,HY]
     congr 3; omega) k 0 () (by omega) (UH _)
  rw [U9] at this
  refine ⟨_,this,?_⟩
  cases c.all ZgC <;> simp
 grind
theorem ZkT (k:Nat) (x:Int):ZoU k (x,()) = some (Qy x,()):=by
 show ZkS k _ = _
 simp only [ZkS]
 unfold Qy
 grind
theorem Zbo (k:Nat) (c:List Int) (hk:c.length < k) (hn:c.length < 4294967296):Zb6 k (c,(),()) = some (c.any Qy,()):=by
 show Zel k _ = _
 simp only [Zel]
 have key:∃ i:Int,ZoO k (c,(),()) = some (i,()) ∧ (0 ≤ i ↔ c.any Qy = true):=by
  have:=Qv (A:=Unit) (R:=Int × Unit) (step:=fun L1 => KD k L1) (fun i _ => (UJ c.length,UJ i,c)) c
   (fun l _ => some (if l.any Qy then UJ (c.length - l.length + (l.takeWhile (fun x => !Qy x)).length) else -1,()))
   (fun L _ => by grind [KD])
   (fun L i hi _ hL => by
    simp only [KD]
    rw [Zb (KX hi),Zb (Ya hi),ZE hi,ZkT]
    simp only [ZX]
    have hlen:(US (i + 1) c).length = c.length - (i + 1):=by simp
    cases hc:Qy c[i] with
    | false =>
     simp only [cond_false]
     rw [Qc hi (by omega),hL ()]
     simp only [HK,hc,Bool.false_or,Ht,Bool.not_false,if_true,JF,hlen]
     grind
    | true =>
     simp only [cond_true,HK,hc,Bool.true_or,if_true,Ht,Hz,JJ,if_false,JF,hlen,HY]
     congr 3; omega) k 0 () (by omega) (UH _)
  rw [U9] at this
  refine ⟨_,this,?_⟩
  cases c.any Qy <;> simp
 grind
theorem Zsg (k:Nat) (c:List Int) (sh:Int) (hk:10 < k):Zut k ((c,sh,()),()) = some (if Za1 c sh then 0 else 2,()):=by
 show Zk0 k _ = _
 simp only [Zk0]
 unfold Za1
 by_cases h1:(8:Int) < UJ c.length
 ·grind
 ·simp only [QY] at h1
  rw [Zl (by simp only [QY]; omega)]
  by_cases h2:sh < 0
  ·grind
  ·rw [Zl h2]
   by_cases h3:15 < sh
   ·grind
   ·rw [Zl h3,Zw4 k c (by omega) (by omega),dTr (by omega)]
    grind
def ZTD (c a:List Int):Int:=ZlO ((c.zip a.reverse).map fun x => x.1 * x.2)
def ZdZ (c:List Int) (sh:Int) (a:List Int):Int:=(ZTD c a).fdiv (2 ^ sh.toNat)
theorem ZHJ {x y:Int} (hx : -2048 ≤ x ∧ x ≤ 2047) (hy : -2147483648 < y ∧ y < 2147483648) : -4398046511104 ≤ x * y ∧ x * y ≤ 4398046511104:=by
 have h1:(x * y).natAbs ≤ 2048 * 2147483648:=by
  rw [HH]
  exact Nat.mul_le_mul (by omega) (by omega)
 omega
theorem ZCE {l:List Int} {b:Int} (h:∀ x ∈ l,-b ≤ x ∧ x ≤ b) : -((l.length:Int) * b) ≤ ZlO l ∧ ZlO l ≤ (l.length:Int) * b:=by
 induction l with
 | nil => simp [ZlO]
 | cons x l ih =>
  have h1:=h x (Jm ..)
  have h2:=ih fun y hy => h y (Jn _ hy)
  simp only [ZlO,JF]
  grind
def ZCW (x:Int):Prop := -2048 ≤ x ∧ x ≤ 2047
def ZG (x:Int):Prop := -2147483648 < x ∧ x < 2147483648
theorem ZrQ {c a:List Int} (hc:∀ x ∈ c,ZCW x) (ha:∀ x ∈ a,ZG x):∀ x ∈ (c.zip a.reverse).map fun x => x.1 * x.2,-4398046511104 ≤ x ∧ x ≤ 4398046511104:=by
 intro x hx
 obtain ⟨⟨u,v⟩,h,rfl⟩:=VG.1 hx
 exact ZHJ (hc _ (Vy h).1) (ha _ (by simpa using (Vy h).2))
theorem ZB3 {x:Int} {b:Int} (p:Nat) (h : -b ≤ x ∧ x ≤ b) (hb:0 ≤ b) : -b ≤ x.fdiv (2 ^ p) ∧ x.fdiv (2 ^ p) ≤ b:=by
 have hp:(0:Int) < 2 ^ p:=Hm (by omega)
 rw [HC _ (by omega)]
 constructor
 ·rw [Int.le_ediv_iff_mul_le hp]
  have:b * 1 ≤ b * 2 ^ p:=Int.mul_le_mul_of_nonneg_left (by omega) hb
  rw [Int.neg_mul]
  omega
 ·by_cases hx:0 ≤ x
  ·exact Int.le_trans (Int.ediv_le_self _ hx) h.2
  ·have:x / 2 ^ p < 0:=Int.ediv_neg_of_neg_of_pos (by omega) hp
   omega
theorem Zmq {c a:List Int} {sh:Int} (hc:∀ x ∈ c,ZCW x) (ha:∀ x ∈ a,ZG x) (hl:c.length ≤ 8) : -35184372088832 ≤ ZdZ c sh a ∧ ZdZ c sh a ≤ 35184372088832:=by
 unfold ZdZ ZTD
 have h1:=ZCE (ZrQ hc ha)
 have h2:((c.zip a.reverse).map fun x => x.1 * x.2).length ≤ 8:=by simp; omega
 exact ZB3 _ (by omega) (by omega)
theorem Zsh (k:Nat) {c a:List Int} {sh:Int} (hk:c.length < k) (hl:c.length ≤ 8) (hla:c.length ≤ a.length) (hn:a.length ≤ 4294967296) (hsh:0 ≤ sh ∧ sh ≤ 15) (hc:∀ x ∈ c,ZCW x) (ha:∀ x ∈ a,ZG x) :
  Zuu k ((c,sh,()),a,()) = some (ZdZ c sh a,()):=by
 show Zf5 k (Znm k) _ = _
 simp only [Zf5]
 have hzl:(c.zip a.reverse).length = c.length:=by simp; omega
 have hterm:=ZrQ hc ha
 have:=Zs (A:=Int) (step:=fun L1 => Zct k L1) (fun i acc => (UJ c.length,UJ i,c,acc,a,c,sh)) (c.zip a.reverse)
  (fun l acc => some ((acc + ZlO (l.map fun x => x.1 * x.2)).fdiv (2 ^ sh.toNat),())) (fun i acc => -((i:Int) * 4398046511104) ≤ acc ∧ acc ≤ (i:Int) * 4398046511104)
  (fun L acc _ => by
   grind [Zct,ZlO])
  (fun L i hi acc hacc hL => by
   have hi2:i < c.length:=by omega
   have hi3:i < a.reverse.length:=by simp; omega
   simp only [Zct]
   have e1:Jx.wrap (Jx.wrap (UJ a.length - 1) - UJ i) = ((a.length - 1 - i:Nat):Int):=by
    simp only [QY]
    rw [Z2 (n:=(a.length:Int) - 1) (by omega),Z2 (by omega)]; omega
   rw [Zb (KX hi2),Zb (Ya hi2),e1,Zb (by simp only [QY]; omega),ZE hi2,Xa]
   have e2:a.getD (a.length - 1 - i) 0 = a.reverse[i]:=by
    grind
   rw [e2]
   have hz:(c.zip a.reverse)[i] = (c[i],a.reverse[i]):=by simp
   have ht:=hterm (c[i] * a.reverse[i]) (VG.2 ⟨(c[i],a.reverse[i]),by rw [← hz]; exact Ha _,rfl⟩)
   have hi8:(i:Int) ≤ 8:=by omega
   rw [Z2 (n:=c[i] * a.reverse[i]) (by omega),Z2 (n:=acc + c[i] * a.reverse[i]) (by omega),Qc hi2 (by omega)]
   grind [ZlO]) k 0 0 ⟨by omega,by omega⟩ (by omega) (UH _)
 refine Hn this ?_
 rw [U9,Int.zero_add]
 rfl
def ZqN (c:List Int) (sh:Int) (s:List Int) (i:Nat):Int:=s.getD i 0 - ZdZ c sh (s.take i)
def Zry (c:List Int) (sh:Int) (s:List Int):Nat → Nat → List Int
 | 0,_ => []
 | d + 1,i => ZqN c sh s i :: Zry c sh s d (i + 1)
def XN (c:List Int) (sh:Int) (s:List Int):List Int:=Zry c sh s (s.length - c.length) c.length
def QM (c:List Int) (sh:Int) (s:List Int):List Int × Int :=
 if Za1 c sh = false then ([],2) else if s.length < c.length then ([],1) else if s.any Qy then ([],12)
 else if (XN c sh s).any Qy then ([],12) else (XN c sh s,0)
theorem ZqO (c:List Int) (sh:Int) (s:List Int):∀ d i,(Zry c sh s d i).length = d
 | 0,_ => rfl
 | d + 1,i => by simp [Zry,ZqO c sh s d (i + 1)]
theorem Zfg {c:List Int} {sh:Int} (h:Za1 c sh = true):c.length ≤ 8 ∧ (0 ≤ sh ∧ sh ≤ 15) ∧ ∀ x ∈ c,ZCW x:=by
 unfold Za1 at h
 simp only [Jh,decide_eq_true_eq] at h
 refine ⟨h.1.1,h.1.2,fun x hx => ?_⟩
 have:=Vf.1 h.2 x hx
 unfold ZgC at this
 rw [decide_eq_true_eq] at this
 exact this
theorem Kh {s:List Int} (h:s.any Qy = false):∀ x ∈ s,ZG x:=by
 intro x hx
 rw [Uk] at h
 have:=h x hx
 unfold Qy at this
 simp only [decide_eq_true_eq] at this
 unfold ZG
 omega
theorem Zr8 (k:Nat) (c:List Int) (sh:Int) (s:List Int) (hk:s.length + 10 < k) (hn:s.length ≤ 8192):Zuj k ((c,sh,()),s,()) = some (((QM c sh s).1,(QM c sh s).2,()),()):=by
 show ZfZ k (Znb k) _ = _
 simp only [ZfZ]
 rw [Zsg k c sh (by omega)]
 simp only [ZX]
 unfold QM
 cases hm:Za1 c sh with
 | false => rfl
 | true =>
  simp only [if_true,HR,if_false]
  rw [show ((0:Int) != (0:Int)) = false from rfl]
  simp only [cond_false,QY]
  by_cases hl:s.length < c.length
  ·rw [Zb (by omega),if_pos hl]
  ·rw [Zl (by omega),if_neg hl,Zbo k s (by omega) (by omega)]
   simp only [ZX]
   cases hw:s.any Qy with
   | true => simp only [cond_true,if_true]
   | false =>
    simp only [cond_false,JJ,if_false]
    obtain ⟨hc8,hsh,hcR⟩:=Zfg hm
    have hnar:=Kh hw
    suffices H:∀ (d i m:Nat) (acc:List Int),i + d = s.length → c.length ≤ i → d < m → acc.length + d ≤ 8192 →
      Zh (fun L1 => Zcl k L1) m ((i:Int),s,c,sh,acc) = some (if (Zry c sh s d i).any Qy then (([],12,()),()) else ((acc ++ Zry c sh s d i,0,()),())) by
     have:=H (s.length - c.length) c.length k [] (by omega) (by omega) (by omega) (by simp; omega)
     refine Hn this ?_
     unfold XN
     grind
    intro d
    induction d with
    | zero =>
     intro i m acc hi hci hm _
     obtain ⟨m,rfl⟩:=Zw hm
     rw [Zd]
     grind [Zcl,QY,Zry]
    | succ d ih =>
     intro i m acc hi hci hm hacc
     obtain ⟨m,rfl⟩:=Zw (show 0 < m by omega)
     rw [Zd]
     simp only [Zcl]
     have hi2:i < s.length:=by omega
     rw [Zb (by simp only [QY]; omega),Zb (by simp only [QY]; omega),Zb (by simp only [QY]; omega),Xa,U9]
     have htl:(s.take i).length = i:=by simp; omega
     have htn:∀ x ∈ s.take i,ZG x:=fun x hx => hnar x (List.mem_of_mem_take hx)
     rw [Zsh k (by omega) hc8 (by omega) (by omega) hsh hcR htn]
     simp only [ZX]
     have hpb:=Zmq (sh:=sh) hcR htn hc8
     have hsi:s.getD i 0 = s[i]:=Wl hi2
     have hsn:=hnar s[i] (Ha hi2)
     unfold ZG at hsn
     have e1:Jx.wrap (s.getD i 0 - ZdZ c sh (s.take i)) = ZqN c sh s i:=by unfold ZqN; rw [hsi]; exact Z2 (by omega)
     rw [e1,ZkT]
     simp only [ZX,Zry,HK]
     by_cases hwi:Qy (ZqN c sh s i) = true
     ·simp_all
     ·have hwi:Qy (ZqN c sh s i) = false:=by simpa using hwi
      simp only [hwi,cond_false,Bool.false_or]
      rw [Zb (by simp; omega),show Jx.wrap ((i:Int) + 1) = ((i + 1:Nat):Int) from by rw [Z2 (by omega)]; omega]
      rw [ih (i + 1) m _ (by omega) (by omega) (by omega) (by simp; omega)]
      simp
def Zbm (c:List Int) (sh:Int) (s:List Int):Int × Int:=(ZlO ((QM c sh s).1.map fun x => (x.natAbs:Int)),(QM c sh s).2)
theorem X4 (c:List Int) (sh:Int) (s:List Int):∀ x ∈ (QM c sh s).1,ZG x:=by
 unfold QM
 split
 ·simp
 ·split
  ·simp
  ·split
   ·simp
   ·split
    ·simp
    ·rename_i h
     exact Kh (by simpa using h)
theorem ZCs (c:List Int) (sh:Int) (s:List Int):(QM c sh s).1.length ≤ s.length:=by
 unfold QM
 grind [XN,ZqO]
theorem Zsb (k:Nat) (c:List Int) (sh:Int) (s:List Int) (hk:s.length + 10 < k) (hn:s.length ≤ 8192):Zun k ((c,sh,()),s,()) = some (((Zbm c sh s).1,(Zbm c sh s).2,()),()):=by
 show Zf0 k (Zne k) _ = _
 simp only [Zf0]
 rw [Zr8 k c sh s hk hn]
 simp only [ZX]
 have hnar:=X4 c sh s
 have hlen:=ZCs c sh s
 unfold Zbm
 generalize (QM c sh s).2 = e
 generalize (QM c sh s).1 = l at hnar hlen
 have:=Zs (A:=Int) (step:=fun L1 => Zcn k L1) (fun i acc => (UJ l.length,UJ i,l,acc,e)) l
  (fun l' acc => some ((acc + ZlO (l'.map fun x => (x.natAbs:Int)),e,()),())) (fun i acc => 0 ≤ acc ∧ acc ≤ (i:Int) * 2147483648)
  (fun L acc _ => by grind [Zcn,ZlO])
  (fun L i hi acc hacc hL => by
   have hx:=hnar l[i] (Ha hi)
   unfold ZG at hx
   simp only [Zcn]
   rw [Zb (KX hi),Zb (Ya hi),ZE hi,Qc hi (by omega),Z2 (n:=0 - l[i]) (by omega)]
   have e1:(if l[i] < 0 - l[i] then 0 - l[i] else l[i]) = (l[i].natAbs:Int):=by split <;> omega
   have hi8:(i:Int) ≤ 8192:=by omega
   rw [e1,Z2 (n:=acc + (l[i].natAbs:Int)) (by omega),hL _ ⟨by omega,by push_cast; omega⟩]
   grind [ZlO]) k 0 0 ⟨by omega,by omega⟩ (by omega) (UH _)
 exact Hn this (by rw [U9,Int.zero_add])
def Xr (o:Nat):List Int:=match o with
 | 1 => [1]
 | 2 => [2,-1]
 | 3 => [3,-3,1]
 | 4 => [4,-6,4,-1]
 | _ => []
theorem Zkr (k:Nat) (o:Nat) (ho:o ≤ 4) (hk:20 < k):Zkq k ((o:Int),()) = some (((Xr o,0,()),0,()),()):=by
 obtain ⟨k,rfl⟩:∃ m,k = m + 20:=⟨k - 20,by omega⟩
 match o,ho with
 | 0,_ => rfl
 | 1,_ => rfl
 | 2,_ => rfl
 | 3,_ => rfl
 | 4,_ => rfl
def WZ (o:Nat):List Int:=match o with
 | 2 => [32,-16]
 | 4 => [64,-96,64,-16]
 | 8 => [64,-96,64,-16,0,0,0,0]
 | _ => []
theorem ZGK (k:Nat) (o:Nat) (ho:o = 2 ∨ o = 4 ∨ o = 8) (hk:40 < k):ZAO k ((o:Int),()) = some ((WZ o,4,()),()):=by
 obtain ⟨k,rfl⟩:∃ m,k = m + 40:=⟨k - 40,by omega⟩
 rcases ho with rfl | rfl | rfl
 ·rfl
 ·rfl
 ·rfl
abbrev Mdl:=List Int × Int × Bool
def Zms (s:List Int) (by_:Int) (j:Nat) (M:Mdl):Mdl :=
 if (Zbm (M.1.set j (M.1.getD j 0 + by_)) 4 s).2 = 0 ∧ (M.2.2 = false ∨ (Zbm (M.1.set j (M.1.getD j 0 + by_)) 4 s).1 < M.2.1)
 then (M.1.set j (M.1.getD j 0 + by_),(Zbm (M.1.set j (M.1.getD j 0 + by_)) 4 s).1,true) else M
def ZwI (s:List Int) (st:Int) (j:Nat) (M:Mdl):Mdl:=Zms s (-st) j (Zms s st j M)
def Zzo (s:List Int) (st:Int):Nat → Nat → Mdl → Mdl
 | 0,_,M => M
 | d + 1,j,M => Zzo s st d (j + 1) (ZwI s st j M)
def Zzp (s:List Int) (st:Int) (o:Nat) (M:Mdl):Mdl:=Zzo s st o 0 M
def ZP2 (s:List Int) (o:Nat):Mdl:=Zzp s 1 o (Zzp s 2 o (Zzp s 4 o (Zzp s 8 o (WZ o,(Zbm (WZ o) 4 s).1,(Zbm (WZ o) 4 s).2 == 0))))
def ZbL (s:List Int) (o:Nat):List Int:=(ZP2 s o).1
structure MOk (o:Nat) (b:Int) (M:Mdl):Prop where
 len:M.1.length = o
 bd:∀ x ∈ M.1,-b ≤ x ∧ x ≤ b
theorem ZqW {s:List Int} {o:Nat} {b by_:Int} {j:Nat} {M:Mdl} (h:MOk o b M) (hj:j < o) (hby : -8 ≤ by_ ∧ by_ ≤ 8):MOk o (b + 8) (Zms s by_ j M):=by
 unfold Zms
 split
 ·refine ⟨by simp [h.len],fun x hx => ?_⟩
  have hg:M.1.getD j 0 ∈ M.1:=by rw [Wl (by rw [h.len]; exact hj)]; exact Ha _
  rcases List.mem_or_eq_of_mem_set hx with hx | rfl
  ·have:=h.bd x hx; omega
  ·have:=h.bd _ hg; omega
 ·exact ⟨h.len,fun x hx => by have:=h.bd x hx; omega⟩
theorem ZwJ {s:List Int} {o:Nat} {b st:Int} {j:Nat} {M:Mdl} (h:MOk o b M) (hj:j < o) (hst : -8 ≤ st ∧ st ≤ 8):MOk o (b + 16) (ZwI s st j M):=by
 have:=ZqW (s:=s) (ZqW (s:=s) h hj hst) hj (by_ := -st) (by omega)
 rw [show b + 8 + 8 = b + 16 by omega] at this
 exact this
theorem ZFb {s:List Int} {o:Nat} {st:Int} (hst : -8 ≤ st ∧ st ≤ 8):∀ (d j:Nat) (b:Int) (M:Mdl),MOk o b M → j + d ≤ o → MOk o (b + 16 * (d:Int)) (Zzo s st d j M)
 | 0,j,b,M,h,_ => by simpa [Zzo] using h
 | d + 1,j,b,M,h,hj => by
  simp only [Zzo]
  have hb:=ZwJ (s:=s) (j:=j) (st:=st) h (show j < o by omega) hst
  have:=ZFb (s:=s) hst d (j + 1) (b + 16) _ hb (show j + 1 + d ≤ o by omega)
  grind
theorem ZdK {s:List Int} {o:Nat} {st b:Int} (hst : -8 ≤ st ∧ st ≤ 8) (ho:o ≤ 8) {M:Mdl} (h:MOk o b M):MOk o (b + 128) (Zzp s st o M):=by
 have:=ZFb (s:=s) hst o 0 b M h (by omega)
 refine ⟨this.len,fun x hx => ?_⟩
 have:=this.bd x hx
 omega
theorem ZF2 (k:Nat) (s:List Int) (hk:s.length + 20 < k) (hn:s.length ≤ 8192) (L1:Int × Int × List Int × Bool × Int × List Int × Int × Int → Option (((List Int × Int × Unit) × Int × Unit) × Unit)) (L2:Int × Int × Int × List Int × Bool × Int × Int × List Int × Int × Int → Option (((List Int × Int × Unit) × Int × Unit) × Unit))
  {o j:Nat} {st:Int} {M:Mdl} {v13:Int} (hM:MOk o 1000 M) (hj:j < o) (ho:o ≤ 8) (hst:0 ≤ st ∧ st ≤ 8) :
  Zh9 k L1 L2 (0,st,Jx.wrap (0 - st),(j:Int),s,M.2.2,M.2.1,(j:Int),(o:Int),st,(o:Int),M.1,4,v13) =
   L2 ((o:Int),((j + 1:Nat):Int),st,s,(ZwI s st j M).2.2,(ZwI s st j M).2.1,(o:Int),(ZwI s st j M).1,4,v13):=by
 obtain ⟨k,rfl⟩:∃ m,k = m + 3:=⟨k - 3,by omega⟩
 have e0:Jx.wrap (0 - st) = -st:=by rw [Z2 (by omega)]; omega
 rw [e0]
 have one:∀ (i:Nat) (by_:Int) (L3:Int × Int × Int × Int × List Int × Bool × Int × Int × Int × Int × Int × List Int × Int × Int → Option (((List Int × Int × Unit) × Int × Unit) × Unit)) (M:Mdl),i < 2 → [st,-st].getD i 0 = by_ → -8 ≤ by_ ∧ by_ ≤ 8 → MOk o 1008 M →
   Zag (k + 3) L1 L2 L3 ((i:Int),st,-st,(j:Int),s,M.2.2,M.2.1,(j:Int),(o:Int),st,(o:Int),M.1,4,v13) =
    L3 (((i + 1:Nat):Int),st,-st,(j:Int),s,(Zms s by_ j M).2.2,(Zms s by_ j M).2.1,(j:Int),(o:Int),st,(o:Int),(Zms s by_ j M).1,4,v13):=by
  intro i by_ L3 M hi hg hb hM
  simp only [Zag]
  rw [Zb (by omega),Zb (by omega)]
  have hl:=hM.len
  rw [show ZkU (k + 3) (M.1,()) = some (M.1,()) from by show XL _ = _; unfold XL; rw [Zb (by rw [hl]; omega)]]
  simp only [ZX,Xa,QY]
  rw [Zb (by omega),Zb (by omega),Zb (by omega),Zb (by omega),hg]
  have hx:=hM.bd (M.1.getD j 0) (by simp_all)
  rw [Z2 (n:=M.1.getD j 0 + by_) (by omega),Zsb (k + 3) _ 4 s (by omega) hn]
  simp only [ZX]
  rw [show Jx.wrap ((i:Int) + 1) = ((i + 1:Nat):Int) from by rw [Z2 (by omega)]; omega]
  unfold Zms
  grind
 show Zh (fun L3 => Zag (k + 3) L1 L2 L3) (k + 3) ((0:Nat),st,-st,(j:Int),s,M.2.2,M.2.1,(j:Int),(o:Int),st,(o:Int),M.1,4,v13) = _
 rw [Zd,one 0 st _ M (by omega) rfl (by omega) ⟨hM.len,fun x hx => by have:=hM.bd x hx; omega⟩]
 have h2:=ZqW (s:=s) hM hj (by_:=st) (by omega)
 rw [Zd,one 1 (-st) _ _ (by omega) rfl (by omega) h2,Zd]
 simp only [Zag]
 rw [Zl (by omega),show Jx.wrap ((j:Int) + 1) = ((j + 1:Nat):Int) from by rw [Z2 (by omega)]; omega]
 rfl
theorem ZIZ (k:Nat) (s:List Int) (hk:s.length + 20 < k) (hn:s.length ≤ 8192) (L1:Int × Int × List Int × Bool × Int × List Int × Int × Int → Option (((List Int × Int × Unit) × Int × Unit) × Unit))
  {o:Nat} {st:Int} {v9:Int} (ho:o ≤ 8) (hst:0 ≤ st ∧ st ≤ 8):∀ (d j m:Nat) (b:Int) (M:Mdl),j + d = o → d < m → MOk o b M → b + 16 * (d:Int) ≤ 1000 →
  Zh (fun L2 => Zb9 k (Zh9 k L1 L2) L1 L2) m ((o:Int),(j:Int),st,s,M.2.2,M.2.1,(o:Int),M.1,4,v9) =
   L1 (Jx.wrap (st.tdiv 2),(o:Int),s,(Zzo s st d j M).2.2,(Zzo s st d j M).2.1,(Zzo s st d j M).1,4,v9):=by
 intro d
 induction d with
 | zero =>
  intro j m b M hj hm hM hb
  obtain ⟨m,rfl⟩:=Zw hm
  rw [Zd]
  simp only [Zb9]
  rw [Zl (by omega)]
  rfl
 | succ d ih =>
  intro j m b M hj hm hM hb
  obtain ⟨m,rfl⟩:=Zw (show 0 < m by omega)
  rw [Zd]
  simp only [Zb9]
  rw [Zb (by omega)]
  rw [ZF2 k s hk hn L1 _ (M:=M) ⟨hM.len,fun x hx => by have:=hM.bd x hx; omega⟩ (by omega) ho hst]
  rw [ih (j + 1) m (b + 16) _ (by omega) (by omega) (ZwJ hM (by omega) (by omega)) (by push_cast at hb; omega)]
  rfl
theorem ZF6 (k:Nat) (s:List Int) (o:Nat) (ho:o = 2 ∨ o = 4 ∨ o = 8) (hos:o ≤ s.length) (hs:∀ x ∈ s,ZG x) (hk:s.length + 60 < k) (hn:s.length ≤ 8192) :
  ZAD k (s,(o:Int),()) = some (((ZbL s o,4,()),0,()),()):=by
 show ZfK k (ZmP k) _ = _
 simp only [ZfK]
 have hw:s.any Qy = false:=by
  rw [Uk]
  intro x hx
  have:=hs x hx
  unfold ZG at this
  unfold Qy
  simp only [decide_eq_true_eq]
  omega
 rw [Zl (by omega),Zl (by omega),Zl (by simp only [QY]; omega),Zbo k s (by omega) (by omega),hw]
 simp only [ZX,cond_false]
 rw [ZGK k o ho (by omega)]
 simp only [ZX]
 rw [Zsb k _ 4 s (by omega) hn]
 simp only [ZX]
 have hM0:MOk o 96 (WZ o,(Zbm (WZ o) 4 s).1,(Zbm (WZ o) 4 s).2 == 0):=by
  rcases ho with rfl | rfl | rfl
  ·exact ⟨rfl,show ∀ x ∈ WZ 2,-96 ≤ x ∧ x ≤ 96 by decide⟩
  ·exact ⟨rfl,show ∀ x ∈ WZ 4,-96 ≤ x ∧ x ≤ 96 by decide⟩
  ·exact ⟨rfl,show ∀ x ∈ WZ 8,-96 ≤ x ∧ x ≤ 96 by decide⟩
 have ho8:o ≤ 8:=by omega
 have h1:=ZdK (s:=s) (st:=8) (by omega) ho8 hM0
 have h2:=ZdK (s:=s) (st:=4) (by omega) ho8 h1
 have h3:=ZdK (s:=s) (st:=2) (by omega) ho8 h2
 obtain ⟨k',rfl⟩:∃ m,k = m + 5:=⟨k - 5,by omega⟩
 have row:∀ (L1:Int × Int × List Int × Bool × Int × List Int × Int × Int → Option (((List Int × Int × Unit) × Int × Unit) × Unit)) (st:Int) (b:Int) (M:Mdl),0 < st → st ≤ 8 → MOk o b M → b + 128 ≤ 1000 →
   Zb8 (k' + 5) (Zh8 (k' + 5) L1) L1 (st,(o:Int),s,M.2.2,M.2.1,M.1,4,0) = L1 (Jx.wrap (st.tdiv 2),(o:Int),s,(Zzp s st o M).2.2,(Zzp s st o M).2.1,(Zzp s st o M).1,4,0):=by
  intro L1 st b M h0 h8 hM hb
  simp only [Zb8]
  rw [Zb h0]
  exact ZIZ (k' + 5) s (by omega) hn L1 ho8 (by omega) o 0 (k' + 5) b M (by omega) (by omega) hM (by omega)
 show Zh (fun L1 => Zb8 (k' + 5) (Zh8 (k' + 5) L1) L1) (k' + 5) _ = _
 rw [Zd]
 refine (row _ 8 96 (WZ o,(Zbm (WZ o) 4 s).1,(Zbm (WZ o) 4 s).2 == 0) (by omega) (by omega) hM0 (by omega)).trans ?_
 rw [show Jx.wrap ((8:Int).tdiv 2) = 4 from by decide,Zd]
 refine (row _ 4 _ _ (by omega) (by omega) h1 (by omega)).trans ?_
 rw [show Jx.wrap ((4:Int).tdiv 2) = 2 from by decide,Zd]
 refine (row _ 2 _ _ (by omega) (by omega) h2 (by omega)).trans ?_
 rw [show Jx.wrap ((2:Int).tdiv 2) = 1 from by decide,Zd]
 refine (row _ 1 _ _ (by omega) (by omega) h3 (by omega)).trans ?_
 rfl
theorem ZhB (s:List Int) (o:Nat) (ho:o = 2 ∨ o = 4 ∨ o = 8):(ZbL s o).length = o ∧ ∀ x ∈ ZbL s o,-1000 ≤ x ∧ x ≤ 1000:=by
 have hM0:MOk o 96 (WZ o,(Zbm (WZ o) 4 s).1,(Zbm (WZ o) 4 s).2 == 0):=by
  rcases ho with rfl | rfl | rfl
  ·exact ⟨rfl,show ∀ x ∈ WZ 2,-96 ≤ x ∧ x ≤ 96 by decide⟩
  ·exact ⟨rfl,show ∀ x ∈ WZ 4,-96 ≤ x ∧ x ≤ 96 by decide⟩
  ·exact ⟨rfl,show ∀ x ∈ WZ 8,-96 ≤ x ∧ x ≤ 96 by decide⟩
 have ho8:o ≤ 8:=by omega
 have h:=ZdK (s:=s) (st:=1) (by omega) ho8 (ZdK (s:=s) (st:=2) (by omega) ho8 (ZdK (s:=s) (st:=4) (by omega) ho8 (ZdK (s:=s) (st:=8) (by omega) ho8 hM0)))
 exact ⟨h.len,fun x hx => by have:=h.bd x hx; omega⟩
end Go.Sh
