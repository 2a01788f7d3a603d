/-
  What the row needs, part 11.
-/
import Derived.Test.YtgbhjfacjekhcaaGreatDoorXStreamExports10
import Derived.ChangeArms
import Derived.ChangeShapes
import Derived.WideShapes
import Derived.ReadAgain
import Derived.Below
import Derived.ChangeSame
import Derived.RowKit
set_option linter.unusedSimpArgs false
set_option linter.unusedVariables false
set_option linter.unusedSectionVars false
open BitVec renaming ofInt→UH,ofNat→HD,toNat_ofNat→HE,ofInt_natCast→HU,toNat_and→U8
open Bool renaming and_eq_true→Jh,false_eq_true→JJ,not_true→HF,true_eq_false→HV
open Eq renaming trans→U4
open Go.FloatKind renaming f64→Je
open Int renaming ofNat→UD,pow_pos→Hu,compare_eq_lt→HG,emod_nonneg→HH,fdiv_eq_ediv_of_nonneg→HI,le_of_lt→HJ,min_le_left→HK,min_le_right→HL,mul_sub→HM,natAbs_mul→HN,natCast_mul→HO,neg_neg→HP,compare_eq_gt→HW,mul_lt_mul_of_pos_right→HX,mul_neg_of_neg_of_pos→HY,toNat_of_nonneg→UE
open Go.IntKind renaming i64→Jx,u64→UI,u8→UL
open List renaming getElem_mem→Ha,replicate→Jd,drop_zero→U5,length_cons→JF,all_eq_true→Ve,append_nil→Vf,mem_map→VF,of_mem_zip→Vy,drop→UN,length_range→U7,range→Jc,takeWhile_cons→Hz,any_cons→HQ,append_assoc→Ju,getElem?_eq_getElem→VN,map_cons→JR,mem_cons_of_mem→Jn,mem_cons_self→Jl,nil_append→VS,all_cons→UA,any_eq_false→Uj,ext_getElem→HZ,foldl_cons→H0,getElem_set→H1,length_nil→H2,length_singleton→Ur
open Nat renaming pow_pos→Hq,pow_add→Hr,min_eq_left→Hs,zero_le→Ht,mod_lt→UY,add_sub_cancel→Hv,le_refl→Jj,mul_assoc→Hw,beq→Ja,mul_lt_mul_of_pos_right→Hx,pow_le_pow_right→He,shiftLeft_eq→Hy,div_eq_of_lt→HA,shiftLeft_zero→HB,xor_lt_two_pow→HC,and_two_pow_sub_one_eq_mod→Hp,log2_eq_iff→HR,mul_comm→V9,pow_succ→HS,pow_zero→HT,and_one_is_mod→H3,div_div_eq_div_mul→H4,lt_of_lt_of_le→VZ,mul_le_mul→J3,mul_le_mul_right→Jm,one_shiftLeft→H5,testBit_mod_two_pow→H6
namespace Go.Sh
open Go Go.RowKit Go.WideShapes Go.ChangeShapes
def ZAq (P:Program) (g:TypeId → Ty → Bool):Nat → List Field → Ty → Bool
 | _,[],.unit => true
 | off,f :: l,.pair a b => Ja f.offset off && g f.type a && Ja (P.cellsOf f.type) a.size && ZAq P g (off + a.size) l b
 | _,_,_ => false
def Zep (P:Program):Nat → TypeId → Ty → Bool
 | 0,_,_ => false
 | n + 1,T,t => match P.underlying T,t with
  | some .bool,.bool => true
  | some (.int k),.int k' => decide (k = k')
  | some .string,.str => true
  | some (.slice e),.sl t => Zep P n e t && Ja (P.cellsOf e) t.size && Nat.ble 1 t.size
  | some (.struct fs),.pair a b => ZAq P (Zep P n) 0 fs.toList (.pair a b) && Ja (P.cellsOf T) (Ty.size (.pair a b))
  | some (.struct fs),.unit => ZAq P (Zep P n) 0 fs.toList .unit && Ja (P.cellsOf T) 0
  | _,_ => false
def Ty.bulk:(t:Ty) → t.den → Nat
 | .str,s => s.size + 1
 | .sl t,xs => (xs.map t.bulk).sum + 1
 | .pair a b,x => a.bulk x.1 + b.bulk x.2
 | .unit,_ => 0
 | .bool,_ => 1
 | .int _,_ => 1
 | .fl _,_ => 1
 | .cx _,_ => 1
 | .raw,_ => 1
def Ty.ok:(t:Ty) → t.den → Prop
 | .int k,n => k.min ≤ n ∧ n ≤ k.max
 | .sl t,xs => ∀ x ∈ xs,t.ok x
 | .pair a b,x => a.ok x.1 ∧ b.ok x.2
 | .bool,_ => True
 | .str,_ => True
 | .fl _,_ => True
 | .cx _,_ => True
 | .raw,_ => True
 | .unit,_ => True
mutual
def bulkD {H:Type}:DataW H → Nat
 | .lit (.string bytes) => bytes.length + 1
 | .lit _ => 1
 | .nil => 1
 | .ptr d => bulkD d + 1
 | .slice elems spare => bulkDs elems + bulkDs spare + 1
 | .agg parts => bulkDs parts + 1
 | .iface _ d => bulkD d + 1
 | .map entries => bulkEs entries + 1
 | .held _ => 1
def bulkDs {H:Type}:List (DataW H) → Nat
 | [] => 0
 | d :: r => bulkD d + bulkDs r
def bulkEs {H:Type}:List (Lit × DataW H) → Nat
 | [] => 0
 | x :: r => bulkE x + bulkEs r
def bulkE {H:Type}:Lit × DataW H → Nat
 | (.string bytes,d) => bytes.length + bulkD d + 1
 | (_,d) => bulkD d + 1
end
def whole (w:World) (b:Nat):Nat:=match w.heap[b]? with
 | some (.cells c _ _) => c.size
 | _ => 0
theorem ZAZ {w:World} {b o:Nat} {v:Value} (h:w.cell? ⟨b,o,none⟩ = some v):o < whole w b:=by
 unfold World.cell? at h
 unfold whole
 split at h
 ·rename_i c _ _ hb
  simp only at hb
  rw [hb]
  simp only [Option.isSome_none,JJ,if_false] at h
  exact (Array.getElem?_eq_some_iff.1 h).1
 ·cases h
theorem ZQZ (w:World):∀ b,w.heap.size ≤ b → whole w b = 0:=by
 intro b hb
 unfold whole
 rw [Array.getElem?_eq_none hb]
theorem cells?_at {w:World} {base n:Nat} {a:Addr} {cs:List Value} (h:w.cells? base a n = some cs):cs.length = n ∧ ∀ i v,cs[i]? = some v → w.cell? (a.add i) = some v:=by
 unfold World.cells? at h
 split at h
 ·have hl:=mapM_some_length h
  simp only [U7] at hl
  refine ⟨hl,fun i v hi => ?_⟩
  have hlt:i < n:=by have:=(List.getElem?_eq_some_iff.1 hi).1; omega
  have:=mapM_some_get h i i (by simp [hlt])
  rw [this,hi]
 ·cases h
section
variable {H:Type} {enc:TypeId × Value → H} {P:Program} {w:World} {base:Nat} {spare:Nat → Bool} {held:Bool}
theorem Zuv {n n':Nat} (ih:∀ (T:TypeId) (t:Ty) (cs:List Value) (x:DataW H × List MemPlace),Zep P n T t = true → DataW.trod enc P w base spare held n' T cs = some x → ∃ y,Rt w (whole w) t y cs ∧ t.ok y ∧ t.bulk y ≤ bulkD x.1) :
  ∀ (l:List Field) (t:Ty) (off:Nat) (cs:List Value) (xs:List (DataW H × List MemPlace)),ZAq P (Zep P n) off l t = true → cs.length = off + t.size →
   (∀ (i:Nat) (f:Field),l[i]? = some f → DataW.trod enc P w base spare held n' f.type ((cs.drop f.offset).take (P.cellsOf f.type)) = xs[i]?) → xs.length = l.length →
   ∃ y,Rt w (whole w) t y (cs.drop off) ∧ t.ok y ∧ t.bulk y ≤ bulkDs (xs.map (·.1))
 | [],t,off,cs,xs,h,hl,hx,hn => by
  match t,h with
  | .unit,h =>
   refine ⟨(),?_,trivial,Ht _⟩
   simp only [Rt,List.drop_eq_nil_iff]
   simp [Ty.size] at hl; omega
 | f :: l,t,off,cs,xs,h,hl,hx,hn => by
  match t,h with
  | .pair a b,h =>
   simp only [ZAq,Jh] at h
   obtain ⟨⟨⟨h1,h2⟩,h3⟩,h4⟩:=h
   match xs,hn with
   | x :: xs,hn =>
    have h0:=hx 0 f rfl
    rw [beq_eq h1,beq_eq h3] at h0
    simp only [List.getElem?_cons_zero] at h0
    obtain ⟨y,e1,e2,e3⟩:=ih f.type a _ x h2 h0
    simp only [Ty.size] at hl
    obtain ⟨z,g1,g2,g3⟩:=Zuv ih l b (off + a.size) cs xs h4 (by omega) (fun i f' hf' => by simpa using hx (i + 1) f' (by simpa using hf')) (by simpa using hn)
    refine ⟨(y,z),?_,⟨e2,g2⟩,?_⟩
    ·simp only [Rt]
     refine ⟨_,_,?_,e1,g1⟩
     rw [← List.drop_drop,List.take_append_drop]
    ·simp only [Ty.bulk,JR,bulkDs]; omega
theorem Zih:∀ (n m:Nat) (T:TypeId) (t:Ty) (cs:List Value) (x:DataW H × List MemPlace),Zep P m T t = true → DataW.trod enc P w base spare held n T cs = some x →
  ∃ y,Rt w (whole w) t y cs ∧ t.ok y ∧ t.bulk y ≤ bulkD x.1
 | 0,_,_,_,_,_,_,h => by simp [DataW.trod] at h
 | n + 1,0,_,_,_,_,hf,_ => by simp [Zep] at hf
 | n + 1,m + 1,T,t,cs,x,hf,h => by
  unfold Zep at hf
  split at hf
  ·rename_i hu
   obtain ⟨b,rfl,rfl⟩:=DataW.trod_bool hu h
   exact ⟨b,rfl,trivial,Jj _⟩
  ·rename_i k k' hu
   obtain rfl:k = k':=of_decide_eq_true hf
   obtain ⟨v,rfl,rfl,hw⟩:=DataW.trod_int hu h
   refine ⟨v,rfl,?_,Jj _⟩
   simpa [Ty.ok,Lit.wf] using hw
  ·rename_i hu
   obtain ⟨s,rfl,rfl,_⟩:=DataW.trod_string hu h
   refine ⟨s,rfl,trivial,?_⟩
   simp only [Ty.bulk,bulkD,Array.length_toList]
   exact Jj _
  ·rename_i e t hu
   simp only [Jh] at hf
   obtain ⟨⟨hf,hsz⟩,hpos⟩:=hf
   have hsz:=beq_eq hsz
   have hpos:1 ≤ t.size:=Nat.le_of_ble_eq_true hpos
   rcases DataW.trod_slice hu h with ⟨rfl,rfl⟩ | ⟨a,len,cap,elems,rest,n',hn',rfl,rfl,hb,hlc,_,hlen,hel,_⟩
   ·refine ⟨[],?_,(by simp [Ty.ok]:Ty.ok (.sl t) []),(by simp [Ty.bulk,bulkD])⟩
    simp only [Rt]
    exact ⟨none,0,0,rfl,rfl,Jj _,.inl trivial⟩
   ·obtain rfl:n' = n:=by omega
    have each:∀ i (hi:i < elems.length),∃ cs',w.cells? base (a.add (i * P.cellsOf e)) (P.cellsOf e) = some cs' ∧ ∃ y,Rt w (whole w) t y cs' ∧ t.ok y ∧ t.bulk y ≤ bulkD elems[i].1:=by
     intro i hi
     have h1:=hel i (by omega)
     rw [VN hi] at h1
     obtain ⟨cs',h2,h3⟩:=Option.bind_eq_some_iff.1 h1
     exact ⟨cs',h2,Zih n' m e t cs' _ hf h3⟩
    -- the list
    have all:∀ (l:List (DataW H × List MemPlace)),(∀ i (hi:i < l.length),∃ y,(∃ cs',w.cells? base (a.add ((elems.length - l.length + i) * P.cellsOf e)) (P.cellsOf e) = some cs' ∧ Rt w (whole w) t y cs') ∧ t.ok y ∧ t.bulk y ≤ bulkD l[i].1) →
      l.length ≤ elems.length → ∃ ys:List t.den,ys.length = l.length ∧ (∀ y ∈ ys,t.ok y) ∧ (ys.map t.bulk).sum ≤ bulkDs (l.map (·.1)) ∧
       ∀ i (hi:i < ys.length),∃ cs',w.cells? base (a.add ((elems.length - l.length + i) * P.cellsOf e)) (P.cellsOf e) = some cs' ∧ Rt w (whole w) t ys[i] cs':=by
     intro l
     induction l with
     | nil => intro _ _; exact ⟨[],rfl,by simp,by simp [bulkDs],fun i hi => by simp at hi⟩
     | cons p l ih =>
      intro hp hle
      simp only [JF] at hle
      obtain ⟨y,⟨cs',c1,c2⟩,y1,y2⟩:=hp 0 (by simp)
      obtain ⟨ys,k1,k2,k3,k4⟩:=ih (fun i hi => by
       obtain ⟨y,⟨cs',c1,c2⟩,y1,y2⟩:=hp (i + 1) (by simpa using hi)
       refine ⟨y,⟨cs',?_,c2⟩,y1,by simpa using y2⟩
       rw [← c1]; congr 3; simp only [JF]; omega) (by omega)
      refine ⟨y :: ys,by simp [k1],?_,?_,?_⟩
      ·intro z hz
       rcases List.mem_cons.1 hz with rfl | hz
       ·exact y1
       ·exact k2 z hz
      ·simp only [JR,List.sum_cons,bulkDs]
       simp only [List.getElem_cons_zero] at y2
       omega
      ·intro i hi
       cases i with
       | zero => exact ⟨cs',c1,c2⟩
       | succ i =>
        obtain ⟨cs'',d1,d2⟩:=k4 i (by simpa using hi)
        refine ⟨cs'',?_,by simpa using d2⟩
        rw [← d1]; congr 3; simp only [JF]; omega
    obtain ⟨ys,k1,k2,k3,k4⟩:=all elems (fun i hi => by
     obtain ⟨cs',c1,y,c2,c3,c4⟩:=each i hi
     exact ⟨y,⟨cs',by simpa using c1,c2⟩,c3,c4⟩) (Jj _)
    simp only [Nat.sub_self,Nat.zero_add] at k4
    refine ⟨ys,?_,k2,?_⟩
    ·simp only [Rt]
     refine ⟨some a,len,cap,rfl,by omega,hlc,?_⟩
     by_cases hnil:ys = []
     ·exact .inl hnil
     ·right
      have h0:0 < ys.length:=List.length_pos_iff.2 hnil
      obtain ⟨c0,z1,z2⟩:=k4 0 h0
      obtain ⟨zl,zc⟩:=cells?_at z1
      obtain ⟨v0,hv0⟩:∃ v0,c0[0]? = some v0:=⟨c0[0]'(by omega),VN _⟩
      have hs:=zc 0 v0 hv0
      simp only [Nat.zero_mul,Addr.add,if_true] at hs
      obtain ⟨b,off,spot⟩:=a
      have hspot:spot = none:=by
       cases spot with
       | none => rfl
       | some s =>
        unfold World.cell? at hs
        split at hs
        ·simp at hs
        ·cases hs
      subst hspot
      refine ⟨b,off,rfl,fun i hi => ?_⟩
      obtain ⟨cs',d1,d2⟩:=k4 i hi
      refine ⟨cs',d2,fun j v hj => ?_⟩
      obtain ⟨_,zc⟩:=cells?_at d1
      have hc:=zc j v hj
      have e:((⟨b,off,none⟩:Addr).add (i * P.cellsOf e)).add j = ⟨b,off + i * t.size + j,none⟩:=by
       rw [hsz]
       unfold Addr.add
       split <;> split <;> simp_all <;> omega
      rw [e] at hc
      exact ⟨hc,ZAZ hc⟩
    ·simp only [Ty.bulk,bulkD]
     omega
  ·rename_i fs a b hu
   simp only [Jh] at hf
   obtain ⟨hf,hsz⟩:=hf
   obtain ⟨xs,n',hn',rfl,hl,hxs,hget⟩:=DataW.trod_struct hu h
   obtain rfl:n' = n:=by omega
   obtain ⟨y,e1,e2,e3⟩:=Zuv (n:=m) (n':=n') (fun T t cs x h1 h2 => Zih n' m T t cs x h1 h2) fs.toList (.pair a b) 0 cs xs hf (by rw [hl,beq_eq hsz]; omega) (fun i f hi => hget i f (by simpa using hi)) (by simpa using hxs)
   exact ⟨y,by simpa using e1,e2,by simp only [bulkD]; omega⟩
  ·rename_i fs hu
   simp only [Jh] at hf
   obtain ⟨hf,hsz⟩:=hf
   obtain ⟨xs,n',hn',rfl,hl,hxs,hget⟩:=DataW.trod_struct hu h
   refine ⟨(),?_,trivial,Ht _⟩
   simp only [Rt]
   rw [beq_eq hsz] at hl
   exact List.length_eq_zero_iff.1 hl
  ·cases hf
end
end Go.Sh
namespace Go.Sh
open Go Go.RowKit Go.WideShapes Go.ChangeShapes
def W4 (tys:List Ty):List Kd:=tys.map .view
def ZGX:(tys:List Ty) → Kd.dens (W4 tys) → Prop
 | [],_ => True
 | t :: l,x => t.ok x.1 ∧ ZGX l x.2
def Zir:(tys:List Ty) → Kd.dens (W4 tys) → Nat
 | [],_ => 0
 | t :: l,x => t.bulk x.1 + Zir l x.2
def ZbT (P:Program):List TypeId → List Ty → Bool
 | [],[] => true
 | T :: Ts,t :: ts => Zep P 16 T t && ZbT P Ts ts
 | _,_ => false
section
variable {H:Type} {enc:TypeId × Value → H} {P:Program} {w:World} {base:Nat} {spare:Nat → Bool} {held:Bool}
theorem Za9 {v:Value} (h:∀ cs,v ≠ .agg cs):v.cells = #[v]:=by
 cases v <;> first | rfl | (exact absurd rfl (h _))
theorem ZxX {b0 n:Nat} {r:Reach} {T:TypeId} {t:Ty} {v:Value} {d:DataW H} {ps:List MemPlace} (hval:Value.okWide P w r b0 T v) (h:DataW.Trod enc P w base spare held T v d ps) (hf:Zep P n T t = true) :
  ∃ y,ZkP w (whole w) t y v ∧ t.ok y ∧ t.bulk y ≤ bulkD d:=by
 obtain ⟨m,hm⟩:=h
 obtain ⟨y,h1,h2,h3⟩:=Zih m n T t _ _ hf hm
 refine ⟨y,⟨_,h1,?_⟩,h2,h3⟩
 cases n with
 | zero => simp [Zep] at hf
 | succ n =>
  unfold Value.okWide at hval
  unfold Zep at hf
  split at hf <;> rename_i hu <;> try (cases hf; done)
  all_goals
   rw [hu] at hval
   simp only at hval
  ·refine .inr ⟨rfl,?_⟩
   rw [Za9]; rintro cs rfl; simp [Cell.okWide,Cell.ok,hu] at hval
  ·refine .inr ⟨rfl,?_⟩
   rw [Za9]; rintro cs rfl; simp [Cell.okWide,Cell.ok,hu] at hval
  ·refine .inr ⟨rfl,?_⟩
   rw [Za9]; rintro cs rfl; simp [Cell.okWide,Cell.ok,hu] at hval
  ·refine .inr ⟨rfl,?_⟩
   rw [Za9]; rintro cs rfl; simp [Cell.okWide,Cell.ok,hu] at hval
  ·obtain ⟨cs,rfl,_⟩:=hval
   exact .inl ⟨rfl,rfl⟩
  ·obtain ⟨cs,rfl,_⟩:=hval
   exact .inl ⟨rfl,rfl⟩
theorem Zge {b0:Nat} {r:Reach}:∀ {Ts:List TypeId} {tys:List Ty} {vs:List Value} {ds:List (DataW H)} {ps:List MemPlace},ZbT P Ts tys = true →
  (∀ (j:Nat) t v,Ts[j]? = some t → vs[j]? = some v → Value.okWide P w r b0 t v) → DataW.TrodAll enc P w base spare held Ts vs ds ps →
  ∃ x:Kd.dens (W4 tys),TTs w (whole w) (Wn (W4 tys) x) vs [] ∧ ZGX tys x ∧ Zir tys x ≤ bulkDs ds
 | [],[],vs,ds,ps,_,_,h => by
  obtain ⟨rfl,rfl,rfl⟩:=trodAll_nil h
  exact ⟨(),rfl,trivial,Jj _⟩
 | T :: Ts,t :: tys,vs,ds,ps,hf,hval,h => by
  simp only [ZbT,Jh] at hf
  obtain ⟨v,vs',d,ds',p,q,rfl,rfl,rfl,h1,h2⟩:=trodAll_cons h
  obtain ⟨y,e1,e2,e3⟩:=ZxX (hval 0 T v rfl rfl) h1 hf.1
  obtain ⟨x,g1,g2,g3⟩:=Zge hf.2 (fun j t v ht hv => hval (j + 1) t v (by simpa using ht) (by simpa using hv)) h2
  refine ⟨(y,x),?_,⟨e2,g2⟩,?_⟩
  ·exact ⟨[],[],rfl,⟨e1,rfl⟩,g1⟩
  ·simp only [Zir,bulkDs]; omega
 | [],_ :: _,_,_,_,hf,_,_ => by simp [ZbT] at hf
 | _ :: _,[],_,_,_,hf,_,_ => by simp [ZbT] at hf
end
section
variable {H:Type} {enc:TypeId × Value → H} {P:Program}
theorem ZrH {f:Func} {s:ChangeSpec} {apart fresh handsOn again:Bool} {W W':World} {args:Array Value} {v:Value} {ds gs:List (DataW H)} {before pa pv:List MemPlace}
  (hW:DataW.Whole enc P f.params.toList s.vars apart W args.toList ds gs before)
  (hres:∀ (b:Nat) (sp:Nat → Bool) (hd:Bool),DataW.TrodAll enc P W' b sp hd f.resultTypes.toList (v.resultList f.resultTypes.size) (s.fn H (ds ++ gs)).results [])
  (hargs:∀ sp:Nat → Bool,(∀ p ∈ before,sp p.block = true) → DataW.TrodAll enc P W' 0 sp true f.params.toList args.toList (s.fn H (ds ++ gs)).args pa)
  (hvars:∀ sp:Nat → Bool,(∀ p ∈ before,sp p.block = true) → DataW.TrodVars enc P W' sp s.vars (s.fn H (ds ++ gs)).vars pv)
  (hps:before = pa ++ pv) (hb:Below W.heap.size W W')
  (hok:∀ (j:Nat) (t:TypeId) (r:Value),f.resultTypes[j]? = some t → (v.resultList f.resultTypes.size)[j]? = some r → Value.okWide P W' .any 0 t r) :
  s.post enc P f apart fresh handsOn again W args v W':=by
 have hlt:∀ p ∈ before,p.block < W.heap.size:=fun p hp => hW.lt p hp
 have hold:∀ p ∈ before,(fun b => decide (b < W.heap.size)) p.block = true:=fun p hp => by simpa using hlt p hp
 refine ⟨ds,gs,before,[],pa,pv,hW,hres _ _ _,hargs _ hold,hvars _ hold,World.keptBut_mono (fun p hp => ⟨hp,?_⟩) (hb.frame (· ∈ before)),fun _ => ?_⟩
 ·rw [hps,List.mem_append] at hp
  exact Or.inr hp
 ·obtain ⟨_,_,_,_,_,hz,hn⟩:=hW
  refine ⟨hok,_,_,([] ++ pa) ++ pv,⟨[] ++ pa,pv,trodAll_append (hargs _ (fun _ _ => rfl)) (hres _ _ _),hvars _ (fun _ _ => rfl),rfl,?_,?_⟩,?_⟩
  ·intro b off hp
   have hin:MemPlace.cell b off ∈ before:=by rw [hps]; simpa using hp
   rw [hb.frozen (hlt _ hin)]
   exact hz b off hin
  ·intro ha
   have:=hn ha
   rw [hps] at this
   simpa using this
  ·intro p hp _
   rw [hps]
   simpa using hp
theorem Zhr {w w':World} {base:Nat} {spare:Nat → Bool} {held:Bool}:∀ {ts:List TypeId} {vs:List Value} {ds:List (DataW H)} {ps:List MemPlace},
  DataW.TrodAll enc P w base spare held ts vs ds ps → (∀ p ∈ ps,w.sameAt w' p) → DataW.TrodAll enc P w' base spare held ts vs ds ps
 | [],[],[],_,h,_ => h
 | _ :: _,_ :: _,_ :: _,_,⟨p,q,⟨n,h1⟩,h2,e⟩,hs => ⟨p,q,⟨n,DataW.trod_carry n _ _ _ h1 (fun x hx => hs x (by rw [e]; exact List.mem_append_left _ hx))⟩,
   Zhr h2 (fun x hx => hs x (by rw [e]; exact List.mem_append_right _ hx)),e⟩
variable [Gl]
theorem law_contract {K:FuncId} {fn:Func} {spec:ChangeSpec} {B:TypeId} (tys:List Ty) {F:Nat → Kd.dens (W4 tys) → Option (Ans (W4 tys) (.view .bool))} {bound:Nat}
  (hl:laidOutB P = true) (hm:mapsRowed P = true) (hz:((Jc P.types.size).all fun t => match P.underlying t with | some (.slice e) => decide (0 < P.cellsOf e) | _ => true) = true)
  (hts:fn.params.toList.all (fun t => decide (t < P.types.size)) = true) (hfit:ZbT P fn.params.toList tys = true) (hres:fn.resultTypes = #[B]) (hB:P.underlying B = some .bool)
  (hvars:spec.vars = []) (hspec:∀ (H:Type) (ds:List (DataW H)),ds.length = tys.length → spec.fn H ds = { results:=[.lit (.bool true)],args:=ds })
  (hctr:∀ k,Ctr P k K (mk (W4 tys) (.view .bool) F)) (plain:∀ x:Kd.dens (W4 tys),ZGX tys x → Zir tys x ≤ bound → ∃ k u,F k x = some (true,u))
  (enc:TypeId × Value → H) (W:World) (b0:Nat) (args:Array Value) (ds gs:List (DataW H)) (before:List MemPlace)
  (hval:∀ (j:Nat) t v,fn.params[j]? = some t → args[j]? = some v → Value.okWide P W .any b0 t v)
  (hW:DataW.Whole enc P fn.params.toList spec.vars false W args.toList ds gs before) (hk:bulkDs (ds ++ gs) ≤ bound) (hgl:ZuG W (whole W)) :
  Calls P K args W fun e W' => ∃ v,e = .returned v ∧ spec.post enc P fn false true false false W args v W':=by
 have hW':=hW
 obtain ⟨p,q,hA,hV,he,hfz,hnd⟩:=hW
 rw [hvars] at hV
 have hgs:gs = [] ∧ q = []:=by
  match gs,hV with
  | [],hV => exact ⟨rfl,hV⟩
  | _ :: _,hV => exact hV.elim
 obtain ⟨rfl,rfl⟩:=hgs
 simp only [Vf] at he hk
 obtain rfl:p = before:=he.symm
 obtain ⟨x,h1,h2,h3⟩:=Zge (tys:=tys) hfit (fun j t v ht hv => hval j t v (by simpa using ht) (by simpa using hv)) hA
 obtain ⟨k,u,hF⟩:=plain x h2 (by omega)
 have hlen:ds.length = tys.length:=by
  have e1:∀ {Ts:List TypeId} {tys:List Ty} {vs:List Value} {ds:List (DataW H)} {ps:List MemPlace},ZbT P Ts tys = true → DataW.TrodAll enc P W 0 (fun _ => true) true Ts vs ds ps → ds.length = tys.length:=by
   intro Ts
   induction Ts with
   | nil =>
    intro tys vs ds ps hf h
    obtain ⟨rfl,rfl,rfl⟩:=trodAll_nil h
    cases tys with
    | nil => rfl
    | cons => simp [ZbT] at hf
   | cons T Ts ih =>
    intro tys vs ds ps hf h
    obtain ⟨v,vs',d,ds',p,q,rfl,rfl,rfl,h1,h2⟩:=trodAll_cons h
    cases tys with
    | nil => simp [ZbT] at hf
    | cons t tys =>
     simp only [ZbT,Jh] at hf
     simp [ih hf.2 h2]
  exact e1 hfit hA
 have hcall:=(hctr k).calls (Wn (W4 tys) x) (true,u) (by
  have hd:Zdn (W4 tys) (Wn (W4 tys) x) = some x:=by
   have e2:∀ (l:List Ty) (x:Kd.dens (W4 l)),Zdn (W4 l) (Wn (W4 l) x) = some x:=by
    intro l
    induction l with
    | nil => intro x; rfl
    | cons t l ih =>
     intro x
     obtain ⟨y,ys⟩:=x
     show ((ZkX t (.view t y)).bind fun y => (Zdn (W4 l) (Wn (W4 l) ys)).bind fun ys => some (y,ys)) = _
     rw [ih ys]
     simp only [ZkX,dite_true]
     rfl
   exact e2 tys x
  show (Zdn (W4 tys) (Wn (W4 tys) x)).bind (F k) = some (true,u)
  rw [hd]; exact hF) W (whole W) args.toList [] (ZQZ W) hgl h1 List.nodup_nil (by simp)
 rw [Array.toArray_toList] at hcall
 refine hcall.mono fun e W' h => ?_
 obtain ⟨v,lim',b1,b2,rfl,hE,_,⟨ho,ht,hout⟩,hold,hT,_⟩:=h
 have hv:v = .bool true:=by
  have hT:ZkP W' lim' .bool true v ∧ b1 = []:=hT
  obtain ⟨⟨cs,c1,c2⟩,_⟩:=hT
  rcases c2 with ⟨c2,_⟩ | ⟨_,c2⟩
  ·cases c2
  ·simp only [Rt] at c1
   subst c2
   simpa using c1
 subst hv
 have hBel:Below W.heap.size W W':=⟨ho,ht,hout,hE.size,fun b hb => (hold b hb (by simp)).1⟩
 have hlt:∀ x ∈ p,x.block < W.heap.size:=fun x hx => hW'.lt x hx
 refine ⟨_,rfl,ZrH (pa:=p) (pv:=[]) hW' (fun b sp hd => ?_) (fun sp hsp => ?_) (fun sp hsp => ?_) (by simp) hBel ?_⟩
 ·rw [Vf,hspec H ds hlen,hres]
  exact ⟨[],[],⟨1,by simp [DataW.trod,Value.cells,hB]⟩,rfl,rfl⟩
 ·rw [Vf,hspec H ds hlen]
  refine Zhr (w:=W) (DataW.TrodAll.respare (kids_rows hl hm) (slices_full_of P hz) (fun t ht => ?_) hA hsp) (fun y hy => hBel.same (hlt y hy))
  simpa using Ve.1 hts t ht
 ·rw [Vf,hspec H ds hlen,hvars]
  rfl
 ·exact ok_one hres rfl (okWide_bool_mk hB true)
end
end Go.Sh
namespace Go.Sh
open Go Go.Proofs
section doc
variable {k:Nat} {c d r:Int} {tags:List ByteArray} {ch:List (List Int)} {n:Nat}
abbrev L1D:=Int × Int × Int × Int × Int × List ByteArray × List (List Int) × List Int → Option (ByteArray × Unit)
abbrev L2D:=Int × Int × Int × Int × Int × Int × List ByteArray × List (List Int) × List Int → Option (ByteArray × Unit)
theorem ZZf (x:Int) (j:Nat) (hj:j < 8):UL.wrap (Int.fdiv x ((2:Int) ^ min (Jx.wrap ((8:Int) * (j:Int))).toNat 64)) = ((Zen x j:Nat):Int):=by
 have e:Jx.wrap ((8:Int) * (j:Int)) = ((8 * j:Nat):Int):=by rw [ZK (by omega)]; omega
 rw [e]; exact ZYR x j hj
theorem ZE8 {nb:Nat} (hnb:nb ≤ 3) (L1:L1D) (L2:L2D) (x ci i:Int):∀ (m j fuel:Nat) (acc:List Nat),j + m = nb → m < fuel → acc.length + m < 1000000000 →
  Ze (fun L3 => Zao k L1 L2 L3) fuel ((j:Int),(nb:Int),x,ci,i,Zh acc,c,d,r,tags,ch) =
   L2 (Jx.wrap (ci + 1),i,(nb:Int),c,d,r,tags,ch,Zh (acc ++ Q4 x j m))
 | 0,j,fuel + 1,acc,h1,h2,h3 => by
  rw [Zd]
  grind [Zao,Q4]
 | m + 1,j,fuel + 1,acc,h1,h2,h3 => by
  rw [Zd]
  simp only [Zao]
  have hj:j < 8:=by omega
  have e:(0:Int) ≤ Jx.wrap ((8:Int) * (j:Int)):=by rw [ZK (by omega)]; omega
  rw [Zb (by omega),Zb e]
  simp only [ZZf _ j hj]
  rw [ZB,Zb (by simp; omega),ZsA (by omega),show Zh acc ++ [(Zen x j:Int)] = Zh (acc ++ [Zen x j]) by rw [QC]; rfl]
  rw [ZE8 hnb L1 L2 x ci i m (j + 1) fuel (acc ++ [Zen x j]) (by omega) (by omega) (by simp; omega)]
  simp [Q4]
 | 0,_,0,_,_,h2,_ => absurd h2 (Nat.lt_irrefl _)
 | m + 1,_,0,_,_,h2,_ => absurd h2 (Nat.not_lt_zero _)
theorem ZSB (hk:100 ≤ k) (hg:Good0 c d ch n) (L1:L1D) (i:Nat) (hi:i < n) (acc:List Nat) (ha:acc.length < 900000000) :
  Ze4 k L1 ((0:Int),(i:Int),((nbD d:Nat):Int),c,d,r,tags,ch,Zh acc) = L1 (Jx.wrap ((i:Int) + 1),((nbD d:Nat):Int),c,d,r,tags,ch,Zh (acc ++ ZmD (nbD d) ch i)):=by
 have hnb:=Zxx hg.d4
 have hc:=hg.c1
 have key:=Zi (A:=List Nat) (step:=fun L2 => Zan k (Zjb k L1 L2) L1 L2) (fun q a => (UD q,(i:Int),((nbD d:Nat):Int),c,d,r,tags,ch,Zh a)) ch
  (fun rest a => L1 (Jx.wrap ((i:Int) + 1),((nbD d:Nat):Int),c,d,r,tags,ch,Zh (a ++ rest.flatMap fun c => Q4 (c.getD i 0) 0 (nbD d)))) (fun q a => a.length ≤ acc.length + 3 * q)
  (fun L a _ => by
   grind [Zan])
  (fun L q hq a hI hL => by
   simp only [Zan]
   have hl:=hg.len _ (Ha hq)
   rw [Zb (W9 hq),Zb (QV hq),Zs hq,hl,Zb (by simp only [QT]; omega),Yi]
   have h3:=ZE8 (k:=k) (c:=c) (d:=d) (r:=r) (tags:=tags) (ch:=ch) hnb.1 L1 L (ch[q].getD i 0) (UD q) (i:Int) (nbD d) 0 k a (by omega) (by omega) (by omega)
   refine U4 h3 ?_
   rw [ZL hq (by omega),hL _ (by simp [Xd]; omega),List.flatMap_cons,Ju])
  k 0 acc (by omega) (by omega) (by omega)
 rw [U5] at key
 exact key
theorem ZCw (hk:16777216 ≤ k) (h0:chk c d r tags ch = 0):ZvV k (((c,d,r,()),tags,ch,()),()) = some (WG (Zsn (Za3 (nbD d) ch (ch.getD 0 []).length)),()):=by
 show ZdK k _ _ = _
 simp only [ZdK]
 obtain ⟨hg,-⟩:=XM h0
 generalize hn:(ch.getD 0 []).length = n at hg
 have hnb:=Zxx hg.d4
 have hd:=hg.d4
 have hc:=hg.c1
 have hn4:=hg.n4
 have hmul:∀ i,i * (ch.length * nbD d) ≤ i * 6:=fun i => Nat.mul_le_mul_left i (Nat.le_trans (J3 hc.2 hnb.1) (by omega))
 have en:Jx.wrap ((Jx.wrap (d + 7)).tdiv 8) = ((nbD d:Nat):Int):=by
  unfold nbD
  rw [ZK (n:=d + 7) (by omega),Int.tdiv_eq_ediv_of_nonneg (by omega),ZK (by omega)]; omega
 rw [en]
 have key:=Zi (A:=List Nat) (step:=fun L1 => Zam k (Ze4 k L1) L1) (fun q a => (UD q,((nbD d:Nat):Int),c,d,r,tags,ch,Zh a)) (Jc n)
  (fun rest a => (ZoC k (WG (a ++ rest.flatMap (ZmD (nbD d) ch)),())).bind fun y => some (y.1,())) (fun q a => a.length = q * (ch.length * nbD d))
  (fun L a _ => by
   grind [Zam,U7,QT,WG])
  (fun L q hq a hI hL => by
   rw [U7] at hq
   simp only [Zam]
   have:=hmul q
   rw [Zb (by simp only [QT]; omega),hn,Zb (W9 hq)]
   refine U4 (ZSB (by omega) hg L q hq a (by omega)) ?_
   rw [show Jx.wrap ((q:Int) + 1) = UD (q + 1) from ZL hq (by omega)]
   have hq6:(ZmD (nbD d) ch q).length = ch.length * nbD d:=by unfold ZmD; exact ZcU fun c _ => Xd _ _ _
   grind)
  k 0 [] (by simp) (by rw [U7]; omega) (by omega)
 rw [U5,VS] at key
 refine U4 key ?_
 have hl:=ZAQ (nbD d) ch n
 have:=hmul n
 have hs:(WG (Za3 (nbD d) ch n)).size = (Za3 (nbD d) ch n).length:=by rw [← Y5,Zh6 (ZDY _ _ _)]
 rw [show (Jc n).flatMap (ZmD (nbD d) ch) = Za3 (nbD d) ch n from rfl,ZCR (by omega) (by omega) (by omega),Zh6 (ZDY _ _ _)]
 rfl
theorem ZCp (hk:16777216 ≤ k) (hS:Small tags ch):Zor k (((c,d,r,()),tags,ch,()),()) = some (((c,d,r,()),tags,ch,()),()):=by
 have htl:=hS.tl
 have hcl:=hS.cl
 show ZdF k (Zi7 k) (((c,d,r,()),tags,ch,()),()) = _
 simp only [ZdF]
 rw [Zb (by omega),VS]
 have key:=Qm (step:=fun L1 => Zal k L1) (A:=Unit) (fun i _ => (UD i,c,d,r,tags,ch,c,d,r,tags,ch.take i,(0:Int),(0:Int),(0:Int))) ch (fun _ _ => some (((c,d,r,()),tags,ch,()),()))
  (fun L a => by
   grind [Zal])
  (fun L i hi a hL => by
   simp only [Zal]
   have hl:=hS.chan ch[i] (Ha _)
   rw [Zb (W9 hi),Zb (QV hi),Zs hi,Zb (by omega),Zb (by rw [List.length_take]; simp; omega),ZL hi (by omega)]
   simp_all) k 0 () (by omega) (by omega)
 exact key
end doc
theorem ZQh:ZgS 20000000 () = some (true,()):=by kernel_rfl
end Go.Sh
namespace Go.Sh
open Go Go.Proofs
def Za (n:Nat):Nat → List Bool
 | 0 => []
 | w + 1 => n.testBit w :: Za n w
theorem Zc (n:Nat):∀ w,(Za n w).length = w
 | 0 => rfl
 | w + 1 => by simp [Za,Zc n w]
def XL (f:Nat → Bool):Nat:=(f 0).toNat * 128 + (f 1).toNat * 64 + (f 2).toNat * 32 + (f 3).toNat * 16 + (f 4).toNat * 8 + (f 5).toNat * 4 + (f 6).toNat * 2 + (f 7).toNat
def Q7 (bs:List Bool) (i:Nat):Nat:=XL fun j => bs.getD (8 * i + j) false
def ZE (bs:List Bool):List Int:=(Jc ((bs.length + 7) / 8)).map fun i => ((Q7 bs i:Nat):Int)
theorem Z5 (bs:List Bool):(ZE bs).length = (bs.length + 7) / 8:=by simp [ZE]
theorem Xw {bs:List Bool} {i:Nat} (h:i < (ZE bs).length):(ZE bs)[i] = ((Q7 bs i:Nat):Int):=by simp [ZE]
theorem Zpj (f:Nat → Bool):XL f < 256:=by
 unfold XL
 cases f 0 <;> cases f 1 <;> cases f 2 <;> cases f 3 <;> cases f 4 <;> cases f 5 <;> cases f 6 <;> cases f 7 <;> decide
abbrev Ke (bs:List Bool):List Int × Int × Unit:=(ZE bs,(bs.length:Int),())
def orB (v:Int) (r:Nat) (x:Int):Int:=UL.wrap (UD (UH 8 v ||| UH 8 (UL.wrap (Jx.wrap (x * (2:Int) ^ min (7 - r) 64)))).toNat)
theorem ZTR:∀ (r:Fin 8) (v:Fin 256) (c:Bool),v.val % 2 ^ (8 - r.val) = 0 → orB (v.val:Int) r.val (if c then 1 else 0) = ((v.val + c.toNat * 2 ^ (7 - r.val):Nat):Int):=by
 decide +kernel
theorem ZHr {f:Nat → Bool} {r:Nat} (hr:r < 8) (hf:∀ j,r ≤ j → f j = false):XL f % 2 ^ (8 - r) = 0:=by
 unfold XL
 grind
theorem ZHs {f:Nat → Bool} {r:Nat} (hr:r < 8) (hf:f r = false) (c:Bool):XL (fun j => if j = r then c else f j) = XL f + c.toNat * 2 ^ (7 - r):=by
 unfold XL
 grind
theorem Zpi {bs:List Bool} (c:Bool) {i:Nat} (h:8 * i + 8 ≤ bs.length):Q7 (bs ++ [c]) i = Q7 bs i:=by
 unfold Q7 XL
 grind
theorem Zph {bs:List Bool} (c:Bool) {i r:Nat} (hr:r < 8) (h:bs.length = 8 * i + r):Q7 (bs ++ [c]) i = Q7 bs i + c.toNat * 2 ^ (7 - r):=by
 have h2:(bs.getD (8 * i + r) false) = false:=by simp_all
 unfold Q7
 rw [← ZHs (f:=fun j => bs.getD (8 * i + j) false) hr h2 c]
 grind
theorem ZBl {bs:List Bool} {i r:Nat} (hr:r < 8) (h:bs.length = 8 * i + r):Q7 bs i % 2 ^ (8 - r) = 0:=by
 refine ZHr hr fun j hj => ?_
 simp_all
theorem ZYT (n:Nat):((n:Int)).tdiv 8 = ((n / 8:Nat):Int):=by rfl
theorem ZYV (n:Nat):((n:Int)).tmod 8 = ((n % 8:Nat):Int):=by rfl
theorem Zss {bs:List Bool} (c:Bool) {q r:Nat} (hr:r < 8) (h0:r ≠ 0) (h:bs.length = 8 * q + r) :
  ZE (bs ++ [c]) = (ZE bs).set q ((Q7 bs q + c.toNat * 2 ^ (7 - r):Nat):Int):=by
 have hl1:(ZE bs).length = q + 1:=by rw [Z5]; omega
 have hl2:(ZE (bs ++ [c])).length = q + 1:=by rw [Z5,QZ,Ur]; omega
 apply HZ
 ·rw [List.length_set,hl1,hl2]
 ·intro i h1 h2
  rw [Xw,H1]
  split
  ·rename_i e; subst e; rw [Zph c hr h]
  ·rw [Xw,Zpi c (by omega)]
theorem Zsr {bs:List Bool} (c:Bool) {q:Nat} (h:bs.length = 8 * q) :
  ZE (bs ++ [c]) = (ZE bs ++ [0]).set q ((c.toNat * 2 ^ 7:Nat):Int):=by
 have hl1:(ZE bs).length = q:=by rw [Z5]; omega
 have hl2:(ZE (bs ++ [c])).length = q + 1:=by rw [Z5,QZ,Ur]; omega
 have hz:Q7 bs q = 0:=by
  unfold Q7 XL
  simp_all
 apply HZ
 ·simp_all
 ·intro i h1 h2
  rw [Xw,H1]
  split
  ·rename_i e; subst e
   rw [Zph c (r:=0) (by omega) (by omega),hz]; simp
  ·rw [List.getElem_append_left (by omega),Xw,Zpi c (by omega)]
theorem Zle (k:Nat) (bs:List Bool) (hb:bs.length < 4294967296) (x:Int) (c:Bool) (hx:x = if c then 1 else 0):ZpB k (Ke bs,x,()) = some ((),Ke (bs ++ [c]),()):=by
 show Zld k _ = _
 obtain ⟨q,r,hr,hq⟩:∃ q r,r < 8 ∧ bs.length = 8 * q + r:=⟨bs.length / 8,bs.length % 8,UY _ (by omega),by omega⟩
 have e1:Jx.wrap (((bs.length:Nat):Int).tdiv 8) = ((q:Nat):Int):=by rw [ZYT,ZK (by omega)]; omega
 have e2:((bs.length:Nat):Int).tmod 8 = ((r:Nat):Int):=by rw [ZYV]; omega
 have e3:Jx.wrap ((7:Int) - (r:Int)) = ((7 - r:Nat):Int):=by rw [ZK (by omega)]; omega
 have e4:Jx.wrap (((bs.length:Nat):Int) + 1) = (((bs ++ [c]).length:Nat):Int):=by rw [ZK (by omega),QZ]; simp
 have e5:∀ v:Nat,v < 256 → v % 2 ^ (8 - r) = 0 → UL.wrap (UD (UH 8 (v:Int) ||| UH 8 (UL.wrap (Jx.wrap (x * (2:Int) ^ min ((7 - r:Nat):Int).toNat 64)))).toNat) = ((v + c.toNat * 2 ^ (7 - r):Nat):Int):=by
  intro v hv hm
  have:=ZTR ⟨r,hr⟩ ⟨v,hv⟩ c hm
  grind [orB,Yi]
 simp only [Zld,e1,e2,e3,Yi]
 by_cases h0:r = 0
 ·subst h0
  have hlen:(ZE bs).length = q:=by rw [Z5]; omega
  rw [show ((((0:Nat):Int)) == (0:Int)) = true from rfl]
  simp only [cond_true]
  have hl:(ZE bs ++ [(0:Int)]).length = q + 1:=by simp [hlen]
  rw [Zb (by rw [hlen]; omega),Zb (by grind),Zb (by omega),Zb (by omega),Zb (by grind),Zb (by omega)]
  have hg:(ZE bs ++ [(0:Int)]).getD q (OfNat.ofNat 0) = ((0:Nat):Int):=by simp_all
  have h5:=e5 0 (by omega) (by simp)
  simp only [Yi] at h5
  rw [hg,h5,e4]
  show _ = some ((),(ZE (bs ++ [c]),_,()),())
  rw [Zsr c (by omega)]
  simp
 ·rw [show ((((r:Nat):Int)) == (0:Int)) = false from by rw [ZC]; simp; omega]
  simp only [cond_false]
  have hlen:(ZE bs).length = q + 1:=by rw [Z5]; omega
  rw [Zb (by grind),Zb (by omega),Zb (by omega),Zb (by grind),Zb (by omega)]
  have hg:(ZE bs).getD q (OfNat.ofNat 0) = ((Q7 bs q:Nat):Int):=by rw [List.getD_eq_getElem?_getD,VN (by omega),Xw]; rfl
  have h5:=e5 _ (Zpj _) (ZBl hr hq)
  simp only [Yi] at h5
  rw [hg]
  rw [show XL (fun j => bs.getD (8 * q + j) false) = Q7 bs q from rfl] at h5
  rw [h5,e4]
  show _ = some ((),(ZE (bs ++ [c]),_,()),())
  rw [Zss c hr h0 hq]
end Go.Sh
namespace Go.Sh
open Go Go.Proofs
theorem ZcT (n j:Nat):((n:Nat):Int).fdiv ((2:Int) ^ j) = ((n / 2 ^ j:Nat):Int):=by
 grind
theorem ZY9 (n j:Nat) (hj:j < 64):Jx.wrap (UI.wrap (UD (UH 64 (((n:Nat):Int).fdiv ((2:Int) ^ min (j:Int).toNat 64)) &&& UH 64 1).toNat)) = if n.testBit j then 1 else 0:=by
 rw [Yi,Hs (by omega),ZcT,HU,show UH 64 1 = 1#64 from rfl,U8,HE]
 rw [show (1#64).toNat = 1 from rfl,H3,Nat.mod_mod_of_dvd _ (by decide:2 ∣ 2 ^ 64)]
 have h2:n.testBit j = decide (n / 2 ^ j % 2 = 1):=Nat.testBit_eq_decide_div_mod_eq
 rw [h2]
 have:n / 2 ^ j % 2 < 2:=UY _ (by omega)
 generalize n / 2 ^ j % 2 = m at this ⊢
 match m,this with
 | 0,_ => rfl
 | 1,_ => rfl
theorem ZAc (k:Nat):∀ (w:Nat) (bs:List Bool) (n:Nat),w < k → w ≤ 64 → bs.length + w < 4294967296 →
  Zhf k (Ke bs,(n:Int),(w:Int),()) = some ((),Ke (bs ++ Za n w),()):=by
 intro w bs n hk hw hb
 show Zkc k (ZwT k) _ = _
 simp only [Zkc]
 suffices H:∀ (w:Nat) (m:Nat) (bs:List Bool),w < m → w ≤ 64 → bs.length + w < 4294967296 →
   Ze (fun L1 => Zfq k L1) m (Jx.wrap ((w:Int) - 1),(n:Int),(bs.length:Int),ZE bs) = some ((),Ke (bs ++ Za n w),()) from H w k bs hk hw hb
 intro w
 induction w with
 | zero =>
  intro m bs hm _ _
  obtain ⟨m,rfl⟩:=Zt hm
  rw [Zd]
  rw [show Jx.wrap (((0:Nat):Int) - 1) = -1 from by rw [ZK (by omega)]; rfl]
  grind [Zfq,Za]
 | succ w ih =>
  intro m bs hm hw hb
  obtain ⟨m,rfl⟩:=Zt (show 0 < m by omega)
  rw [Zd]
  have e1:Jx.wrap (((w + 1:Nat):Int) - 1) = (w:Int):=by rw [ZK (by omega)]; omega
  rw [e1]
  simp only [Zfq]
  rw [Zb (by omega)]
  simp only [Zb (show (0:Int) ≤ (w:Int) by omega)]
  rw [ZY9 n w (by omega)]
  rw [show ((ZE bs,((bs.length:Nat):Int),()):List Int × Int × Unit) = Ke bs from rfl,Zle k bs (by omega) _ (n.testBit w) rfl]
  grind [Za]
theorem ZAb (k w:Nat) (h:w ≤ 32):ZAa k ((w:Int),()) = some (false,()):=by
 show ZqS k _ = _
 grind [ZqS]
theorem QD (k:Nat) (bs:List Bool) (n w:Nat) (hk:64 < k) (hw:w ≤ 32) (hn:n < 2 ^ w) (hb:bs.length + w < 4294967296) :
  ZP k (Ke bs,(n:Int),(w:Int),()) = some (0,Ke (bs ++ Za n w),()):=by
 show ZqF k _ = _
 have h32:n < 2 ^ 32:=VZ hn (He (by omega) hw)
 simp only [ZqF]
 rw [ZAb k w hw]
 simp only [Z9,cond_false]
 rw [Zn (by omega),Zb (by omega),Yi,Hs (by omega),ZcT,HA hn]
 rw [show ((((0:Nat):Int)) != (0:Int)) = false from rfl]
 simp only [cond_false]
 rw [show UI.wrap (n:Int) = (n:Int) from by rw [IntKind.wrap_u64]; omega]
 rw [show ((ZE bs,((bs.length:Nat):Int),()):List Int × Int × Unit) = Ke bs from rfl,ZAc k w bs n (by omega) (by omega) hb]
 rfl
def Xe (n:Int) (w:Nat):Bool:=if w = 0 then n = 0 else -(2 ^ (w - 1):Int) ≤ n ∧ n < 2 ^ (w - 1)
def Wu (n:Int) (w:Nat):List Bool:=Za (n % 2 ^ w).toNat w
theorem Zdi (n v:Nat):∀ w,w ≤ v → Za (n % 2 ^ v) w = Za n w
 | 0,_ => rfl
 | w + 1,h => by
  simp only [Za]
  rw [Zdi n v w (by omega),H6]
  simp [show w < v by omega]
theorem Yd (n:Int) (w:Nat):(Wu n w).length = w:=Zc _ _
theorem Zm5 (n:Int) (w v:Nat) (h:w ≤ v):(n % 2 ^ v).toNat % 2 ^ w = (n % 2 ^ w).toNat:=by
 have hv:(0:Int) < 2 ^ v:=Hu (by omega)
 have hw:(0:Int) < 2 ^ w:=Hu (by omega)
 have h1:0 ≤ n % 2 ^ v:=HH _ (by omega)
 have h2:0 ≤ n % 2 ^ w:=HH _ (by omega)
 have hd:((2:Int) ^ w) ∣ 2 ^ v:=⟨2 ^ (v - w),by rw [← Int.pow_add]; congr 1; omega⟩
 apply UD.inj
 show (((n % 2 ^ v).toNat % 2 ^ w:Nat):Int) = ((n % 2 ^ w).toNat:Int)
 rw [Int.natCast_emod,UE h1,UE h2,Int.natCast_pow]
 exact Int.emod_emod_of_dvd n hd
theorem ZuR (n:Int) (w v:Nat) (h:w ≤ v):Za (n % 2 ^ v).toNat w = Wu n w:=by
 unfold Wu
 rw [← Zm5 n w v h,Zdi _ _ _ (Jj w)]
theorem ZAn {n:Int} {w:Nat} (hw:0 < w) (h:Xe n w = true):n.fdiv (2 ^ (w - 1)) = 0 ∨ n.fdiv (2 ^ (w - 1)) = -1:=by
 unfold Xe at h
 rw [if_neg (by omega)] at h
 obtain ⟨h1,h2⟩:=of_decide_eq_true h
 have hp:(0:Int) < 2 ^ (w - 1):=Hu (by omega)
 rw [HI _ (by omega)]
 rcases Int.lt_or_le n 0 with hn | hn
 ·right
  rw [Int.ediv_eq_iff_of_pos hp]
  constructor <;> omega
 ·left
  exact Int.ediv_eq_zero_of_lt hn h2
theorem ZsS (k:Nat) (bs:List Bool) (n:Int) (w:Nat) (hk:64 < k) (hw:w ≤ 32) (hn:Xe n w = true) (hb:bs.length + w < 4294967296) :
  Zvf k (Ke bs,n,(w:Int),()) = some (0,Ke (bs ++ Wu n w),()):=by
 show Zli k _ = _
 have hput:Zhf k ((ZE bs,((bs.length:Nat):Int),()),UI.wrap n,(w:Int),()) = some ((),Ke (bs ++ Wu n w),()):=by
  rw [show UI.wrap n = (((n % 2 ^ 64).toNat:Nat):Int) from by
   rw [IntKind.wrap_u64]
   omega]
  rw [show ((ZE bs,((bs.length:Nat):Int),()):List Int × Int × Unit) = Ke bs from rfl,ZAc k w bs _ (by omega) (by omega) hb,ZuR n w 64 (by omega)]
 simp only [Zli]
 rw [ZAb k w hw]
 simp only [Z9,cond_false,hput]
 by_cases h0:w = 0
 ·subst h0
  unfold Xe at hn
  simp_all
 ·rw [show ((((w:Nat):Int)) == (0:Int)) = false from by rw [ZC]; simp; omega]
  simp only [cond_false]
  have e1:Jx.wrap ((w:Int) - 1) = ((w - 1:Nat):Int):=by rw [ZK (by omega)]; omega
  rw [e1]
  simp only [Yi,Hs (show w - 1 ≤ 64 by omega)]
  rw [Zb (by omega),Zb (by omega)]
  rcases ZAn (by omega) hn with h | h
  ·simp_all
  simp_all
theorem ZAg (k:Nat) (bs:List Bool) (n:Nat) (hk:n < k) (hn:n ≤ 65536) (hb:bs.length + n + 1 < 4294967296) :
  Zt5 k (Ke bs,(n:Int),()) = some (0,Ke (bs ++ (Jd n false ++ [true])),()):=by
 show Zkf k (Zw3 k) _ = _
 simp only [Zkf]
 rw [Zn (by omega),Zn (by omega)]
 suffices H:∀ (r i m:Nat) (bs:List Bool),n = i + r → r < m → bs.length + r + 1 < 4294967296 →
   Ze (fun L1 => Zfu k L1) m ((n:Int),(i:Int),(bs.length:Int),ZE bs) = some (0,Ke (bs ++ (Jd r false ++ [true])),()) from H n 0 k bs (by omega) hk hb
 intro r
 induction r with
 | zero =>
  intro i m bs he hm hb
  obtain ⟨m,rfl⟩:=Zt hm
  rw [Zd]
  simp only [Zfu]
  rw [Zn (by omega),show ((ZE bs,((bs.length:Nat):Int),()):List Int × Int × Unit) = Ke bs from rfl,Zle k bs (by omega) 1 true rfl]
  simp
 | succ r ih =>
  intro i m bs he hm hb
  obtain ⟨m,rfl⟩:=Zt (show 0 < m by omega)
  rw [Zd]
  simp only [Zfu]
  rw [Zb (by omega),show ((ZE bs,((bs.length:Nat):Int),()):List Int × Int × Unit) = Ke bs from rfl,Zle k bs (by omega) 0 false rfl]
  simp only [Z9]
  rw [show Jx.wrap ((i:Int) + 1) = ((i + 1:Nat):Int) from by rw [ZK (by omega)]; omega]
  rw [ih (i + 1) m (bs ++ [false]) (by omega) (by omega) (by simp; omega)]
  simp [List.replicate_succ]
def ZbV (n:Nat):Nat:=(8 - n % 8) % 8
theorem ZBm (bs:List Bool) (m i:Nat):Q7 (bs ++ Jd m false) i = Q7 bs i:=by
 unfold Q7
 grind
theorem ZAG (bs:List Bool):ZE (bs ++ Jd (ZbV bs.length) false) = ZE bs:=by
 unfold ZE
 rw [show ((bs ++ Jd (ZbV bs.length) false).length + 7) / 8 = (bs.length + 7) / 8 from by simp [ZbV]; omega]
 apply List.map_congr_left
 intro i _
 rw [ZBm]
theorem ZY8 (n:Nat) (h:n < 4294967296):Jx.wrap (UD (UH 64 (Jx.wrap ((0:Int) - (n:Int))) &&& UH 64 7).toNat) = ((ZbV n:Nat):Int):=by
 rw [ZK (n:=(0:Int) - (n:Int)) (by omega)]
 have e:UH 64 ((0:Int) - (n:Int)) = HD 64 (18446744073709551616 - n):=by
  apply BitVec.eq_of_toNat_eq
  simp_all <;> omega
 rw [e,show UH 64 7 = 7#64 from rfl,U8,HE,show (7#64).toNat = 2 ^ 3 - 1 from rfl,Hp]
 have:(18446744073709551616 - n) % 2 ^ 64 % 2 ^ 3 = ZbV n:=by unfold ZbV; omega
 rw [this,ZK (by grind)]
 rfl
theorem ZNX (k:Nat) (bs:List Bool) (hb:bs.length < 4294967000):ZNW k (Ke bs,()) = some (((ZbV bs.length:Nat):Int),Ke (bs ++ Jd (ZbV bs.length) false),()):=by
 show ZqK k _ = _
 simp only [ZqK]
 rw [ZY8 _ (by omega)]
 have h8:ZbV bs.length < 8:=by unfold ZbV; omega
 rw [show Jx.wrap (((bs.length:Nat):Int) + ((ZbV bs.length:Nat):Int)) = (((bs ++ Jd (ZbV bs.length) false).length:Nat):Int) from by rw [ZK (by omega)]; simp]
 show _ = some (_,(ZE (bs ++ Jd (ZbV bs.length) false),_,()),())
 rw [ZAG]
theorem ZjZ (k:Nat) (bs:List Bool) (hb:bs.length < 4294967296):Zt2 k (Ke bs,()) = some (ZE bs,Ke bs,()):=by
 show ZqI k _ = _
 simp only [ZqI]
 have:(ZE bs).length < 2147483648:=by rw [Z5]; omega
 rw [show Zt4 k (ZE bs,()) = some (ZE bs,()) from by show ZbR _ = _; unfold ZbR; rw [Zb this]]
 rfl
theorem Zz3 (k:Nat):Zt1 k () = some (Ke [],()):=rfl
end Go.Sh
namespace Go.Sh
open Go Go.Proofs
theorem Zr2 {n:Nat} (h:n < 18446744073709551616):UI.wrap (n:Int) = (n:Int):=by rw [IntKind.wrap_u64]; omega
theorem ZKs {a b:Nat} (ha:a < 18446744073709551616) (hb:b < 18446744073709551616):UD (UH 64 (a:Int) &&& UH 64 (b:Int)).toNat = ((a &&& b:Nat):Int):=by
 grind
theorem ZXB {a b:Nat} (ha:a < 18446744073709551616) (hb:b < 18446744073709551616):UD (UH 64 (a:Int) ^^^ UH 64 (b:Int)).toNat = ((a ^^^ b:Nat):Int):=by
 grind
theorem QS (j:Nat):((2:Int) ^ j) = ((2 ^ j:Nat):Int):=by rw [Int.natCast_pow]; rfl
def ZeG (s p r:Nat):Nat:=(2 * r) % 2 ^ s ^^^ (r / 2 ^ (s - 1) % 2) * p
def Zbb (s p:Nat):Nat → Nat → Nat
 | 0,r => r
 | n + 1,r => Zbb s p n (ZeG s p r)
def Zbc (s p r x:Nat):Nat:=Zbb s p 8 (r ^^^ x * 2 ^ (s - 8))
def ZKL (s p:Nat) (l:List Nat):Nat:=l.foldl (Zbc s p) 0
def WV (l:List Int):Bool:=l.all fun x => decide (0 ≤ x) && decide (x < 256)
def Zh7 (l:List Int):List Nat:=l.map Int.toNat
theorem Zk2 {s p r:Nat} (hp:p < 2 ^ s):ZeG s p r < 2 ^ s:=by
 unfold ZeG
 refine HC (UY _ (Hq (by omega))) ?_
 have:r / 2 ^ (s - 1) % 2 < 2:=UY _ (by omega)
 generalize r / 2 ^ (s - 1) % 2 = b at this
 have h0:0 < 2 ^ s:=Hq (by omega)
 match b,this with
 | 0,_ => simpa using h0
 | 1,_ => simpa using hp
theorem Zpr {s p:Nat} (hp:p < 2 ^ s):∀ (n r:Nat),r < 2 ^ s → Zbb s p n r < 2 ^ s
 | 0,r,h => h
 | n + 1,r,h => Zpr hp n _ (Zk2 hp)
theorem ZhA {s p r x:Nat} (hs:8 ≤ s) (hp:p < 2 ^ s) (hr:r < 2 ^ s) (hx:x < 256):Zbc s p r x < 2 ^ s:=by
 refine Zpr hp _ _ (HC hr ?_)
 have h1:2 ^ s = 2 ^ 8 * 2 ^ (s - 8):=by rw [← Hr]; congr 1; omega
 have:x * 2 ^ (s - 8) < 256 * 2 ^ (s - 8):=Hx hx (Hq (by omega))
 rw [h1]; exact this
theorem ZhB {s p:Nat} (hs:8 ≤ s) (hp:p < 2 ^ s):∀ (l:List Nat) (r:Nat),(∀ x ∈ l,x < 256) → r < 2 ^ s → l.foldl (Zbc s p) r < 2 ^ s
 | [],r,_,h => h
 | x :: l,r,hl,h => by
  simp only [H0]
  exact ZhB hs hp l _ (fun y hy => hl y (Jn _ hy)) (ZhA hs hp h (hl x (Jl ..)))
theorem ZRh {s p r:Nat} (hs:8 ≤ s) (hs':s ≤ 16) (hp:p < 2 ^ s) (hr:r < 2 ^ s) :
  UI.wrap (UD (UH 64 (UI.wrap (UD (UH 64 (UI.wrap ((r:Int) * (2:Int))) &&& UH 64 (UI.wrap (UI.wrap ((1:Int) * (2:Int) ^ min (s:Int).toNat 64) - (1:Int)))).toNat)) ^^^
   UH 64 (UI.wrap (UI.wrap (UD (UH 64 ((r:Int).fdiv ((2:Int) ^ min (Jx.wrap ((s:Int) - (1:Int))).toNat 64)) &&& UH 64 (1:Int)).toNat) * (p:Int)))).toNat) = ((ZeG s p r:Nat):Int):=by
 have hpow:2 ^ s ≤ 2 ^ 16:=He (by omega) hs'
 have hpos:0 < 2 ^ s:=Hq (by omega)
 rw [show Jx.wrap ((s:Int) - 1) = ((s - 1:Nat):Int) from by rw [ZK (by omega)]; omega]
 rw [Yi,Yi,Hs (by omega),Hs (by omega),ZcT,Int.one_mul,QS]
 rw [Zr2 (n:=2 ^ s) (by omega),show ((2 ^ s:Nat):Int) - 1 = ((2 ^ s - 1:Nat):Int) from by omega,Zr2 (n:=2 ^ s - 1) (by omega)]
 rw [show (r:Int) * 2 = ((2 * r:Nat):Int) from by omega,Zr2 (n:=2 * r) (by omega)]
 rw [ZKs (by omega) (by omega),Hp]
 have hm:2 * r % 2 ^ s < 2 ^ s:=UY _ hpos
 rw [Zr2 (n:=2 * r % 2 ^ s) (by omega)]
 have hdl:r / 2 ^ (s - 1) ≤ r:=Nat.div_le_self _ _
 rw [show ((1:Int)) = ((1:Nat):Int) from rfl,ZKs (by omega) (by omega),H3]
 have hb:r / 2 ^ (s - 1) % 2 < 2:=UY _ (by omega)
 have hbp:r / 2 ^ (s - 1) % 2 * p < 2 ^ s:=by
  generalize r / 2 ^ (s - 1) % 2 = b at hb
  match b,hb with
  | 0,_ => simpa using hpos
  | 1,_ => simpa using hp
 rw [Zr2 (n:=r / 2 ^ (s - 1) % 2) (by omega),← HO,Zr2 (n:=r / 2 ^ (s - 1) % 2 * p) (by omega),ZXB (by omega) (by omega)]
 have:=Zk2 (s:=s) (p:=p) (r:=r) hp
 unfold ZeG at this ⊢
 rw [Zr2 (by omega)]
theorem ZKH {s r x:Nat} (hs:8 ≤ s) (hs':s ≤ 16) (hr:r < 2 ^ s) (hx:x < 256) :
  UI.wrap (UD (UH 64 (r:Int) ^^^ UH 64 (UI.wrap (UI.wrap (x:Int) * (2:Int) ^ min (Jx.wrap ((s:Int) - (8:Int))).toNat 64))).toNat) = ((r ^^^ x * 2 ^ (s - 8):Nat):Int):=by
 have hpow:2 ^ s ≤ 2 ^ 16:=He (by omega) hs'
 have h1:2 ^ s = 2 ^ 8 * 2 ^ (s - 8):=by rw [← Hr]; congr 1; omega
 have hxp:x * 2 ^ (s - 8) < 2 ^ s:=by
  rw [h1]; exact Hx hx (Hq (by omega))
 rw [show Jx.wrap ((s:Int) - 8) = ((s - 8:Nat):Int) from by rw [ZK (by omega)]; omega]
 rw [Yi,Hs (by omega),QS,Zr2 (n:=x) (by omega),← HO,Zr2 (n:=x * 2 ^ (s - 8)) (by omega),ZXB (by omega) (by omega)]
 have:r ^^^ x * 2 ^ (s - 8) < 2 ^ s:=HC hr hxp
 rw [Zr2 (by omega)]
theorem ZJu (k:Nat) {s p:Nat} (hs:8 ≤ s) (hs':s ≤ 16) (hp:p < 2 ^ s) (L1:Int × Int × List Int × Int × Int × Int → Option (Int × Unit)) (v4 v5:Int) (v6:List Int) :
  ∀ (n m i r:Nat),i + n = 8 → n < m → r < 2 ^ s →
  Ze (fun L2 => Zfs k L1 L2) m ((i:Int),(r:Int),(s:Int),(p:Int),v4,v5,v6) = L1 (v5,Jx.wrap (v4 + 1),v6,((Zbb s p n r:Nat):Int),(s:Int),(p:Int)):=by
 intro n
 induction n with
 | zero =>
  intro m i r hi hm hr
  obtain ⟨m,rfl⟩:=Zt hm
  rw [Zd]
  simp only [Zfs]
  rw [Zn (by omega)]
  rfl
 | succ n ih =>
  intro m i r hi hm hr
  obtain ⟨m,rfl⟩:=Zt (show 0 < m by omega)
  rw [Zd]
  simp only [Zfs]
  rw [Zb (by omega),Zb (by rw [ZK (by omega)]; omega),Zb (by omega),ZRh hs hs' hp hr]
  rw [show Jx.wrap ((i:Int) + 1) = ((i + 1:Nat):Int) from by rw [ZK (by omega)]; omega]
  rw [ih m (i + 1) _ (by omega) (by omega) (Zk2 hp)]
  rfl
theorem Zdl {l:List Int} (h:WV l = true) {i:Nat} (hi:i < l.length):∃ x:Nat,x < 256 ∧ l[i] = (x:Int):=by
 have:=Ve.1 h l[i] (Ha hi)
 simp only [Jh,decide_eq_true_eq] at this
 exact ⟨l[i].toNat,by omega,by omega⟩
theorem Zul {l:List Int} (h:WV l = true):∀ x ∈ Zh7 l,x < 256:=by
 intro x hx
 obtain ⟨y,hy,rfl⟩:=VF.1 hx
 have:=Ve.1 h y hy
 simp_all
theorem ZAe (k:Nat) (l:List Int) {s p:Nat} (hs:8 ≤ s) (hs':s ≤ 16) (hp:p < 2 ^ s) (hl:WV l = true) (hk:l.length + 8 < k) (hk':l.length < 4294967296) :
  ZmV k (l,(s:Int),(p:Int),()) = some (((ZKL s p (Zh7 l):Nat):Int),()):=by
 show Zkd k (ZwV k) _ = _
 simp only [Zkd]
 have h16:2 ^ s ≤ 2 ^ 16:=He (by omega) hs'
 have:=Zi (A:=Nat) (step:=fun L1 => Zfr k (ZwW k L1) L1) (fun i r => (UD l.length,UD i,l,(r:Int),(s:Int),(p:Int))) l
  (fun l' r => some (((l'.foldl (fun r x => Zbc s p r x.toNat) r:Nat):Int),())) (fun i r => r < 2 ^ s)
  (fun L r hr => by
   simp only [Zfr]
   rw [Zn (XJ _),ZK (by omega)]; rfl)
  (fun L i hi r hr hL => by
   obtain ⟨x,hx,hxe⟩:=Zdl hl hi
   simp only [Zfr]
   rw [Zb (W9 hi),Zb (QV hi),Zb (by rw [ZK (by omega)]; omega),Zs hi,hxe,ZKH hs hs' hr hx]
   have hx2:r ^^^ x * 2 ^ (s - 8) < 2 ^ s:=HC hr (by
    have h1:2 ^ s = 2 ^ 8 * 2 ^ (s - 8):=by rw [← Hr]; congr 1; omega
    rw [h1]; exact Hx hx (Hq (by omega)))
   have hin:=ZJu k hs hs' hp L (UD i) (UD l.length) l 8 k 0 (r ^^^ x * 2 ^ (s - 8)) rfl (by omega) hx2
   refine U4 hin ?_
   rw [ZL hi (by omega)]
   rw [show Zbb s p 8 (r ^^^ x * 2 ^ (s - 8)) = Zbc s p r x from rfl]
   rw [hL _ (ZhA hs hp hr hx)]
   rw [H0,Yi]) k 0 0 (Hq (by omega)) (by omega) (Ht _)
 refine U4 this ?_
 rw [U5]
 unfold ZKL Zh7
 rw [List.foldl_map]
theorem ZHp (bs:List Bool) (i:Nat):Q7 bs i < 256:=Zpj _
theorem Y6 (bs:List Bool):WV (ZE bs) = true:=by
 refine Ve.2 fun x hx => ?_
 obtain ⟨i,_,rfl⟩:=VF.1 hx
 have h:=ZHp bs i
 grind
def ZHx (l:List Int):Nat:=ZKL 8 7 (Zh7 l)
def Zba (l:List Int):Nat:=ZKL 16 32773 (Zh7 l)
theorem ZEh {l:List Int} (h:WV l = true):ZHx l < 2 ^ 8:=ZhB (by omega) (by omega) _ _ (Zul h) (by omega)
theorem Zpq {l:List Int} (h:WV l = true):Zba l < 2 ^ 16:=ZhB (by omega) (by omega) _ _ (Zul h) (by omega)
theorem ZNP (k:Nat) (l:List Int) (hl:WV l = true) (hk:l.length + 8 < k) (hk':l.length < 4294967296):ZFU k (l,()) = some (((ZHx l:Nat):Int),()):=by
 show ZqH k _ = _
 simp only [ZqH]
 have:=ZAe k l (s:=8) (p:=7) (by omega) (by omega) (by omega) hl hk hk'
 rw [show ZmV k (l,8,7,()) = ZmV k (l,((8:Nat):Int),((7:Nat):Int),()) from rfl,this]
 rfl
theorem ZNY (k:Nat) (l:List Int) (hl:WV l = true) (hk:l.length + 8 < k) (hk':l.length < 4294967296):ZFW k (l,()) = some (((Zba l:Nat):Int),()):=by
 show ZqL k _ = _
 simp only [ZqL]
 have:=ZAe k l (s:=16) (p:=32773) (by omega) (by omega) (by omega) hl hk hk'
 rw [show ZmV k (l,16,32773,()) = ZmV k (l,((16:Nat):Int),((32773:Nat):Int),()) from rfl,this]
 rfl
def Wh (k:Nat):Nat:=if k = 1 then 7 else 5 * k + 1
def Ko:Nat → Nat → List Nat
 | _,0 => []
 | n,i + 1 => Ko (n / 64) i ++ [128 + n % 64]
def Xi (n:Nat):Nat:=if n < 2 ^ 7 then 1 else if n < 2 ^ 11 then 2 else if n < 2 ^ 16 then 3 else if n < 2 ^ 21 then 4 else if n < 2 ^ 26 then 5 else if n < 2 ^ 31 then 6 else 7
def Zh0 (k m:Nat):Nat:=(65280 / 2 ^ k % 256) ||| m
def Qg (n:Nat):List Nat:=if n < 128 then [n] else Zh0 (Xi n) (n / 64 ^ (Xi n - 1)) :: Ko n (Xi n - 1)
def Q3 (l:List Nat):List Int:=l.map fun (n:Nat) => (n:Int)
theorem ZTS:∀ m:Fin 64,UL.wrap (UD (UH 8 (128:Int) ||| UH 8 (UL.wrap (Jx.wrap (m.val:Int)))).toNat) = ((128 + m.val:Nat):Int):=by decide +kernel
theorem ZQs:∀ (k:Fin 8) (m:Fin 64),2 ≤ k.val → UL.wrap (UD (UH 8 (UL.wrap (Int.fdiv (65280:Int) ((2:Int) ^ min (k.val:Int).toNat 64))) ||| UH 8 (UL.wrap (m.val:Int))).toNat) = ((Zh0 k.val m.val:Nat):Int):=by decide +kernel
theorem ZJq (k:Nat) {kk:Nat} (h2:2 ≤ kk) (h7:kk ≤ 7):∀ (i m n:Nat) (suf:List Int),i < m → i < kk → n < 18446744073709551616 → n / 64 ^ i < 64 →
  Ze (fun L2 => Zfg k L2) m ((i:Int),(n:Int),(kk:Int),Jd (i + 1) 0 ++ suf) = some ((Q3 (Zh0 kk (n / 64 ^ i) :: Ko n i) ++ suf,0,()),()):=by
 intro i
 induction i with
 | zero =>
  intro m n suf hm hi hn hq
  obtain ⟨m,rfl⟩:=Zt hm
  rw [Zd]
  simp only [Zfg]
  rw [Zn (by omega),Zb (by omega),Zb (by simp_all),Zb (by simp)]
  rw [HT,Nat.div_one] at hq ⊢
  have:=ZQs ⟨kk,by omega⟩ ⟨n,hq⟩ h2
  simp only at this
  rw [this]
  rfl
 | succ i ih =>
  intro m n suf hm hi hn hq
  obtain ⟨m,rfl⟩:=Zt (show 0 < m by omega)
  rw [Zd]
  simp only [Zfg]
  have hl:(Jd (i + 1 + 1) (0:Int) ++ suf).length = i + 2 + suf.length:=by simp
  rw [Zb (by omega),Zb (by grind),Zb (by rw [hl]; omega)]
  rw [show (63:Int) = ((63:Nat):Int) from rfl,ZKs hn (by omega)]
  have h63:n &&& 63 = n % 64:=Hp n 6
  have:=ZTS ⟨n % 64,UY _ (by omega)⟩
  simp only at this
  rw [h63,this]
  rw [show Jx.wrap (((i + 1:Nat):Int) - 1) = (i:Int) from by rw [ZK (by omega)]; omega]
  rw [show ((n:Int)).fdiv 64 = ((n / 64:Nat):Int) from by grind]
  have hset:(Jd (i + 1 + 1) (0:Int) ++ suf).set (((i + 1:Nat):Int)).toNat ((128 + n % 64:Nat):Int) = Jd (i + 1) 0 ++ (((128 + n % 64:Nat):Int) :: suf):=by
   rw [Yi,List.replicate_succ' (n:=i + 1),Ju,List.set_append_right _ _ (by simp)]
   simp
  rw [hset,ih m (n / 64) _ (by omega) (by omega) (by omega) (by rw [H4,V9,← HS]; exact hq)]
  rw [H4,V9,← HS]
  simp only [Q3,Ko,JR,List.map_append,List.map_nil,Ju,List.cons_append,VS]
theorem ZAd (k kk:Nat) (h:kk ≤ 8):ZOX k ((kk:Int),()) = some (((Wh kk:Nat):Int),()):=by
 show ZqT k _ = _
 simp only [ZqT]
 unfold Wh
 by_cases h1:kk = 1
 ·subst h1; rfl
 ·rw [show (((kk:Nat):Int) == (1:Int)) = false from by rw [ZC]; simp; omega,if_neg h1]
  simp only [cond_false]
  rw [ZK (n:=5 * (kk:Int)) (by omega),ZK (by omega)]
  congr 2
theorem ZrR:Wh 2 = 11 ∧ Wh 3 = 16 ∧ Wh 4 = 21 ∧ Wh 5 = 26 ∧ Wh 6 = 31 ∧ Wh 7 = 36:=by decide
theorem ZTC {kk n:Nat} (h2:2 ≤ kk) (h7:kk ≤ 7) (hlt:n < 2 ^ Wh kk) (hge:2 < kk → 2 ^ Wh (kk - 1) ≤ n) (h128:128 ≤ n):Xi n = kk:=by
 obtain ⟨r2,r3,r4,r5,r6,r7⟩:=ZrR
 obtain rfl | rfl | rfl | rfl | rfl | rfl:kk = 2 ∨ kk = 3 ∨ kk = 4 ∨ kk = 5 ∨ kk = 6 ∨ kk = 7:=by omega
 ·rw [r2] at hlt
  unfold Xi
  rw [if_neg (by omega),if_pos hlt]
 ·have hge:=hge (by omega)
  rw [Hv (n:=2) (m:=1),r2] at hge
  rw [r3] at hlt
  unfold Xi
  grind
 ·have hge:=hge (by omega)
  rw [Hv (n:=3) (m:=1),r3] at hge
  rw [r4] at hlt
  unfold Xi
  grind
 ·have hge:=hge (by omega)
  rw [Hv (n:=4) (m:=1),r4] at hge
  rw [r5] at hlt
  unfold Xi
  grind
 ·have hge:=hge (by omega)
  rw [Hv (n:=5) (m:=1),r5] at hge
  rw [r6] at hlt
  unfold Xi
  grind
 ·have hge:=hge (by omega)
  rw [Hv (n:=6) (m:=1),r6] at hge
  unfold Xi
  grind
theorem Zh4 {kk n:Nat} (h2:2 ≤ kk) (h7:kk ≤ 7) (hlt:n < 2 ^ Wh kk):n / 64 ^ (kk - 1) < 64:=by
 have h64:(64:Nat) = 2 ^ 6:=rfl
 rw [Nat.div_lt_iff_lt_mul (Hq (by omega))]
 refine VZ hlt ?_
 rw [h64,← Nat.pow_mul,← Hr]
 refine He (by omega) ?_
 unfold Wh
 rw [if_neg (by omega)]
 omega
theorem Zz5 (k:Nat) (hk:20 < k) {n:Nat} (hn:n < 2 ^ 36) (kk:Nat) (h2:2 ≤ kk) (h7:kk ≤ 7) (hlt:n < 2 ^ Wh kk) (hge:2 < kk → 2 ^ Wh (kk - 1) ≤ n) (h128:128 ≤ n) :
  ZqG k (Jx.wrap ((kk:Int) - 1),(n:Int),(kk:Int),Jd (kk:Int).toNat (0:Int)) = some ((Q3 (Qg n),0,()),()):=by
 have hlen:=ZTC h2 h7 hlt hge h128
 have hq:=Zh4 h2 h7 hlt
 have hn':n < 18446744073709551616:=Nat.lt_trans hn (by decide)
 have:=ZJq k h2 h7 (kk - 1) k n [] (by omega) (by omega) hn' hq
 rw [show Jx.wrap ((kk:Int) - 1) = ((kk - 1:Nat):Int) from by rw [ZK (by omega)]; omega,Yi]
 rw [show kk - 1 + 1 = kk by omega,Vf,Vf] at this
 refine U4 this ?_
 unfold Qg
 rw [if_neg (by omega),hlen]
theorem ZJr (k:Nat) (hk:20 < k) {n:Nat} (hn:n < 2 ^ 36):∀ (d kk m:Nat),d < m → kk + d = 7 → 2 ≤ kk → (2 < kk → 2 ^ Wh (kk - 1) ≤ n) → 128 ≤ n →
  Ze (fun L1 => Zff k (ZqG k) L1) m ((n:Int),(kk:Int)) = some ((Q3 (Qg n),0,()),()):=by
 intro d
 induction d with
 | zero =>
  intro kk m hm hkk h2 hge h128
  obtain rfl:kk = 7:=by omega
  obtain ⟨m,rfl⟩:=Zt hm
  rw [Zd]
  simp only [Zff]
  rw [ZAd k 7 (by omega)]
  simp only [Z9]
  rw [Zb (by omega),Yi,Hs (show Wh 7 ≤ 64 by decide),ZcT,HA (show n < 2 ^ Wh 7 from hn),Zn (by omega),Zb (by omega)]
  exact Zz5 k hk hn 7 (by omega) (by omega) hn hge h128
 | succ d ih =>
  intro kk m hm hkk h2 hge h128
  obtain ⟨m,rfl⟩:=Zt (show 0 < m by omega)
  rw [Zd]
  simp only [Zff]
  rw [ZAd k kk (by omega)]
  simp only [Z9]
  have hroom:Wh kk ≤ 64:=by unfold Wh; split <;> omega
  rw [Zb (by omega),Yi,Hs hroom,ZcT]
  by_cases hlt:n < 2 ^ Wh kk
  ·rw [HA hlt,Zn (by omega),Zb (by omega)]
   exact Zz5 k hk hn kk h2 (by omega) hlt hge h128
  ·have hpos:0 < n / 2 ^ Wh kk:=Nat.div_pos (by omega) (Hq (by omega))
   rw [Zb (by omega),show Jx.wrap ((kk:Int) + 1) = ((kk + 1:Nat):Int) from by rw [ZK (by omega)]; omega]
   exact ih (kk + 1) m (by omega) (by omega) (by omega) (fun _ => by rw [Hv]; omega) h128
theorem ZNO (k:Nat) (hk:20 < k) {n:Nat} (hn:n < 2 ^ 36):Zz4 k ((n:Int),()) = some ((Q3 (Qg n),0,()),()):=by
 show ZjY k (Zwq k) _ = _
 simp only [ZjY]
 rw [Zn (by omega),Zn (by omega)]
 by_cases h:n < 128
 ·rw [Zb (by omega),wu8 (by omega)]
  unfold Qg
  rw [if_pos h]
  rfl
 ·rw [Zn (by omega)]
  exact ZJr k hk hn 5 2 k (by omega) (by omega) (by omega) (fun h => by omega) (by omega)
end Go.Sh
namespace Go.Sh
open Go Go.Proofs
abbrev YI:=Ieee.double
theorem ZhE:YI.binade = 4503599627370496:=by decide
theorem ZuY:YI.infRung = 9218868437227405312:=by decide
theorem ZiA:YI.signWeight = 9223372036854775808:=by decide
theorem Zk7:YI.leastPlace = -1074:=by decide
theorem ZKM:YI.fractionBits = 52:=rfl
theorem ZJX (s:Bool) {R:Nat} (h0:4503599627370496 ≤ R) (h1:R < 9218868437227405312) :
  YI.read (YI.word s R) = .number s (4503599627370496 + R % 4503599627370496) (-1074 + (R / 4503599627370496 - 1:Nat)):=by
 have e1:YI.word s R / 9223372036854775808 % 2 = s.toNat:=by
  unfold Ieee.Format.word
  rw [ZiA]
  cases s <;> simp <;> omega
 have e2:YI.word s R % 9223372036854775808 = R:=by
  unfold Ieee.Format.word
  rw [ZiA]
  cases s <;> simp <;> omega
 unfold Ieee.Format.read
 simp only [ZiA,ZhE,ZuY,Zk7,e1,e2]
 rw [if_neg (by omega),if_pos h1]
 cases s <;> rfl
theorem Zur (s:Bool):YI.read (YI.word s 0) = .number s 0 (-1074):=by cases s <;> decide
theorem Zkz (s:Bool) {m K L:Nat} {e:Int} (hm:m ≠ 0) (hL:L ≤ 52) (hl:(m.log2:Int) = L - 1 - e)
  (hcut:Ieee.Toward.even.cut s (m <<< (e - ((L:Int) - 53)).toNat) ((L:Int) - 53 - e).toNat = K) (hK:4503599627370496 ≤ K) (hK2:K < 9007199254740992) :
  YI.read (YI.nearest s m e) = .number s K ((L:Int) - 53):=by
 unfold Ieee.Format.nearest
 rw [if_neg hm]
 simp only [ZKM,Zk7,ZhE,ZuY]
 have hlast:max (e + (m.log2:Int) - ((52:Nat):Int)) (-1074) = (L:Int) - 53:=by omega
 rw [hlast,hcut]
 have h1:((L:Int) - 53 - -1074).toNat = L + 1021:=by omega
 rw [h1,Hs (by omega)]
 rw [ZJX s (by omega) (by omega)]
 simp_all <;> omega
theorem Zps (s:Bool) {n d q:Nat} (hd:d ≤ n.log2 + 2) (h:n = q * 2 ^ d):Ieee.Toward.even.cut s n d = q:=by
 unfold Ieee.Toward.cut
 simp only [Hs hd,H5]
 have hp:0 < 2 ^ d:=Hq (by omega)
 simp_all
theorem Yy {N:Nat} (h:N ≠ 0) (t:Nat):(N * 2 ^ t).log2 = N.log2 + t:=by
 have hp:0 < 2 ^ t:=Hq (by omega)
 rw [HR (Nat.mul_ne_zero h (by omega))]
 obtain ⟨h1,h2⟩:=(HR h).1 rfl
 constructor
 ·rw [Hr]; exact Jm _ h1
 ·rw [show N.log2 + t + 1 = (N.log2 + 1) + t by omega,Hr]; exact Hx h2 hp
theorem Zkw {N:Nat} (h:N ≠ 0) (h':N < 9007199254740992):N.log2 ≤ 52:=by
 have:=(Nat.log2_lt h (k:=53)).2 h'
 omega
theorem Zrb {N:Nat} (h:N ≠ 0) (h':N < 9007199254740992):4503599627370496 ≤ N * 2 ^ (52 - N.log2) ∧ N * 2 ^ (52 - N.log2) < 9007199254740992:=by
 have hL:=Zkw h h'
 obtain ⟨h1,h2⟩:=(HR h).1 rfl
 have hp:0 < 2 ^ (52 - N.log2):=Hq (by omega)
 have e1:2 ^ N.log2 * 2 ^ (52 - N.log2) = 4503599627370496:=by rw [← Hr,show N.log2 + (52 - N.log2) = 52 by omega]
 have e2:2 ^ (N.log2 + 1) * 2 ^ (52 - N.log2) = 9007199254740992:=by grind
 constructor
 ·rw [← e1]; exact Jm _ h1
 ·rw [← e2]; exact Hx h2 hp
theorem Zxy (s:Bool) {N t:Nat} (h:N ≠ 0) (h':N < 9007199254740992) :
  YI.read (YI.nearest s (N * 2 ^ t) (-1 - (t:Int))) = .number s (N * 2 ^ (52 - N.log2)) ((N.log2:Int) - 53):=by
 have hL:=Zkw h h'
 obtain ⟨f1,f2⟩:=Zrb h h'
 have hp:0 < 2 ^ t:=Hq (by omega)
 refine Zkz s (Nat.mul_ne_zero h (by omega)) hL (by rw [Yy h]; omega) ?_ f1 f2
 by_cases hc:52 - N.log2 ≤ t
 ·have e1:((-1 - (t:Int)) - ((N.log2:Int) - 53)).toNat = 0:=by omega
  have e2:((N.log2:Int) - 53 - (-1 - (t:Int))).toNat = t - (52 - N.log2):=by omega
  rw [e1,e2,HB]
  refine Zps s (by rw [Yy h]; omega) ?_
  rw [Hw,← Hr]
  congr 2; omega
 ·have e1:((-1 - (t:Int)) - ((N.log2:Int) - 53)).toNat = 52 - N.log2 - t:=by omega
  have e2:((N.log2:Int) - 53 - (-1 - (t:Int))).toNat = 0:=by omega
  rw [e1,e2]
  refine Zps s (by omega) ?_
  rw [Hy,Hw,← Hr,HT,Nat.mul_one]
  congr 2; omega
theorem Zhj (s:Bool) {N:Nat} (h:N ≠ 0) (h':N < 4503599627370496) :
  YI.read (YI.nearest s N 0) = .number s (2 * N * 2 ^ (52 - (2 * N).log2)) (((2 * N).log2:Int) - 53):=by
 have hl:(2 * N).log2 = N.log2 + 1:=by rw [V9]; exact Yy h 1
 have h2:2 * N ≠ 0:=by omega
 have hL:=Zkw h2 (by omega)
 obtain ⟨f1,f2⟩:=Zrb h2 (by omega)
 refine Zkz s h hL (by rw [hl]; omega) ?_ f1 f2
 have e1:((0:Int) - (((2 * N).log2:Int) - 53)).toNat = 53 - (2 * N).log2:=by omega
 have e2:(((2 * N).log2:Int) - 53 - 0).toNat = 0:=by omega
 rw [e1,e2]
 refine Zps s (by omega) ?_
 rw [Hy,HT,Nat.mul_one,show 53 - (2 * N).log2 = 1 + (52 - (2 * N).log2) by omega,Hr]
 rw [← Hw]; congr 1; omega
def K2 (x:Nat) (n:Int):Prop:=n.natAbs < 9007199254740992 ∧
 ((n = 0 ∧ ∃ s,YI.read x = .number s 0 (-1074)) ∨ (n ≠ 0 ∧ YI.read x = .number (decide (n < 0)) (n.natAbs * 2 ^ (52 - n.natAbs.log2)) ((n.natAbs.log2:Int) - 53)))
theorem K2.num {x:Nat} {n:Int} (h:K2 x n):∃ s m e,YI.read x = .number s m e ∧ e ≤ -1 ∧ -1074 ≤ e ∧ ∀ (b:Int),b ≤ e → Ieee.signed s m (e - b).toNat = n * 2 ^ (-1 - b).toNat:=by
 obtain ⟨hb,⟨rfl,s,hr⟩ | ⟨hn,hr⟩⟩:=h
 ·refine ⟨s,0,_,hr,by omega,by omega,fun b hb => ?_⟩
  unfold Ieee.signed
  cases s <;> simp
 ·have h0:n.natAbs ≠ 0:=by omega
  have hL:=Zkw h0 hb
  refine ⟨_,_,_,hr,by omega,by omega,fun b hb => ?_⟩
  unfold Ieee.signed
  have e1:(n.natAbs * 2 ^ (52 - n.natAbs.log2)) <<< ((n.natAbs.log2:Int) - 53 - b).toNat = n.natAbs * 2 ^ (-1 - b).toNat:=by
   rw [Hy,Hw,← Hr]
   congr 2; omega
  rw [e1]
  grind
theorem Zde {s:Bool} {m:Nat} {e:Int} {n:Int} {t:Nat} (he:e = -1 - (t:Int)) (hm:m = n.natAbs * 2 ^ t) (hs:n ≠ 0 → s = decide (n < 0)) (hb:n.natAbs < 9007199254740992):K2 (YI.write (.number s m e)) n:=by
 refine ⟨hb,?_⟩
 show _ ∨ (_ ∧ YI.read (YI.nearest s m e) = _)
 by_cases hn:n = 0
 ·left
  refine ⟨hn,s,?_⟩
  show YI.read (YI.nearest s m e) = _
  subst hn
  rw [show m = 0 by rw [hm]; simp]
  unfold Ieee.Format.nearest
  rw [if_pos rfl]
  exact Zur s
 ·right
  refine ⟨hn,?_⟩
  rw [hm,he,← hs hn]
  exact Zxy s (by omega) hb
theorem Zm9 (n:Int) (hb:n.natAbs < 4503599627370496):K2 (Je.nearest n) (2 * n):=by
 show K2 (YI.nearest (decide (n < 0)) n.natAbs 0) (2 * n)
 refine ⟨by omega,?_⟩
 by_cases hn:n = 0
 ·left
  subst hn
  exact ⟨rfl,false,by decide⟩
 ·right
  refine ⟨by omega,?_⟩
  rw [Zhj _ (by omega) hb]
  have e1:(2 * n).natAbs = 2 * n.natAbs:=by omega
  simp_all <;> omega
theorem Zye {a b:Int} {p:Int} (hp:0 < p):compare (a * p) (b * p) = compare a b:=by
 rcases Int.lt_trichotomy a b with h | h | h
 ·have:=HX h hp
  rw [HG.2 h,HG.2 this]
 ·subst h; simp
 ·have:=HX h hp
  rw [HW.2 h,HW.2 this]
theorem Zmo {x y:Nat} {a b:Int} (hx:K2 x a) (hy:K2 y b):Je.format.order x y = some (compare a b):=by
 obtain ⟨s,m,i,h1,h2,_,h3⟩:=hx.num
 obtain ⟨t,n,j,g1,g2,_,g3⟩:=hy.num
 show (YI.read x).order (YI.read y) = _
 rw [h1,g1]
 unfold Ieee.Datum.order
 simp only
 rw [h3 _ (HK i j),g3 _ (HL i j),Zye (Hu (by omega))]
theorem ZD8 {x y:Nat} {a b:Int} (hx:K2 x a) (hy:K2 y b) (hb:(a + b).natAbs < 9007199254740992):∃ z,floatBits .add .f64 x y = some z ∧ K2 z (a + b):=by
 obtain ⟨s,m,i,h1,h2,h2',h3⟩:=hx.num
 obtain ⟨t,n,j,g1,g2,g2',g3⟩:=hy.num
 show ∃ z,((YI.read x).sum (YI.read y)).map YI.write = some z ∧ _
 rw [h1,g1]
 unfold Ieee.Datum.sum
 simp only
 rw [h3 _ (HK i j),g3 _ (HL i j),← Int.add_mul]
 refine ⟨_,rfl,?_⟩
 have hp:(0:Int) < 2 ^ (-1 - min i j).toNat:=Hu (by omega)
 refine Zde (t:=(-1 - min i j).toNat) (by omega) ?_ (fun hn => ?_) hb
 ·rw [HN,Int.natAbs_pow]; rfl
 ·rw [if_neg (by simp_all <;> omega)]
  by_cases hlt:a + b < 0
  ·rw [dTr hlt,dTr (HY hlt hp)]
  ·rw [dFa hlt,dFa (by
    have:=Int.mul_nonneg (show 0 ≤ a + b by omega) (HJ hp)
    omega)]
theorem ZTP {x:Nat} {n:Int} (h:K2 x n):∃ s m e,(YI.read x).opposite = .number s m e ∧ e ≤ -1 ∧ ∀ (b:Int),b ≤ e → Ieee.signed s m (e - b).toNat = -n * 2 ^ (-1 - b).toNat:=by
 obtain ⟨s,m,e,h1,h2,_,h3⟩:=h.num
 refine ⟨!s,m,e,by rw [h1]; rfl,h2,fun b hb => ?_⟩
 have:=h3 b hb
 unfold Ieee.signed at this ⊢
 grind
theorem ZTZ {x y:Nat} {a b:Int} (hx:K2 x a) (hy:K2 y b) (hb:(a - b).natAbs < 9007199254740992):∃ z,floatBits .sub .f64 x y = some z ∧ K2 z (a - b):=by
 obtain ⟨s,m,i,h1,h2,h2',h3⟩:=hx.num
 obtain ⟨t,n,j,g1,g2,g3⟩:=ZTP hy
 show ∃ z,((YI.read x).sum (YI.read y).opposite).map YI.write = some z ∧ _
 rw [h1,g1]
 unfold Ieee.Datum.sum
 simp only
 rw [h3 _ (HK i j),g3 _ (HL i j),← Int.add_mul,← Int.sub_eq_add_neg]
 refine ⟨_,rfl,?_⟩
 have hp:(0:Int) < 2 ^ (-1 - min i j).toNat:=Hu (by omega)
 refine Zde (t:=(-1 - min i j).toNat) (by omega) ?_ (fun hn => ?_) hb
 ·rw [HN,Int.natAbs_pow]; rfl
 ·rw [if_neg (by simp_all <;> omega)]
  by_cases hlt:a - b < 0
  ·rw [dTr hlt,dTr (HY hlt hp)]
  ·rw [dFa hlt,dFa (by
    have:=Int.mul_nonneg (show 0 ≤ a - b by omega) (HJ hp)
    omega)]
end Go.Sh
namespace Go.Sh
open Go Go.Proofs
theorem ZQq (s:Bool) (m:Nat):(Ieee.Datum.number s 0 (-1074)) = Ieee.Datum.number s ((0:Int).natAbs * m) (-((1074:Nat):Int)):=by
 simp_all
theorem K2.nat {x:Nat} {n:Int} (h:K2 x n):∃ (s:Bool) (t:Nat),YI.read x = .number s (n.natAbs * 2 ^ (t - 1)) (-(t:Int)) ∧ 1 ≤ t ∧ (n ≠ 0 → s = decide (n < 0) ∧ (n.natAbs * 2 ^ (t - 1)).log2 = 52):=by
 obtain ⟨hb,⟨rfl,s,hr⟩ | ⟨hn,hr⟩⟩:=h
 ·exact ⟨s,1074,hr.trans (ZQq s _),by omega,fun h => absurd rfl h⟩
 ·have h0:n.natAbs ≠ 0:=by omega
  have hL:=Zkw h0 hb
  refine ⟨_,53 - n.natAbs.log2,hr.trans ?_,by omega,fun _ => ⟨rfl,?_⟩⟩
  ·grind
  ·rw [Yy h0]; omega
theorem ZQr:YI.read 4607182418800017408 = .number false 4503599627370496 (-52):=by decide
theorem ZQS:YI.read 4611686018427387904 = .number false 4503599627370496 (-51):=by decide
theorem Zm6 {x:Nat} {a:Int} (hx:K2 x a):∃ z,floatBits .mul .f64 x 4607182418800017408 = some z ∧ K2 z a:=by
 obtain ⟨s,t,hr,h1,hs⟩:=hx.nat
 show ∃ z,((YI.read x).product (YI.read 4607182418800017408)).map YI.write = some z ∧ _
 rw [hr,ZQr]
 refine ⟨_,rfl,Zde (t:=t + 51) (by omega) ?_ (fun hn => by rw [(hs hn).1]; simp) hx.1⟩
 rw [Hw,show (4503599627370496:Nat) = 2 ^ 52 from rfl,← Hr]
 congr 2; omega
theorem ZQe {x:Nat} {c:Int} (hx:K2 x (2 * c)):∃ z,floatBits .quo .f64 x 4611686018427387904 = some z ∧ K2 z c:=by
 obtain ⟨s,t,hr,h1,hs⟩:=hx.nat
 show ∃ z,((YI.read x).quotient 54 (YI.read 4611686018427387904)).map YI.write = some z ∧ _
 rw [hr,ZQS]
 unfold Ieee.Datum.quotient
 simp only
 rw [if_neg (by omega)]
 refine ⟨_,rfl,?_⟩
 have hb:=hx.1
 by_cases hn:c = 0
 ·subst hn
  simp only [Int.mul_zero,Int.natAbs_zero,Nat.zero_mul,Nat.zero_shiftLeft,Nat.zero_div,Nat.zero_mod]
  have e1:(4503599627370496:Nat).log2 = 52:=by decide
  have e2:(0:Nat).log2 = 0:=by decide
  rw [e1,e2]
  exact Zde (t:=t + 55) (by simp; omega) (by simp) (fun h => absurd rfl h) (by simp)
 ·obtain ⟨h2,h3⟩:=hs (by omega)
  rw [h3,show (4503599627370496:Nat).log2 = 52 from by decide,show 54 + 52 - 52 = 54 from rfl,Hy]
  have e0:(2 ^ 54:Nat) = 4 * 4503599627370496:=by decide
  rw [e0,← Hw,Nat.mul_div_cancel _ (by omega),Nat.mul_mod_left]
  refine Zde (t:=t + 3) (by omega) ?_ (fun _ => ?_) (by omega)
  ·have e1:(2 * c).natAbs = 2 * c.natAbs:=by omega
   rw [e1]
   have e2:2 ^ (t + 3) = 2 ^ (t - 1) * 16:=by rw [show t + 3 = (t - 1) + 4 by omega,Hr]
   grind
  grind
theorem Znf {s:Bool} {q:Nat} {n:Int} (hq:q = n.natAbs) (hs:n ≠ 0 → s = decide (n < 0)) (hb:n.natAbs < 4503599627370496):K2 (YI.write (.number s q 0)) (2 * n):=by
 subst hq
 refine ⟨by omega,?_⟩
 show _ ∨ (_ ∧ YI.read (YI.nearest s n.natAbs 0) = _)
 by_cases hn:n = 0
 ·left
  refine ⟨by omega,s,?_⟩
  show YI.read (YI.nearest s n.natAbs 0) = _
  subst hn
  unfold Ieee.Format.nearest
  rw [if_pos (by rfl)]
  exact Zur s
 ·right
  refine ⟨by omega,?_⟩
  rw [Zhj _ (by omega) hb,hs hn]
  have e1:(2 * n).natAbs = 2 * n.natAbs:=by omega
  simp_all <;> omega
theorem Zk6 {s:Bool} {a t:Nat} (way:Ieee.Toward) (hway:way = .down ∨ way = .zero) (ht:1 ≤ t) (hl:a ≠ 0 → (a * 2 ^ (t - 1)).log2 = 52) (ht':a ≠ 0 → t ≤ 53) :
  way.cut s (a * 2 ^ (t - 1)) t = a / 2 + (if way = .down then (s && decide (a % 2 ≠ 0)).toNat else 0):=by
 by_cases h0:a = 0
 ·subst h0
  rcases hway with rfl | rfl <;> simp [Ieee.Toward.cut]
 ·unfold Ieee.Toward.cut
  have h1:=hl h0
  have h2:=ht' h0
  simp only [Hs (show t ≤ (a * 2 ^ (t - 1)).log2 + 2 by omega),H5]
  have hp:0 < 2 ^ (t - 1):=Hq (by omega)
  have e1:2 ^ t = 2 * 2 ^ (t - 1):=by rw [show t = (t - 1) + 1 by omega,HS,Hv]; omega
  rw [e1,Nat.mul_div_mul_right _ _ hp,Nat.mul_mod_mul_right]
  have e2:(a % 2 * 2 ^ (t - 1) != 0) = decide (a % 2 ≠ 0):=by
   grind
  grind
theorem ZxR {x:Nat} {n:Int} {s:Bool} {t:Nat} (h:n.natAbs ≠ 0) (ht:1 ≤ t) (hl:(n.natAbs * 2 ^ (t - 1)).log2 = 52):t ≤ 53:=by
 rw [Yy h] at hl; omega
theorem ZJC {x:Nat} {n:Int} (hx:K2 x n) (hb:n.natAbs < 4503599627370496):∃ z,Wy .down x = some z ∧ K2 z (2 * (n / 2)):=by
 obtain ⟨s,t,hr,h1,hs⟩:=hx.nat
 unfold Wy
 have hd:Je.decode x = .number s (n.natAbs * 2 ^ (t - 1)) (-(t:Int)):=hr
 rw [hd]
 refine ⟨_,rfl,?_⟩
 show K2 (YI.write (Ieee.Datum.integral .down (.number s (n.natAbs * 2 ^ (t - 1)) (-(t:Int))))) _
 unfold Ieee.Datum.integral
 simp only [HP,Yi,show (-(t:Int)).toNat = 0 by omega,HB]
 rw [Zk6 .down (.inl rfl) h1 (fun h => (hs (by omega)).2) (fun h => ZxR (x:=x) (s:=s) h h1 (hs (by omega)).2),if_pos rfl]
 refine Znf ?_ (fun hne => ?_) (by omega)
 ·by_cases h0:n = 0
  ·subst h0; simp
  ·rw [(hs h0).1]
   by_cases hlt:n < 0
   ·rw [dTr hlt]
    by_cases ho:n.natAbs % 2 = 0
    ·simp [ho]; omega
    ·simp [ho]; omega
   grind
 grind
theorem ZKb {x:Nat} {v:Int} (hx:K2 x (2 * v)) (hb:v.natAbs < 1125899906842624):∃ z,Wy .zero x = some z ∧ K2 z (2 * v):=by
 obtain ⟨s,t,hr,h1,hs⟩:=hx.nat
 unfold Wy
 have hd:Je.decode x = .number s ((2 * v).natAbs * 2 ^ (t - 1)) (-(t:Int)):=hr
 rw [hd]
 refine ⟨_,rfl,?_⟩
 show K2 (YI.write (Ieee.Datum.integral .zero (.number s ((2 * v).natAbs * 2 ^ (t - 1)) (-(t:Int))))) _
 unfold Ieee.Datum.integral
 simp only [HP,Yi,show (-(t:Int)).toNat = 0 by omega,HB]
 rw [Zk6 .zero (.inr rfl) h1 (fun h => (hs (by omega)).2) (fun h => ZxR (x:=x) (s:=s) h h1 (hs (by omega)).2),if_neg (by decide)]
 refine Znf (by omega) (fun hne => ?_) (by omega)
 grind
theorem Zbr {x:Nat} {v:Int} (hx:K2 x (2 * v)) (hb:v.natAbs < 1125899906842624):floatToIntVal .f64 x .i64 = some v:=by
 obtain ⟨s,t,hr,h1,hs⟩:=hx.nat
 unfold floatToIntVal
 have hd:Je.decode x = .number s ((2 * v).natAbs * 2 ^ (t - 1)) (-(t:Int)):=hr
 rw [hd]
 have:Ieee.Datum.toInt .zero (.number s ((2 * v).natAbs * 2 ^ (t - 1)) (-(t:Int))) = some v:=by
  unfold Ieee.Datum.toInt Ieee.Datum.integral
  simp only [HP,Yi,show (-(t:Int)).toNat = 0 by omega,HB]
  rw [Zk6 .zero (.inr rfl) h1 (fun h => (hs (by omega)).2) (fun h => ZxR (x:=x) (s:=s) h h1 (hs (by omega)).2),if_neg (by decide)]
  unfold Ieee.signed
  grind
 grind [IntKind.min,IntKind.max,IntKind.signed,IntKind.bits]
theorem ZQy (x:Nat):YI.read (x % 9223372036854775808) = match YI.read x with | .number _ m e => .number false m e | .infinity _ => .infinity false | .nan _ f => .nan false f:=by
 unfold Ieee.Format.read
 simp only [ZiA,ZhE,ZuY,Zk7]
 have e1:x % 9223372036854775808 / 9223372036854775808 = 0:=HA (UY _ (by omega))
 rw [e1,Nat.mod_mod]
 grind
theorem ZuH {x:Nat} {n:Int} (hx:K2 x n):K2 (x % 9223372036854775808) (n.natAbs:Int):=by
 obtain ⟨hb,h⟩:=hx
 refine ⟨by simpa using hb,?_⟩
 rw [ZQy]
 grind
theorem ZpL (k x:Nat):Zlu k (x,()) = some (x % 9223372036854775808,()):=by
 show Zlv k _ = _
 simp only [Zlv]
 congr 2
 have e1:UH 64 (UD x) &&& ~~~UH 64 (9223372036854775808:Int) = HD 64 (x % 9223372036854775808):=by
  apply BitVec.eq_of_getLsbD_eq
  intro i hi
  have h1:UH 64 (UD x) = HD 64 x:=HU ..
  have h2:UH 64 (9223372036854775808:Int) = BitVec.twoPow 64 63:=by decide
  rw [h1,h2]
  simp only [BitVec.getLsbD_and,BitVec.getLsbD_not,BitVec.getLsbD_ofNat,BitVec.getLsbD_twoPow,show (9223372036854775808:Nat) = 2 ^ 63 from rfl,H6]
  grind
 rw [e1,HE]
 have:x % 9223372036854775808 < 9223372036854775808:=UY _ (by omega)
 rw [Nat.mod_eq_of_lt (by omega)]
 show (UI.wrap ((x % 9223372036854775808:Nat):Int)).toNat = _
 rw [Zr2 (by omega),Yi]
end Go.Sh
namespace Go.Sh
open Go Go.Proofs
def ZT (n:Int):Prop := -16777216 ≤ n ∧ n ≤ 16777216
def PV2 (p:Nat × Nat) (l r:Int):Prop:=K2 p.1 (2 * l) ∧ K2 p.2 (2 * r) ∧ ZT l ∧ ZT r
structure PP (p:List (Nat × Nat)) (L R:List Int):Prop where
 hl:p.length = L.length
 hr:p.length = R.length
 at_:∀ i (h:i < p.length),PV2 p[i] (L[i]'(hl ▸ h)) (R[i]'(hr ▸ h))
def Zrg (L R:List Int):List (Nat × Nat):=(L.zip R).map fun x => (Je.nearest x.1,Je.nearest x.2)
theorem ZQf {L R:List Int} (h:L.length = R.length) (hL:∀ x ∈ L,ZT x) (hR:∀ x ∈ R,ZT x):PP (Zrg L R) L R where
 hl:=by simp [Zrg,h]
 hr:=by simp [Zrg,h]
 at_:=fun i hi => by
  simp only [Zrg,List.length_map,List.length_zip] at hi
  have h1:=hL L[i] (Ha (by omega))
  have h2:=hR R[i] (Ha (by omega))
  simp only [Zrg,List.getElem_map,List.getElem_zip]
  exact ⟨Zm9 _ (by unfold ZT at h1; omega),Zm9 _ (by unfold ZT at h2; omega),h1,h2⟩
theorem ZOL (k:Nat) {L R:List Int} (hk:L.length < k) (h:L.length = R.length) (hn:L.length ≤ 8192) (hL:∀ x ∈ L,ZT x) (hR:∀ x ∈ R,ZT x) :
  ZOI k (L,R,()) = some ((Zrg L R,0,()),()):=by
 show Zj9 k (ZwO k) _ = _
 simp only [Zj9]
 rw [show (UD L.length != UD R.length) = false from by rw [h]; simp]
 simp only [cond_false]
 rw [Zn (by simp only [QT]; omega)]
 have:=Zi (A:=List (Nat × Nat)) (step:=fun L1 => Zfn k L1) (fun i acc => (UD L.length,UD i,L,R,acc)) (L.zip R)
  (fun l acc => some ((acc ++ l.map (fun x => (Je.nearest x.1,Je.nearest x.2)),0,()),())) (fun i acc => acc.length = i)
  (fun L1 acc ha => by
   grind [Zfn])
  (fun L1 i hi acc ha hL1 => by
   have hi2:i < L.length:=by simp at hi; omega
   have hi3:i < R.length:=by omega
   have b1:=hL L[i] (Ha hi2)
   have b2:=hR R[i] (Ha hi3)
   unfold ZT at b1 b2
   simp only [Zfn]
   rw [Zb (W9 hi2),Zb (QV hi2),Zb (QV hi3),Zs hi2,Zs hi3]
   rw [Zn (by omega),Zn (by omega),Zn (by omega),Zn (by omega),Zb (by simp; omega),ZL hi2 (by omega)]
   rw [hL1 _ (by simp [ha])]
   simp) k 0 [] rfl (by simp; omega) (Ht _)
 exact U4 this (by rw [U5]; rfl)
theorem ZpA (k:Nat) {x y:Nat} {a b:Int} (hx:K2 x a) (hy:K2 y b) (hb:(a - b).natAbs < 9007199254740992) (hb2:(a + b).natAbs < 9007199254740992):∃ z,Zpz k ((x,y),()) = some (z,()) ∧ K2 z (a - b):=by
 show ∃ z,Zlb k _ = _ ∧ _
 simp only [Zlb]
 unfold cMulBits
 obtain ⟨z1,e1,v1⟩:=Zm6 hx
 obtain ⟨z2,e2,v2⟩:=Zm6 hy
 obtain ⟨z3,e3,v3⟩:=ZTZ v1 v2 hb
 obtain ⟨z4,e4,v4⟩:=ZD8 v1 v2 hb2
 simp_all
theorem ZKT (k:Nat) {x:Nat} {n:Int} (hx:K2 x n) (hb:n.natAbs < 4503599627370496):∃ z,ZBu k (x,()) = some (z,()) ∧ K2 z (2 * (n / 2)):=by
 obtain ⟨z,e,v⟩:=ZJC hx hb
 refine ⟨z,?_,v⟩
 show Zlc k _ = _
 simp only [Zlc,e,Z9]
theorem ZyM (k:Nat) {x:Nat} {v:Int} (hx:K2 x (2 * v)) (hb:v.natAbs < 1125899906842624):∃ z,Zlr k (x,()) = some (z,()) ∧ K2 z (2 * v):=by
 obtain ⟨z,e,w⟩:=ZKb hx hb
 refine ⟨z,?_,w⟩
 show Zls k _ = _
 simp only [Zls,e,Z9]
theorem ZQm:YI.read 9218868437227405311 = .number false 9007199254740991 971:=by decide
theorem ZTL {x:Nat} {n:Int} (hx:K2 x n) (h0:0 ≤ n):(Je.format.order x 9218868437227405311 == some Ordering.gt) = false:=by
 obtain ⟨s,m,i,h1,h2,h2',h3⟩:=hx.num
 have:Je.format.order x 9218868437227405311 = some Ordering.lt:=by
  show (YI.read x).order (YI.read 9218868437227405311) = _
  rw [h1,ZQm]
  unfold Ieee.Datum.order
  simp only
  have hmin:min i 971 = i:=by omega
  rw [hmin,h3 i (Int.le_refl _)]
  congr 1
  rw [HG]
  unfold Ieee.signed
  simp only [JJ,if_false]
  rw [Hy,HO]
  have hp:(0:Int) < 2 ^ (-1 - i).toNat:=Hu (by omega)
  obtain ⟨d,hd,hd1⟩:∃ d:Nat,(971 - i).toNat = (-1 - i).toNat + d ∧ d ≠ 0:=⟨972,by omega,by omega⟩
  have hq:(((2 ^ (971 - i).toNat:Nat):Int)) = 2 ^ (-1 - i).toNat * ((2 ^ d:Nat):Int):=by
   grind
  rw [hq]
  have hb:=hx.1
  have hQ:1 < 2 ^ d:=Nat.one_lt_two_pow hd1
  have e1:n * 2 ^ (-1 - i).toNat ≤ 9007199254740991 * 2 ^ (-1 - i).toNat:=Int.mul_le_mul_of_nonneg_right (by omega) (HJ hp)
  grind
 rw [this]; rfl
theorem ZyN (k:Nat) {x:Nat} {n:Int} (hx:K2 x n):Zvx k (x,0,()) = some (false,()):=by
 show Zlt k _ = _
 simp only [Zlt]
 rw [show ((0:Int) == (0:Int)) = true from rfl]
 simp only [cond_true,ZpL,Z9]
 rw [ZTL (ZuH hx) (by omega)]
theorem ZTx:K2 4715268809856909312 33554432:=by
 refine ⟨by decide,.inr ⟨by decide,by decide⟩⟩
theorem ZTG {x y:Nat} {a b:Int} (hx:K2 x a) (hy:K2 y b):∃ z,ZAC .f64 x y = some z ∧ K2 z (max a b):=by
 unfold ZAC
 rw [Zmo hx hy]
 grind
theorem ZAF {x y:Nat} {a:Int} (hx:K2 x a) (hy:K2 y a):(Je.format.order x y != some Ordering.eq) = false:=by
 rw [Zmo hx hy]; simp
theorem ZJT {x:Nat} {a:Int} (hx:K2 x a) (h:a ≤ 33554432):(Je.format.order x 4715268809856909312 == some Ordering.gt) = false:=by
 rw [Zmo hx ZTx]
 grind
theorem ZBt (k:Nat) (hk:4 < k) (L1:Int × Int × List (Nat × Nat) × List (Nat × Nat) → Option (Int × Unit)) {x y:Nat} {l r:Int} (h:PV2 (x,y) l r) (v3 v4:Int) (v5 v6:List (Nat × Nat)) :
  ZiD k L1 (0,x,y,v3,v4,v5,v6) = L1 (v4,Jx.wrap (v3 + 1),v5,v6):=by
 obtain ⟨hx,hy,b1,b2⟩:=h
 unfold ZT at b1 b2
 obtain ⟨k,rfl⟩:∃ m,k = m + 3:=⟨k - 3,by omega⟩
 obtain ⟨z1,e1,w1⟩:=ZyM (k + 3) hx (by omega)
 obtain ⟨z2,e2,w2⟩:=ZyM (k + 3) hy (by omega)
 show Ze (fun L2 => Zb6 (k + 3) L1 L2) (k + 3) _ = _
 rw [Zd]
 simp only [Zb6]
 rw [Zb (by omega),Zb (by omega)]
 show ((Zlr (k + 3) (x,())).bind _) = _
 rw [e1]
 simp only [Z9]
 rw [show [x,y].getD (0:Int).toNat (0:Nat) = x from rfl,ZAF w1 hx]
 simp only [cond_false]
 rw [ZyN _ hx]
 simp only [Z9,cond_false]
 rw [show Jx.wrap ((0:Int) + 1) = 1 from by rw [ZK (by omega)]; rfl,Zd]
 simp only [Zb6]
 rw [Zb (by omega),Zb (by omega)]
 show ((Zlr (k + 3) (y,())).bind _) = _
 rw [e2]
 simp only [Z9]
 rw [show [x,y].getD (1:Int).toNat (0:Nat) = y from rfl,ZAF w2 hy]
 simp only [cond_false]
 rw [ZyN _ hy]
 rfl
theorem ZHG (k:Nat) {p:List (Nat × Nat)} {L R:List Int} (hp:PP p L R) (hk:p.length + 4 < k) (hn:p.length ≤ 8192):ZBs k (p,()) = some (0,()):=by
 show Zgm k (Zns k) _ = _
 simp only [Zgm]
 rw [Zn (by simp only [QT]; omega)]
 have h3:ZiE k (UD p.length,(0:Int),p) = some (0,()):=by
  have:=Qm (A:=Unit) (step:=fun L3 => Zb7 k L3) (fun i _ => (UD p.length,UD i,p)) p (fun _ _ => some (0,()))
   (fun L _ => by grind [Zb7])
   (fun L i hi _ hL => by
    obtain ⟨hx,hy,b1,b2⟩:=hp.at_ i hi
    unfold ZT at b1 b2
    simp only [Zb7]
    rw [Zb (W9 hi),Zb (QV hi),Zs hi,ZpL,ZpL]
    simp only [Z9]
    obtain ⟨z,e,w⟩:=ZTG (ZuH hx) (ZuH hy)
    rw [e]
    simp only [Z9]
    rw [ZJT w (by omega)]
    simp only [cond_false]
    rw [ZL hi (by omega),hL ()]) k 0 () (by omega) (Ht _)
  exact this
 have:=Qm (A:=Unit) (step:=fun L1 => Zb5 k (ZiD k L1) (ZiE k) L1) (fun i _ => (UD p.length,UD i,p,p)) p (fun _ _ => some (0,()))
  (fun L _ => by grind [Zb5])
  (fun L i hi _ hL => by
   simp only [Zb5]
   rw [Zb (W9 hi),Zb (QV hi),Zs hi]
   rw [ZBt k (by omega) L (x:=p[i].1) (y:=p[i].2) (hp.at_ i hi),ZL hi (by omega),hL ()]) k 0 () (by omega) (Ht _)
 exact this
def apA (m l r:Int):Int:=if m = 9 then l - r else if m = 10 then (l + r) / 2 else l
def apB (m l r:Int):Int:=if m = 8 then l - r else if m = 10 then l - r else r
def Zxp (m:Int):Prop:=m = 0 ∨ m = 8 ∨ m = 9 ∨ m = 10
def Yj (m:Int) (L R:List Int):List Int:=(L.zip R).map fun x => apA m x.1 x.2
def Yk (m:Int) (L R:List Int):List Int:=(L.zip R).map fun x => apB m x.1 x.2
theorem ZP3 (k:Nat) {m:Int} (h:Zxp m):ZP1 k (m,()) = some (true,()):=by
 rcases h with rfl | rfl | rfl | rfl <;> rfl
theorem Zz9 (k:Nat) {p:List (Nat × Nat)} {L R:List Int} (hp:PP p L R) (hk:p.length + 4 < k) (hn:p.length ≤ 8192) {m:Int} (hm:Zxp m) :
  ZGd k (p,m,()) = some ((Yj m L R,Yk m L R,0,()),()):=by
 show Zkb k (ZwR k) _ = _
 simp only [Zkb]
 rw [ZP3 k hm]
 simp only [Z9,HF,cond_false]
 rw [ZHG k hp hk hn]
 simp only [Z9]
 rw [show ((0:Int) != (0:Int)) = false from rfl]
 simp only [cond_false]
 have hl:=hp.hl
 have hr:=hp.hr
 have:=Zi (A:=List Int × List Int) (step:=fun L1 => Zfp k L1) (fun i a => (UD p.length,UD i,p,m,a.1,a.2)) (L.zip R)
  (fun l a => some ((a.1 ++ l.map (fun x => apA m x.1 x.2),a.2 ++ l.map (fun x => apB m x.1 x.2),0,()),())) (fun i a => a.1.length = i ∧ a.2.length = i)
  (fun L1 a ha => by
   grind [Zfp])
  (fun L1 i hi a ha hL1 => by
   have hi2:i < p.length:=by simp at hi; omega
   obtain ⟨hx,hy,b1,b2⟩:=hp.at_ i hi2
   unfold ZT at b1 b2
   simp only [Zfp]
   rw [Zb (W9 hi2),Zb (QV hi2),Zs hi2]
   have s1:(a.1.length + [(0:Int)].length < 2147483648):=by simp; omega
   have s2:(a.2.length + [(0:Int)].length < 2147483648):=by simp; omega
   have hz:(L.zip R)[i] = (L[i]'(by omega),R[i]'(by omega)):=by simp
   rw [hz]
   have fin:∀ (u v:Int),u = apA m (L[i]'(by omega)) (R[i]'(by omega)) → v = apB m (L[i]'(by omega)) (R[i]'(by omega)) →
     L1 (UD p.length,Jx.wrap (UD i + 1),p,m,a.1 ++ [u],a.2 ++ [v]) = some ((a.1 ++ List.map (fun x => apA m x.1 x.2) ((L[i]'(by omega),R[i]'(by omega)) :: UN (i + 1) (L.zip R)),a.2 ++ List.map (fun x => apB m x.1 x.2) ((L[i]'(by omega),R[i]'(by omega)) :: UN (i + 1) (L.zip R)),0,()),()):=by
    intro u v hu hv
    rw [ZL hi2 (by omega)]
    simp_all
   rcases hm with rfl | rfl | rfl | rfl
   ·rw [show ((0:Int) == (8:Int)) = false from rfl,show ((0:Int) == (9:Int)) = false from rfl,show ((0:Int) == (10:Int)) = false from rfl]
    simp only [cond_false]
    rw [Zbr hx (by omega)]
    simp only [Z9]
    rw [Zb (by simp; omega),Zbr hy (by omega)]
    simp only [Z9]
    rw [Zb (by simp; omega)]
    exact fin _ _ rfl rfl
   ·rw [show ((8:Int) == (8:Int)) = true from rfl]
    simp only [cond_true]
    obtain ⟨z,e,w⟩:=ZpA k hx hy (by omega) (by omega)
    rw [← HM] at w
    rw [e]
    simp only [Z9]
    rw [Zbr hx (by omega)]
    simp only [Z9]
    rw [Zb (by simp; omega),Zbr w (by omega)]
    simp only [Z9]
    rw [Zb (by simp; omega)]
    exact fin _ _ rfl rfl
   ·rw [show ((9:Int) == (8:Int)) = false from rfl,show ((9:Int) == (9:Int)) = true from rfl]
    simp only [cond_true,cond_false]
    obtain ⟨z,e,w⟩:=ZpA k hx hy (by omega) (by omega)
    rw [← HM] at w
    rw [e]
    simp only [Z9]
    rw [Zbr w (by omega)]
    simp only [Z9]
    rw [Zb (by simp; omega),Zbr hy (by omega)]
    simp only [Z9]
    rw [Zb (by simp; omega)]
    exact fin _ _ rfl rfl
   ·rw [show ((10:Int) == (8:Int)) = false from rfl,show ((10:Int) == (9:Int)) = false from rfl,show ((10:Int) == (10:Int)) = true from rfl]
    simp only [cond_true,cond_false]
    obtain ⟨z1,e1,w1⟩:=ZD8 hx hy (by omega)
    rw [← Int.mul_add] at w1
    obtain ⟨z2,e2,w2⟩:=ZQe w1
    obtain ⟨z3,e3,w3⟩:=ZKT k w2 (by omega)
    obtain ⟨z,e,w⟩:=ZpA k hx hy (by omega) (by omega)
    rw [← HM] at w
    rw [e1]
    simp only [Z9]
    rw [e2]
    simp only [Z9]
    rw [e3]
    simp only [Z9]
    rw [e]
    simp only [Z9]
    rw [Zbr w3 (by omega)]
    simp only [Z9]
    rw [Zb (by simp; omega),Zbr w (by omega)]
    simp only [Z9]
    rw [Zb (by simp; omega)]
    exact fin _ _ rfl rfl) k 0 ([],[]) ⟨rfl,rfl⟩ (by simp; omega) (Ht _)
 exact U4 this (by rw [U5]; rfl)
end Go.Sh
namespace Go.Sh
open Go Go.Proofs
theorem ZAN (x:Int) {w:Nat} (hw:0 < w):Xe x w = (x.fdiv (2 ^ (w - 1)) == 0 || x.fdiv (2 ^ (w - 1)) == -1):=by
 rw [Bool.eq_iff_iff]
 constructor
 ·intro h
  rcases ZAn hw h with h | h
  ·rw [h]; rfl
  ·rw [h]; rfl
 ·intro h
  unfold Xe
  rw [if_neg (by omega),decide_eq_true_eq]
  have hp:(0:Int) < 2 ^ (w - 1):=Hu (by omega)
  rw [HI _ (by omega)] at h
  have h1:=Int.mul_ediv_add_emod x (2 ^ (w - 1))
  have h2:=HH x (show (2:Int) ^ (w - 1) ≠ 0 by omega)
  have h3:=Int.emod_lt_of_pos x hp
  grind
def Zf5:List Int → Int → Int → Int
 | [],n,_ => n
 | x :: l,n,last => Zf5 l (n + ((x - last).natAbs:Int)) x
def Za0 (l:List Int):Int:=Zf5 l 0 0
def Wc (n:Int):Prop := -67108864 ≤ n ∧ n ≤ 67108864
theorem ZAm (k:Nat) (l:List Int) (hk:l.length < k) (hn:l.length ≤ 8192) (hl:∀ x ∈ l,Wc x):ZGG k (l,()) = some (Za0 l,()):=by
 show Zko k (Zxi k) _ = _
 simp only [Zko]
 have:=Zi (A:=Int × Int) (step:=fun L1 => ZfI k L1) (fun i a => (UD l.length,UD i,l,a.1,a.2)) l
  (fun l' a => some (Zf5 l' a.1 a.2,())) (fun i a => 0 ≤ a.1 ∧ a.1 ≤ (i:Int) * 268435456 ∧ Wc a.2)
  (fun L a _ => by simp only [ZfI]; rw [Zn (XJ _)]; rfl)
  (fun L i hi a ha hL => by
   have hx:=hl _ (Ha hi)
   unfold Wc at hx ha
   simp only [ZfI]
   rw [Zb (W9 hi),Zb (QV hi),Zs hi,ZL hi (by omega)]
   have e1:Jx.wrap (l[i] - a.2) = l[i] - a.2:=ZK (by omega)
   have e2:Jx.wrap (a.2 - l[i]) = a.2 - l[i]:=ZK (by omega)
   rw [e1,e2]
   have e3:(if l[i] - a.2 < a.2 - l[i] then a.2 - l[i] else l[i] - a.2) = (((l[i] - a.2).natAbs:Nat):Int):=by split <;> omega
   rw [e3]
   have hi':(i:Int) ≤ 8192:=by omega
   have e4:Jx.wrap (a.1 + (((l[i] - a.2).natAbs:Nat):Int)) = a.1 + (((l[i] - a.2).natAbs:Nat):Int):=ZK (by omega)
   rw [e4,hL (a.1 + (((l[i] - a.2).natAbs:Nat):Int),l[i]) ⟨by omega,by push_cast; omega,hx⟩]
   rfl) k 0 (0,0) ⟨by omega,by omega,by unfold Wc; omega⟩ (by omega) (Ht _)
 exact this
theorem ZkH:∀ (l:List Int) (n last:Int),(∀ x ∈ l,Wc x) → Wc last → n ≤ Zf5 l n last ∧ Zf5 l n last ≤ n + (l.length:Int) * 134217728
 | [],n,last,_,_ => by simp [Zf5]
 | x :: l,n,last,h,hb => by
  have hx:=h x (Jl ..)
  have:=ZkH l (n + ((x - last).natAbs:Int)) x (fun y hy => h y (Jn _ hy)) hx
  unfold Wc at hx hb
  grind [Zf5,JF]
theorem K1 {l:List Int} (h:∀ x ∈ l,Wc x) (hn:l.length ≤ 8192):0 ≤ Za0 l ∧ Za0 l ≤ 1099511627776:=by
 have:=ZkH l 0 0 h (by unfold Wc; omega)
 unfold Za0
 omega
theorem Zx4 {m l r:Int} (hl:ZT l) (hr:ZT r):Wc (apA m l r) ∧ Wc (apB m l r):=by
 unfold ZT at hl hr
 unfold Wc apA apB
 omega
theorem ZeB {m:Int} {L R:List Int} (hL:∀ x ∈ L,ZT x) (hR:∀ x ∈ R,ZT x):(∀ x ∈ Yj m L R,Wc x) ∧ (∀ x ∈ Yk m L R,Wc x):=by
 constructor
 ·intro x hx
  obtain ⟨⟨l,r⟩,h,rfl⟩:=VF.1 hx
  exact (Zx4 (hL _ (Vy h).1) (hR _ (Vy h).2)).1
 ·intro x hx
  obtain ⟨⟨l,r⟩,h,rfl⟩:=VF.1 hx
  exact (Zx4 (hL _ (Vy h).1) (hR _ (Vy h).2)).2
theorem Zb1 {m:Int} {L R:List Int} (h:L.length = R.length):(Yj m L R).length = L.length ∧ (Yk m L R).length = L.length:=by
 unfold Yj Yk
 simp [h]
def ZmI (L R:List Int) (m:Int):Int:=Za0 (Yj m L R) + Za0 (Yk m L R)
def Yb (L R:List Int) (b:Int × Int) (m:Int):Int × Int:=if b.1 < 0 ∨ ZmI L R m < b.1 then (ZmI L R m,m) else b
def ZQ (L R:List Int):Int:=(Yb L R (Yb L R (Yb L R (Yb L R (-1,0) 0) 8) 9) 10).2
theorem ZkB {L R:List Int} {b:Int × Int} {m:Int} (hb:Zxp b.2) (hm:Zxp m):Zxp (Yb L R b m).2:=by
 unfold Yb; split
 ·exact hm
 ·exact hb
theorem Zhz (L R:List Int):Zxp (ZQ L R):=by
 unfold ZQ
 exact ZkB (ZkB (ZkB (ZkB (.inl rfl) (.inl rfl)) (.inr (.inl rfl))) (.inr (.inr (.inl rfl)))) (.inr (.inr (.inr rfl)))
theorem Zka (k:Nat) (L1:Int × Int × Int × Int × Int × List (Nat × Nat) × Int × Int → Option ((Int × Int × Unit) × Unit)) {p:List (Nat × Nat)} {L R:List Int} (hp:PP p L R) (hLR:L.length = R.length) (hL:∀ x ∈ L,ZT x) (hR:∀ x ∈ R,ZT x)
  (hk:p.length + 4 < k) (hn:p.length ≤ 8192) (j:Nat) (hj:j < 4) (m:Int) (hm:Zxp m) (hg:[(0:Int),8,9,10].getD j 0 = m) (b:Int × Int) :
  Zfo k L1 ((j:Int),0,8,9,10,p,b.1,b.2) = L1 (((j + 1:Nat):Int),0,8,9,10,p,(Yb L R b m).1,(Yb L R b m).2):=by
 have hl:=hp.hl
 obtain ⟨sA,sB⟩:=ZeB (m:=m) hL hR
 obtain ⟨lA,lB⟩:=Zb1 (m:=m) hLR
 have bA:=K1 sA (by omega)
 have bB:=K1 sB (by omega)
 simp only [Zfo]
 rw [Zb (by omega),Zb (by omega),Yi,hg,Zz9 k hp hk hn hm]
 simp only [Z9]
 rw [show ((0:Int) != (0:Int)) = false from rfl]
 simp only [cond_false]
 rw [ZAm k _ (by omega) (by omega) sA]
 simp only [Z9]
 rw [ZAm k _ (by omega) (by omega) sB]
 simp only [Z9]
 rw [ZK (n:=Za0 (Yj m L R) + Za0 (Yk m L R)) (by omega),ZK (n:=(j:Int) + 1) (by omega)]
 unfold Yb ZmI
 grind
theorem ZOP (k:Nat) {p:List (Nat × Nat)} {L R:List Int} (hp:PP p L R) (hLR:L.length = R.length) (hL:∀ x ∈ L,ZT x) (hR:∀ x ∈ R,ZT x)
  (hk:p.length + 8 < k) (hn:p.length ≤ 8192):ZOM k (p,()) = some ((ZQ L R,0,()),()):=by
 obtain ⟨k,rfl⟩:∃ m,k = m + 5:=⟨k - 5,by omega⟩
 show Ze (fun L1 => Zfo (k + 5) L1) (k + 5) ((0:Nat),0,8,9,10,p,(-1,(0:Int)).1,(-1,(0:Int)).2) = _
 rw [Zd,Zka (k + 5) _ hp hLR hL hR (by omega) hn 0 (by omega) 0 (.inl rfl) rfl]
 rw [Zd,Zka (k + 5) _ hp hLR hL hR (by omega) hn 1 (by omega) 8 (.inr (.inl rfl)) rfl]
 rw [Zd,Zka (k + 5) _ hp hLR hL hR (by omega) hn 2 (by omega) 9 (.inr (.inr (.inl rfl))) rfl]
 rw [Zd,Zka (k + 5) _ hp hLR hL hR (by omega) hn 3 (by omega) 10 (.inr (.inr (.inr rfl))) rfl]
 rfl
def W8 (ch:List (List Int)):List (List Int) × Int:=match ch with
 | [L,R] => ([Yj (ZQ L R) L R,Yk (ZQ L R) L R],if ZQ L R = 0 then 1 else ZQ L R)
 | ch => (ch,0)
theorem ZNH (k:Nat) (n:Int) (ch:List (List Int)) (hk:9000 < k) (h:ch.length = 1 ∨ (∃ L R,ch = [L,R] ∧ L.length = R.length ∧ L.length ≤ 8192 ∧ (∀ x ∈ L,ZT x) ∧ ∀ x ∈ R,ZT x)) :
  ZNG k ((n,ch,()),()) = some (((W8 ch).1,(W8 ch).2,0,()),()):=by
 show ZqD k _ = _
 simp only [ZqD]
 rcases h with h | ⟨L,R,rfl,hLR,hn,hL,hR⟩
 ·match ch,h with
  | [L],_ => rfl
 ·rw [show (UD [L,R].length == (1:Int)) = false from rfl]
  simp only [cond_false]
  rw [Zb (by simp),Zb (by simp)]
  have hp:=ZQf hLR hL hR
  have hpl:(Zrg L R).length ≤ 8192:=by rw [hp.hl]; exact hn
  rw [show [L,R].getD 0 [] = L from rfl,show [L,R].getD 1 [] = R from rfl,ZOL k (by omega) hLR hn hL hR]
  simp only [Z9]
  rw [show ((0:Int) != (0:Int)) = false from rfl]
  simp only [cond_false]
  rw [ZOP k hp hLR hL hR (by omega) hpl]
  simp only [Z9]
  rw [show ((0:Int) != (0:Int)) = false from rfl]
  simp only [cond_false]
  rw [Zz9 k hp (by omega) hpl (Zhz L R)]
  simp only [Z9]
  rw [ZC]
  show (bif decide (ZQ L R = 0) then _ else _) = some ((([_,_],if ZQ L R = 0 then 1 else ZQ L R,0,()),()))
  grind
def Qr (c d m:Int):List Int:=if c = 1 then [d] else if m = 8 ∨ m = 10 then [d,d + 1] else if m = 9 then [d + 1,d] else [d,d]
theorem ZNT (k:Nat) {c d r m:Int} (hc:c = 1 ∧ m = 0 ∨ c = 2) (hd:0 ≤ d ∧ d ≤ 24):ZNR k ((c,d,r,()),m,()) = some (Qr c d m,()):=by
 show ZqJ k _ = _
 simp only [ZqJ]
 have e:Jx.wrap (d + 1) = d + 1:=ZK (by omega)
 unfold Qr
 rcases hc with ⟨rfl,rfl⟩ | rfl
 ·rw [Zb (by simp)]
  rfl
 grind
def ZbZ (c d r:Int):Bool:=decide (1 ≤ c ∧ c ≤ 2 ∧ 4 ≤ d ∧ d ≤ 24 ∧ 1 ≤ r ∧ r ≤ 655350)
theorem ZLc (k:Nat) (c d r:Int):ZyD k ((c,d,r,()),()) = some (if ZbZ c d r then 0 else 2,()):=by
 show ZeS k _ = _
 simp only [ZeS]
 unfold ZbZ
 grind
def KO (n:Nat) (l:List Int):Bool:=decide (l.length = n ∧ 1 ≤ n ∧ n ≤ 512)
def Yo (c d r n:Int) (ch:List (List Int)):Int :=
 if ZbZ c d r = false then 2 else if n < 0 ∨ 2147483647 < n ∨ (ch.length:Int) ≠ c then 1
 else if ch.all (KO (ch.headD []).length) = false then 1
 else if ch.all (fun l => l.all fun x => Xe x d.toNat) = false then 12 else 0
theorem ZNF (k:Nat) (c d r n:Int) (ch:List (List Int)) (hk:1000 < k):ZNy k ((c,d,r,()),(n,ch,()),()) = some (Yo c d r n ch,()):=by
 show ZjX k (ZqB k) _ = _
 simp only [ZjX]
 rw [ZLc]
 simp only [Z9]
 unfold Yo
 cases hs:ZbZ c d r with
 | false => rfl
 | true =>
  simp only [if_true,HV,if_false]
  rw [show ((0:Int) != (0:Int)) = false from rfl]
  simp only [cond_false]
  have hs:=of_decide_eq_true hs
  by_cases h1:n < 0
  ·rw [Zb h1,if_pos (.inl h1)]
  ·rw [Zn h1]
   by_cases h2:2147483647 < n
   ·rw [Zb h2,if_pos (.inr (.inl h2))]
   ·rw [Zn h2,ZU]
    by_cases h3:UD ch.length = c
    ·rw [Zn (by simpa using h3),if_neg (by simp_all)]
     simp only [QT] at h3
     have hch:ch.length ≤ 2:=by omega
     rw [Zb (by simp only [QT]; omega)]
     have hhd:ch.getD 0 [] = ch.headD []:=by cases ch <;> rfl
     rw [hhd]
     generalize hN:(ch.headD []).length = N
     have hstep2:ch.all (KO N) = true → Zfd k (UD ch.length,(0:Int),ch,c,d,r) = some (if ch.all (fun l => l.all fun x => Xe x d.toNat) = false then 12 else 0,()):=by
      intro hall
      have:=QN (step:=fun L2 => ZcJ k (ZqC k L2) L2) (fun i => (UD ch.length,UD i,ch,c,d,r)) ch (fun l => l.all fun x => Xe x d.toNat) (some ((12:Int),())) (some ((0:Int),()))
       (fun L => by grind [ZcJ])
       (fun L i hi => by
        simp only [ZcJ]
        rw [Zb (W9 hi),Zb (QV hi),Zs hi]
        have hlen:=of_decide_eq_true (Ve.1 hall ch[i] (Ha hi))
        have:=QN (step:=fun L3 => Zfe k L L3) (fun j => (UD ch[i].length,UD j,ch[i],UD i,UD ch.length,ch,c,d,r)) ch[i] (fun x => Xe x d.toNat) (some ((12:Int),()))
         (L (UD ch.length,UD (i + 1),ch,c,d,r))
         (fun L3 => by simp only [Zfe]; rw [Zn (XJ _),ZL hi (by omega)])
         (fun L3 j hj => by
          simp only [Zfe]
          rw [Zb (W9 hj),Zb (QV hj),Zs hj]
          have ew:Jx.wrap (d - 1) = ((d.toNat - 1:Nat):Int):=by rw [ZK (by omega)]; omega
          simp only [ew,Yi,Hs (show d.toNat - 1 ≤ 64 by omega)]
          rw [Zb (by omega),ZAN _ (by omega),ZL hj (by omega)]
          grind) k (by omega)
        rw [← this]
        rfl) k (by omega)
      rw [show Zfd k (UD ch.length,(0:Int),ch,c,d,r) = Ze (fun L2 => ZcJ k (ZqC k L2) L2) k (UD ch.length,UD 0,ch,c,d,r) from rfl,this]
      grind
     have:=QN (step:=fun L1 => ZcI k (Zfd k) L1) (fun i => (UD ch.length,UD i,ch,UD N,n,ch,c,d,r)) ch (KO N) (some ((1:Int),()))
      (Zfd k (UD ch.length,(0:Int),ch,c,d,r))
      (fun L => by grind [ZcI])
      (fun L i hi => by
       simp only [ZcI]
       rw [Zb (W9 hi),Zb (QV hi),Zs hi,ZU]
       unfold KO
       simp only [QT]
       by_cases e1:ch[i].length = N
       ·rw [Zn (by omega)]
        by_cases e2:N < 1
        ·simp_all
        ·rw [Zn (by omega)]
         by_cases e3:512 < N
         ·grind
         ·rw [Zn (by omega),dTr (by omega),ZK (by omega)]; rfl
       grind) k (by omega)
     rw [show ZqB k (UD ch.length,(0:Int),ch,UD N,n,ch,c,d,r) = Ze (fun L1 => ZcI k (Zfd k) L1) k (UD ch.length,UD 0,ch,UD N,n,ch,c,d,r) from rfl,this]
     grind
    simp_all
end Go.Sh
namespace Go.Sh
open Go Go.Proofs
def Za2:List Int → Int
 | [] => 0
 | x :: l => x + Za2 l
def Zeo (x:Int):Bool:=decide (-2048 ≤ x ∧ x ≤ 2047)
def QA (x:Int):Bool:=decide (x ≤ -2147483648 ∨ 2147483648 ≤ x)
def ZaR (c:List Int) (sh:Int):Bool:=decide (c.length ≤ 8 ∧ 0 ≤ sh ∧ sh ≤ 15) && c.all Zeo
theorem ZJg (k:Nat) (x:Int):ZB7 k (x,()) = some (!Zeo x,()):=by
 show ZlS k _ = _
 simp only [ZlS]
 unfold Zeo
 by_cases h:x < -2048
 ·simp_all
 ·rw [Zn h]
  by_cases h2:2047 < x
  ·simp_all
  simp_all
theorem Zyv (k:Nat) (c:List Int) (hk:c.length < k) (hn:c.length < 4294967296):ZpG k (c,(),()) = some (!c.all Zeo,()):=by
 show ZeN k _ = _
 simp only [ZeN]
 have key:∃ i:Int,ZpU k (c,(),()) = some (i,()) ∧ (0 ≤ i ↔ c.all Zeo = false):=by
  have:=Qm (A:=Unit) (R:=Int × Unit) (step:=fun L1 => Kt k L1) (fun i _ => (UD c.length,UD i,c)) c
   (fun l _ => some (if l.all Zeo then -1 else UD (c.length - l.length + (l.takeWhile Zeo).length),()))
   (fun L _ => by grind [Kt])
   (fun L i hi _ hL => by
    simp only [Kt]
    rw [Zb (W9 hi),Zb (QV hi),Zs hi,ZJg]
    simp only [Z9]
    have hlen:(UN (i + 1) c).length = c.length - (i + 1):=by simp
    cases hc:Zeo c[i] with
    | true =>
     simp only [HF,cond_false]
     rw [ZL hi (by omega),hL ()]
     simp only [UA,hc,Bool.true_and,Hz,if_true,JF,hlen]
     grind
    | false =>
     simp only [Bool.not_false,cond_true,UA,hc,Bool.false_and,JJ,if_false,Hz,JF,hlen,H2]
     congr 3; omega) k 0 () (by omega) (Ht _)
  rw [U5] at this
  refine ⟨_,this,?_⟩
  cases c.all Zeo <;> simp
 grind
theorem Ztd (k:Nat) (x:Int):ZvB k (x,()) = some (QA x,()):=by
 show ZlI k _ = _
 simp only [ZlI]
 unfold QA
 grind
theorem ZmN (k:Nat) (c:List Int) (hk:c.length < k) (hn:c.length < 4294967296):ZiG k (c,(),()) = some (c.any QA,()):=by
 show ZeL k _ = _
 simp only [ZeL]
 have key:∃ i:Int,ZpQ k (c,(),()) = some (i,()) ∧ (0 ≤ i ↔ c.any QA = true):=by
  have:=Qm (A:=Unit) (R:=Int × Unit) (step:=fun L1 => Kr k L1) (fun i _ => (UD c.length,UD i,c)) c
   (fun l _ => some (if l.any QA then UD (c.length - l.length + (l.takeWhile (fun x => !QA x)).length) else -1,()))
   (fun L _ => by grind [Kr])
   (fun L i hi _ hL => by
    simp only [Kr]
    rw [Zb (W9 hi),Zb (QV hi),Zs hi,Ztd]
    simp only [Z9]
    have hlen:(UN (i + 1) c).length = c.length - (i + 1):=by simp
    cases hc:QA c[i] with
    | false =>
     simp only [cond_false]
     rw [ZL hi (by omega),hL ()]
     simp only [HQ,hc,Bool.false_or,Hz,Bool.not_false,if_true,JF,hlen]
     grind
    | true =>
     simp only [cond_true,HQ,hc,Bool.true_or,if_true,Hz,HF,JJ,if_false,JF,hlen,H2]
     congr 3; omega) k 0 () (by omega) (Ht _)
  rw [U5] at this
  refine ⟨_,this,?_⟩
  cases c.any QA <;> simp
 grind
theorem ZIY (k:Nat) (c:List Int) (sh:Int) (hk:10 < k):ZBX k ((c,sh,()),()) = some (if ZaR c sh then 0 else 2,()):=by
 show ZlO k _ = _
 simp only [ZlO]
 unfold ZaR
 by_cases h1:(8:Int) < UD c.length
 ·grind
 ·simp only [QT] at h1
  rw [Zn (by simp only [QT]; omega)]
  by_cases h2:sh < 0
  ·grind
  ·rw [Zn h2]
   by_cases h3:15 < sh
   ·grind
   ·rw [Zn h3,Zyv k c (by omega) (by omega),dTr (by omega)]
    grind
def ZXR (c a:List Int):Int:=Za2 ((c.zip a.reverse).map fun x => x.1 * x.2)
def Znc (c:List Int) (sh:Int) (a:List Int):Int:=(ZXR c a).fdiv (2 ^ sh.toNat)
theorem ZJP {x y:Int} (hx : -2048 ≤ x ∧ x ≤ 2047) (hy : -2147483648 < y ∧ y < 2147483648) : -4398046511104 ≤ x * y ∧ x * y ≤ 4398046511104:=by
 have h1:(x * y).natAbs ≤ 2048 * 2147483648:=by
  rw [HN]
  exact J3 (by omega) (by omega)
 omega
theorem ZDZ {l:List Int} {b:Int} (h:∀ x ∈ l,-b ≤ x ∧ x ≤ b) : -((l.length:Int) * b) ≤ Za2 l ∧ Za2 l ≤ (l.length:Int) * b:=by
 induction l with
 | nil => simp [Za2]
 | cons x l ih =>
  have h1:=h x (Jl ..)
  have h2:=ih fun y hy => h y (Jn _ hy)
  simp only [Za2,JF]
  grind
def ZsG (x:Int):Prop := -2048 ≤ x ∧ x ≤ 2047
def ZD (x:Int):Prop := -2147483648 < x ∧ x < 2147483648
theorem Zk8 {c a:List Int} (hc:∀ x ∈ c,ZsG x) (ha:∀ x ∈ a,ZD x):∀ x ∈ (c.zip a.reverse).map fun x => x.1 * x.2,-4398046511104 ≤ x ∧ x ≤ 4398046511104:=by
 intro x hx
 obtain ⟨⟨u,v⟩,h,rfl⟩:=VF.1 hx
 exact ZJP (hc _ (Vy h).1) (ha _ (by simpa using (Vy h).2))
theorem ZhZ {x:Int} {b:Int} (p:Nat) (h : -b ≤ x ∧ x ≤ b) (hb:0 ≤ b) : -b ≤ x.fdiv (2 ^ p) ∧ x.fdiv (2 ^ p) ≤ b:=by
 have hp:(0:Int) < 2 ^ p:=Hu (by omega)
 rw [HI _ (by omega)]
 constructor
 ·rw [Int.le_ediv_iff_mul_le hp]
  have:b * 1 ≤ b * 2 ^ p:=Int.mul_le_mul_of_nonneg_left (by omega) hb
  rw [Int.neg_mul]
  omega
 ·by_cases hx:0 ≤ x
  ·exact Int.le_trans (Int.ediv_le_self _ hx) h.2
  ·have:x / 2 ^ p < 0:=Int.ediv_neg_of_neg_of_pos (by omega) hp
   omega
theorem Znd {c a:List Int} {sh:Int} (hc:∀ x ∈ c,ZsG x) (ha:∀ x ∈ a,ZD x) (hl:c.length ≤ 8) : -35184372088832 ≤ Znc c sh a ∧ Znc c sh a ≤ 35184372088832:=by
 unfold Znc ZXR
 have h1:=ZDZ (Zk8 hc ha)
 have h2:((c.zip a.reverse).map fun x => x.1 * x.2).length ≤ 8:=by simp; omega
 exact ZhZ _ (by omega) (by omega)
theorem ZI0 (k:Nat) {c a:List Int} {sh:Int} (hk:c.length < k) (hl:c.length ≤ 8) (hla:c.length ≤ a.length) (hn:a.length ≤ 4294967296) (hsh:0 ≤ sh ∧ sh ≤ 15) (hc:∀ x ∈ c,ZsG x) (ha:∀ x ∈ a,ZD x) :
  ZBY k ((c,sh,()),a,()) = some (Znc c sh a,()):=by
 show ZgP k (Zoj k) _ = _
 simp only [ZgP]
 have hzl:(c.zip a.reverse).length = c.length:=by simp; omega
 have hterm:=Zk8 hc ha
 have:=Zi (A:=Int) (step:=fun L1 => Zcv k L1) (fun i acc => (UD c.length,UD i,c,acc,a,c,sh)) (c.zip a.reverse)
  (fun l acc => some ((acc + Za2 (l.map fun x => x.1 * x.2)).fdiv (2 ^ sh.toNat),())) (fun i acc => -((i:Int) * 4398046511104) ≤ acc ∧ acc ≤ (i:Int) * 4398046511104)
  (fun L acc _ => by
   grind [Zcv,Za2])
  (fun L i hi acc hacc hL => by
   have hi2:i < c.length:=by omega
   have hi3:i < a.reverse.length:=by simp; omega
   simp only [Zcv]
   have e1:Jx.wrap (Jx.wrap (UD a.length - 1) - UD i) = ((a.length - 1 - i:Nat):Int):=by
    simp only [QT]
    rw [ZK (n:=(a.length:Int) - 1) (by omega),ZK (by omega)]; omega
   rw [Zb (W9 hi2),Zb (QV hi2),e1,Zb (by simp only [QT]; omega),Zs hi2,Yi]
   have e2:a.getD (a.length - 1 - i) 0 = a.reverse[i]:=by
    grind
   rw [e2]
   have hz:(c.zip a.reverse)[i] = (c[i],a.reverse[i]):=by simp
   have ht:=hterm (c[i] * a.reverse[i]) (VF.2 ⟨(c[i],a.reverse[i]),by rw [← hz]; exact Ha _,rfl⟩)
   have hi8:(i:Int) ≤ 8:=by omega
   rw [ZK (n:=c[i] * a.reverse[i]) (by omega),ZK (n:=acc + c[i] * a.reverse[i]) (by omega),ZL hi2 (by omega)]
   grind [Za2]) k 0 0 ⟨by omega,by omega⟩ (by omega) (Ht _)
 refine U4 this ?_
 rw [U5,Int.zero_add]
 rfl
def ZrN (c:List Int) (sh:Int) (s:List Int) (i:Nat):Int:=s.getD i 0 - Znc c sh (s.take i)
def Znk (c:List Int) (sh:Int) (s:List Int):Nat → Nat → List Int
 | 0,_ => []
 | d + 1,i => ZrN c sh s i :: Znk c sh s d (i + 1)
def ZaZ (c:List Int) (sh:Int) (s:List Int):List Int:=Znk c sh s (s.length - c.length) c.length
def Qx (c:List Int) (sh:Int) (s:List Int):List Int × Int :=
 if ZaR c sh = false then ([],2) else if s.length < c.length then ([],1) else if s.any QA then ([],12)
 else if (ZaZ c sh s).any QA then ([],12) else (ZaZ c sh s,0)
theorem ZrO (c:List Int) (sh:Int) (s:List Int):∀ d i,(Znk c sh s d i).length = d
 | 0,_ => rfl
 | d + 1,i => by simp [Znk,ZrO c sh s d (i + 1)]
theorem Zbt {c:List Int} {sh:Int} (h:ZaR c sh = true):c.length ≤ 8 ∧ (0 ≤ sh ∧ sh ≤ 15) ∧ ∀ x ∈ c,ZsG x:=by
 unfold ZaR at h
 simp only [Jh,decide_eq_true_eq] at h
 refine ⟨h.1.1,h.1.2,fun x hx => ?_⟩
 have:=Ve.1 h.2 x hx
 unfold Zeo at this
 rw [decide_eq_true_eq] at this
 exact this
theorem Y4 {s:List Int} (h:s.any QA = false):∀ x ∈ s,ZD x:=by
 intro x hx
 rw [Uj] at h
 have:=h x hx
 unfold QA at this
 simp only [decide_eq_true_eq] at this
 unfold ZD
 omega
theorem Ztc (k:Nat) (c:List Int) (sh:Int) (s:List Int) (hk:s.length + 10 < k) (hn:s.length ≤ 8192):Zvy k ((c,sh,()),s,()) = some (((Qx c sh s).1,(Qx c sh s).2,()),()):=by
 show ZgD k (ZnU k) _ = _
 simp only [ZgD]
 rw [ZIY k c sh (by omega)]
 simp only [Z9]
 unfold Qx
 cases hm:ZaR c sh with
 | false => rfl
 | true =>
  simp only [if_true,HV,if_false]
  rw [show ((0:Int) != (0:Int)) = false from rfl]
  simp only [cond_false,QT]
  by_cases hl:s.length < c.length
  ·rw [Zb (by omega),if_pos hl]
  ·rw [Zn (by omega),if_neg hl,ZmN k s (by omega) (by omega)]
   simp only [Z9]
   cases hw:s.any QA with
   | true => simp only [cond_true,if_true]
   | false =>
    simp only [cond_false,JJ,if_false]
    obtain ⟨hc8,hsh,hcR⟩:=Zbt hm
    have hnar:=Y4 hw
    suffices H:∀ (d i m:Nat) (acc:List Int),i + d = s.length → c.length ≤ i → d < m → acc.length + d ≤ 8192 →
      Ze (fun L1 => Zci k L1) m ((i:Int),s,c,sh,acc) = some (if (Znk c sh s d i).any QA then (([],12,()),()) else ((acc ++ Znk c sh s d i,0,()),())) by
     have:=H (s.length - c.length) c.length k [] (by omega) (by omega) (by omega) (by simp; omega)
     refine U4 this ?_
     unfold ZaZ
     grind
    intro d
    induction d with
    | zero =>
     intro i m acc hi hci hm _
     obtain ⟨m,rfl⟩:=Zt hm
     rw [Zd]
     grind [Zci,QT,Znk]
    | succ d ih =>
     intro i m acc hi hci hm hacc
     obtain ⟨m,rfl⟩:=Zt (show 0 < m by omega)
     rw [Zd]
     simp only [Zci]
     have hi2:i < s.length:=by omega
     rw [Zb (by simp only [QT]; omega),Zb (by simp only [QT]; omega),Zb (by simp only [QT]; omega),Yi,U5]
     have htl:(s.take i).length = i:=by simp; omega
     have htn:∀ x ∈ s.take i,ZD x:=fun x hx => hnar x (List.mem_of_mem_take hx)
     rw [ZI0 k (by omega) hc8 (by omega) (by omega) hsh hcR htn]
     simp only [Z9]
     have hpb:=Znd (sh:=sh) hcR htn hc8
     have hsi:s.getD i 0 = s[i]:=KW hi2
     have hsn:=hnar s[i] (Ha hi2)
     unfold ZD at hsn
     have e1:Jx.wrap (s.getD i 0 - Znc c sh (s.take i)) = ZrN c sh s i:=by unfold ZrN; rw [hsi]; exact ZK (by omega)
     rw [e1,Ztd]
     simp only [Z9,Znk,HQ]
     by_cases hwi:QA (ZrN c sh s i) = true
     ·simp_all
     ·have hwi:QA (ZrN c sh s i) = false:=by simpa using hwi
      simp only [hwi,cond_false,Bool.false_or]
      rw [Zb (by simp; omega),show Jx.wrap ((i:Int) + 1) = ((i + 1:Nat):Int) from by rw [ZK (by omega)]; omega]
      rw [ih (i + 1) m _ (by omega) (by omega) (by omega) (by simp; omega)]
      simp
def QU (c:List Int) (sh:Int) (s:List Int):Int × Int:=(Za2 ((Qx c sh s).1.map fun x => (x.natAbs:Int)),(Qx c sh s).2)
theorem WB (c:List Int) (sh:Int) (s:List Int):∀ x ∈ (Qx c sh s).1,ZD x:=by
 unfold Qx
 split
 ·simp
 ·split
  ·simp
  ·split
   ·simp
   ·split
    ·simp
    ·rename_i h
     exact Y4 (by simpa using h)
theorem Zie (c:List Int) (sh:Int) (s:List Int):(Qx c sh s).1.length ≤ s.length:=by
 unfold Qx
 grind [ZaZ,ZrO]
theorem Ztg (k:Nat) (c:List Int) (sh:Int) (s:List Int) (hk:s.length + 10 < k) (hn:s.length ≤ 8192):ZvD k ((c,sh,()),s,()) = some (((QU c sh s).1,(QU c sh s).2,()),()):=by
 show ZgE k (ZnY k) _ = _
 simp only [ZgE]
 rw [Ztc k c sh s hk hn]
 simp only [Z9]
 have hnar:=WB c sh s
 have hlen:=Zie c sh s
 unfold QU
 generalize (Qx c sh s).2 = e
 generalize (Qx c sh s).1 = l at hnar hlen
 have:=Zi (A:=Int) (step:=fun L1 => Zck k L1) (fun i acc => (UD l.length,UD i,l,acc,e)) l
  (fun l' acc => some ((acc + Za2 (l'.map fun x => (x.natAbs:Int)),e,()),())) (fun i acc => 0 ≤ acc ∧ acc ≤ (i:Int) * 2147483648)
  (fun L acc _ => by grind [Zck,Za2])
  (fun L i hi acc hacc hL => by
   have hx:=hnar l[i] (Ha hi)
   unfold ZD at hx
   simp only [Zck]
   rw [Zb (W9 hi),Zb (QV hi),Zs hi,ZL hi (by omega),ZK (n:=0 - l[i]) (by omega)]
   have e1:(if l[i] < 0 - l[i] then 0 - l[i] else l[i]) = (l[i].natAbs:Int):=by split <;> omega
   have hi8:(i:Int) ≤ 8192:=by omega
   rw [e1,ZK (n:=acc + (l[i].natAbs:Int)) (by omega),hL _ ⟨by omega,by push_cast; omega⟩]
   grind [Za2]) k 0 0 ⟨by omega,by omega⟩ (by omega) (Ht _)
 exact U4 this (by rw [U5,Int.zero_add])
def YX (o:Nat):List Int:=match o with
 | 1 => [1]
 | 2 => [2,-1]
 | 3 => [3,-3,1]
 | 4 => [4,-6,4,-1]
 | _ => []
theorem ZHO (k:Nat) (o:Nat) (ho:o ≤ 4) (hk:20 < k):Zu8 k ((o:Int),()) = some (((YX o,0,()),0,()),()):=by
 obtain ⟨k,rfl⟩:∃ m,k = m + 20:=⟨k - 20,by omega⟩
 match o,ho with
 | 0,_ => rfl
 | 1,_ => rfl
 | 2,_ => rfl
 | 3,_ => rfl
 | 4,_ => rfl
def Z2 (o:Nat):List Int:=match o with
 | 2 => [32,-16]
 | 4 => [64,-96,64,-16]
 | 8 => [64,-96,64,-16,0,0,0,0]
 | _ => []
theorem ZIu (k:Nat) (o:Nat) (ho:o = 2 ∨ o = 4 ∨ o = 8) (hk:40 < k):ZBL k ((o:Int),()) = some ((Z2 o,4,()),()):=by
 obtain ⟨k,rfl⟩:∃ m,k = m + 40:=⟨k - 40,by omega⟩
 rcases ho with rfl | rfl | rfl
 ·rfl
 ·rfl
 ·rfl
abbrev Mdl:=List Int × Int × Bool
def Zf7 (s:List Int) (by_:Int) (j:Nat) (M:Mdl):Mdl :=
 if (QU (M.1.set j (M.1.getD j 0 + by_)) 4 s).2 = 0 ∧ (M.2.2 = false ∨ (QU (M.1.set j (M.1.getD j 0 + by_)) 4 s).1 < M.2.1)
 then (M.1.set j (M.1.getD j 0 + by_),(QU (M.1.set j (M.1.getD j 0 + by_)) 4 s).1,true) else M
def Zpe (s:List Int) (st:Int) (j:Nat) (M:Mdl):Mdl:=Zf7 s (-st) j (Zf7 s st j M)
def Zsu (s:List Int) (st:Int):Nat → Nat → Mdl → Mdl
 | 0,_,M => M
 | d + 1,j,M => Zsu s st d (j + 1) (Zpe s st j M)
def Zsv (s:List Int) (st:Int) (o:Nat) (M:Mdl):Mdl:=Zsu s st o 0 M
def ZTY (s:List Int) (o:Nat):Mdl:=Zsv s 1 o (Zsv s 2 o (Zsv s 4 o (Zsv s 8 o (Z2 o,(QU (Z2 o) 4 s).1,(QU (Z2 o) 4 s).2 == 0))))
def XW (s:List Int) (o:Nat):List Int:=(ZTY s o).1
structure MOk (o:Nat) (b:Int) (M:Mdl):Prop where
 len:M.1.length = o
 bd:∀ x ∈ M.1,-b ≤ x ∧ x ≤ b
theorem ZkM {s:List Int} {o:Nat} {b by_:Int} {j:Nat} {M:Mdl} (h:MOk o b M) (hj:j < o) (hby : -8 ≤ by_ ∧ by_ ≤ 8):MOk o (b + 8) (Zf7 s by_ j M):=by
 unfold Zf7
 split
 ·refine ⟨by simp [h.len],fun x hx => ?_⟩
  have hg:M.1.getD j 0 ∈ M.1:=by rw [KW (by rw [h.len]; exact hj)]; exact Ha _
  rcases List.mem_or_eq_of_mem_set hx with hx | rfl
  ·have:=h.bd x hx; omega
  ·have:=h.bd _ hg; omega
 ·exact ⟨h.len,fun x hx => by have:=h.bd x hx; omega⟩
theorem Zpf {s:List Int} {o:Nat} {b st:Int} {j:Nat} {M:Mdl} (h:MOk o b M) (hj:j < o) (hst : -8 ≤ st ∧ st ≤ 8):MOk o (b + 16) (Zpe s st j M):=by
 have:=ZkM (s:=s) (ZkM (s:=s) h hj hst) hj (by_ := -st) (by omega)
 rw [show b + 8 + 8 = b + 16 by omega] at this
 exact this
theorem ZG3 {s:List Int} {o:Nat} {st:Int} (hst : -8 ≤ st ∧ st ≤ 8):∀ (d j:Nat) (b:Int) (M:Mdl),MOk o b M → j + d ≤ o → MOk o (b + 16 * (d:Int)) (Zsu s st d j M)
 | 0,j,b,M,h,_ => by simpa [Zsu] using h
 | d + 1,j,b,M,h,hj => by
  simp only [Zsu]
  have hb:=Zpf (s:=s) (j:=j) (st:=st) h (show j < o by omega) hst
  have:=ZG3 (s:=s) hst d (j + 1) (b + 16) _ hb (show j + 1 + d ≤ o by omega)
  grind
theorem Kj {s:List Int} {o:Nat} {st b:Int} (hst : -8 ≤ st ∧ st ≤ 8) (ho:o ≤ 8) {M:Mdl} (h:MOk o b M):MOk o (b + 128) (Zsv s st o M):=by
 have:=ZG3 (s:=s) hst o 0 b M h (by omega)
 refine ⟨this.len,fun x hx => ?_⟩
 have:=this.bd x hx
 omega
theorem ZHQ (k:Nat) (s:List Int) (hk:s.length + 20 < k) (hn:s.length ≤ 8192) (L1:Int × Int × List Int × Bool × Int × List Int × Int × Int → Option (((List Int × Int × Unit) × Int × Unit) × Unit)) (L2:Int × Int × Int × List Int × Bool × Int × Int × List Int × Int × Int → Option (((List Int × Int × Unit) × Int × Unit) × Unit))
  {o j:Nat} {st:Int} {M:Mdl} {v13:Int} (hM:MOk o 1000 M) (hj:j < o) (ho:o ≤ 8) (hst:0 ≤ st ∧ st ≤ 8) :
  ZiJ k L1 L2 (0,st,Jx.wrap (0 - st),(j:Int),s,M.2.2,M.2.1,(j:Int),(o:Int),st,(o:Int),M.1,4,v13) =
   L2 ((o:Int),((j + 1:Nat):Int),st,s,(Zpe s st j M).2.2,(Zpe s st j M).2.1,(o:Int),(Zpe s st j M).1,4,v13):=by
 obtain ⟨k,rfl⟩:∃ m,k = m + 3:=⟨k - 3,by omega⟩
 have e0:Jx.wrap (0 - st) = -st:=by rw [ZK (by omega)]; omega
 rw [e0]
 have one:∀ (i:Nat) (by_:Int) (L3:Int × Int × Int × Int × List Int × Bool × Int × Int × Int × Int × Int × List Int × Int × Int → Option (((List Int × Int × Unit) × Int × Unit) × Unit)) (M:Mdl),i < 2 → [st,-st].getD i 0 = by_ → -8 ≤ by_ ∧ by_ ≤ 8 → MOk o 1008 M →
   K3 (k + 3) L1 L2 L3 ((i:Int),st,-st,(j:Int),s,M.2.2,M.2.1,(j:Int),(o:Int),st,(o:Int),M.1,4,v13) =
    L3 (((i + 1:Nat):Int),st,-st,(j:Int),s,(Zf7 s by_ j M).2.2,(Zf7 s by_ j M).2.1,(j:Int),(o:Int),st,(o:Int),(Zf7 s by_ j M).1,4,v13):=by
  intro i by_ L3 M hi hg hb hM
  simp only [K3]
  rw [Zb (by omega),Zb (by omega)]
  have hl:=hM.len
  rw [show ZvE (k + 3) (M.1,()) = some (M.1,()) from by show ZbR _ = _; unfold ZbR; rw [Zb (by rw [hl]; omega)]]
  simp only [Z9,Yi,QT]
  rw [Zb (by omega),Zb (by omega),Zb (by omega),Zb (by omega),hg]
  have hx:=hM.bd (M.1.getD j 0) (by simp_all)
  rw [ZK (n:=M.1.getD j 0 + by_) (by omega),Ztg (k + 3) _ 4 s (by omega) hn]
  simp only [Z9]
  rw [show Jx.wrap ((i:Int) + 1) = ((i + 1:Nat):Int) from by rw [ZK (by omega)]; omega]
  unfold Zf7
  grind
 show Ze (fun L3 => K3 (k + 3) L1 L2 L3) (k + 3) ((0:Nat),st,-st,(j:Int),s,M.2.2,M.2.1,(j:Int),(o:Int),st,(o:Int),M.1,4,v13) = _
 rw [Zd,one 0 st _ M (by omega) rfl (by omega) ⟨hM.len,fun x hx => by have:=hM.bd x hx; omega⟩]
 have h2:=ZkM (s:=s) hM hj (by_:=st) (by omega)
 rw [Zd,one 1 (-st) _ _ (by omega) rfl (by omega) h2,Zd]
 simp only [K3]
 rw [Zn (by omega),show Jx.wrap ((j:Int) + 1) = ((j + 1:Nat):Int) from by rw [ZK (by omega)]; omega]
 rfl
theorem ZK2 (k:Nat) (s:List Int) (hk:s.length + 20 < k) (hn:s.length ≤ 8192) (L1:Int × Int × List Int × Bool × Int × List Int × Int × Int → Option (((List Int × Int × Unit) × Int × Unit) × Unit))
  {o:Nat} {st:Int} {v9:Int} (ho:o ≤ 8) (hst:0 ≤ st ∧ st ≤ 8):∀ (d j m:Nat) (b:Int) (M:Mdl),j + d = o → d < m → MOk o b M → b + 16 * (d:Int) ≤ 1000 →
  Ze (fun L2 => Zca k (ZiJ k L1 L2) L1 L2) m ((o:Int),(j:Int),st,s,M.2.2,M.2.1,(o:Int),M.1,4,v9) =
   L1 (Jx.wrap (st.tdiv 2),(o:Int),s,(Zsu s st d j M).2.2,(Zsu s st d j M).2.1,(Zsu s st d j M).1,4,v9):=by
 intro d
 induction d with
 | zero =>
  intro j m b M hj hm hM hb
  obtain ⟨m,rfl⟩:=Zt hm
  rw [Zd]
  simp only [Zca]
  rw [Zn (by omega)]
  rfl
 | succ d ih =>
  intro j m b M hj hm hM hb
  obtain ⟨m,rfl⟩:=Zt (show 0 < m by omega)
  rw [Zd]
  simp only [Zca]
  rw [Zb (by omega)]
  rw [ZHQ k s hk hn L1 _ (M:=M) ⟨hM.len,fun x hx => by have:=hM.bd x hx; omega⟩ (by omega) ho hst]
  rw [ih (j + 1) m (b + 16) _ (by omega) (by omega) (Zpf hM (by omega) (by omega)) (by push_cast at hb; omega)]
  rfl
theorem ZHU (k:Nat) (s:List Int) (o:Nat) (ho:o = 2 ∨ o = 4 ∨ o = 8) (hos:o ≤ s.length) (hs:∀ x ∈ s,ZD x) (hk:s.length + 60 < k) (hn:s.length ≤ 8192) :
  ZBA k (s,(o:Int),()) = some (((XW s o,4,()),0,()),()):=by
 show Zgr k (Zny k) _ = _
 simp only [Zgr]
 have hw:s.any QA = false:=by
  rw [Uj]
  intro x hx
  have:=hs x hx
  unfold ZD at this
  unfold QA
  simp only [decide_eq_true_eq]
  omega
 rw [Zn (by omega),Zn (by omega),Zn (by simp only [QT]; omega),ZmN k s (by omega) (by omega),hw]
 simp only [Z9,cond_false]
 rw [ZIu k o ho (by omega)]
 simp only [Z9]
 rw [Ztg k _ 4 s (by omega) hn]
 simp only [Z9]
 have hM0:MOk o 96 (Z2 o,(QU (Z2 o) 4 s).1,(QU (Z2 o) 4 s).2 == 0):=by
  rcases ho with rfl | rfl | rfl
  ·exact ⟨rfl,show ∀ x ∈ Z2 2,-96 ≤ x ∧ x ≤ 96 by decide⟩
  ·exact ⟨rfl,show ∀ x ∈ Z2 4,-96 ≤ x ∧ x ≤ 96 by decide⟩
  ·exact ⟨rfl,show ∀ x ∈ Z2 8,-96 ≤ x ∧ x ≤ 96 by decide⟩
 have ho8:o ≤ 8:=by omega
 have h1:=Kj (s:=s) (st:=8) (by omega) ho8 hM0
 have h2:=Kj (s:=s) (st:=4) (by omega) ho8 h1
 have h3:=Kj (s:=s) (st:=2) (by omega) ho8 h2
 obtain ⟨k',rfl⟩:∃ m,k = m + 5:=⟨k - 5,by omega⟩
 have row:∀ (L1:Int × Int × List Int × Bool × Int × List Int × Int × Int → Option (((List Int × Int × Unit) × Int × Unit) × Unit)) (st:Int) (b:Int) (M:Mdl),0 < st → st ≤ 8 → MOk o b M → b + 128 ≤ 1000 →
   Zb9 (k' + 5) (ZiI (k' + 5) L1) L1 (st,(o:Int),s,M.2.2,M.2.1,M.1,4,0) = L1 (Jx.wrap (st.tdiv 2),(o:Int),s,(Zsv s st o M).2.2,(Zsv s st o M).2.1,(Zsv s st o M).1,4,0):=by
  intro L1 st b M h0 h8 hM hb
  simp only [Zb9]
  rw [Zb h0]
  exact ZK2 (k' + 5) s (by omega) hn L1 ho8 (by omega) o 0 (k' + 5) b M (by omega) (by omega) hM (by omega)
 show Ze (fun L1 => Zb9 (k' + 5) (ZiI (k' + 5) L1) L1) (k' + 5) _ = _
 rw [Zd]
 refine (row _ 8 96 (Z2 o,(QU (Z2 o) 4 s).1,(QU (Z2 o) 4 s).2 == 0) (by omega) (by omega) hM0 (by omega)).trans ?_
 rw [show Jx.wrap ((8:Int).tdiv 2) = 4 from by decide,Zd]
 refine (row _ 4 _ _ (by omega) (by omega) h1 (by omega)).trans ?_
 rw [show Jx.wrap ((4:Int).tdiv 2) = 2 from by decide,Zd]
 refine (row _ 2 _ _ (by omega) (by omega) h2 (by omega)).trans ?_
 rw [show Jx.wrap ((2:Int).tdiv 2) = 1 from by decide,Zd]
 refine (row _ 1 _ _ (by omega) (by omega) h3 (by omega)).trans ?_
 rfl
theorem ZrT (s:List Int) (o:Nat) (ho:o = 2 ∨ o = 4 ∨ o = 8):(XW s o).length = o ∧ ∀ x ∈ XW s o,-1000 ≤ x ∧ x ≤ 1000:=by
 have hM0:MOk o 96 (Z2 o,(QU (Z2 o) 4 s).1,(QU (Z2 o) 4 s).2 == 0):=by
  rcases ho with rfl | rfl | rfl
  ·exact ⟨rfl,show ∀ x ∈ Z2 2,-96 ≤ x ∧ x ≤ 96 by decide⟩
  ·exact ⟨rfl,show ∀ x ∈ Z2 4,-96 ≤ x ∧ x ≤ 96 by decide⟩
  ·exact ⟨rfl,show ∀ x ∈ Z2 8,-96 ≤ x ∧ x ≤ 96 by decide⟩
 have ho8:o ≤ 8:=by omega
 have h:=Kj (s:=s) (st:=1) (by omega) ho8 (Kj (s:=s) (st:=2) (by omega) ho8 (Kj (s:=s) (st:=4) (by omega) ho8 (Kj (s:=s) (st:=8) (by omega) ho8 hM0)))
 exact ⟨h.len,fun x hx => by have:=h.bd x hx; omega⟩
end Go.Sh
