/-
  What the row needs, part 11.
-/
import Derived.Test.YtgbhjfacjekhcaaGreatDoorXStreamImports10
import Derived.ChangeArms
import Derived.ChangeShapes
import Derived.WideShapes
import Derived.ReadAgain
import Derived.Below
import Derived.ChangeSame
import Derived.RowKit
set_option linter.unusedSimpArgs false
set_option linter.unusedVariables false
set_option linter.unusedSectionVars false
open BitVec renaming ofInt→UH,ofInt_natCast→HN,toNat_ofNat→HO
open Bool renaming and_eq_true→Jh,false_eq_true→JJ,not_true→HC
open Eq renaming trans→U4
open Go.FloatKind renaming f64→Je
open Int renaming ofNat→UD,pow_pos→Hv,compare_eq_lt→HD,fdiv_eq_ediv_of_nonneg→HE,le_of_lt→HF,min_le_left→HG,min_le_right→HH,mul_sub→HI,natAbs_mul→HJ,natCast_mul→HK,neg_neg→HL,compare_eq_gt→HP,mul_lt_mul_of_pos_right→HQ,mul_neg_of_neg_of_pos→HR
open Go.IntKind renaming i64→Jx,u64→UI,u8→UK
open List renaming length_cons→JF,drop_zero→U5,all_eq_true→Ve,getElem_mem→Ha,append_nil→Vf,drop→UM,length_range→U7,mem_map→VF,range→Jc,takeWhile_cons→Hz,getElem?_eq_getElem→VN,all_cons→UA,ext_getElem→HS,foldl_cons→HT,getElem_set→HU,length_nil→HV,length_singleton→Ur,map_cons→JR,mem_cons_of_mem→Jn,mem_cons_self→Jl,of_mem_zip→Vy
open Nat renaming pow_add→Hr,pow_pos→Hs,min_eq_left→Ht,zero_le→Hu,mod_lt→UY,le_refl→Jj,mul_assoc→Hw,beq→Ja,mul_lt_mul_of_pos_right→Hx,shiftLeft_eq→Hy,pow_le_pow_right→Hf,shiftLeft_zero→HA,xor_lt_two_pow→HB,log2_eq_iff→HM,and_one_is_mod→HW,div_eq_of_lt→HX,mul_le_mul→J3,mul_le_mul_right→Jm,one_shiftLeft→HY
namespace Go.Sh
open Go Go.RowKit Go.WideShapes Go.ChangeShapes
def ZzF (P:Program) (g:TypeId → Ty → Bool):Nat → List Field → Ty → Bool
 | _,[],.unit => true
 | off,f :: l,.pair a b => Ja f.offset off && g f.type a && Ja (P.cellsOf f.type) a.size && ZzF P g (off + a.size) l b
 | _,_,_ => false
def Zd3 (P:Program):Nat → TypeId → Ty → Bool
 | 0,_,_ => false
 | n + 1,T,t => match P.underlying T,t with
  | some .bool,.bool => true
  | some (.int k),.int k' => decide (k = k')
  | some .string,.str => true
  | some (.slice e),.sl t => Zd3 P n e t && Ja (P.cellsOf e) t.size && Nat.ble 1 t.size
  | some (.struct fs),.pair a b => ZzF P (Zd3 P n) 0 fs.toList (.pair a b) && Ja (P.cellsOf T) (Ty.size (.pair a b))
  | some (.struct fs),.unit => ZzF P (Zd3 P n) 0 fs.toList .unit && Ja (P.cellsOf T) 0
  | _,_ => false
def Ty.bulk:(t:Ty) → t.den → Nat
 | .str,s => s.size + 1
 | .sl t,xs => (xs.map t.bulk).sum + 1
 | .pair a b,x => a.bulk x.1 + b.bulk x.2
 | .unit,_ => 0
 | .bool,_ => 1
 | .int _,_ => 1
 | .fl _,_ => 1
 | .cx _,_ => 1
 | .raw,_ => 1
def Ty.ok:(t:Ty) → t.den → Prop
 | .int k,n => k.min ≤ n ∧ n ≤ k.max
 | .sl t,xs => ∀ x ∈ xs,t.ok x
 | .pair a b,x => a.ok x.1 ∧ b.ok x.2
 | .bool,_ => True
 | .str,_ => True
 | .fl _,_ => True
 | .cx _,_ => True
 | .raw,_ => True
 | .unit,_ => True
mutual
def bulkD {H:Type}:DataW H → Nat
 | .lit (.string bytes) => bytes.length + 1
 | .lit _ => 1
 | .nil => 1
 | .ptr d => bulkD d + 1
 | .slice elems spare => bulkDs elems + bulkDs spare + 1
 | .agg parts => bulkDs parts + 1
 | .iface _ d => bulkD d + 1
 | .map entries => bulkEs entries + 1
 | .held _ => 1
def bulkDs {H:Type}:List (DataW H) → Nat
 | [] => 0
 | d :: r => bulkD d + bulkDs r
def bulkEs {H:Type}:List (Lit × DataW H) → Nat
 | [] => 0
 | x :: r => bulkE x + bulkEs r
def bulkE {H:Type}:Lit × DataW H → Nat
 | (.string bytes,d) => bytes.length + bulkD d + 1
 | (_,d) => bulkD d + 1
end
def whole (w:World) (b:Nat):Nat:=match w.heap[b]? with
 | some (.cells c _ _) => c.size
 | _ => 0
theorem ZAw {w:World} {b o:Nat} {v:Value} (h:w.cell? ⟨b,o,none⟩ = some v):o < whole w b:=by
 unfold World.cell? at h
 unfold whole
 split at h
 ·rename_i c _ _ hb
  simp only at hb
  rw [hb]
  simp only [Option.isSome_none,JJ,if_false] at h
  exact (Array.getElem?_eq_some_iff.1 h).1
 ·cases h
theorem ZQk (w:World):∀ b,w.heap.size ≤ b → whole w b = 0:=by
 intro b hb
 unfold whole
 rw [Array.getElem?_eq_none hb]
theorem cells?_at {w:World} {base n:Nat} {a:Addr} {cs:List Value} (h:w.cells? base a n = some cs):cs.length = n ∧ ∀ i v,cs[i]? = some v → w.cell? (a.add i) = some v:=by
 unfold World.cells? at h
 split at h
 ·have hl:=mapM_some_length h
  simp only [U7] at hl
  refine ⟨hl,fun i v hi => ?_⟩
  have hlt:i < n:=by have:=(List.getElem?_eq_some_iff.1 hi).1; omega
  have:=mapM_some_get h i i (by simp [hlt])
  rw [this,hi]
 ·cases h
section
variable {H:Type} {enc:TypeId × Value → H} {P:Program} {w:World} {base:Nat} {spare:Nat → Bool} {held:Bool}
theorem ZtX {n n':Nat} (ih:∀ (T:TypeId) (t:Ty) (cs:List Value) (x:DataW H × List MemPlace),Zd3 P n T t = true → DataW.trod enc P w base spare held n' T cs = some x → ∃ y,Rt w (whole w) t y cs ∧ t.ok y ∧ t.bulk y ≤ bulkD x.1) :
  ∀ (l:List Field) (t:Ty) (off:Nat) (cs:List Value) (xs:List (DataW H × List MemPlace)),ZzF P (Zd3 P n) off l t = true → cs.length = off + t.size →
   (∀ (i:Nat) (f:Field),l[i]? = some f → DataW.trod enc P w base spare held n' f.type ((cs.drop f.offset).take (P.cellsOf f.type)) = xs[i]?) → xs.length = l.length →
   ∃ y,Rt w (whole w) t y (cs.drop off) ∧ t.ok y ∧ t.bulk y ≤ bulkDs (xs.map (·.1))
 | [],t,off,cs,xs,h,hl,hx,hn => by
  match t,h with
  | .unit,h =>
   refine ⟨(),?_,trivial,Hu _⟩
   simp only [Rt,List.drop_eq_nil_iff]
   simp [Ty.size] at hl; omega
 | f :: l,t,off,cs,xs,h,hl,hx,hn => by
  match t,h with
  | .pair a b,h =>
   simp only [ZzF,Jh] at h
   obtain ⟨⟨⟨h1,h2⟩,h3⟩,h4⟩:=h
   match xs,hn with
   | x :: xs,hn =>
    have h0:=hx 0 f rfl
    rw [beq_eq h1,beq_eq h3] at h0
    simp only [List.getElem?_cons_zero] at h0
    obtain ⟨y,e1,e2,e3⟩:=ih f.type a _ x h2 h0
    simp only [Ty.size] at hl
    obtain ⟨z,g1,g2,g3⟩:=ZtX ih l b (off + a.size) cs xs h4 (by omega) (fun i f' hf' => by simpa using hx (i + 1) f' (by simpa using hf')) (by simpa using hn)
    refine ⟨(y,z),?_,⟨e2,g2⟩,?_⟩
    ·simp only [Rt]
     refine ⟨_,_,?_,e1,g1⟩
     rw [← List.drop_drop,List.take_append_drop]
    ·simp only [Ty.bulk,JR,bulkDs]; omega
theorem ZhX:∀ (n m:Nat) (T:TypeId) (t:Ty) (cs:List Value) (x:DataW H × List MemPlace),Zd3 P m T t = true → DataW.trod enc P w base spare held n T cs = some x →
  ∃ y,Rt w (whole w) t y cs ∧ t.ok y ∧ t.bulk y ≤ bulkD x.1
 | 0,_,_,_,_,_,_,h => by simp [DataW.trod] at h
 | n + 1,0,_,_,_,_,hf,_ => by simp [Zd3] at hf
 | n + 1,m + 1,T,t,cs,x,hf,h => by
  unfold Zd3 at hf
  split at hf
  ·rename_i hu
   obtain ⟨b,rfl,rfl⟩:=DataW.trod_bool hu h
   exact ⟨b,rfl,trivial,Jj _⟩
  ·rename_i k k' hu
   obtain rfl:k = k':=of_decide_eq_true hf
   obtain ⟨v,rfl,rfl,hw⟩:=DataW.trod_int hu h
   refine ⟨v,rfl,?_,Jj _⟩
   simpa [Ty.ok,Lit.wf] using hw
  ·rename_i hu
   obtain ⟨s,rfl,rfl,_⟩:=DataW.trod_string hu h
   refine ⟨s,rfl,trivial,?_⟩
   simp only [Ty.bulk,bulkD,Array.length_toList]
   exact Jj _
  ·rename_i e t hu
   simp only [Jh] at hf
   obtain ⟨⟨hf,hsz⟩,hpos⟩:=hf
   have hsz:=beq_eq hsz
   have hpos:1 ≤ t.size:=Nat.le_of_ble_eq_true hpos
   rcases DataW.trod_slice hu h with ⟨rfl,rfl⟩ | ⟨a,len,cap,elems,rest,n',hn',rfl,rfl,hb,hlc,_,hlen,hel,_⟩
   ·refine ⟨[],?_,(by simp [Ty.ok]:Ty.ok (.sl t) []),(by simp [Ty.bulk,bulkD])⟩
    simp only [Rt]
    exact ⟨none,0,0,rfl,rfl,Jj _,.inl trivial⟩
   ·obtain rfl:n' = n:=by omega
    have each:∀ i (hi:i < elems.length),∃ cs',w.cells? base (a.add (i * P.cellsOf e)) (P.cellsOf e) = some cs' ∧ ∃ y,Rt w (whole w) t y cs' ∧ t.ok y ∧ t.bulk y ≤ bulkD elems[i].1:=by
     intro i hi
     have h1:=hel i (by omega)
     rw [VN hi] at h1
     obtain ⟨cs',h2,h3⟩:=Option.bind_eq_some_iff.1 h1
     exact ⟨cs',h2,ZhX n' m e t cs' _ hf h3⟩
    -- the list
    have all:∀ (l:List (DataW H × List MemPlace)),(∀ i (hi:i < l.length),∃ y,(∃ cs',w.cells? base (a.add ((elems.length - l.length + i) * P.cellsOf e)) (P.cellsOf e) = some cs' ∧ Rt w (whole w) t y cs') ∧ t.ok y ∧ t.bulk y ≤ bulkD l[i].1) →
      l.length ≤ elems.length → ∃ ys:List t.den,ys.length = l.length ∧ (∀ y ∈ ys,t.ok y) ∧ (ys.map t.bulk).sum ≤ bulkDs (l.map (·.1)) ∧
       ∀ i (hi:i < ys.length),∃ cs',w.cells? base (a.add ((elems.length - l.length + i) * P.cellsOf e)) (P.cellsOf e) = some cs' ∧ Rt w (whole w) t ys[i] cs':=by
     intro l
     induction l with
     | nil => intro _ _; exact ⟨[],rfl,by simp,by simp [bulkDs],fun i hi => by simp at hi⟩
     | cons p l ih =>
      intro hp hle
      simp only [JF] at hle
      obtain ⟨y,⟨cs',c1,c2⟩,y1,y2⟩:=hp 0 (by simp)
      obtain ⟨ys,k1,k2,k3,k4⟩:=ih (fun i hi => by
       obtain ⟨y,⟨cs',c1,c2⟩,y1,y2⟩:=hp (i + 1) (by simpa using hi)
       refine ⟨y,⟨cs',?_,c2⟩,y1,by simpa using y2⟩
       rw [← c1]; congr 3; simp only [JF]; omega) (by omega)
      refine ⟨y :: ys,by simp [k1],?_,?_,?_⟩
      ·intro z hz
       rcases List.mem_cons.1 hz with rfl | hz
       ·exact y1
       ·exact k2 z hz
      ·simp only [JR,List.sum_cons,bulkDs]
       simp only [List.getElem_cons_zero] at y2
       omega
      ·intro i hi
       cases i with
       | zero => exact ⟨cs',c1,c2⟩
       | succ i =>
        obtain ⟨cs'',d1,d2⟩:=k4 i (by simpa using hi)
        refine ⟨cs'',?_,by simpa using d2⟩
        rw [← d1]; congr 3; simp only [JF]; omega
    obtain ⟨ys,k1,k2,k3,k4⟩:=all elems (fun i hi => by
     obtain ⟨cs',c1,y,c2,c3,c4⟩:=each i hi
     exact ⟨y,⟨cs',by simpa using c1,c2⟩,c3,c4⟩) (Jj _)
    simp only [Nat.sub_self,Nat.zero_add] at k4
    refine ⟨ys,?_,k2,?_⟩
    ·simp only [Rt]
     refine ⟨some a,len,cap,rfl,by omega,hlc,?_⟩
     by_cases hnil:ys = []
     ·exact .inl hnil
     ·right
      have h0:0 < ys.length:=List.length_pos_iff.2 hnil
      obtain ⟨c0,z1,z2⟩:=k4 0 h0
      obtain ⟨zl,zc⟩:=cells?_at z1
      obtain ⟨v0,hv0⟩:∃ v0,c0[0]? = some v0:=⟨c0[0]'(by omega),VN _⟩
      have hs:=zc 0 v0 hv0
      simp only [Nat.zero_mul,Addr.add,if_true] at hs
      obtain ⟨b,off,spot⟩:=a
      have hspot:spot = none:=by
       cases spot with
       | none => rfl
       | some s =>
        unfold World.cell? at hs
        split at hs
        ·simp at hs
        ·cases hs
      subst hspot
      refine ⟨b,off,rfl,fun i hi => ?_⟩
      obtain ⟨cs',d1,d2⟩:=k4 i hi
      refine ⟨cs',d2,fun j v hj => ?_⟩
      obtain ⟨_,zc⟩:=cells?_at d1
      have hc:=zc j v hj
      have e:((⟨b,off,none⟩:Addr).add (i * P.cellsOf e)).add j = ⟨b,off + i * t.size + j,none⟩:=by
       rw [hsz]
       unfold Addr.add
       split <;> split <;> simp_all <;> omega
      rw [e] at hc
      exact ⟨hc,ZAw hc⟩
    ·simp only [Ty.bulk,bulkD]
     omega
  ·rename_i fs a b hu
   simp only [Jh] at hf
   obtain ⟨hf,hsz⟩:=hf
   obtain ⟨xs,n',hn',rfl,hl,hxs,hget⟩:=DataW.trod_struct hu h
   obtain rfl:n' = n:=by omega
   obtain ⟨y,e1,e2,e3⟩:=ZtX (n:=m) (n':=n') (fun T t cs x h1 h2 => ZhX n' m T t cs x h1 h2) fs.toList (.pair a b) 0 cs xs hf (by rw [hl,beq_eq hsz]; omega) (fun i f hi => hget i f (by simpa using hi)) (by simpa using hxs)
   exact ⟨y,by simpa using e1,e2,by simp only [bulkD]; omega⟩
  ·rename_i fs hu
   simp only [Jh] at hf
   obtain ⟨hf,hsz⟩:=hf
   obtain ⟨xs,n',hn',rfl,hl,hxs,hget⟩:=DataW.trod_struct hu h
   refine ⟨(),?_,trivial,Hu _⟩
   simp only [Rt]
   rw [beq_eq hsz] at hl
   exact List.length_eq_zero_iff.1 hl
  ·cases hf
end
end Go.Sh
namespace Go.Sh
open Go Go.RowKit Go.WideShapes Go.ChangeShapes
def W4 (tys:List Ty):List Kd:=tys.map .view
def ZF8:(tys:List Ty) → Kd.dens (W4 tys) → Prop
 | [],_ => True
 | t :: l,x => t.ok x.1 ∧ ZF8 l x.2
def Zic:(tys:List Ty) → Kd.dens (W4 tys) → Nat
 | [],_ => 0
 | t :: l,x => t.bulk x.1 + Zic l x.2
def ZbL (P:Program):List TypeId → List Ty → Bool
 | [],[] => true
 | T :: Ts,t :: ts => Zd3 P 16 T t && ZbL P Ts ts
 | _,_ => false
section
variable {H:Type} {enc:TypeId × Value → H} {P:Program} {w:World} {base:Nat} {spare:Nat → Bool} {held:Bool}
theorem Zbh {v:Value} (h:∀ cs,v ≠ .agg cs):v.cells = #[v]:=by
 cases v <;> first | rfl | (exact absurd rfl (h _))
theorem Zxj {b0 n:Nat} {r:Reach} {T:TypeId} {t:Ty} {v:Value} {d:DataW H} {ps:List MemPlace} (hval:Value.okWide P w r b0 T v) (h:DataW.Trod enc P w base spare held T v d ps) (hf:Zd3 P n T t = true) :
  ∃ y,Zkl w (whole w) t y v ∧ t.ok y ∧ t.bulk y ≤ bulkD d:=by
 obtain ⟨m,hm⟩:=h
 obtain ⟨y,h1,h2,h3⟩:=ZhX m n T t _ _ hf hm
 refine ⟨y,⟨_,h1,?_⟩,h2,h3⟩
 cases n with
 | zero => simp [Zd3] at hf
 | succ n =>
  unfold Value.okWide at hval
  unfold Zd3 at hf
  split at hf <;> rename_i hu <;> try (cases hf; done)
  all_goals
   rw [hu] at hval
   simp only at hval
  ·refine .inr ⟨rfl,?_⟩
   rw [Zbh]; rintro cs rfl; simp [Cell.okWide,Cell.ok,hu] at hval
  ·refine .inr ⟨rfl,?_⟩
   rw [Zbh]; rintro cs rfl; simp [Cell.okWide,Cell.ok,hu] at hval
  ·refine .inr ⟨rfl,?_⟩
   rw [Zbh]; rintro cs rfl; simp [Cell.okWide,Cell.ok,hu] at hval
  ·refine .inr ⟨rfl,?_⟩
   rw [Zbh]; rintro cs rfl; simp [Cell.okWide,Cell.ok,hu] at hval
  ·obtain ⟨cs,rfl,_⟩:=hval
   exact .inl ⟨rfl,rfl⟩
  ·obtain ⟨cs,rfl,_⟩:=hval
   exact .inl ⟨rfl,rfl⟩
theorem ZfY {b0:Nat} {r:Reach}:∀ {Ts:List TypeId} {tys:List Ty} {vs:List Value} {ds:List (DataW H)} {ps:List MemPlace},ZbL P Ts tys = true →
  (∀ (j:Nat) t v,Ts[j]? = some t → vs[j]? = some v → Value.okWide P w r b0 t v) → DataW.TrodAll enc P w base spare held Ts vs ds ps →
  ∃ x:Kd.dens (W4 tys),TTs w (whole w) (Wp (W4 tys) x) vs [] ∧ ZF8 tys x ∧ Zic tys x ≤ bulkDs ds
 | [],[],vs,ds,ps,_,_,h => by
  obtain ⟨rfl,rfl,rfl⟩:=trodAll_nil h
  exact ⟨(),rfl,trivial,Jj _⟩
 | T :: Ts,t :: tys,vs,ds,ps,hf,hval,h => by
  simp only [ZbL,Jh] at hf
  obtain ⟨v,vs',d,ds',p,q,rfl,rfl,rfl,h1,h2⟩:=trodAll_cons h
  obtain ⟨y,e1,e2,e3⟩:=Zxj (hval 0 T v rfl rfl) h1 hf.1
  obtain ⟨x,g1,g2,g3⟩:=ZfY hf.2 (fun j t v ht hv => hval (j + 1) t v (by simpa using ht) (by simpa using hv)) h2
  refine ⟨(y,x),?_,⟨e2,g2⟩,?_⟩
  ·exact ⟨[],[],rfl,⟨e1,rfl⟩,g1⟩
  ·simp only [Zic,bulkDs]; omega
 | [],_ :: _,_,_,_,hf,_,_ => by simp [ZbL] at hf
 | _ :: _,[],_,_,_,hf,_,_ => by simp [ZbL] at hf
end
section
variable {H:Type} {enc:TypeId × Value → H} {P:Program}
theorem Zrb {f:Func} {s:ChangeSpec} {apart fresh handsOn again:Bool} {W W':World} {args:Array Value} {v:Value} {ds gs:List (DataW H)} {before pa pv:List MemPlace}
  (hW:DataW.Whole enc P f.params.toList s.vars apart W args.toList ds gs before)
  (hres:∀ (b:Nat) (sp:Nat → Bool) (hd:Bool),DataW.TrodAll enc P W' b sp hd f.resultTypes.toList (v.resultList f.resultTypes.size) (s.fn H (ds ++ gs)).results [])
  (hargs:∀ sp:Nat → Bool,(∀ p ∈ before,sp p.block = true) → DataW.TrodAll enc P W' 0 sp true f.params.toList args.toList (s.fn H (ds ++ gs)).args pa)
  (hvars:∀ sp:Nat → Bool,(∀ p ∈ before,sp p.block = true) → DataW.TrodVars enc P W' sp s.vars (s.fn H (ds ++ gs)).vars pv)
  (hps:before = pa ++ pv) (hb:Below W.heap.size W W')
  (hok:∀ (j:Nat) (t:TypeId) (r:Value),f.resultTypes[j]? = some t → (v.resultList f.resultTypes.size)[j]? = some r → Value.okWide P W' .any 0 t r) :
  s.post enc P f apart fresh handsOn again W args v W':=by
 have hlt:∀ p ∈ before,p.block < W.heap.size:=fun p hp => hW.lt p hp
 have hold:∀ p ∈ before,(fun b => decide (b < W.heap.size)) p.block = true:=fun p hp => by simpa using hlt p hp
 refine ⟨ds,gs,before,[],pa,pv,hW,hres _ _ _,hargs _ hold,hvars _ hold,World.keptBut_mono (fun p hp => ⟨hp,?_⟩) (hb.frame (· ∈ before)),fun _ => ?_⟩
 ·rw [hps,List.mem_append] at hp
  exact Or.inr hp
 ·obtain ⟨_,_,_,_,_,hz,hn⟩:=hW
  refine ⟨hok,_,_,([] ++ pa) ++ pv,⟨[] ++ pa,pv,trodAll_append (hargs _ (fun _ _ => rfl)) (hres _ _ _),hvars _ (fun _ _ => rfl),rfl,?_,?_⟩,?_⟩
  ·intro b off hp
   have hin:MemPlace.cell b off ∈ before:=by rw [hps]; simpa using hp
   rw [hb.frozen (hlt _ hin)]
   exact hz b off hin
  ·intro ha
   have:=hn ha
   rw [hps] at this
   simpa using this
  ·intro p hp _
   rw [hps]
   simpa using hp
theorem Zg9 {w w':World} {base:Nat} {spare:Nat → Bool} {held:Bool}:∀ {ts:List TypeId} {vs:List Value} {ds:List (DataW H)} {ps:List MemPlace},
  DataW.TrodAll enc P w base spare held ts vs ds ps → (∀ p ∈ ps,w.sameAt w' p) → DataW.TrodAll enc P w' base spare held ts vs ds ps
 | [],[],[],_,h,_ => h
 | _ :: _,_ :: _,_ :: _,_,⟨p,q,⟨n,h1⟩,h2,e⟩,hs => ⟨p,q,⟨n,DataW.trod_carry n _ _ _ h1 (fun x hx => hs x (by rw [e]; exact List.mem_append_left _ hx))⟩,
   Zg9 h2 (fun x hx => hs x (by rw [e]; exact List.mem_append_right _ hx)),e⟩
variable [Gl]
theorem law_contract {K:FuncId} {fn:Func} {spec:ChangeSpec} {B:TypeId} (tys:List Ty) {F:Nat → Kd.dens (W4 tys) → Option (Ans (W4 tys) (.view .bool))} {bound:Nat}
  (hl:laidOutB P = true) (hm:mapsRowed P = true) (hz:((Jc P.types.size).all fun t => match P.underlying t with | some (.slice e) => decide (0 < P.cellsOf e) | _ => true) = true)
  (hts:fn.params.toList.all (fun t => decide (t < P.types.size)) = true) (hfit:ZbL P fn.params.toList tys = true) (hres:fn.resultTypes = #[B]) (hB:P.underlying B = some .bool)
  (hvars:spec.vars = []) (hspec:∀ (H:Type) (ds:List (DataW H)),ds.length = tys.length → spec.fn H ds = { results:=[.lit (.bool true)],args:=ds })
  (hctr:∀ k,Ctr P k K (mk (W4 tys) (.view .bool) F)) (plain:∀ x:Kd.dens (W4 tys),ZF8 tys x → Zic tys x ≤ bound → ∃ k u,F k x = some (true,u))
  (enc:TypeId × Value → H) (W:World) (b0:Nat) (args:Array Value) (ds gs:List (DataW H)) (before:List MemPlace)
  (hval:∀ (j:Nat) t v,fn.params[j]? = some t → args[j]? = some v → Value.okWide P W .any b0 t v)
  (hW:DataW.Whole enc P fn.params.toList spec.vars false W args.toList ds gs before) (hk:bulkDs (ds ++ gs) ≤ bound) (hgl:Zt9 W (whole W)) :
  Calls P K args W fun e W' => ∃ v,e = .returned v ∧ spec.post enc P fn false true false false W args v W':=by
 have hW':=hW
 obtain ⟨p,q,hA,hV,he,hfz,hnd⟩:=hW
 rw [hvars] at hV
 have hgs:gs = [] ∧ q = []:=by
  match gs,hV with
  | [],hV => exact ⟨rfl,hV⟩
  | _ :: _,hV => exact hV.elim
 obtain ⟨rfl,rfl⟩:=hgs
 simp only [Vf] at he hk
 obtain rfl:p = before:=he.symm
 obtain ⟨x,h1,h2,h3⟩:=ZfY (tys:=tys) hfit (fun j t v ht hv => hval j t v (by simpa using ht) (by simpa using hv)) hA
 obtain ⟨k,u,hF⟩:=plain x h2 (by omega)
 have hlen:ds.length = tys.length:=by
  have e1:∀ {Ts:List TypeId} {tys:List Ty} {vs:List Value} {ds:List (DataW H)} {ps:List MemPlace},ZbL P Ts tys = true → DataW.TrodAll enc P W 0 (fun _ => true) true Ts vs ds ps → ds.length = tys.length:=by
   intro Ts
   induction Ts with
   | nil =>
    intro tys vs ds ps hf h
    obtain ⟨rfl,rfl,rfl⟩:=trodAll_nil h
    cases tys with
    | nil => rfl
    | cons => simp [ZbL] at hf
   | cons T Ts ih =>
    intro tys vs ds ps hf h
    obtain ⟨v,vs',d,ds',p,q,rfl,rfl,rfl,h1,h2⟩:=trodAll_cons h
    cases tys with
    | nil => simp [ZbL] at hf
    | cons t tys =>
     simp only [ZbL,Jh] at hf
     simp [ih hf.2 h2]
  exact e1 hfit hA
 have hcall:=(hctr k).calls (Wp (W4 tys) x) (true,u) (by
  have hd:Zc1 (W4 tys) (Wp (W4 tys) x) = some x:=by
   have e2:∀ (l:List Ty) (x:Kd.dens (W4 l)),Zc1 (W4 l) (Wp (W4 l) x) = some x:=by
    intro l
    induction l with
    | nil => intro x; rfl
    | cons t l ih =>
     intro x
     obtain ⟨y,ys⟩:=x
     show ((Zku t (.view t y)).bind fun y => (Zc1 (W4 l) (Wp (W4 l) ys)).bind fun ys => some (y,ys)) = _
     rw [ih ys]
     simp only [Zku,dite_true]
     rfl
   exact e2 tys x
  show (Zc1 (W4 tys) (Wp (W4 tys) x)).bind (F k) = some (true,u)
  rw [hd]; exact hF) W (whole W) args.toList [] (ZQk W) hgl h1 List.nodup_nil (by simp)
 rw [Array.toArray_toList] at hcall
 refine hcall.mono fun e W' h => ?_
 obtain ⟨v,lim',b1,b2,rfl,hE,_,⟨ho,ht,hout⟩,hold,hT,_⟩:=h
 have hv:v = .bool true:=by
  have hT:Zkl W' lim' .bool true v ∧ b1 = []:=hT
  obtain ⟨⟨cs,c1,c2⟩,_⟩:=hT
  rcases c2 with ⟨c2,_⟩ | ⟨_,c2⟩
  ·cases c2
  ·simp only [Rt] at c1
   subst c2
   simpa using c1
 subst hv
 have hBel:Below W.heap.size W W':=⟨ho,ht,hout,hE.size,fun b hb => (hold b hb (by simp)).1⟩
 have hlt:∀ x ∈ p,x.block < W.heap.size:=fun x hx => hW'.lt x hx
 refine ⟨_,rfl,Zrb (pa:=p) (pv:=[]) hW' (fun b sp hd => ?_) (fun sp hsp => ?_) (fun sp hsp => ?_) (by simp) hBel ?_⟩
 ·rw [Vf,hspec H ds hlen,hres]
  exact ⟨[],[],⟨1,by simp [DataW.trod,Value.cells,hB]⟩,rfl,rfl⟩
 ·rw [Vf,hspec H ds hlen]
  refine Zg9 (w:=W) (DataW.TrodAll.respare (kids_rows hl hm) (slices_full_of P hz) (fun t ht => ?_) hA hsp) (fun y hy => hBel.same (hlt y hy))
  simpa using Ve.1 hts t ht
 ·rw [Vf,hspec H ds hlen,hvars]
  rfl
 ·exact ok_one hres rfl (okWide_bool_mk hB true)
end
end Go.Sh
namespace Go.Sh
open Go Go.Proofs
section doc
variable {k:Nat} {c d r:Int} {tags:List ByteArray} {ch:List (List Int)} {n:Nat}
abbrev L1D:=Int × Int × Int × Int × Int × List ByteArray × List (List Int) × List Int → Option (ByteArray × Unit)
abbrev L2D:=Int × Int × Int × Int × Int × Int × List ByteArray × List (List Int) × List Int → Option (ByteArray × Unit)
theorem ZY5 (x:Int) (j:Nat) (hj:j < 8):UK.wrap (Int.fdiv x ((2:Int) ^ min (Jx.wrap ((8:Int) * (j:Int))).toNat 64)) = ((Zd1 x j:Nat):Int):=by
 have e:Jx.wrap ((8:Int) * (j:Int)) = ((8 * j:Nat):Int):=by rw [ZG (by omega)]; omega
 rw [e]; exact ZYF x j hj
theorem ZEF {nb:Nat} (hnb:nb ≤ 3) (L1:L1D) (L2:L2D) (x ci i:Int):∀ (m j fuel:Nat) (acc:List Nat),j + m = nb → m < fuel → acc.length + m < 1000000000 →
  Zg (fun L3 => Zam k L1 L2 L3) fuel ((j:Int),(nb:Int),x,ci,i,Zj acc,c,d,r,tags,ch) =
   L2 (Jx.wrap (ci + 1),i,(nb:Int),c,d,r,tags,ch,Zj (acc ++ Q7 x j m))
 | 0,j,fuel + 1,acc,h1,h2,h3 => by
  rw [Zc]
  grind [Zam,Q7]
 | m + 1,j,fuel + 1,acc,h1,h2,h3 => by
  rw [Zc]
  simp only [Zam]
  have hj:j < 8:=by omega
  have e:(0:Int) ≤ Jx.wrap ((8:Int) * (j:Int)):=by rw [ZG (by omega)]; omega
  rw [Za (by omega),Za e]
  simp only [ZY5 _ j hj]
  rw [ZC,Za (by simp; omega),Zkm (by omega),show Zj acc ++ [(Zd1 x j:Int)] = Zj (acc ++ [Zd1 x j]) by rw [QO]; rfl]
  rw [ZEF hnb L1 L2 x ci i m (j + 1) fuel (acc ++ [Zd1 x j]) (by omega) (by omega) (by simp; omega)]
  simp [Q7]
 | 0,_,0,_,_,h2,_ => absurd h2 (Nat.lt_irrefl _)
 | m + 1,_,0,_,_,h2,_ => absurd h2 (Nat.not_lt_zero _)
theorem ZRM (hk:100 ≤ k) (hg:Good0 c d ch n) (L1:L1D) (i:Nat) (hi:i < n) (acc:List Nat) (ha:acc.length < 900000000) :
  ZeM k L1 ((0:Int),(i:Int),((nbD d:Nat):Int),c,d,r,tags,ch,Zj acc) = L1 (Jx.wrap ((i:Int) + 1),((nbD d:Nat):Int),c,d,r,tags,ch,Zj (acc ++ Zl1 (nbD d) ch i)):=by
 have hnb:=ZwR hg.d4
 have hc:=hg.c1
 have key:=ZF (A:=List Nat) (step:=fun L2 => Zal k (ZiK k L1 L2) L1 L2) (fun q a => (UD q,(i:Int),((nbD d:Nat):Int),c,d,r,tags,ch,Zj a)) ch
  (fun rest a => L1 (Jx.wrap ((i:Int) + 1),((nbD d:Nat):Int),c,d,r,tags,ch,Zj (a ++ rest.flatMap fun c => Q7 (c.getD i 0) 0 (nbD d)))) (fun q a => a.length ≤ acc.length + 3 * q)
  (fun L a _ => by
   grind [Zal])
  (fun L q hq a hI hL => by
   simp only [Zal]
   have hl:=hg.len _ (Ha hq)
   rw [Za (KN hq),Za (Xd hq),ZL hq,hl,Za (by simp only [WH]; omega),tNc]
   have h3:=ZEF (k:=k) (c:=c) (d:=d) (r:=r) (tags:=tags) (ch:=ch) hnb.1 L1 L (ch[q].getD i 0) (UD q) (i:Int) (nbD d) 0 k a (by omega) (by omega) (by omega)
   refine U4 h3 ?_
   rw [Qa hq (by omega),hL _ (by simp [Xb]; omega),List.flatMap_cons,List.append_assoc])
  k 0 acc (by omega) (by omega) (by omega)
 rw [U5] at key
 exact key
theorem ZBY (hk:16777216 ≤ k) (h0:chk c d r tags ch = 0):Zvd k (((c,d,r,()),tags,ch,()),()) = some (Wa (Zr3 (Za8 (nbD d) ch (ch.getD 0 []).length)),()):=by
 show Zdk k _ _ = _
 simp only [Zdk]
 obtain ⟨hg,-⟩:=Zep h0
 generalize hn:(ch.getD 0 []).length = n at hg
 have hnb:=ZwR hg.d4
 have hd:=hg.d4
 have hc:=hg.c1
 have hn4:=hg.n4
 have hmul:∀ i,i * (ch.length * nbD d) ≤ i * 6:=fun i => Nat.mul_le_mul_left i (Nat.le_trans (J3 hc.2 hnb.1) (by omega))
 have en:Jx.wrap ((Jx.wrap (d + 7)).tdiv 8) = ((nbD d:Nat):Int):=by
  unfold nbD
  rw [ZG (n:=d + 7) (by omega),Int.tdiv_eq_ediv_of_nonneg (by omega),ZG (by omega)]; omega
 rw [en]
 have key:=ZF (A:=List Nat) (step:=fun L1 => Zak k (ZeM k L1) L1) (fun q a => (UD q,((nbD d:Nat):Int),c,d,r,tags,ch,Zj a)) (Jc n)
  (fun rest a => (ZnU k (Wa (a ++ rest.flatMap (Zl1 (nbD d) ch)),())).bind fun y => some (y.1,())) (fun q a => a.length = q * (ch.length * nbD d))
  (fun L a _ => by
   grind [Zak,U7,WH,Wa])
  (fun L q hq a hI hL => by
   rw [U7] at hq
   simp only [Zak]
   have:=hmul q
   rw [Za (by simp only [WH]; omega),hn,Za (KN hq)]
   refine U4 (ZRM (by omega) hg L q hq a (by omega)) ?_
   rw [show Jx.wrap ((q:Int) + 1) = UD (q + 1) from Qa hq (by omega)]
   have hq6:(Zl1 (nbD d) ch q).length = ch.length * nbD d:=by unfold Zl1; exact Zcz fun c _ => Xb _ _ _
   grind)
  k 0 [] (by simp) (by rw [U7]; omega) (by omega)
 rw [U5,List.nil_append] at key
 refine U4 key ?_
 have hl:=ZAi (nbD d) ch n
 have:=hmul n
 have hs:(Wa (Za8 (nbD d) ch n)).size = (Za8 (nbD d) ch n).length:=by rw [← Zab,ZhL (ZDH _ _ _)]
 rw [show (Jc n).flatMap (Zl1 (nbD d) ch) = Za8 (nbD d) ch n from rfl,ZCp (by omega) (by omega) (by omega),ZhL (ZDH _ _ _)]
 rfl
end doc
theorem ZPo:Ziw 20000000 () = some (true,()):=by kernel_rfl
end Go.Sh
namespace Go.Sh
open Go Go.Proofs
def Zb (n:Nat):Nat → List Bool
 | 0 => []
 | w + 1 => n.testBit w :: Zb n w
theorem Zi (n:Nat):∀ w,(Zb n w).length = w
 | 0 => rfl
 | w + 1 => by simp [Zb,Zi n w]
def Yj (f:Nat → Bool):Nat:=(f 0).toNat * 128 + (f 1).toNat * 64 + (f 2).toNat * 32 + (f 3).toNat * 16 + (f 4).toNat * 8 + (f 5).toNat * 4 + (f 6).toNat * 2 + (f 7).toNat
def WW (bs:List Bool) (i:Nat):Nat:=Yj fun j => bs.getD (8 * i + j) false
def Z3 (bs:List Bool):List Int:=(Jc ((bs.length + 7) / 8)).map fun i => ((WW bs i:Nat):Int)
theorem QL (bs:List Bool):(Z3 bs).length = (bs.length + 7) / 8:=by simp [Z3]
theorem XU {bs:List Bool} {i:Nat} (h:i < (Z3 bs).length):(Z3 bs)[i] = ((WW bs i:Nat):Int):=by simp [Z3]
theorem ZoF (f:Nat → Bool):Yj f < 256:=by
 unfold Yj
 cases f 0 <;> cases f 1 <;> cases f 2 <;> cases f 3 <;> cases f 4 <;> cases f 5 <;> cases f 6 <;> cases f 7 <;> decide
abbrev wst (bs:List Bool):List Int × Int × Unit:=(Z3 bs,(bs.length:Int),())
def orB (v:Int) (r:Nat) (x:Int):Int:=UK.wrap (UD (UH 8 v ||| UH 8 (UK.wrap (Jx.wrap (x * (2:Int) ^ min (7 - r) 64)))).toNat)
theorem ZS8:∀ (r:Fin 8) (v:Fin 256) (c:Bool),v.val % 2 ^ (8 - r.val) = 0 → orB (v.val:Int) r.val (if c then 1 else 0) = ((v.val + c.toNat * 2 ^ (7 - r.val):Nat):Int):=by
 decide +kernel
theorem ZGI {f:Nat → Bool} {r:Nat} (hr:r < 8) (hf:∀ j,r ≤ j → f j = false):Yj f % 2 ^ (8 - r) = 0:=by
 unfold Yj
 grind
theorem ZGJ {f:Nat → Bool} {r:Nat} (hr:r < 8) (hf:f r = false) (c:Bool):Yj (fun j => if j = r then c else f j) = Yj f + c.toNat * 2 ^ (7 - r):=by
 unfold Yj
 grind
theorem ZoE {bs:List Bool} (c:Bool) {i:Nat} (h:8 * i + 8 ≤ bs.length):WW (bs ++ [c]) i = WW bs i:=by
 unfold WW Yj
 grind
theorem ZoD {bs:List Bool} (c:Bool) {i r:Nat} (hr:r < 8) (h:bs.length = 8 * i + r):WW (bs ++ [c]) i = WW bs i + c.toNat * 2 ^ (7 - r):=by
 have h2:(bs.getD (8 * i + r) false) = false:=by simp_all
 unfold WW
 rw [← ZGJ (f:=fun j => bs.getD (8 * i + j) false) hr h2 c]
 grind
theorem ZAW {bs:List Bool} {i r:Nat} (hr:r < 8) (h:bs.length = 8 * i + r):WW bs i % 2 ^ (8 - r) = 0:=by
 refine ZGI hr fun j hj => ?_
 simp_all
theorem ZrC (n:Nat):((n:Int)).tdiv 8 = ((n / 8:Nat):Int):=by rfl
theorem ZP8 (n:Nat):((n:Int)).tmod 8 = ((n % 8:Nat):Int):=by rfl
theorem Zr9 {bs:List Bool} (c:Bool) {q r:Nat} (hr:r < 8) (h0:r ≠ 0) (h:bs.length = 8 * q + r) :
  Z3 (bs ++ [c]) = (Z3 bs).set q ((WW bs q + c.toNat * 2 ^ (7 - r):Nat):Int):=by
 have hl1:(Z3 bs).length = q + 1:=by rw [QL]; omega
 have hl2:(Z3 (bs ++ [c])).length = q + 1:=by rw [QL,Xj,Ur]; omega
 apply HS
 ·rw [List.length_set,hl1,hl2]
 ·intro i h1 h2
  rw [XU,HU]
  split
  ·rename_i e; subst e; rw [ZoD c hr h]
  ·rw [XU,ZoE c (by omega)]
theorem Zr8 {bs:List Bool} (c:Bool) {q:Nat} (h:bs.length = 8 * q) :
  Z3 (bs ++ [c]) = (Z3 bs ++ [0]).set q ((c.toNat * 2 ^ 7:Nat):Int):=by
 have hl1:(Z3 bs).length = q:=by rw [QL]; omega
 have hl2:(Z3 (bs ++ [c])).length = q + 1:=by rw [QL,Xj,Ur]; omega
 have hz:WW bs q = 0:=by
  unfold WW Yj
  simp_all
 apply HS
 ·simp_all
 ·intro i h1 h2
  rw [XU,HU]
  split
  ·rename_i e; subst e
   rw [ZoD c (r:=0) (by omega) (by omega),hz]; simp
  ·rw [List.getElem_append_left (by omega),XU,ZoE c (by omega)]
theorem ZG0 (k:Nat) (bs:List Bool) (hb:bs.length < 4294967296) (x:Int) (c:Bool) (hx:x = if c then 1 else 0):ZA5 k (wst bs,x,()) = some ((),wst (bs ++ [c]),()):=by
 show ZkO k _ = _
 obtain ⟨q,r,hr,hq⟩:∃ q r,r < 8 ∧ bs.length = 8 * q + r:=⟨bs.length / 8,bs.length % 8,UY _ (by omega),by omega⟩
 have e1:Jx.wrap (((bs.length:Nat):Int).tdiv 8) = ((q:Nat):Int):=by rw [ZrC,ZG (by omega)]; omega
 have e2:((bs.length:Nat):Int).tmod 8 = ((r:Nat):Int):=by rw [ZP8]; omega
 have e3:Jx.wrap ((7:Int) - (r:Int)) = ((7 - r:Nat):Int):=by rw [ZG (by omega)]; omega
 have e4:Jx.wrap (((bs.length:Nat):Int) + 1) = (((bs ++ [c]).length:Nat):Int):=by rw [ZG (by omega),Xj]; simp
 have e5:∀ v:Nat,v < 256 → v % 2 ^ (8 - r) = 0 → UK.wrap (UD (UH 8 (v:Int) ||| UH 8 (UK.wrap (Jx.wrap (x * (2:Int) ^ min ((7 - r:Nat):Int).toNat 64)))).toNat) = ((v + c.toNat * 2 ^ (7 - r):Nat):Int):=by
  intro v hv hm
  have:=ZS8 ⟨r,hr⟩ ⟨v,hv⟩ c hm
  grind [orB,tNc]
 simp only [ZkO,e1,e2,e3,tNc]
 by_cases h0:r = 0
 ·subst h0
  have hlen:(Z3 bs).length = q:=by rw [QL]; omega
  rw [show ((((0:Nat):Int)) == (0:Int)) = true from rfl]
  simp only [cond_true]
  have hl:(Z3 bs ++ [(0:Int)]).length = q + 1:=by simp [hlen]
  rw [Za (by rw [hlen]; omega),Za (by grind),Za (by omega),Za (by omega),Za (by grind),Za (by omega)]
  have hg:(Z3 bs ++ [(0:Int)]).getD q (OfNat.ofNat 0) = ((0:Nat):Int):=by simp_all
  have h5:=e5 0 (by omega) (by simp)
  simp only [tNc] at h5
  rw [hg,h5,e4]
  show _ = some ((),(Z3 (bs ++ [c]),_,()),())
  rw [Zr8 c (by omega)]
  simp
 ·rw [show ((((r:Nat):Int)) == (0:Int)) = false from by rw [Zw]; simp; omega]
  simp only [cond_false]
  have hlen:(Z3 bs).length = q + 1:=by rw [QL]; omega
  rw [Za (by grind),Za (by omega),Za (by omega),Za (by grind),Za (by omega)]
  have hg:(Z3 bs).getD q (OfNat.ofNat 0) = ((WW bs q:Nat):Int):=by rw [List.getD_eq_getElem?_getD,VN (by omega),XU]; rfl
  have h5:=e5 _ (ZoF _) (ZAW hr hq)
  simp only [tNc] at h5
  rw [hg]
  rw [show Yj (fun j => bs.getD (8 * q + j) false) = WW bs q from rfl] at h5
  rw [h5,e4]
  show _ = some ((),(Z3 (bs ++ [c]),_,()),())
  rw [Zr9 c hr h0 hq]
end Go.Sh
namespace Go.Sh
open Go Go.Proofs
theorem Zmt (n j:Nat):((n:Nat):Int).fdiv ((2:Int) ^ j) = ((n / 2 ^ j:Nat):Int):=by
 grind
theorem ZYX (n j:Nat) (hj:j < 64):Jx.wrap (UI.wrap (UD (UH 64 (((n:Nat):Int).fdiv ((2:Int) ^ min (j:Int).toNat 64)) &&& UH 64 1).toNat)) = if n.testBit j then 1 else 0:=by
 rw [tNc,Ht (by omega),Zmt,HN,show UH 64 1 = 1#64 from rfl,BitVec.toNat_and,HO]
 rw [show (1#64).toNat = 1 from rfl,HW,Nat.mod_mod_of_dvd _ (by decide:2 ∣ 2 ^ 64)]
 have h2:n.testBit j = decide (n / 2 ^ j % 2 = 1):=Nat.testBit_eq_decide_div_mod_eq
 rw [h2]
 have:n / 2 ^ j % 2 < 2:=UY _ (by omega)
 generalize n / 2 ^ j % 2 = m at this ⊢
 match m,this with
 | 0,_ => rfl
 | 1,_ => rfl
theorem ZN6 (k:Nat):∀ (w:Nat) (bs:List Bool) (n:Nat),w < k → w ≤ 64 → bs.length + w < 4294967296 →
  ZN2 k (wst bs,(n:Int),(w:Int),()) = some ((),wst (bs ++ Zb n w),()):=by
 intro w bs n hk hw hb
 show ZjH k (Zwk k) _ = _
 simp only [ZjH]
 suffices H:∀ (w:Nat) (m:Nat) (bs:List Bool),w < m → w ≤ 64 → bs.length + w < 4294967296 →
   Zg (fun L1 => Zfc k L1) m (Jx.wrap ((w:Int) - 1),(n:Int),(bs.length:Int),Z3 bs) = some ((),wst (bs ++ Zb n w),()) from H w k bs hk hw hb
 intro w
 induction w with
 | zero =>
  intro m bs hm _ _
  obtain ⟨m,rfl⟩:=Zm hm
  rw [Zc]
  rw [show Jx.wrap (((0:Nat):Int) - 1) = -1 from by rw [ZG (by omega)]; rfl]
  grind [Zfc,Zb]
 | succ w ih =>
  intro m bs hm hw hb
  obtain ⟨m,rfl⟩:=Zm (show 0 < m by omega)
  rw [Zc]
  have e1:Jx.wrap (((w + 1:Nat):Int) - 1) = (w:Int):=by rw [ZG (by omega)]; omega
  rw [e1]
  simp only [Zfc]
  rw [Za (by omega)]
  simp only [Za (show (0:Int) ≤ (w:Int) by omega)]
  rw [ZYX n w (by omega)]
  rw [show ((Z3 bs,((bs.length:Nat):Int),()):List Int × Int × Unit) = wst bs from rfl,ZG0 k bs (by omega) _ (n.testBit w) rfl]
  grind [Zb]
theorem Zzn (k w:Nat) (h:w ≤ 32):ZFB k ((w:Int),()) = some (false,()):=by
 show Zp8 k _ = _
 grind [Zp8]
theorem ZMT (k:Nat) (bs:List Bool) (n w:Nat) (hk:64 < k) (hw:w ≤ 32) (hn:n < 2 ^ w) (hb:bs.length + w < 4294967296) :
  QB k (wst bs,(n:Int),(w:Int),()) = some (0,wst (bs ++ Zb n w),()):=by
 show ZpT k _ = _
 have h32:n < 2 ^ 32:=Nat.lt_of_lt_of_le hn (Hf (by omega) hw)
 simp only [ZpT]
 rw [Zzn k w hw]
 simp only [QJ,cond_false]
 rw [Zh (by omega),Za (by omega),tNc,Ht (by omega),Zmt,HX hn]
 rw [show ((((0:Nat):Int)) != (0:Int)) = false from rfl]
 simp only [cond_false]
 rw [show UI.wrap (n:Int) = (n:Int) from by rw [IntKind.wrap_u64]; omega]
 rw [show ((Z3 bs,((bs.length:Nat):Int),()):List Int × Int × Unit) = wst bs from rfl,ZN6 k w bs n (by omega) (by omega) hb]
 rfl
def sgn (n:Int) (w:Nat):Bool:=if w = 0 then n = 0 else -(2 ^ (w - 1):Int) ≤ n ∧ n < 2 ^ (w - 1)
def Zrn (n:Int) (w:Nat):List Bool:=Zb (n % 2 ^ w).toNat w
theorem ZJc (n:Int) (w:Nat):(Zrn n w).length = w:=Zi _ _
theorem ZO2 {n:Int} {w:Nat} (hw:0 < w) (h:sgn n w = true):n.fdiv (2 ^ (w - 1)) = 0 ∨ n.fdiv (2 ^ (w - 1)) = -1:=by
 unfold sgn at h
 rw [if_neg (by omega)] at h
 obtain ⟨h1,h2⟩:=of_decide_eq_true h
 have hp:(0:Int) < 2 ^ (w - 1):=Hv (by omega)
 rw [HE _ (by omega)]
 rcases Int.lt_or_le n 0 with hn | hn
 ·right
  rw [Int.ediv_eq_iff_of_pos hp]
  constructor <;> omega
 ·left
  exact Int.ediv_eq_zero_of_lt hn h2
def ZS9 (n:Nat):Nat:=(8 - n % 8) % 8
theorem ZMY (k:Nat) (bs:List Bool) (hb:bs.length < 4294967296):ZMW k (wst bs,()) = some (Z3 bs,wst bs,()):=by
 show ZpV k _ = _
 simp only [ZpV]
 have:(Z3 bs).length < 2147483648:=by rw [QL]; omega
 rw [show ZjJ k (Z3 bs,()) = some (Z3 bs,()) from by show Yk _ = _; unfold Yk; rw [Za this]]
 rfl
theorem ZMR (k:Nat):ZMP k () = some (wst [],()):=rfl
end Go.Sh
namespace Go.Sh
open Go Go.Proofs
theorem ZrF {n:Nat} (h:n < 18446744073709551616):UI.wrap (n:Int) = (n:Int):=by rw [IntKind.wrap_u64]; omega
theorem ZXq {a:Nat} (ha:a < 18446744073709551616):(UH 64 (a:Int)).toNat = a:=by simp_all
theorem ZGA {a b:Nat} (ha:a < 18446744073709551616) (hb:b < 18446744073709551616):UD (UH 64 (a:Int) &&& UH 64 (b:Int)).toNat = ((a &&& b:Nat):Int):=by
 grind
theorem orN {a b:Nat} (ha:a < 18446744073709551616) (hb:b < 18446744073709551616):UD (UH 64 (a:Int) ||| UH 64 (b:Int)).toNat = ((a ||| b:Nat):Int):=by
 grind
theorem ZXb {a b:Nat} (ha:a < 18446744073709551616) (hb:b < 18446744073709551616):UD (UH 64 (a:Int) ^^^ UH 64 (b:Int)).toNat = ((a ^^^ b:Nat):Int):=by
 grind
theorem QV (j:Nat):((2:Int) ^ j) = ((2 ^ j:Nat):Int):=by rw [Int.natCast_pow]; rfl
def Zeq (s p r:Nat):Nat:=(2 * r) % 2 ^ s ^^^ (r / 2 ^ (s - 1) % 2) * p
def Zbi (s p:Nat):Nat → Nat → Nat
 | 0,r => r
 | n + 1,r => Zbi s p n (Zeq s p r)
def Zbj (s p r x:Nat):Nat:=Zbi s p 8 (r ^^^ x * 2 ^ (s - 8))
def ZJW (s p:Nat) (l:List Nat):Nat:=l.foldl (Zbj s p) 0
def Zo (l:List Int):Bool:=l.all fun x => decide (0 ≤ x) && decide (x < 256)
def ZhM (l:List Int):List Nat:=l.map Int.toNat
theorem ZkD {s p r:Nat} (hp:p < 2 ^ s):Zeq s p r < 2 ^ s:=by
 unfold Zeq
 refine HB (UY _ (Hs (by omega))) ?_
 have:r / 2 ^ (s - 1) % 2 < 2:=UY _ (by omega)
 generalize r / 2 ^ (s - 1) % 2 = b at this
 have h0:0 < 2 ^ s:=Hs (by omega)
 match b,this with
 | 0,_ => simpa using h0
 | 1,_ => simpa using hp
theorem ZoO {s p:Nat} (hp:p < 2 ^ s):∀ (n r:Nat),r < 2 ^ s → Zbi s p n r < 2 ^ s
 | 0,r,h => h
 | n + 1,r,h => ZoO hp n _ (ZkD hp)
theorem Zhk {s p r x:Nat} (hs:8 ≤ s) (hp:p < 2 ^ s) (hr:r < 2 ^ s) (hx:x < 256):Zbj s p r x < 2 ^ s:=by
 refine ZoO hp _ _ (HB hr ?_)
 have h1:2 ^ s = 2 ^ 8 * 2 ^ (s - 8):=by rw [← Hr]; congr 1; omega
 have:x * 2 ^ (s - 8) < 256 * 2 ^ (s - 8):=Hx hx (Hs (by omega))
 rw [h1]; exact this
theorem ZoP {s p:Nat} (hs:8 ≤ s) (hp:p < 2 ^ s):∀ (l:List Nat) (r:Nat),(∀ x ∈ l,x < 256) → r < 2 ^ s → l.foldl (Zbj s p) r < 2 ^ s
 | [],r,_,h => h
 | x :: l,r,hl,h => by
  simp only [HT]
  exact ZoP hs hp l _ (fun y hy => hl y (Jn _ hy)) (Zhk hs hp h (hl x (Jl ..)))
theorem ZQD {s p r:Nat} (hs:8 ≤ s) (hs':s ≤ 16) (hp:p < 2 ^ s) (hr:r < 2 ^ s) :
  UI.wrap (UD (UH 64 (UI.wrap (UD (UH 64 (UI.wrap ((r:Int) * (2:Int))) &&& UH 64 (UI.wrap (UI.wrap ((1:Int) * (2:Int) ^ min (s:Int).toNat 64) - (1:Int)))).toNat)) ^^^
   UH 64 (UI.wrap (UI.wrap (UD (UH 64 ((r:Int).fdiv ((2:Int) ^ min (Jx.wrap ((s:Int) - (1:Int))).toNat 64)) &&& UH 64 (1:Int)).toNat) * (p:Int)))).toNat) = ((Zeq s p r:Nat):Int):=by
 have hpow:2 ^ s ≤ 2 ^ 16:=Hf (by omega) hs'
 have hpos:0 < 2 ^ s:=Hs (by omega)
 rw [show Jx.wrap ((s:Int) - 1) = ((s - 1:Nat):Int) from by rw [ZG (by omega)]; omega]
 rw [tNc,tNc,Ht (by omega),Ht (by omega),Zmt,Int.one_mul,QV]
 rw [ZrF (n:=2 ^ s) (by omega),show ((2 ^ s:Nat):Int) - 1 = ((2 ^ s - 1:Nat):Int) from by omega,ZrF (n:=2 ^ s - 1) (by omega)]
 rw [show (r:Int) * 2 = ((2 * r:Nat):Int) from by omega,ZrF (n:=2 * r) (by omega)]
 rw [ZGA (by omega) (by omega),Nat.and_two_pow_sub_one_eq_mod]
 have hm:2 * r % 2 ^ s < 2 ^ s:=UY _ hpos
 rw [ZrF (n:=2 * r % 2 ^ s) (by omega)]
 have hdl:r / 2 ^ (s - 1) ≤ r:=Nat.div_le_self _ _
 rw [show ((1:Int)) = ((1:Nat):Int) from rfl,ZGA (by omega) (by omega),HW]
 have hb:r / 2 ^ (s - 1) % 2 < 2:=UY _ (by omega)
 have hbp:r / 2 ^ (s - 1) % 2 * p < 2 ^ s:=by
  generalize r / 2 ^ (s - 1) % 2 = b at hb
  match b,hb with
  | 0,_ => simpa using hpos
  | 1,_ => simpa using hp
 rw [ZrF (n:=r / 2 ^ (s - 1) % 2) (by omega),← HK,ZrF (n:=r / 2 ^ (s - 1) % 2 * p) (by omega),ZXb (by omega) (by omega)]
 have:=ZkD (s:=s) (p:=p) (r:=r) hp
 unfold Zeq at this ⊢
 rw [ZrF (by omega)]
theorem ZJQ {s r x:Nat} (hs:8 ≤ s) (hs':s ≤ 16) (hr:r < 2 ^ s) (hx:x < 256) :
  UI.wrap (UD (UH 64 (r:Int) ^^^ UH 64 (UI.wrap (UI.wrap (x:Int) * (2:Int) ^ min (Jx.wrap ((s:Int) - (8:Int))).toNat 64))).toNat) = ((r ^^^ x * 2 ^ (s - 8):Nat):Int):=by
 have hpow:2 ^ s ≤ 2 ^ 16:=Hf (by omega) hs'
 have h1:2 ^ s = 2 ^ 8 * 2 ^ (s - 8):=by rw [← Hr]; congr 1; omega
 have hxp:x * 2 ^ (s - 8) < 2 ^ s:=by
  rw [h1]; exact Hx hx (Hs (by omega))
 rw [show Jx.wrap ((s:Int) - 8) = ((s - 8:Nat):Int) from by rw [ZG (by omega)]; omega]
 rw [tNc,Ht (by omega),QV,ZrF (n:=x) (by omega),← HK,ZrF (n:=x * 2 ^ (s - 8)) (by omega),ZXb (by omega) (by omega)]
 have:r ^^^ x * 2 ^ (s - 8) < 2 ^ s:=HB hr hxp
 rw [ZrF (by omega)]
theorem ZIA (k:Nat) {s p:Nat} (hs:8 ≤ s) (hs':s ≤ 16) (hp:p < 2 ^ s) (L1:Int × Int × List Int × Int × Int × Int → Option (Int × Unit)) (v4 v5:Int) (v6:List Int) :
  ∀ (n m i r:Nat),i + n = 8 → n < m → r < 2 ^ s →
  Zg (fun L2 => Zfe k L1 L2) m ((i:Int),(r:Int),(s:Int),(p:Int),v4,v5,v6) = L1 (v5,Jx.wrap (v4 + 1),v6,((Zbi s p n r:Nat):Int),(s:Int),(p:Int)):=by
 intro n
 induction n with
 | zero =>
  intro m i r hi hm hr
  obtain ⟨m,rfl⟩:=Zm hm
  rw [Zc]
  simp only [Zfe]
  rw [Zh (by omega)]
  rfl
 | succ n ih =>
  intro m i r hi hm hr
  obtain ⟨m,rfl⟩:=Zm (show 0 < m by omega)
  rw [Zc]
  simp only [Zfe]
  rw [Za (by omega),Za (by rw [ZG (by omega)]; omega),Za (by omega),ZQD hs hs' hp hr]
  rw [show Jx.wrap ((i:Int) + 1) = ((i + 1:Nat):Int) from by rw [ZG (by omega)]; omega]
  rw [ih m (i + 1) _ (by omega) (by omega) (ZkD hp)]
  rfl
theorem QM {l:List Int} (h:Zo l = true) {i:Nat} (hi:i < l.length):∃ x:Nat,x < 256 ∧ l[i] = (x:Int):=by
 have:=Ve.1 h l[i] (Ha hi)
 simp only [Jh,decide_eq_true_eq] at this
 exact ⟨l[i].toNat,by omega,by omega⟩
theorem ZIZ {l:List Int} (h:Zo l = true):∀ x ∈ ZhM l,x < 256:=by
 intro x hx
 obtain ⟨y,hy,rfl⟩:=VF.1 hx
 have:=Ve.1 h y hy
 simp_all
theorem Zzo (k:Nat) (l:List Int) {s p:Nat} (hs:8 ≤ s) (hs':s ≤ 16) (hp:p < 2 ^ s) (hl:Zo l = true) (hk:l.length + 8 < k) (hk':l.length < 4294967296) :
  Zmr k (l,(s:Int),(p:Int),()) = some (((ZJW s p (ZhM l):Nat):Int),()):=by
 show ZjI k (Zwm k) _ = _
 simp only [ZjI]
 have h16:2 ^ s ≤ 2 ^ 16:=Hf (by omega) hs'
 have:=ZF (A:=Nat) (step:=fun L1 => Zfd k (Zwn k L1) L1) (fun i r => (UD l.length,UD i,l,(r:Int),(s:Int),(p:Int))) l
  (fun l' r => some (((l'.foldl (fun r x => Zbj s p r x.toNat) r:Nat):Int),())) (fun i r => r < 2 ^ s)
  (fun L r hr => by
   simp only [Zfd]
   rw [Zh (ZaZ _),ZG (by omega)]; rfl)
  (fun L i hi r hr hL => by
   obtain ⟨x,hx,hxe⟩:=QM hl hi
   simp only [Zfd]
   rw [Za (KN hi),Za (Xd hi),Za (by rw [ZG (by omega)]; omega),ZL hi,hxe,ZJQ hs hs' hr hx]
   have hx2:r ^^^ x * 2 ^ (s - 8) < 2 ^ s:=HB hr (by
    have h1:2 ^ s = 2 ^ 8 * 2 ^ (s - 8):=by rw [← Hr]; congr 1; omega
    rw [h1]; exact Hx hx (Hs (by omega)))
   have hin:=ZIA k hs hs' hp L (UD i) (UD l.length) l 8 k 0 (r ^^^ x * 2 ^ (s - 8)) rfl (by omega) hx2
   refine U4 hin ?_
   rw [Qa hi (by omega)]
   rw [show Zbi s p 8 (r ^^^ x * 2 ^ (s - 8)) = Zbj s p r x from rfl]
   rw [hL _ (Zhk hs hp hr hx)]
   rw [HT,tNc]) k 0 0 (Hs (by omega)) (by omega) (Hu _)
 refine U4 this ?_
 rw [U5]
 unfold ZJW ZhM
 rw [List.foldl_map]
theorem ZGH (bs:List Bool) (i:Nat):WW bs i < 256:=ZoF _
theorem ZhQ (bs:List Bool):Zo (Z3 bs) = true:=by
 refine Ve.2 fun x hx => ?_
 obtain ⟨i,_,rfl⟩:=VF.1 hx
 have h:=ZGH bs i
 grind
def ZoN (l:List Int):Nat:=ZJW 8 7 (ZhM l)
def Km (l:List Int):Nat:=ZJW 16 32773 (ZhM l)
theorem ZJV {l:List Int} (h:Zo l = true):Km l < 2 ^ 16:=ZoP (by omega) (by omega) _ _ (ZIZ h) (by omega)
theorem ZMV (k:Nat) (l:List Int) (hl:Zo l = true) (hk:l.length + 8 < k) (hk':l.length < 4294967296):ZMU k (l,()) = some (((ZoN l:Nat):Int),()):=by
 show ZpU k _ = _
 simp only [ZpU]
 have:=Zzo k l (s:=8) (p:=7) (by omega) (by omega) (by omega) hl hk hk'
 rw [show Zmr k (l,8,7,()) = Zmr k (l,((8:Nat):Int),((7:Nat):Int),()) from rfl,this]
 rfl
theorem ZM3 (k:Nat) (l:List Int) (hl:Zo l = true) (hk:l.length + 8 < k) (hk':l.length < 4294967296):ZM2 k (l,()) = some (((Km l:Nat):Int),()):=by
 show ZpX k _ = _
 simp only [ZpX]
 have:=Zzo k l (s:=16) (p:=32773) (by omega) (by omega) (by omega) hl hk hk'
 rw [show Zmr k (l,16,32773,()) = Zmr k (l,((16:Nat):Int),((32773:Nat):Int),()) from rfl,this]
 rfl
def Y8 (k:Nat):Nat:=if k = 1 then 7 else 5 * k + 1
def ZTq:Nat → Nat → List Nat
 | _,0 => []
 | n,i + 1 => ZTq (n / 64) i ++ [128 + n % 64]
def ZWL (n:Nat):Nat:=if n < 2 ^ 7 then 1 else if n < 2 ^ 11 then 2 else if n < 2 ^ 16 then 3 else if n < 2 ^ 21 then 4 else if n < 2 ^ 26 then 5 else if n < 2 ^ 31 then 6 else 7
def ZWG (k m:Nat):Nat:=(65280 / 2 ^ k % 256) ||| m
def ZTp (n:Nat):List Nat:=if n < 128 then [n] else ZWG (ZWL n) (n / 64 ^ (ZWL n - 1)) :: ZTq n (ZWL n - 1)
theorem ZN8 (k kk:Nat) (h:kk ≤ 8):ZN7 k ((kk:Int),()) = some (((Y8 kk:Nat):Int),()):=by
 show Zp9 k _ = _
 simp only [Zp9]
 unfold Y8
 by_cases h1:kk = 1
 ·subst h1; rfl
 ·rw [show (((kk:Nat):Int) == (1:Int)) = false from by rw [Zw]; simp; omega,if_neg h1]
  simp only [cond_false]
  rw [ZG (n:=5 * (kk:Int)) (by omega),ZG (by omega)]
  congr 2
theorem ZPO:Y8 2 = 11 ∧ Y8 3 = 16 ∧ Y8 4 = 21 ∧ Y8 5 = 26 ∧ Y8 6 = 31 ∧ Y8 7 = 36:=by decide
end Go.Sh
namespace Go.Sh
open Go Go.Proofs
abbrev Yg:=Ieee.double
theorem Zhm:Yg.binade = 4503599627370496:=by decide
theorem Zus:Yg.infRung = 9218868437227405312:=by decide
theorem Zij:Yg.signWeight = 9223372036854775808:=by decide
theorem ZkH:Yg.leastPlace = -1074:=by decide
theorem ZJZ:Yg.fractionBits = 52:=rfl
theorem ZI8 (s:Bool) {R:Nat} (h0:4503599627370496 ≤ R) (h1:R < 9218868437227405312) :
  Yg.read (Yg.word s R) = .number s (4503599627370496 + R % 4503599627370496) (-1074 + (R / 4503599627370496 - 1:Nat)):=by
 have e1:Yg.word s R / 9223372036854775808 % 2 = s.toNat:=by
  unfold Ieee.Format.word
  rw [Zij]
  cases s <;> simp <;> omega
 have e2:Yg.word s R % 9223372036854775808 = R:=by
  unfold Ieee.Format.word
  rw [Zij]
  cases s <;> simp <;> omega
 unfold Ieee.Format.read
 simp only [Zij,Zhm,Zus,ZkH,e1,e2]
 rw [if_neg (by omega),if_pos h1]
 cases s <;> rfl
theorem ZtR (s:Bool):Yg.read (Yg.word s 0) = .number s 0 (-1074):=by cases s <;> decide
theorem Zj2 (s:Bool) {m K L:Nat} {e:Int} (hm:m ≠ 0) (hL:L ≤ 52) (hl:(m.log2:Int) = L - 1 - e)
  (hcut:Ieee.Toward.even.cut s (m <<< (e - ((L:Int) - 53)).toNat) ((L:Int) - 53 - e).toNat = K) (hK:4503599627370496 ≤ K) (hK2:K < 9007199254740992) :
  Yg.read (Yg.nearest s m e) = .number s K ((L:Int) - 53):=by
 unfold Ieee.Format.nearest
 rw [if_neg hm]
 simp only [ZJZ,ZkH,Zhm,Zus]
 have hlast:max (e + (m.log2:Int) - ((52:Nat):Int)) (-1074) = (L:Int) - 53:=by omega
 rw [hlast,hcut]
 have h1:((L:Int) - 53 - -1074).toNat = L + 1021:=by omega
 rw [h1,Ht (by omega)]
 rw [ZI8 s (by omega) (by omega)]
 simp_all <;> omega
theorem ZoR (s:Bool) {n d q:Nat} (hd:d ≤ n.log2 + 2) (h:n = q * 2 ^ d):Ieee.Toward.even.cut s n d = q:=by
 unfold Ieee.Toward.cut
 simp only [Ht hd,HY]
 have hp:0 < 2 ^ d:=Hs (by omega)
 simp_all
theorem Ys {N:Nat} (h:N ≠ 0) (t:Nat):(N * 2 ^ t).log2 = N.log2 + t:=by
 have hp:0 < 2 ^ t:=Hs (by omega)
 rw [HM (Nat.mul_ne_zero h (by omega))]
 obtain ⟨h1,h2⟩:=(HM h).1 rfl
 constructor
 ·rw [Hr]; exact Jm _ h1
 ·rw [show N.log2 + t + 1 = (N.log2 + 1) + t by omega,Hr]; exact Hx h2 hp
theorem ZjZ {N:Nat} (h:N ≠ 0) (h':N < 9007199254740992):N.log2 ≤ 52:=by
 have:=(Nat.log2_lt h (k:=53)).2 h'
 omega
theorem Zqy {N:Nat} (h:N ≠ 0) (h':N < 9007199254740992):4503599627370496 ≤ N * 2 ^ (52 - N.log2) ∧ N * 2 ^ (52 - N.log2) < 9007199254740992:=by
 have hL:=ZjZ h h'
 obtain ⟨h1,h2⟩:=(HM h).1 rfl
 have hp:0 < 2 ^ (52 - N.log2):=Hs (by omega)
 have e1:2 ^ N.log2 * 2 ^ (52 - N.log2) = 4503599627370496:=by rw [← Hr,show N.log2 + (52 - N.log2) = 52 by omega]
 have e2:2 ^ (N.log2 + 1) * 2 ^ (52 - N.log2) = 9007199254740992:=by grind
 constructor
 ·rw [← e1]; exact Jm _ h1
 ·rw [← e2]; exact Hx h2 hp
theorem ZwS (s:Bool) {N t:Nat} (h:N ≠ 0) (h':N < 9007199254740992) :
  Yg.read (Yg.nearest s (N * 2 ^ t) (-1 - (t:Int))) = .number s (N * 2 ^ (52 - N.log2)) ((N.log2:Int) - 53):=by
 have hL:=ZjZ h h'
 obtain ⟨f1,f2⟩:=Zqy h h'
 have hp:0 < 2 ^ t:=Hs (by omega)
 refine Zj2 s (Nat.mul_ne_zero h (by omega)) hL (by rw [Ys h]; omega) ?_ f1 f2
 by_cases hc:52 - N.log2 ≤ t
 ·have e1:((-1 - (t:Int)) - ((N.log2:Int) - 53)).toNat = 0:=by omega
  have e2:((N.log2:Int) - 53 - (-1 - (t:Int))).toNat = t - (52 - N.log2):=by omega
  rw [e1,e2,HA]
  refine ZoR s (by rw [Ys h]; omega) ?_
  rw [Hw,← Hr]
  congr 2; omega
 ·have e1:((-1 - (t:Int)) - ((N.log2:Int) - 53)).toNat = 52 - N.log2 - t:=by omega
  have e2:((N.log2:Int) - 53 - (-1 - (t:Int))).toNat = 0:=by omega
  rw [e1,e2]
  refine ZoR s (by omega) ?_
  rw [Hy,Hw,← Hr,Nat.pow_zero,Nat.mul_one]
  congr 2; omega
theorem ZgZ (s:Bool) {N:Nat} (h:N ≠ 0) (h':N < 4503599627370496) :
  Yg.read (Yg.nearest s N 0) = .number s (2 * N * 2 ^ (52 - (2 * N).log2)) (((2 * N).log2:Int) - 53):=by
 have hl:(2 * N).log2 = N.log2 + 1:=by rw [Nat.mul_comm]; exact Ys h 1
 have h2:2 * N ≠ 0:=by omega
 have hL:=ZjZ h2 (by omega)
 obtain ⟨f1,f2⟩:=Zqy h2 (by omega)
 refine Zj2 s h hL (by rw [hl]; omega) ?_ f1 f2
 have e1:((0:Int) - (((2 * N).log2:Int) - 53)).toNat = 53 - (2 * N).log2:=by omega
 have e2:(((2 * N).log2:Int) - 53 - 0).toNat = 0:=by omega
 rw [e1,e2]
 refine ZoR s (by omega) ?_
 rw [Hy,Nat.pow_zero,Nat.mul_one,show 53 - (2 * N).log2 = 1 + (52 - (2 * N).log2) by omega,Hr]
 rw [← Hw]; congr 1; omega
def KR (x:Nat) (n:Int):Prop:=n.natAbs < 9007199254740992 ∧
 ((n = 0 ∧ ∃ s,Yg.read x = .number s 0 (-1074)) ∨ (n ≠ 0 ∧ Yg.read x = .number (decide (n < 0)) (n.natAbs * 2 ^ (52 - n.natAbs.log2)) ((n.natAbs.log2:Int) - 53)))
theorem KR.num {x:Nat} {n:Int} (h:KR x n):∃ s m e,Yg.read x = .number s m e ∧ e ≤ -1 ∧ -1074 ≤ e ∧ ∀ (b:Int),b ≤ e → Ieee.signed s m (e - b).toNat = n * 2 ^ (-1 - b).toNat:=by
 obtain ⟨hb,⟨rfl,s,hr⟩ | ⟨hn,hr⟩⟩:=h
 ·refine ⟨s,0,_,hr,by omega,by omega,fun b hb => ?_⟩
  unfold Ieee.signed
  cases s <;> simp
 ·have h0:n.natAbs ≠ 0:=by omega
  have hL:=ZjZ h0 hb
  refine ⟨_,_,_,hr,by omega,by omega,fun b hb => ?_⟩
  unfold Ieee.signed
  have e1:(n.natAbs * 2 ^ (52 - n.natAbs.log2)) <<< ((n.natAbs.log2:Int) - 53 - b).toNat = n.natAbs * 2 ^ (-1 - b).toNat:=by
   rw [Hy,Hw,← Hr]
   congr 2; omega
  rw [e1]
  grind
theorem ZcT {s:Bool} {m:Nat} {e:Int} {n:Int} {t:Nat} (he:e = -1 - (t:Int)) (hm:m = n.natAbs * 2 ^ t) (hs:n ≠ 0 → s = decide (n < 0)) (hb:n.natAbs < 9007199254740992):KR (Yg.write (.number s m e)) n:=by
 refine ⟨hb,?_⟩
 show _ ∨ (_ ∧ Yg.read (Yg.nearest s m e) = _)
 by_cases hn:n = 0
 ·left
  refine ⟨hn,s,?_⟩
  show Yg.read (Yg.nearest s m e) = _
  subst hn
  rw [show m = 0 by rw [hm]; simp]
  unfold Ieee.Format.nearest
  rw [if_pos rfl]
  exact ZtR s
 ·right
  refine ⟨hn,?_⟩
  rw [hm,he,← hs hn]
  exact ZwS s (by omega) hb
theorem ZfG (n:Int) (hb:n.natAbs < 4503599627370496):KR (Je.nearest n) (2 * n):=by
 show KR (Yg.nearest (decide (n < 0)) n.natAbs 0) (2 * n)
 refine ⟨by omega,?_⟩
 by_cases hn:n = 0
 ·left
  subst hn
  exact ⟨rfl,false,by decide⟩
 ·right
  refine ⟨by omega,?_⟩
  rw [ZgZ _ (by omega) hb]
  have e1:(2 * n).natAbs = 2 * n.natAbs:=by omega
  simp_all <;> omega
theorem Zmh {a b:Int} {p:Int} (hp:0 < p):compare (a * p) (b * p) = compare a b:=by
 rcases Int.lt_trichotomy a b with h | h | h
 ·have:=HQ h hp
  rw [HD.2 h,HD.2 this]
 ·subst h; simp
 ·have:=HQ h hp
  rw [HP.2 h,HP.2 this]
theorem ZgJ {x y:Nat} {a b:Int} (hx:KR x a) (hy:KR y b):Je.format.order x y = some (compare a b):=by
 obtain ⟨s,m,i,h1,h2,_,h3⟩:=hx.num
 obtain ⟨t,n,j,g1,g2,_,g3⟩:=hy.num
 show (Yg.read x).order (Yg.read y) = _
 rw [h1,g1]
 unfold Ieee.Datum.order
 simp only
 rw [h3 _ (HG i j),g3 _ (HH i j),Zmh (Hv (by omega))]
theorem ZDT {x y:Nat} {a b:Int} (hx:KR x a) (hy:KR y b) (hb:(a + b).natAbs < 9007199254740992):∃ z,floatBits .add .f64 x y = some z ∧ KR z (a + b):=by
 obtain ⟨s,m,i,h1,h2,h2',h3⟩:=hx.num
 obtain ⟨t,n,j,g1,g2,g2',g3⟩:=hy.num
 show ∃ z,((Yg.read x).sum (Yg.read y)).map Yg.write = some z ∧ _
 rw [h1,g1]
 unfold Ieee.Datum.sum
 simp only
 rw [h3 _ (HG i j),g3 _ (HH i j),← Int.add_mul]
 refine ⟨_,rfl,?_⟩
 have hp:(0:Int) < 2 ^ (-1 - min i j).toNat:=Hv (by omega)
 refine ZcT (t:=(-1 - min i j).toNat) (by omega) ?_ (fun hn => ?_) hb
 ·rw [HJ,Int.natAbs_pow]; rfl
 ·rw [if_neg (by simp_all <;> omega)]
  by_cases hlt:a + b < 0
  ·rw [dTr hlt,dTr (HR hlt hp)]
  ·rw [dFa hlt,dFa (by
    have:=Int.mul_nonneg (show 0 ≤ a + b by omega) (HF hp)
    omega)]
theorem ZS5 {x:Nat} {n:Int} (h:KR x n):∃ s m e,(Yg.read x).opposite = .number s m e ∧ e ≤ -1 ∧ ∀ (b:Int),b ≤ e → Ieee.signed s m (e - b).toNat = -n * 2 ^ (-1 - b).toNat:=by
 obtain ⟨s,m,e,h1,h2,_,h3⟩:=h.num
 refine ⟨!s,m,e,by rw [h1]; rfl,h2,fun b hb => ?_⟩
 have:=h3 b hb
 unfold Ieee.signed at this ⊢
 grind
theorem ZTi {x y:Nat} {a b:Int} (hx:KR x a) (hy:KR y b) (hb:(a - b).natAbs < 9007199254740992):∃ z,floatBits .sub .f64 x y = some z ∧ KR z (a - b):=by
 obtain ⟨s,m,i,h1,h2,h2',h3⟩:=hx.num
 obtain ⟨t,n,j,g1,g2,g3⟩:=ZS5 hy
 show ∃ z,((Yg.read x).sum (Yg.read y).opposite).map Yg.write = some z ∧ _
 rw [h1,g1]
 unfold Ieee.Datum.sum
 simp only
 rw [h3 _ (HG i j),g3 _ (HH i j),← Int.add_mul,← Int.sub_eq_add_neg]
 refine ⟨_,rfl,?_⟩
 have hp:(0:Int) < 2 ^ (-1 - min i j).toNat:=Hv (by omega)
 refine ZcT (t:=(-1 - min i j).toNat) (by omega) ?_ (fun hn => ?_) hb
 ·rw [HJ,Int.natAbs_pow]; rfl
 ·rw [if_neg (by simp_all <;> omega)]
  by_cases hlt:a - b < 0
  ·rw [dTr hlt,dTr (HR hlt hp)]
  ·rw [dFa hlt,dFa (by
    have:=Int.mul_nonneg (show 0 ≤ a - b by omega) (HF hp)
    omega)]
end Go.Sh
namespace Go.Sh
open Go Go.Proofs
theorem ZPB (s:Bool) (m:Nat):(Ieee.Datum.number s 0 (-1074)) = Ieee.Datum.number s ((0:Int).natAbs * m) (-((1074:Nat):Int)):=by
 simp_all
theorem KR.nat {x:Nat} {n:Int} (h:KR x n):∃ (s:Bool) (t:Nat),Yg.read x = .number s (n.natAbs * 2 ^ (t - 1)) (-(t:Int)) ∧ 1 ≤ t ∧ (n ≠ 0 → s = decide (n < 0) ∧ (n.natAbs * 2 ^ (t - 1)).log2 = 52):=by
 obtain ⟨hb,⟨rfl,s,hr⟩ | ⟨hn,hr⟩⟩:=h
 ·exact ⟨s,1074,hr.trans (ZPB s _),by omega,fun h => absurd rfl h⟩
 ·have h0:n.natAbs ≠ 0:=by omega
  have hL:=ZjZ h0 hb
  refine ⟨_,53 - n.natAbs.log2,hr.trans ?_,by omega,fun _ => ⟨rfl,?_⟩⟩
  ·grind
  ·rw [Ys h0]; omega
theorem ZPC:Yg.read 4607182418800017408 = .number false 4503599627370496 (-52):=by decide
theorem ZQd:Yg.read 4611686018427387904 = .number false 4503599627370496 (-51):=by decide
theorem ZmA {x:Nat} {a:Int} (hx:KR x a):∃ z,floatBits .mul .f64 x 4607182418800017408 = some z ∧ KR z a:=by
 obtain ⟨s,t,hr,h1,hs⟩:=hx.nat
 show ∃ z,((Yg.read x).product (Yg.read 4607182418800017408)).map Yg.write = some z ∧ _
 rw [hr,ZPC]
 refine ⟨_,rfl,ZcT (t:=t + 51) (by omega) ?_ (fun hn => by rw [(hs hn).1]; simp) hx.1⟩
 rw [Hw,show (4503599627370496:Nat) = 2 ^ 52 from rfl,← Hr]
 congr 2; omega
theorem ZPg {x:Nat} {c:Int} (hx:KR x (2 * c)):∃ z,floatBits .quo .f64 x 4611686018427387904 = some z ∧ KR z c:=by
 obtain ⟨s,t,hr,h1,hs⟩:=hx.nat
 show ∃ z,((Yg.read x).quotient 54 (Yg.read 4611686018427387904)).map Yg.write = some z ∧ _
 rw [hr,ZQd]
 unfold Ieee.Datum.quotient
 simp only
 rw [if_neg (by omega)]
 refine ⟨_,rfl,?_⟩
 have hb:=hx.1
 by_cases hn:c = 0
 ·subst hn
  simp only [Int.mul_zero,Int.natAbs_zero,Nat.zero_mul,Nat.zero_shiftLeft,Nat.zero_div,Nat.zero_mod]
  have e1:(4503599627370496:Nat).log2 = 52:=by decide
  have e2:(0:Nat).log2 = 0:=by decide
  rw [e1,e2]
  exact ZcT (t:=t + 55) (by simp; omega) (by simp) (fun h => absurd rfl h) (by simp)
 ·obtain ⟨h2,h3⟩:=hs (by omega)
  rw [h3,show (4503599627370496:Nat).log2 = 52 from by decide,show 54 + 52 - 52 = 54 from rfl,Hy]
  have e0:(2 ^ 54:Nat) = 4 * 4503599627370496:=by decide
  rw [e0,← Hw,Nat.mul_div_cancel _ (by omega),Nat.mul_mod_left]
  refine ZcT (t:=t + 3) (by omega) ?_ (fun _ => ?_) (by omega)
  ·have e1:(2 * c).natAbs = 2 * c.natAbs:=by omega
   rw [e1]
   have e2:2 ^ (t + 3) = 2 ^ (t - 1) * 16:=by rw [show t + 3 = (t - 1) + 4 by omega,Hr]
   grind
  grind
theorem ZmK {s:Bool} {q:Nat} {n:Int} (hq:q = n.natAbs) (hs:n ≠ 0 → s = decide (n < 0)) (hb:n.natAbs < 4503599627370496):KR (Yg.write (.number s q 0)) (2 * n):=by
 subst hq
 refine ⟨by omega,?_⟩
 show _ ∨ (_ ∧ Yg.read (Yg.nearest s n.natAbs 0) = _)
 by_cases hn:n = 0
 ·left
  refine ⟨by omega,s,?_⟩
  show Yg.read (Yg.nearest s n.natAbs 0) = _
  subst hn
  unfold Ieee.Format.nearest
  rw [if_pos (by rfl)]
  exact ZtR s
 ·right
  refine ⟨by omega,?_⟩
  rw [ZgZ _ (by omega) hb,hs hn]
  have e1:(2 * n).natAbs = 2 * n.natAbs:=by omega
  simp_all <;> omega
theorem ZkG {s:Bool} {a t:Nat} (way:Ieee.Toward) (hway:way = .down ∨ way = .zero) (ht:1 ≤ t) (hl:a ≠ 0 → (a * 2 ^ (t - 1)).log2 = 52) (ht':a ≠ 0 → t ≤ 53) :
  way.cut s (a * 2 ^ (t - 1)) t = a / 2 + (if way = .down then (s && decide (a % 2 ≠ 0)).toNat else 0):=by
 by_cases h0:a = 0
 ·subst h0
  rcases hway with rfl | rfl <;> simp [Ieee.Toward.cut]
 ·unfold Ieee.Toward.cut
  have h1:=hl h0
  have h2:=ht' h0
  simp only [Ht (show t ≤ (a * 2 ^ (t - 1)).log2 + 2 by omega),HY]
  have hp:0 < 2 ^ (t - 1):=Hs (by omega)
  have e1:2 ^ t = 2 * 2 ^ (t - 1):=by rw [show t = (t - 1) + 1 by omega,Nat.pow_succ,Nat.add_sub_cancel]; omega
  rw [e1,Nat.mul_div_mul_right _ _ hp,Nat.mul_mod_mul_right]
  have e2:(a % 2 * 2 ^ (t - 1) != 0) = decide (a % 2 ≠ 0):=by
   grind
  grind
theorem Zxc {x:Nat} {n:Int} {s:Bool} {t:Nat} (h:n.natAbs ≠ 0) (ht:1 ≤ t) (hl:(n.natAbs * 2 ^ (t - 1)).log2 = 52):t ≤ 53:=by
 rw [Ys h] at hl; omega
theorem ZIH {x:Nat} {n:Int} (hx:KR x n) (hb:n.natAbs < 4503599627370496):∃ z,WC .down x = some z ∧ KR z (2 * (n / 2)):=by
 obtain ⟨s,t,hr,h1,hs⟩:=hx.nat
 unfold WC
 have hd:Je.decode x = .number s (n.natAbs * 2 ^ (t - 1)) (-(t:Int)):=hr
 rw [hd]
 refine ⟨_,rfl,?_⟩
 show KR (Yg.write (Ieee.Datum.integral .down (.number s (n.natAbs * 2 ^ (t - 1)) (-(t:Int))))) _
 unfold Ieee.Datum.integral
 simp only [HL,tNc,show (-(t:Int)).toNat = 0 by omega,HA]
 rw [ZkG .down (.inl rfl) h1 (fun h => (hs (by omega)).2) (fun h => Zxc (x:=x) (s:=s) h h1 (hs (by omega)).2),if_pos rfl]
 refine ZmK ?_ (fun hne => ?_) (by omega)
 ·by_cases h0:n = 0
  ·subst h0; simp
  ·rw [(hs h0).1]
   by_cases hlt:n < 0
   ·rw [dTr hlt]
    by_cases ho:n.natAbs % 2 = 0
    ·simp [ho]; omega
    ·simp [ho]; omega
   grind
 grind
theorem ZJm {x:Nat} {v:Int} (hx:KR x (2 * v)) (hb:v.natAbs < 1125899906842624):∃ z,WC .zero x = some z ∧ KR z (2 * v):=by
 obtain ⟨s,t,hr,h1,hs⟩:=hx.nat
 unfold WC
 have hd:Je.decode x = .number s ((2 * v).natAbs * 2 ^ (t - 1)) (-(t:Int)):=hr
 rw [hd]
 refine ⟨_,rfl,?_⟩
 show KR (Yg.write (Ieee.Datum.integral .zero (.number s ((2 * v).natAbs * 2 ^ (t - 1)) (-(t:Int))))) _
 unfold Ieee.Datum.integral
 simp only [HL,tNc,show (-(t:Int)).toNat = 0 by omega,HA]
 rw [ZkG .zero (.inr rfl) h1 (fun h => (hs (by omega)).2) (fun h => Zxc (x:=x) (s:=s) h h1 (hs (by omega)).2),if_neg (by decide)]
 refine ZmK (by omega) (fun hne => ?_) (by omega)
 grind
theorem K4 {x:Nat} {v:Int} (hx:KR x (2 * v)) (hb:v.natAbs < 1125899906842624):floatToIntVal .f64 x .i64 = some v:=by
 obtain ⟨s,t,hr,h1,hs⟩:=hx.nat
 unfold floatToIntVal
 have hd:Je.decode x = .number s ((2 * v).natAbs * 2 ^ (t - 1)) (-(t:Int)):=hr
 rw [hd]
 have:Ieee.Datum.toInt .zero (.number s ((2 * v).natAbs * 2 ^ (t - 1)) (-(t:Int))) = some v:=by
  unfold Ieee.Datum.toInt Ieee.Datum.integral
  simp only [HL,tNc,show (-(t:Int)).toNat = 0 by omega,HA]
  rw [ZkG .zero (.inr rfl) h1 (fun h => (hs (by omega)).2) (fun h => Zxc (x:=x) (s:=s) h h1 (hs (by omega)).2),if_neg (by decide)]
  unfold Ieee.signed
  grind
 grind [IntKind.min,IntKind.max,IntKind.signed,IntKind.bits]
theorem ZPL (x:Nat):Yg.read (x % 9223372036854775808) = match Yg.read x with | .number _ m e => .number false m e | .infinity _ => .infinity false | .nan _ f => .nan false f:=by
 unfold Ieee.Format.read
 simp only [Zij,Zhm,Zus,ZkH]
 have e1:x % 9223372036854775808 / 9223372036854775808 = 0:=HX (UY _ (by omega))
 rw [e1,Nat.mod_mod]
 grind
theorem Zua {x:Nat} {n:Int} (hx:KR x n):KR (x % 9223372036854775808) (n.natAbs:Int):=by
 obtain ⟨hb,h⟩:=hx
 refine ⟨by simpa using hb,?_⟩
 rw [ZPL]
 grind
theorem Zpb (k x:Nat):Zk1 k (x,()) = some (x % 9223372036854775808,()):=by
 show Zk2 k _ = _
 simp only [Zk2]
 congr 2
 have e1:UH 64 (UD x) &&& ~~~UH 64 (9223372036854775808:Int) = BitVec.ofNat 64 (x % 9223372036854775808):=by
  apply BitVec.eq_of_getLsbD_eq
  intro i hi
  have h1:UH 64 (UD x) = BitVec.ofNat 64 x:=HN ..
  have h2:UH 64 (9223372036854775808:Int) = BitVec.twoPow 64 63:=by decide
  rw [h1,h2]
  simp only [BitVec.getLsbD_and,BitVec.getLsbD_not,BitVec.getLsbD_ofNat,BitVec.getLsbD_twoPow,show (9223372036854775808:Nat) = 2 ^ 63 from rfl,Nat.testBit_mod_two_pow]
  grind
 rw [e1,HO]
 have:x % 9223372036854775808 < 9223372036854775808:=UY _ (by omega)
 rw [Nat.mod_eq_of_lt (by omega)]
 show (UI.wrap ((x % 9223372036854775808:Nat):Int)).toNat = _
 rw [ZrF (by omega),tNc]
end Go.Sh
namespace Go.Sh
open Go Go.Proofs
def Wy (n:Int):Prop := -16777216 ≤ n ∧ n ≤ 16777216
def PV2 (p:Nat × Nat) (l r:Int):Prop:=KR p.1 (2 * l) ∧ KR p.2 (2 * r) ∧ Wy l ∧ Wy r
structure PP (p:List (Nat × Nat)) (L R:List Int):Prop where
 hl:p.length = L.length
 hr:p.length = R.length
 at_:∀ i (h:i < p.length),PV2 p[i] (L[i]'(hl ▸ h)) (R[i]'(hr ▸ h))
def ZfC (L R:List Int):List (Nat × Nat):=(L.zip R).map fun x => (Je.nearest x.1,Je.nearest x.2)
theorem ZzW {L R:List Int} (h:L.length = R.length) (hL:∀ x ∈ L,Wy x) (hR:∀ x ∈ R,Wy x):PP (ZfC L R) L R where
 hl:=by simp [ZfC,h]
 hr:=by simp [ZfC,h]
 at_:=fun i hi => by
  simp only [ZfC,List.length_map,List.length_zip] at hi
  have h1:=hL L[i] (Ha (by omega))
  have h2:=hR R[i] (Ha (by omega))
  simp only [ZfC,List.getElem_map,List.getElem_zip]
  exact ⟨ZfG _ (by unfold Wy at h1; omega),ZfG _ (by unfold Wy at h2; omega),h1,h2⟩
theorem Zo0 (k:Nat) {x y:Nat} {a b:Int} (hx:KR x a) (hy:KR y b) (hb:(a - b).natAbs < 9007199254740992) (hb2:(a + b).natAbs < 9007199254740992):∃ z,ZoZ k ((x,y),()) = some (z,()) ∧ KR z (a - b):=by
 show ∃ z,ZkM k _ = _ ∧ _
 simp only [ZkM]
 unfold cMulBits
 obtain ⟨z1,e1,v1⟩:=ZmA hx
 obtain ⟨z2,e2,v2⟩:=ZmA hy
 obtain ⟨z3,e3,v3⟩:=ZTi v1 v2 hb
 obtain ⟨z4,e4,v4⟩:=ZDT v1 v2 hb2
 simp_all
theorem ZJ7 (k:Nat) {x:Nat} {n:Int} (hx:KR x n) (hb:n.natAbs < 4503599627370496):∃ z,ZA4 k (x,()) = some (z,()) ∧ KR z (2 * (n / 2)):=by
 obtain ⟨z,e,v⟩:=ZIH hx hb
 refine ⟨z,?_,v⟩
 show ZkN k _ = _
 simp only [ZkN,e,QJ]
theorem Zx3 (k:Nat) {x:Nat} {v:Int} (hx:KR x (2 * v)) (hb:v.natAbs < 1125899906842624):∃ z,ZkY k (x,()) = some (z,()) ∧ KR z (2 * v):=by
 obtain ⟨z,e,w⟩:=ZJm hx hb
 refine ⟨z,?_,w⟩
 show ZkZ k _ = _
 simp only [ZkZ,e,QJ]
theorem ZPu:Yg.read 9218868437227405311 = .number false 9007199254740991 971:=by decide
theorem ZS1 {x:Nat} {n:Int} (hx:KR x n) (h0:0 ≤ n):(Je.format.order x 9218868437227405311 == some Ordering.gt) = false:=by
 obtain ⟨s,m,i,h1,h2,h2',h3⟩:=hx.num
 have:Je.format.order x 9218868437227405311 = some Ordering.lt:=by
  show (Yg.read x).order (Yg.read 9218868437227405311) = _
  rw [h1,ZPu]
  unfold Ieee.Datum.order
  simp only
  have hmin:min i 971 = i:=by omega
  rw [hmin,h3 i (Int.le_refl _)]
  congr 1
  rw [HD]
  unfold Ieee.signed
  simp only [JJ,if_false]
  rw [Hy,HK]
  have hp:(0:Int) < 2 ^ (-1 - i).toNat:=Hv (by omega)
  obtain ⟨d,hd,hd1⟩:∃ d:Nat,(971 - i).toNat = (-1 - i).toNat + d ∧ d ≠ 0:=⟨972,by omega,by omega⟩
  have hq:(((2 ^ (971 - i).toNat:Nat):Int)) = 2 ^ (-1 - i).toNat * ((2 ^ d:Nat):Int):=by
   grind
  rw [hq]
  have hb:=hx.1
  have hQ:1 < 2 ^ d:=Nat.one_lt_two_pow hd1
  have e1:n * 2 ^ (-1 - i).toNat ≤ 9007199254740991 * 2 ^ (-1 - i).toNat:=Int.mul_le_mul_of_nonneg_right (by omega) (HF hp)
  grind
 rw [this]; rfl
theorem Zx4 (k:Nat) {x:Nat} {n:Int} (hx:KR x n):ZuO k (x,0,()) = some (false,()):=by
 show Zk0 k _ = _
 simp only [Zk0]
 rw [show ((0:Int) == (0:Int)) = true from rfl]
 simp only [cond_true,Zpb,QJ]
 rw [ZS1 (Zua hx) (by omega)]
theorem ZSJ:KR 4715268809856909312 33554432:=by
 refine ⟨by decide,.inr ⟨by decide,by decide⟩⟩
theorem ZSW {x y:Nat} {a b:Int} (hx:KR x a) (hy:KR y b):∃ z,Zz0 .f64 x y = some z ∧ KR z (max a b):=by
 unfold Zz0
 rw [ZgJ hx hy]
 grind
theorem Zq1 {x y:Nat} {a:Int} (hx:KR x a) (hy:KR y a):(Je.format.order x y != some Ordering.eq) = false:=by
 rw [ZgJ hx hy]; simp
theorem ZI3 {x:Nat} {a:Int} (hx:KR x a) (h:a ≤ 33554432):(Je.format.order x 4715268809856909312 == some Ordering.gt) = false:=by
 rw [ZgJ hx ZSJ]
 grind
theorem ZA3 (k:Nat) (hk:4 < k) (L1:Int × Int × List (Nat × Nat) × List (Nat × Nat) → Option (Int × Unit)) {x y:Nat} {l r:Int} (h:PV2 (x,y) l r) (v3 v4:Int) (v5 v6:List (Nat × Nat)) :
  Zin k L1 (0,x,y,v3,v4,v5,v6) = L1 (v4,Jx.wrap (v3 + 1),v5,v6):=by
 obtain ⟨hx,hy,b1,b2⟩:=h
 unfold Wy at b1 b2
 obtain ⟨k,rfl⟩:∃ m,k = m + 3:=⟨k - 3,by omega⟩
 obtain ⟨z1,e1,w1⟩:=Zx3 (k + 3) hx (by omega)
 obtain ⟨z2,e2,w2⟩:=Zx3 (k + 3) hy (by omega)
 show Zg (fun L2 => ZbY (k + 3) L1 L2) (k + 3) _ = _
 rw [Zc]
 simp only [ZbY]
 rw [Za (by omega),Za (by omega)]
 show ((ZkY (k + 3) (x,())).bind _) = _
 rw [e1]
 simp only [QJ]
 rw [show [x,y].getD (0:Int).toNat (0:Nat) = x from rfl,Zq1 w1 hx]
 simp only [cond_false]
 rw [Zx4 _ hx]
 simp only [QJ,cond_false]
 rw [show Jx.wrap ((0:Int) + 1) = 1 from by rw [ZG (by omega)]; rfl,Zc]
 simp only [ZbY]
 rw [Za (by omega),Za (by omega)]
 show ((ZkY (k + 3) (y,())).bind _) = _
 rw [e2]
 simp only [QJ]
 rw [show [x,y].getD (1:Int).toNat (0:Nat) = y from rfl,Zq1 w2 hy]
 simp only [cond_false]
 rw [Zx4 _ hy]
 rfl
theorem ZGZ (k:Nat) {p:List (Nat × Nat)} {L R:List Int} (hp:PP p L R) (hk:p.length + 4 < k) (hn:p.length ≤ 8192):ZA2 k (p,()) = some (0,()):=by
 show Zf7 k (ZmY k) _ = _
 simp only [Zf7]
 rw [Zh (by simp only [WH]; omega)]
 have h3:Zio k (UD p.length,(0:Int),p) = some (0,()):=by
  have:=Q8 (A:=Unit) (step:=fun L3 => ZbZ k L3) (fun i _ => (UD p.length,UD i,p)) p (fun _ _ => some (0,()))
   (fun L _ => by grind [ZbZ])
   (fun L i hi _ hL => by
    obtain ⟨hx,hy,b1,b2⟩:=hp.at_ i hi
    unfold Wy at b1 b2
    simp only [ZbZ]
    rw [Za (KN hi),Za (Xd hi),ZL hi,Zpb,Zpb]
    simp only [QJ]
    obtain ⟨z,e,w⟩:=ZSW (Zua hx) (Zua hy)
    rw [e]
    simp only [QJ]
    rw [ZI3 w (by omega)]
    simp only [cond_false]
    rw [Qa hi (by omega),hL ()]) k 0 () (by omega) (Hu _)
  exact this
 have:=Q8 (A:=Unit) (step:=fun L1 => ZbX k (Zin k L1) (Zio k) L1) (fun i _ => (UD p.length,UD i,p,p)) p (fun _ _ => some (0,()))
  (fun L _ => by grind [ZbX])
  (fun L i hi _ hL => by
   simp only [ZbX]
   rw [Za (KN hi),Za (Xd hi),ZL hi]
   rw [ZA3 k (by omega) L (x:=p[i].1) (y:=p[i].2) (hp.at_ i hi),Qa hi (by omega),hL ()]) k 0 () (by omega) (Hu _)
 exact this
def apA (m l r:Int):Int:=if m = 9 then l - r else if m = 10 then (l + r) / 2 else l
def apB (m l r:Int):Int:=if m = 8 then l - r else if m = 10 then l - r else r
def ZqK (m:Int):Prop:=m = 0 ∨ m = 8 ∨ m = 9 ∨ m = 10
def Zop (m:Int) (L R:List Int):List Int:=(L.zip R).map fun x => apA m x.1 x.2
def Zoq (m:Int) (L R:List Int):List Int:=(L.zip R).map fun x => apB m x.1 x.2
theorem Zzv (k:Nat) {m:Int} (h:ZqK m):ZFL k (m,()) = some (true,()):=by
 rcases h with rfl | rfl | rfl | rfl <;> rfl
theorem ZN0 (k:Nat) {p:List (Nat × Nat)} {L R:List Int} (hp:PP p L R) (hk:p.length + 4 < k) (hn:p.length ≤ 8192) {m:Int} (hm:ZqK m) :
  ZNV k (p,m,()) = some ((Zop m L R,Zoq m L R,0,()),()):=by
 show ZjG k (Zwi k) _ = _
 simp only [ZjG]
 rw [Zzv k hm]
 simp only [QJ,HC,cond_false]
 rw [ZGZ k hp hk hn]
 simp only [QJ]
 rw [show ((0:Int) != (0:Int)) = false from rfl]
 simp only [cond_false]
 have hl:=hp.hl
 have hr:=hp.hr
 have:=ZF (A:=List Int × List Int) (step:=fun L1 => Zfb k L1) (fun i a => (UD p.length,UD i,p,m,a.1,a.2)) (L.zip R)
  (fun l a => some ((a.1 ++ l.map (fun x => apA m x.1 x.2),a.2 ++ l.map (fun x => apB m x.1 x.2),0,()),())) (fun i a => a.1.length = i ∧ a.2.length = i)
  (fun L1 a ha => by
   grind [Zfb])
  (fun L1 i hi a ha hL1 => by
   have hi2:i < p.length:=by simp at hi; omega
   obtain ⟨hx,hy,b1,b2⟩:=hp.at_ i hi2
   unfold Wy at b1 b2
   simp only [Zfb]
   rw [Za (KN hi2),Za (Xd hi2),ZL hi2]
   have s1:(a.1.length + [(0:Int)].length < 2147483648):=by simp; omega
   have s2:(a.2.length + [(0:Int)].length < 2147483648):=by simp; omega
   have hz:(L.zip R)[i] = (L[i]'(by omega),R[i]'(by omega)):=by simp
   rw [hz]
   have fin:∀ (u v:Int),u = apA m (L[i]'(by omega)) (R[i]'(by omega)) → v = apB m (L[i]'(by omega)) (R[i]'(by omega)) →
     L1 (UD p.length,Jx.wrap (UD i + 1),p,m,a.1 ++ [u],a.2 ++ [v]) = some ((a.1 ++ List.map (fun x => apA m x.1 x.2) ((L[i]'(by omega),R[i]'(by omega)) :: UM (i + 1) (L.zip R)),a.2 ++ List.map (fun x => apB m x.1 x.2) ((L[i]'(by omega),R[i]'(by omega)) :: UM (i + 1) (L.zip R)),0,()),()):=by
    intro u v hu hv
    rw [Qa hi2 (by omega)]
    simp_all
   rcases hm with rfl | rfl | rfl | rfl
   ·rw [show ((0:Int) == (8:Int)) = false from rfl,show ((0:Int) == (9:Int)) = false from rfl,show ((0:Int) == (10:Int)) = false from rfl]
    simp only [cond_false]
    rw [K4 hx (by omega)]
    simp only [QJ]
    rw [Za (by simp; omega),K4 hy (by omega)]
    simp only [QJ]
    rw [Za (by simp; omega)]
    exact fin _ _ rfl rfl
   ·rw [show ((8:Int) == (8:Int)) = true from rfl]
    simp only [cond_true]
    obtain ⟨z,e,w⟩:=Zo0 k hx hy (by omega) (by omega)
    rw [← HI] at w
    rw [e]
    simp only [QJ]
    rw [K4 hx (by omega)]
    simp only [QJ]
    rw [Za (by simp; omega),K4 w (by omega)]
    simp only [QJ]
    rw [Za (by simp; omega)]
    exact fin _ _ rfl rfl
   ·rw [show ((9:Int) == (8:Int)) = false from rfl,show ((9:Int) == (9:Int)) = true from rfl]
    simp only [cond_true,cond_false]
    obtain ⟨z,e,w⟩:=Zo0 k hx hy (by omega) (by omega)
    rw [← HI] at w
    rw [e]
    simp only [QJ]
    rw [K4 w (by omega)]
    simp only [QJ]
    rw [Za (by simp; omega),K4 hy (by omega)]
    simp only [QJ]
    rw [Za (by simp; omega)]
    exact fin _ _ rfl rfl
   ·rw [show ((10:Int) == (8:Int)) = false from rfl,show ((10:Int) == (9:Int)) = false from rfl,show ((10:Int) == (10:Int)) = true from rfl]
    simp only [cond_true,cond_false]
    obtain ⟨z1,e1,w1⟩:=ZDT hx hy (by omega)
    rw [← Int.mul_add] at w1
    obtain ⟨z2,e2,w2⟩:=ZPg w1
    obtain ⟨z3,e3,w3⟩:=ZJ7 k w2 (by omega)
    obtain ⟨z,e,w⟩:=Zo0 k hx hy (by omega) (by omega)
    rw [← HI] at w
    rw [e1]
    simp only [QJ]
    rw [e2]
    simp only [QJ]
    rw [e3]
    simp only [QJ]
    rw [e]
    simp only [QJ]
    rw [K4 w3 (by omega)]
    simp only [QJ]
    rw [Za (by simp; omega),K4 w (by omega)]
    simp only [QJ]
    rw [Za (by simp; omega)]
    exact fin _ _ rfl rfl) k 0 ([],[]) ⟨rfl,rfl⟩ (by simp; omega) (Hu _)
 exact U4 this (by rw [U5]; rfl)
end Go.Sh
namespace Go.Sh
open Go Go.Proofs
theorem ZAe (x:Int) {w:Nat} (hw:0 < w):sgn x w = (x.fdiv (2 ^ (w - 1)) == 0 || x.fdiv (2 ^ (w - 1)) == -1):=by
 rw [Bool.eq_iff_iff]
 constructor
 ·intro h
  rcases ZO2 hw h with h | h
  ·rw [h]; rfl
  ·rw [h]; rfl
 ·intro h
  unfold sgn
  rw [if_neg (by omega),decide_eq_true_eq]
  have hp:(0:Int) < 2 ^ (w - 1):=Hv (by omega)
  rw [HE _ (by omega)] at h
  have h1:=Int.mul_ediv_add_emod x (2 ^ (w - 1))
  have h2:=Int.emod_nonneg x (show (2:Int) ^ (w - 1) ≠ 0 by omega)
  have h3:=Int.emod_lt_of_pos x hp
  grind
def ZPQ:List Int → Int → Int → Int
 | [],n,_ => n
 | x :: l,n,last => ZPQ l (n + ((x - last).natAbs:Int)) x
def ZPR (l:List Int):Int:=ZPQ l 0 0
def QG (n:Int):Prop := -67108864 ≤ n ∧ n ≤ 67108864
def ZTr (L R:List Int) (m:Int):Int:=ZPR (Zop m L R) + ZPR (Zoq m L R)
def ZGe (L R:List Int) (b:Int × Int) (m:Int):Int × Int:=if b.1 < 0 ∨ ZTr L R m < b.1 then (ZTr L R m,m) else b
def ZmV (L R:List Int):Int:=(ZGe L R (ZGe L R (ZGe L R (ZGe L R (-1,0) 0) 8) 9) 10).2
def ZPp (ch:List (List Int)):List (List Int) × Int:=match ch with
 | [L,R] => ([Zop (ZmV L R) L R,Zoq (ZmV L R) L R],if ZmV L R = 0 then 1 else ZmV L R)
 | ch => (ch,0)
def WX (c d m:Int):List Int:=if c = 1 then [d] else if m = 8 ∨ m = 10 then [d,d + 1] else if m = 9 then [d + 1,d] else [d,d]
theorem ZM1 (k:Nat) {c d r m:Int} (hc:c = 1 ∧ m = 0 ∨ c = 2) (hd:0 ≤ d ∧ d ≤ 24):ZMZ k ((c,d,r,()),m,()) = some (WX c d m,()):=by
 show ZpW k _ = _
 simp only [ZpW]
 have e:Jx.wrap (d + 1) = d + 1:=ZG (by omega)
 unfold WX
 rcases hc with ⟨rfl,rfl⟩ | rfl
 ·rw [Za (by simp)]
  rfl
 grind
def XL (c d r:Int):Bool:=decide (1 ≤ c ∧ c ≤ 2 ∧ 4 ≤ d ∧ d ≤ 24 ∧ 1 ≤ r ∧ r ≤ 655350)
theorem Zo6 (k:Nat) (c d r:Int):Zo5 k ((c,d,r,()),()) = some (if XL c d r then 0 else 2,()):=by
 show Zey k _ = _
 simp only [Zey]
 unfold XL
 grind
def ZaX (n:Nat) (l:List Int):Bool:=decide (l.length = n ∧ 1 ≤ n ∧ n ≤ 512)
def KH (c d r n:Int) (ch:List (List Int)):Int :=
 if XL c d r = false then 2 else if n < 0 ∨ 2147483647 < n ∨ (ch.length:Int) ≠ c then 1
 else if ch.all (ZaX (ch.headD []).length) = false then 1
 else if ch.all (fun l => l.all fun x => sgn x d.toNat) = false then 12 else 0
theorem ZMO (k:Nat) (c d r n:Int) (ch:List (List Int)) (hk:1000 < k):ZpP k ((c,d,r,()),(n,ch,()),()) = some (KH c d r n ch,()):=by
 show Zjs k (ZpQ k) _ = _
 simp only [Zjs]
 rw [Zo6]
 simp only [QJ]
 unfold KH
 cases hs:XL c d r with
 | false => rfl
 | true =>
  simp only [if_true,Bool.true_eq_false,if_false]
  rw [show ((0:Int) != (0:Int)) = false from rfl]
  simp only [cond_false]
  have hs:=of_decide_eq_true hs
  by_cases h1:n < 0
  ·rw [Za h1,if_pos (.inl h1)]
  ·rw [Zh h1]
   by_cases h2:2147483647 < n
   ·rw [Za h2,if_pos (.inr (.inl h2))]
   ·rw [Zh h2,Zk]
    by_cases h3:UD ch.length = c
    ·rw [Zh (by simpa using h3),if_neg (by simp_all)]
     simp only [WH] at h3
     have hch:ch.length ≤ 2:=by omega
     rw [Za (by simp only [WH]; omega)]
     have hhd:ch.getD 0 [] = ch.headD []:=by cases ch <;> rfl
     rw [hhd]
     generalize hN:(ch.headD []).length = N
     have hstep2:ch.all (ZaX N) = true → ZeX k (UD ch.length,(0:Int),ch,c,d,r) = some (if ch.all (fun l => l.all fun x => sgn x d.toNat) = false then 12 else 0,()):=by
      intro hall
      have:=QN (step:=fun L2 => Zcw k (ZpR k L2) L2) (fun i => (UD ch.length,UD i,ch,c,d,r)) ch (fun l => l.all fun x => sgn x d.toNat) (some ((12:Int),())) (some ((0:Int),()))
       (fun L => by grind [Zcw])
       (fun L i hi => by
        simp only [Zcw]
        rw [Za (KN hi),Za (Xd hi),ZL hi]
        have hlen:=of_decide_eq_true (Ve.1 hall ch[i] (Ha hi))
        have:=QN (step:=fun L3 => ZeZ k L L3) (fun j => (UD ch[i].length,UD j,ch[i],UD i,UD ch.length,ch,c,d,r)) ch[i] (fun x => sgn x d.toNat) (some ((12:Int),()))
         (L (UD ch.length,UD (i + 1),ch,c,d,r))
         (fun L3 => by simp only [ZeZ]; rw [Zh (ZaZ _),Qa hi (by omega)])
         (fun L3 j hj => by
          simp only [ZeZ]
          rw [Za (KN hj),Za (Xd hj),ZL hj]
          have ew:Jx.wrap (d - 1) = ((d.toNat - 1:Nat):Int):=by rw [ZG (by omega)]; omega
          simp only [ew,tNc,Ht (show d.toNat - 1 ≤ 64 by omega)]
          rw [Za (by omega),ZAe _ (by omega),Qa hj (by omega)]
          grind) k (by omega)
        rw [← this]
        rfl) k (by omega)
      rw [show ZeX k (UD ch.length,(0:Int),ch,c,d,r) = Zg (fun L2 => Zcw k (ZpR k L2) L2) k (UD ch.length,UD 0,ch,c,d,r) from rfl,this]
      grind
     have:=QN (step:=fun L1 => Zcv k (ZeX k) L1) (fun i => (UD ch.length,UD i,ch,UD N,n,ch,c,d,r)) ch (ZaX N) (some ((1:Int),()))
      (ZeX k (UD ch.length,(0:Int),ch,c,d,r))
      (fun L => by grind [Zcv])
      (fun L i hi => by
       simp only [Zcv]
       rw [Za (KN hi),Za (Xd hi),ZL hi,Zk]
       unfold ZaX
       simp only [WH]
       by_cases e1:ch[i].length = N
       ·rw [Zh (by omega)]
        by_cases e2:N < 1
        ·simp_all
        ·rw [Zh (by omega)]
         by_cases e3:512 < N
         ·grind
         ·rw [Zh (by omega),dTr (by omega),ZG (by omega)]; rfl
       grind) k (by omega)
     rw [show ZpQ k (UD ch.length,(0:Int),ch,UD N,n,ch,c,d,r) = Zg (fun L1 => Zcv k (ZeX k) L1) k (UD ch.length,UD 0,ch,UD N,n,ch,c,d,r) from rfl,this]
     grind
    simp_all
end Go.Sh
namespace Go.Sh
open Go Go.Proofs
def Zl2:List Int → Int
 | [] => 0
 | x :: l => x + Zl2 l
def Zd2 (x:Int):Bool:=decide (-2048 ≤ x ∧ x ≤ 2047)
def Wi (x:Int):Bool:=decide (x ≤ -2147483648 ∨ 2147483648 ≤ x)
def KO (c:List Int) (sh:Int):Bool:=decide (c.length ≤ 8 ∧ 0 ≤ sh ∧ sh ≤ 15) && c.all Zd2
theorem ZIh (k:Nat) (x:Int):ZBA k (x,()) = some (!Zd2 x,()):=by
 show Zll k _ = _
 simp only [Zll]
 unfold Zd2
 by_cases h:x < -2048
 ·simp_all
 ·rw [Zh h]
  by_cases h2:2047 < x
  ·simp_all
  simp_all
theorem ZxP (k:Nat) (c:List Int) (hk:c.length < k) (hn:c.length < 4294967296):Zo2 k (c,(),()) = some (!c.all Zd2,()):=by
 show Zeu k _ = _
 simp only [Zeu]
 have key:∃ i:Int,Zpe k (c,(),()) = some (i,()) ∧ (0 ≤ i ↔ c.all Zd2 = false):=by
  have:=Q8 (A:=Unit) (R:=Int × Unit) (step:=fun L1 => Ko k L1) (fun i _ => (UD c.length,UD i,c)) c
   (fun l _ => some (if l.all Zd2 then -1 else UD (c.length - l.length + (l.takeWhile Zd2).length),()))
   (fun L _ => by grind [Ko])
   (fun L i hi _ hL => by
    simp only [Ko]
    rw [Za (KN hi),Za (Xd hi),ZL hi,ZIh]
    simp only [QJ]
    have hlen:(UM (i + 1) c).length = c.length - (i + 1):=by simp
    cases hc:Zd2 c[i] with
    | true =>
     simp only [HC,cond_false]
     rw [Qa hi (by omega),hL ()]
     simp only [UA,hc,Bool.true_and,Hz,if_true,JF,hlen]
     grind
    | false =>
     simp only [Bool.not_false,cond_true,UA,hc,Bool.false_and,JJ,if_false,Hz,JF,hlen,HV]
     congr 3; omega) k 0 () (by omega) (Hu _)
  rw [U5] at this
  refine ⟨_,this,?_⟩
  cases c.all Zd2 <;> simp
 grind
theorem ZsH (k:Nat) (x:Int):Zpg k (x,()) = some (Wi x,()):=by
 show Zk7 k _ = _
 simp only [Zk7]
 unfold Wi
 grind
theorem Zmm (k:Nat) (c:List Int) (hk:c.length < k) (hn:c.length < 4294967296):Zes k (c,(),()) = some (c.any Wi,()):=by
 show Zet k _ = _
 simp only [Zet]
 have key:∃ i:Int,Zpc k (c,(),()) = some (i,()) ∧ (0 ≤ i ↔ c.any Wi = true):=by
  have:=Q8 (A:=Unit) (R:=Int × Unit) (step:=fun L1 => Kn k L1) (fun i _ => (UD c.length,UD i,c)) c
   (fun l _ => some (if l.any Wi then UD (c.length - l.length + (l.takeWhile (fun x => !Wi x)).length) else -1,()))
   (fun L _ => by grind [Kn])
   (fun L i hi _ hL => by
    simp only [Kn]
    rw [Za (KN hi),Za (Xd hi),ZL hi,ZsH]
    simp only [QJ]
    have hlen:(UM (i + 1) c).length = c.length - (i + 1):=by simp
    cases hc:Wi c[i] with
    | false =>
     simp only [cond_false]
     rw [Qa hi (by omega),hL ()]
     simp only [List.any_cons,hc,Bool.false_or,Hz,Bool.not_false,if_true,JF,hlen]
     grind
    | true =>
     simp only [cond_true,List.any_cons,hc,Bool.true_or,if_true,Hz,HC,JJ,if_false,JF,hlen,HV]
     congr 3; omega) k 0 () (by omega) (Hu _)
  rw [U5] at this
  refine ⟨_,this,?_⟩
  cases c.any Wi <;> simp
 grind
theorem ZH5 (k:Nat) (c:List Int) (sh:Int) (hk:10 < k):Zu3 k ((c,sh,()),()) = some (if KO c sh then 0 else 2,()):=by
 show Zld k _ = _
 simp only [Zld]
 unfold KO
 by_cases h1:(8:Int) < UD c.length
 ·grind
 ·simp only [WH] at h1
  rw [Zh (by simp only [WH]; omega)]
  by_cases h2:sh < 0
  ·grind
  ·rw [Zh h2]
   by_cases h3:15 < sh
   ·grind
   ·rw [Zh h3,ZxP k c (by omega) (by omega),dTr (by omega)]
    grind
def ZXw (c a:List Int):Int:=Zl2 ((c.zip a.reverse).map fun x => x.1 * x.2)
def ZcH (c:List Int) (sh:Int) (a:List Int):Int:=(ZXw c a).fdiv (2 ^ sh.toNat)
theorem ZIY {x y:Int} (hx : -2048 ≤ x ∧ x ≤ 2047) (hy : -2147483648 < y ∧ y < 2147483648) : -4398046511104 ≤ x * y ∧ x * y ≤ 4398046511104:=by
 have h1:(x * y).natAbs ≤ 2048 * 2147483648:=by
  rw [HJ]
  exact J3 (by omega) (by omega)
 omega
theorem ZDI {l:List Int} {b:Int} (h:∀ x ∈ l,-b ≤ x ∧ x ≤ b) : -((l.length:Int) * b) ≤ Zl2 l ∧ Zl2 l ≤ (l.length:Int) * b:=by
 induction l with
 | nil => simp [Zl2]
 | cons x l ih =>
  have h1:=h x (Jl ..)
  have h2:=ih fun y hy => h y (Jn _ hy)
  simp only [Zl2,JF]
  grind
def ZxA (x:Int):Prop := -2048 ≤ x ∧ x ≤ 2047
def QU (x:Int):Prop := -2147483648 < x ∧ x < 2147483648
theorem ZkI {c a:List Int} (hc:∀ x ∈ c,ZxA x) (ha:∀ x ∈ a,QU x):∀ x ∈ (c.zip a.reverse).map fun x => x.1 * x.2,-4398046511104 ≤ x ∧ x ≤ 4398046511104:=by
 intro x hx
 obtain ⟨⟨u,v⟩,h,rfl⟩:=VF.1 hx
 exact ZIY (hc _ (Vy h).1) (ha _ (by simpa using (Vy h).2))
theorem Zqr {x:Int} {b:Int} (p:Nat) (h : -b ≤ x ∧ x ≤ b) (hb:0 ≤ b) : -b ≤ x.fdiv (2 ^ p) ∧ x.fdiv (2 ^ p) ≤ b:=by
 have hp:(0:Int) < 2 ^ p:=Hv (by omega)
 rw [HE _ (by omega)]
 constructor
 ·rw [Int.le_ediv_iff_mul_le hp]
  have:b * 1 ≤ b * 2 ^ p:=Int.mul_le_mul_of_nonneg_left (by omega) hb
  rw [Int.neg_mul]
  omega
 ·by_cases hx:0 ≤ x
  ·exact Int.le_trans (Int.ediv_le_self _ hx) h.2
  ·have:x / 2 ^ p < 0:=Int.ediv_neg_of_neg_of_pos (by omega) hp
   omega
theorem ZmG {c a:List Int} {sh:Int} (hc:∀ x ∈ c,ZxA x) (ha:∀ x ∈ a,QU x) (hl:c.length ≤ 8) : -35184372088832 ≤ ZcH c sh a ∧ ZcH c sh a ≤ 35184372088832:=by
 unfold ZcH ZXw
 have h1:=ZDI (ZkI hc ha)
 have h2:((c.zip a.reverse).map fun x => x.1 * x.2).length ≤ 8:=by simp; omega
 exact Zqr _ (by omega) (by omega)
theorem ZH7 (k:Nat) {c a:List Int} {sh:Int} (hk:c.length < k) (hl:c.length ≤ 8) (hla:c.length ≤ a.length) (hn:a.length ≤ 4294967296) (hsh:0 ≤ sh ∧ sh ≤ 15) (hc:∀ x ∈ c,ZxA x) (ha:∀ x ∈ a,QU x) :
  Zu5 k ((c,sh,()),a,()) = some (ZcH c sh a,()):=by
 show Zgu k (ZnI k) _ = _
 simp only [Zgu]
 have hzl:(c.zip a.reverse).length = c.length:=by simp; omega
 have hterm:=ZkI hc ha
 have:=ZF (A:=Int) (step:=fun L1 => Zcg k L1) (fun i acc => (UD c.length,UD i,c,acc,a,c,sh)) (c.zip a.reverse)
  (fun l acc => some ((acc + Zl2 (l.map fun x => x.1 * x.2)).fdiv (2 ^ sh.toNat),())) (fun i acc => -((i:Int) * 4398046511104) ≤ acc ∧ acc ≤ (i:Int) * 4398046511104)
  (fun L acc _ => by
   grind [Zcg,Zl2])
  (fun L i hi acc hacc hL => by
   have hi2:i < c.length:=by omega
   have hi3:i < a.reverse.length:=by simp; omega
   simp only [Zcg]
   have e1:Jx.wrap (Jx.wrap (UD a.length - 1) - UD i) = ((a.length - 1 - i:Nat):Int):=by
    simp only [WH]
    rw [ZG (n:=(a.length:Int) - 1) (by omega),ZG (by omega)]; omega
   rw [Za (KN hi2),Za (Xd hi2),e1,Za (by simp only [WH]; omega),ZL hi2,tNc]
   have e2:a.getD (a.length - 1 - i) 0 = a.reverse[i]:=by
    grind
   rw [e2]
   have hz:(c.zip a.reverse)[i] = (c[i],a.reverse[i]):=by simp
   have ht:=hterm (c[i] * a.reverse[i]) (VF.2 ⟨(c[i],a.reverse[i]),by rw [← hz]; exact Ha _,rfl⟩)
   have hi8:(i:Int) ≤ 8:=by omega
   rw [ZG (n:=c[i] * a.reverse[i]) (by omega),ZG (n:=acc + c[i] * a.reverse[i]) (by omega),Qa hi2 (by omega)]
   grind [Zl2]) k 0 0 ⟨by omega,by omega⟩ (by omega) (Hu _)
 refine U4 this ?_
 rw [U5,Int.zero_add]
 rfl
def ZYD (c:List Int) (sh:Int) (s:List Int) (i:Nat):Int:=s.getD i 0 - ZcH c sh (s.take i)
def ZTc (c:List Int) (sh:Int) (s:List Int):Nat → Nat → List Int
 | 0,_ => []
 | d + 1,i => ZYD c sh s i :: ZTc c sh s d (i + 1)
def ZhU (c:List Int) (sh:Int) (s:List Int):List Int:=ZTc c sh s (s.length - c.length) c.length
def X4 (c:List Int) (sh:Int) (s:List Int):List Int × Int :=
 if KO c sh = false then ([],2) else if s.length < c.length then ([],1) else if s.any Wi then ([],12)
 else if (ZhU c sh s).any Wi then ([],12) else (ZhU c sh s,0)
theorem ZAa (c:List Int) (sh:Int) (s:List Int):∀ d i,(ZTc c sh s d i).length = d
 | 0,_ => rfl
 | d + 1,i => by simp [ZTc,ZAa c sh s d (i + 1)]
theorem ZfE {c:List Int} {sh:Int} (h:KO c sh = true):c.length ≤ 8 ∧ (0 ≤ sh ∧ sh ≤ 15) ∧ ∀ x ∈ c,ZxA x:=by
 unfold KO at h
 simp only [Jh,decide_eq_true_eq] at h
 refine ⟨h.1.1,h.1.2,fun x hx => ?_⟩
 have:=Ve.1 h.2 x hx
 unfold Zd2 at this
 rw [decide_eq_true_eq] at this
 exact this
theorem ZcE {s:List Int} (h:s.any Wi = false):∀ x ∈ s,QU x:=by
 intro x hx
 rw [List.any_eq_false] at h
 have:=h x hx
 unfold Wi at this
 simp only [decide_eq_true_eq] at this
 unfold QU
 omega
def ZxD (c:List Int) (sh:Int) (s:List Int):Int × Int:=(Zl2 ((X4 c sh s).1.map fun x => (x.natAbs:Int)),(X4 c sh s).2)
theorem Zg2 (c:List Int) (sh:Int) (s:List Int):∀ x ∈ (X4 c sh s).1,QU x:=by
 unfold X4
 split
 ·simp
 ·split
  ·simp
  ·split
   ·simp
   ·split
    ·simp
    ·rename_i h
     exact ZcE (by simpa using h)
def ZhG (o:Nat):List Int:=match o with
 | 1 => [1]
 | 2 => [2,-1]
 | 3 => [3,-3,1]
 | 4 => [4,-6,4,-1]
 | _ => []
theorem Zsw (k:Nat) (o:Nat) (ho:o ≤ 4) (hk:20 < k):ZuC k ((o:Int),()) = some (((ZhG o,0,()),0,()),()):=by
 obtain ⟨k,rfl⟩:∃ m,k = m + 20:=⟨k - 20,by omega⟩
 match o,ho with
 | 0,_ => rfl
 | 1,_ => rfl
 | 2,_ => rfl
 | 3,_ => rfl
 | 4,_ => rfl
def ZAM (o:Nat):List Int:=match o with
 | 2 => [32,-16]
 | 4 => [64,-96,64,-16]
 | 8 => [64,-96,64,-16,0,0,0,0]
 | _ => []
abbrev Mdl:=List Int × Int × Bool
def ZUz (s:List Int) (by_:Int) (j:Nat) (M:Mdl):Mdl :=
 if (ZxD (M.1.set j (M.1.getD j 0 + by_)) 4 s).2 = 0 ∧ (M.2.2 = false ∨ (ZxD (M.1.set j (M.1.getD j 0 + by_)) 4 s).1 < M.2.1)
 then (M.1.set j (M.1.getD j 0 + by_),(ZxD (M.1.set j (M.1.getD j 0 + by_)) 4 s).1,true) else M
def ZXp (s:List Int) (st:Int) (j:Nat) (M:Mdl):Mdl:=ZUz s (-st) j (ZUz s st j M)
def ZYE (s:List Int) (st:Int):Nat → Nat → Mdl → Mdl
 | 0,_,M => M
 | d + 1,j,M => ZYE s st d (j + 1) (ZXp s st j M)
def ZTd (s:List Int) (st:Int) (o:Nat) (M:Mdl):Mdl:=ZYE s st o 0 M
def ZTg (s:List Int) (o:Nat):Mdl:=ZTd s 1 o (ZTd s 2 o (ZTd s 4 o (ZTd s 8 o (ZAM o,(ZxD (ZAM o) 4 s).1,(ZxD (ZAM o) 4 s).2 == 0))))
def ZGn (s:List Int) (o:Nat):List Int:=(ZTg s o).1
end Go.Sh
