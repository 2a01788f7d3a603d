/-
  What the row needs, part 9.
-/
import Derived.Test.YtfljgkbgnfbhlaaXLeafKeeps8
import Derived.ChangeArms
import Derived.ChangeShapes
import Derived.WideShapes
import Derived.ReadAgain
import Derived.Below
import Derived.ChangeSame
import Derived.RowKit
set_option linter.unusedSimpArgs false
set_option linter.unusedVariables false
set_option linter.unusedSectionVars false
open Bool renaming and_eq_true→Jh,eq_iff_iff→UX
open ByteArray renaming mk→UL
open Go.Instr renaming fill→Jw
open Int renaming ofNat→UM,ofNat_eq_natCast→UU
open Go.IntKind renaming i64→Jx,u8→UO,wrap→U4
open List renaming mem_append_left→JG,mem_cons_self→Jm,mem_cons_of_mem→Jn,mem_append_right→JA,replicate→Jd,mem_map→VG,append_nil→Vg,length_cons→JF,map_append→U5,mem_append→Js,nodup_append→VQ,map_cons→JR,Perm→U8,flatMap_cons→U9,mem_cons→VM,nil_append→VT,cons_append→J1,drop_drop→JE,drop_eq_getElem_cons→Ul,drop_left→JM,getElem?_append_right→Vs,getElem?_cons_succ→Ha,getElem?_eq_getElem→VO,getElem_mem→UJ,not_mem_nil→Uv
open Nat renaming le_refl→Jj,beq→Ja,zero_le→U6,le_trans→VI,lt_or_ge→VN,zero_add→Ub,le_of_ble_eq_true→Jt
open Option renaming bind_some→VK,some→VF,bind_eq_some_iff→Uy
open Go.Value renaming pointer→U7,slice→V5
namespace Go.Sh
open Go Go.RowKit Go.WideShapes Go.ChangeShapes
def Zes (P:Program) (g:TypeId → Ty → Bool):Nat → List Field → Ty → Bool
 | _,[],.unit => true
 | off,f :: l,.pair a b => Ja f.offset off && g f.type a && Ja (P.cellsOf f.type) a.size && Zes P g (off + a.size) l b
 | _,_,_ => false
def Yf (P:Program):Nat → TypeId → Ty → Bool
 | 0,_,_ => false
 | n + 1,T,t => match P.underlying T,t with
  | some .bool,.bool => true
  | some (.int k),.int k' => decide (k = k')
  | some .string,.str => true
  | some (.slice e),.sl t => Yf P n e t && Ja (P.cellsOf e) t.size && Nat.ble 1 t.size
  | some (.struct fs),.pair a b => Zes P (Yf P n) 0 fs.toList (.pair a b) && Ja (P.cellsOf T) (Ty.size (.pair a b))
  | some (.struct fs),.unit => Zes P (Yf P n) 0 fs.toList .unit && Ja (P.cellsOf T) 0
  | _,_ => false
def Ty.bulk:(t:Ty) → t.den → Nat
 | .str,s => s.size + 1
 | .sl t,xs => (xs.map t.bulk).sum + 1
 | .pair a b,x => a.bulk x.1 + b.bulk x.2
 | .unit,_ => 0
 | .bool,_ => 1
 | .int _,_ => 1
 | .fl _,_ => 1
 | .cx _,_ => 1
 | .raw,_ => 1
def Ty.ok:(t:Ty) → t.den → Prop
 | .int k,n => k.min ≤ n ∧ n ≤ k.max
 | .sl t,xs => ∀ x ∈ xs,t.ok x
 | .pair a b,x => a.ok x.1 ∧ b.ok x.2
 | .bool,_ => True
 | .str,_ => True
 | .fl _,_ => True
 | .cx _,_ => True
 | .raw,_ => True
 | .unit,_ => True
mutual
def bulkD {H:Type}:DataW H → Nat
 | .lit (.string bytes) => bytes.length + 1
 | .lit _ => 1
 | .nil => 1
 | .ptr d => bulkD d + 1
 | .slice elems spare => bulkDs elems + bulkDs spare + 1
 | .agg parts => bulkDs parts + 1
 | .iface _ d => bulkD d + 1
 | .map entries => bulkEs entries + 1
 | .held _ => 1
def bulkDs {H:Type}:List (DataW H) → Nat
 | [] => 0
 | d :: r => bulkD d + bulkDs r
def bulkEs {H:Type}:List (Lit × DataW H) → Nat
 | [] => 0
 | x :: r => bulkE x + bulkEs r
def bulkE {H:Type}:Lit × DataW H → Nat
 | (.string bytes,d) => bytes.length + bulkD d + 1
 | (_,d) => bulkD d + 1
end
def Xr (w:World) (b:Nat):Nat:=match w.heap[b]? with
 | some (.cells c _ _) => c.size
 | _ => 0
theorem ZiE {w:World} {b o:Nat} {v:Value} (h:w.cell? ⟨b,o,none⟩ = some v):o < Xr w b:=by
 unfold World.cell? at h
 unfold Xr
 split at h
 ·rename_i c _ _ hb
  simp only at hb
  rw [hb]
  simp only [Option.isSome_none,Bool.false_eq_true,if_false] at h
  exact (Array.getElem?_eq_some_iff.1 h).1
 ·cases h
theorem ZiF (w:World):∀ b,w.heap.size ≤ b → Xr w b = 0:=by
 intro b hb
 unfold Xr
 rw [Array.getElem?_eq_none hb]
theorem cells?_at {w:World} {base n:Nat} {a:Addr} {cs:List Value} (h:w.cells? base a n = some cs):cs.length = n ∧ ∀ i v,cs[i]? = some v → w.cell? (a.add i) = some v:=by
 unfold World.cells? at h
 split at h
 ·have hl:=mapM_some_length h
  simp only [List.length_range] at hl
  refine ⟨hl,fun i v hi => ?_⟩
  have hlt:i < n:=by have:=(List.getElem?_eq_some_iff.1 hi).1; omega
  have:=mapM_some_get h i i (by simp [hlt])
  rw [this,hi]
 ·cases h
section
variable {H:Type} {enc:TypeId × Value → H} {P:Program} {w:World} {base:Nat} {spare:Nat → Bool} {held:Bool}
theorem ZcT {n n':Nat} (ih:∀ (T:TypeId) (t:Ty) (cs:List Value) (x:DataW H × List MemPlace),Yf P n T t = true → DataW.trod enc P w base spare held n' T cs = some x → ∃ y,Rt w (Xr w) t y cs ∧ t.ok y ∧ t.bulk y ≤ bulkD x.1) :
  ∀ (l:List Field) (t:Ty) (off:Nat) (cs:List Value) (xs:List (DataW H × List MemPlace)),Zes P (Yf P n) off l t = true → cs.length = off + t.size →
   (∀ (i:Nat) (f:Field),l[i]? = some f → DataW.trod enc P w base spare held n' f.type ((cs.drop f.offset).take (P.cellsOf f.type)) = xs[i]?) → xs.length = l.length →
   ∃ y,Rt w (Xr w) t y (cs.drop off) ∧ t.ok y ∧ t.bulk y ≤ bulkDs (xs.map (·.1))
 | [],t,off,cs,xs,h,hl,hx,hn => by
  match t,h with
  | .unit,h =>
   refine ⟨(),?_,trivial,U6 _⟩
   simp only [Rt,List.drop_eq_nil_iff]
   simp [Ty.size] at hl; omega
 | f :: l,t,off,cs,xs,h,hl,hx,hn => by
  match t,h with
  | .pair a b,h =>
   simp only [Zes,Jh] at h
   obtain ⟨⟨⟨h1,h2⟩,h3⟩,h4⟩:=h
   match xs,hn with
   | x :: xs,hn =>
    have h0:=hx 0 f rfl
    rw [Zu h1,Zu h3] at h0
    simp only [List.getElem?_cons_zero] at h0
    obtain ⟨y,e1,e2,e3⟩:=ih f.type a _ x h2 h0
    simp only [Ty.size] at hl
    obtain ⟨z,g1,g2,g3⟩:=ZcT ih l b (off + a.size) cs xs h4 (by omega) (fun i f' hf' => by simpa using hx (i + 1) f' (by simpa using hf')) (by simpa using hn)
    refine ⟨(y,z),?_,⟨e2,g2⟩,?_⟩
    ·simp only [Rt]
     refine ⟨_,_,?_,e1,g1⟩
     rw [← JE,List.take_append_drop]
    ·simp only [Ty.bulk,JR,bulkDs]; omega
theorem Ky:∀ (n m:Nat) (T:TypeId) (t:Ty) (cs:List Value) (x:DataW H × List MemPlace),Yf P m T t = true → DataW.trod enc P w base spare held n T cs = some x →
  ∃ y,Rt w (Xr w) t y cs ∧ t.ok y ∧ t.bulk y ≤ bulkD x.1
 | 0,_,_,_,_,_,_,h => by simp [DataW.trod] at h
 | n + 1,0,_,_,_,_,hf,_ => by simp [Yf] at hf
 | n + 1,m + 1,T,t,cs,x,hf,h => by
  unfold Yf at hf
  split at hf
  ·rename_i hu
   obtain ⟨b,rfl,rfl⟩:=DataW.trod_bool hu h
   exact ⟨b,rfl,trivial,Jj _⟩
  ·rename_i k k' hu
   obtain rfl:k = k':=of_decide_eq_true hf
   obtain ⟨v,rfl,rfl,hw⟩:=DataW.trod_int hu h
   refine ⟨v,rfl,?_,Jj _⟩
   simpa [Ty.ok,Lit.wf] using hw
  ·rename_i hu
   obtain ⟨s,rfl,rfl,_⟩:=DataW.trod_string hu h
   refine ⟨s,rfl,trivial,?_⟩
   simp only [Ty.bulk,bulkD,Array.length_toList]
   exact Jj _
  ·rename_i e t hu
   simp only [Jh] at hf
   obtain ⟨⟨hf,hsz⟩,hpos⟩:=hf
   have hsz:=Zu hsz
   have hpos:1 ≤ t.size:=Jt hpos
   rcases DataW.trod_slice hu h with ⟨rfl,rfl⟩ | ⟨a,len,cap,elems,rest,n',hn',rfl,rfl,hb,hlc,_,hlen,hel,_⟩
   ·refine ⟨[],?_,(by simp [Ty.ok]:Ty.ok (.sl t) []),(by simp [Ty.bulk,bulkD])⟩
    simp only [Rt]
    exact ⟨none,0,0,rfl,rfl,Jj _,.inl trivial⟩
   ·obtain rfl:n' = n:=by omega
    have each:∀ i (hi:i < elems.length),∃ cs',w.cells? base (a.add (i * P.cellsOf e)) (P.cellsOf e) = some cs' ∧ ∃ y,Rt w (Xr w) t y cs' ∧ t.ok y ∧ t.bulk y ≤ bulkD elems[i].1:=by
     intro i hi
     have h1:=hel i (by omega)
     rw [VO hi] at h1
     obtain ⟨cs',h2,h3⟩:=Uy.1 h1
     exact ⟨cs',h2,Ky n' m e t cs' _ hf h3⟩
    -- the list
    have all:∀ (l:List (DataW H × List MemPlace)),(∀ i (hi:i < l.length),∃ y,(∃ cs',w.cells? base (a.add ((elems.length - l.length + i) * P.cellsOf e)) (P.cellsOf e) = some cs' ∧ Rt w (Xr w) t y cs') ∧ t.ok y ∧ t.bulk y ≤ bulkD l[i].1) →
      l.length ≤ elems.length → ∃ ys:List t.den,ys.length = l.length ∧ (∀ y ∈ ys,t.ok y) ∧ (ys.map t.bulk).sum ≤ bulkDs (l.map (·.1)) ∧
       ∀ i (hi:i < ys.length),∃ cs',w.cells? base (a.add ((elems.length - l.length + i) * P.cellsOf e)) (P.cellsOf e) = some cs' ∧ Rt w (Xr w) t ys[i] cs':=by
     intro l
     induction l with
     | nil => intro _ _; exact ⟨[],rfl,by simp,by simp [bulkDs],fun i hi => by simp at hi⟩
     | cons p l ih =>
      intro hp hle
      simp only [JF] at hle
      obtain ⟨y,⟨cs',c1,c2⟩,y1,y2⟩:=hp 0 (by simp)
      obtain ⟨ys,k1,k2,k3,k4⟩:=ih (fun i hi => by
       obtain ⟨y,⟨cs',c1,c2⟩,y1,y2⟩:=hp (i + 1) (by simpa using hi)
       refine ⟨y,⟨cs',?_,c2⟩,y1,by simpa using y2⟩
       rw [← c1]; congr 3; simp only [JF]; omega) (by omega)
      refine ⟨y :: ys,by simp [k1],?_,?_,?_⟩
      ·intro z hz
       rcases VM.1 hz with rfl | hz
       ·exact y1
       ·exact k2 z hz
      ·simp only [JR,List.sum_cons,bulkDs]
       simp only [List.getElem_cons_zero] at y2
       omega
      ·intro i hi
       cases i with
       | zero => exact ⟨cs',c1,c2⟩
       | succ i =>
        obtain ⟨cs'',d1,d2⟩:=k4 i (by simpa using hi)
        refine ⟨cs'',?_,by simpa using d2⟩
        rw [← d1]; congr 3; simp only [JF]; omega
    obtain ⟨ys,k1,k2,k3,k4⟩:=all elems (fun i hi => by
     obtain ⟨cs',c1,y,c2,c3,c4⟩:=each i hi
     exact ⟨y,⟨cs',by simpa using c1,c2⟩,c3,c4⟩) (Jj _)
    simp only [Nat.sub_self,Ub] at k4
    refine ⟨ys,?_,k2,?_⟩
    ·simp only [Rt]
     refine ⟨some a,len,cap,rfl,by omega,hlc,?_⟩
     by_cases hnil:ys = []
     ·exact .inl hnil
     ·right
      have h0:0 < ys.length:=List.length_pos_iff.2 hnil
      obtain ⟨c0,z1,z2⟩:=k4 0 h0
      obtain ⟨zl,zc⟩:=cells?_at z1
      obtain ⟨v0,hv0⟩:∃ v0,c0[0]? = some v0:=⟨c0[0]'(by omega),VO _⟩
      have hs:=zc 0 v0 hv0
      simp only [Nat.zero_mul,Addr.add,if_true] at hs
      obtain ⟨b,off,spot⟩:=a
      have hspot:spot = none:=by
       cases spot with
       | none => rfl
       | some s =>
        unfold World.cell? at hs
        split at hs
        ·simp at hs
        ·cases hs
      subst hspot
      refine ⟨b,off,rfl,fun i hi => ?_⟩
      obtain ⟨cs',d1,d2⟩:=k4 i hi
      refine ⟨cs',d2,fun j v hj => ?_⟩
      obtain ⟨_,zc⟩:=cells?_at d1
      have hc:=zc j v hj
      have e:((⟨b,off,none⟩:Addr).add (i * P.cellsOf e)).add j = ⟨b,off + i * t.size + j,none⟩:=by
       rw [hsz]
       unfold Addr.add
       split <;> split <;> simp_all <;> omega
      rw [e] at hc
      exact ⟨hc,ZiE hc⟩
    ·simp only [Ty.bulk,bulkD]
     omega
  ·rename_i fs a b hu
   simp only [Jh] at hf
   obtain ⟨hf,hsz⟩:=hf
   obtain ⟨xs,n',hn',rfl,hl,hxs,hget⟩:=DataW.trod_struct hu h
   obtain rfl:n' = n:=by omega
   obtain ⟨y,e1,e2,e3⟩:=ZcT (n:=m) (n':=n') (fun T t cs x h1 h2 => Ky n' m T t cs x h1 h2) fs.toList (.pair a b) 0 cs xs hf (by rw [hl,Zu hsz]; omega) (fun i f hi => hget i f (by simpa using hi)) (by simpa using hxs)
   exact ⟨y,by simpa using e1,e2,by simp only [bulkD]; omega⟩
  ·rename_i fs hu
   simp only [Jh] at hf
   obtain ⟨hf,hsz⟩:=hf
   obtain ⟨xs,n',hn',rfl,hl,hxs,hget⟩:=DataW.trod_struct hu h
   refine ⟨(),?_,trivial,U6 _⟩
   simp only [Rt]
   rw [Zu hsz] at hl
   exact List.length_eq_zero_iff.1 hl
  ·cases hf
end
end Go.Sh
namespace Go.Sh
open Go Go.RowKit Go.WideShapes Go.ChangeShapes
def Z6 (tys:List Ty):List Kd:=tys.map .view
def Zgc:(tys:List Ty) → Kd.dens (Z6 tys) → Prop
 | [],_ => True
 | t :: l,x => t.ok x.1 ∧ Zgc l x.2
def KH:(tys:List Ty) → Kd.dens (Z6 tys) → Nat
 | [],_ => 0
 | t :: l,x => t.bulk x.1 + KH l x.2
def Xw (P:Program):List TypeId → List Ty → Bool
 | [],[] => true
 | T :: Ts,t :: ts => Yf P 16 T t && Xw P Ts ts
 | _,_ => false
section
variable {H:Type} {enc:TypeId × Value → H} {P:Program} {w:World} {base:Nat} {spare:Nat → Bool} {held:Bool}
theorem Xj {v:Value} (h:∀ cs,v ≠ .agg cs):v.cells = #[v]:=by
 cases v <;> first | rfl | (exact absurd rfl (h _))
theorem ZdW {b0 n:Nat} {r:Reach} {T:TypeId} {t:Ty} {v:Value} {d:DataW H} {ps:List MemPlace} (hval:Value.okWide P w r b0 T v) (h:DataW.Trod enc P w base spare held T v d ps) (hf:Yf P n T t = true) :
  ∃ y,YQ w (Xr w) t y v ∧ t.ok y ∧ t.bulk y ≤ bulkD d:=by
 obtain ⟨m,hm⟩:=h
 obtain ⟨y,h1,h2,h3⟩:=Ky m n T t _ _ hf hm
 refine ⟨y,⟨_,h1,?_⟩,h2,h3⟩
 cases n with
 | zero => simp [Yf] at hf
 | succ n =>
  unfold Value.okWide at hval
  unfold Yf at hf
  split at hf <;> rename_i hu <;> try (cases hf; done)
  all_goals
   rw [hu] at hval
   simp only at hval
  ·refine .inr ⟨rfl,?_⟩
   rw [Xj]; rintro cs rfl; simp [Cell.okWide,Cell.ok,hu] at hval
  ·refine .inr ⟨rfl,?_⟩
   rw [Xj]; rintro cs rfl; simp [Cell.okWide,Cell.ok,hu] at hval
  ·refine .inr ⟨rfl,?_⟩
   rw [Xj]; rintro cs rfl; simp [Cell.okWide,Cell.ok,hu] at hval
  ·refine .inr ⟨rfl,?_⟩
   rw [Xj]; rintro cs rfl; simp [Cell.okWide,Cell.ok,hu] at hval
  ·obtain ⟨cs,rfl,_⟩:=hval
   exact .inl ⟨rfl,rfl⟩
  ·obtain ⟨cs,rfl,_⟩:=hval
   exact .inl ⟨rfl,rfl⟩
theorem YR {b0:Nat} {r:Reach}:∀ {Ts:List TypeId} {tys:List Ty} {vs:List Value} {ds:List (DataW H)} {ps:List MemPlace},Xw P Ts tys = true →
  (∀ (j:Nat) t v,Ts[j]? = some t → vs[j]? = some v → Value.okWide P w r b0 t v) → DataW.TrodAll enc P w base spare held Ts vs ds ps →
  ∃ x:Kd.dens (Z6 tys),Y4 w (Xr w) (Qu (Z6 tys) x) vs [] ∧ Zgc tys x ∧ KH tys x ≤ bulkDs ds
 | [],[],vs,ds,ps,_,_,h => by
  obtain ⟨rfl,rfl,rfl⟩:=trodAll_nil h
  exact ⟨(),rfl,trivial,Jj _⟩
 | T :: Ts,t :: tys,vs,ds,ps,hf,hval,h => by
  simp only [Xw,Jh] at hf
  obtain ⟨v,vs',d,ds',p,q,rfl,rfl,rfl,h1,h2⟩:=trodAll_cons h
  obtain ⟨y,e1,e2,e3⟩:=ZdW (hval 0 T v rfl rfl) h1 hf.1
  obtain ⟨x,g1,g2,g3⟩:=YR hf.2 (fun j t v ht hv => hval (j + 1) t v (by simpa using ht) (by simpa using hv)) h2
  refine ⟨(y,x),?_,⟨e2,g2⟩,?_⟩
  ·exact ⟨[],[],rfl,⟨e1,rfl⟩,g1⟩
  ·simp only [KH,bulkDs]; omega
 | [],_ :: _,_,_,_,hf,_,_ => by simp [Xw] at hf
 | _ :: _,[],_,_,_,hf,_,_ => by simp [Xw] at hf
end
section
variable {H:Type} {enc:TypeId × Value → H} {P:Program}
theorem ZbU {f:Func} {s:ChangeSpec} {apart fresh handsOn again:Bool} {W W':World} {args:Array Value} {v:Value} {ds gs:List (DataW H)} {before pa pv:List MemPlace}
  (hW:DataW.Whole enc P f.params.toList s.vars apart W args.toList ds gs before)
  (hres:∀ (b:Nat) (sp:Nat → Bool) (hd:Bool),DataW.TrodAll enc P W' b sp hd f.resultTypes.toList (v.resultList f.resultTypes.size) (s.fn H (ds ++ gs)).results [])
  (hargs:∀ sp:Nat → Bool,(∀ p ∈ before,sp p.block = true) → DataW.TrodAll enc P W' 0 sp true f.params.toList args.toList (s.fn H (ds ++ gs)).args pa)
  (hvars:∀ sp:Nat → Bool,(∀ p ∈ before,sp p.block = true) → DataW.TrodVars enc P W' sp s.vars (s.fn H (ds ++ gs)).vars pv)
  (hps:before = pa ++ pv) (hb:Below W.heap.size W W')
  (hok:∀ (j:Nat) (t:TypeId) (r:Value),f.resultTypes[j]? = some t → (v.resultList f.resultTypes.size)[j]? = some r → Value.okWide P W' .any 0 t r) :
  s.post enc P f apart fresh handsOn again W args v W':=by
 have hlt:∀ p ∈ before,p.block < W.heap.size:=fun p hp => hW.lt p hp
 have hold:∀ p ∈ before,(fun b => decide (b < W.heap.size)) p.block = true:=fun p hp => by simpa using hlt p hp
 refine ⟨ds,gs,before,[],pa,pv,hW,hres _ _ _,hargs _ hold,hvars _ hold,World.keptBut_mono (fun p hp => ⟨hp,?_⟩) (hb.frame (· ∈ before)),fun _ => ?_⟩
 ·rw [hps,Js] at hp
  exact Or.inr hp
 ·obtain ⟨_,_,_,_,_,hz,hn⟩:=hW
  refine ⟨hok,_,_,([] ++ pa) ++ pv,⟨[] ++ pa,pv,trodAll_append (hargs _ (fun _ _ => rfl)) (hres _ _ _),hvars _ (fun _ _ => rfl),rfl,?_,?_⟩,?_⟩
  ·intro b off hp
   have hin:MemPlace.cell b off ∈ before:=by rw [hps]; simpa using hp
   rw [hb.frozen (hlt _ hin)]
   exact hz b off hin
  ·intro ha
   have:=hn ha
   rw [hps] at this
   simpa using this
  ·intro p hp _
   rw [hps]
   simpa using hp
theorem Ki {w w':World} {base:Nat} {spare:Nat → Bool} {held:Bool}:∀ {ts:List TypeId} {vs:List Value} {ds:List (DataW H)} {ps:List MemPlace},
  DataW.TrodAll enc P w base spare held ts vs ds ps → (∀ p ∈ ps,w.sameAt w' p) → DataW.TrodAll enc P w' base spare held ts vs ds ps
 | [],[],[],_,h,_ => h
 | _ :: _,_ :: _,_ :: _,_,⟨p,q,⟨n,h1⟩,h2,e⟩,hs => ⟨p,q,⟨n,DataW.trod_carry n _ _ _ h1 (fun x hx => hs x (by rw [e]; exact JG _ hx))⟩,
   Ki h2 (fun x hx => hs x (by rw [e]; exact JA _ hx)),e⟩
variable [Gl]
theorem law_contract {K:FuncId} {fn:Func} {spec:ChangeSpec} {B:TypeId} (tys:List Ty) {F:Nat → Kd.dens (Z6 tys) → Option (Ans (Z6 tys) (.view .bool))} {bound:Nat}
  (hl:laidOutB P = true) (hm:mapsRowed P = true) (hz:((List.range P.types.size).all fun t => match P.underlying t with | some (.slice e) => decide (0 < P.cellsOf e) | _ => true) = true)
  (hts:fn.params.toList.all (fun t => decide (t < P.types.size)) = true) (hfit:Xw P fn.params.toList tys = true) (hres:fn.resultTypes = #[B]) (hB:P.underlying B = some .bool)
  (hvars:spec.vars = []) (hspec:∀ (H:Type) (ds:List (DataW H)),ds.length = tys.length → spec.fn H ds = { results:=[.lit (.bool true)],args:=ds })
  (hctr:∀ k,Ctr P k K (mk (Z6 tys) (.view .bool) F)) (Yg:∀ x:Kd.dens (Z6 tys),Zgc tys x → KH tys x ≤ bound → ∃ k u,F k x = some (true,u))
  (enc:TypeId × Value → H) (W:World) (b0:Nat) (args:Array Value) (ds gs:List (DataW H)) (before:List MemPlace)
  (hval:∀ (j:Nat) t v,fn.params[j]? = some t → args[j]? = some v → Value.okWide P W .any b0 t v)
  (hW:DataW.Whole enc P fn.params.toList spec.vars false W args.toList ds gs before) (hk:bulkDs (ds ++ gs) ≤ bound) (hgl:Zcb W (Xr W)) :
  Calls P K args W fun e W' => ∃ v,e = .returned v ∧ spec.post enc P fn false true false false W args v W':=by
 have hW':=hW
 obtain ⟨p,q,hA,hV,he,hfz,hnd⟩:=hW
 rw [hvars] at hV
 have hgs:gs = [] ∧ q = []:=by
  match gs,hV with
  | [],hV => exact ⟨rfl,hV⟩
  | _ :: _,hV => exact hV.elim
 obtain ⟨rfl,rfl⟩:=hgs
 simp only [Vg] at he hk
 obtain rfl:p = before:=he.symm
 obtain ⟨x,h1,h2,h3⟩:=YR (tys:=tys) hfit (fun j t v ht hv => hval j t v (by simpa using ht) (by simpa using hv)) hA
 obtain ⟨k,u,hF⟩:=Yg x h2 (by omega)
 have hlen:ds.length = tys.length:=by
  have e1:∀ {Ts:List TypeId} {tys:List Ty} {vs:List Value} {ds:List (DataW H)} {ps:List MemPlace},Xw P Ts tys = true → DataW.TrodAll enc P W 0 (fun _ => true) true Ts vs ds ps → ds.length = tys.length:=by
   intro Ts
   induction Ts with
   | nil =>
    intro tys vs ds ps hf h
    obtain ⟨rfl,rfl,rfl⟩:=trodAll_nil h
    cases tys with
    | nil => rfl
    | cons => simp [Xw] at hf
   | cons T Ts ih =>
    intro tys vs ds ps hf h
    obtain ⟨v,vs',d,ds',p,q,rfl,rfl,rfl,h1,h2⟩:=trodAll_cons h
    cases tys with
    | nil => simp [Xw] at hf
    | cons t tys =>
     simp only [Xw,Jh] at hf
     simp [ih hf.2 h2]
  exact e1 hfit hA
 have hcall:=(hctr k).calls (Qu (Z6 tys) x) (true,u) (by
  have hd:Yr (Z6 tys) (Qu (Z6 tys) x) = some x:=by
   have e2:∀ (l:List Ty) (x:Kd.dens (Z6 l)),Yr (Z6 l) (Qu (Z6 l) x) = some x:=by
    intro l
    induction l with
    | nil => intro x; rfl
    | cons t l ih =>
     intro x
     obtain ⟨y,ys⟩:=x
     show ((Zbe t (.view t y)).bind fun y => (Yr (Z6 l) (Qu (Z6 l) ys)).bind fun ys => some (y,ys)) = _
     rw [ih ys]
     simp only [Zbe,dite_true]
     rfl
   exact e2 tys x
  show (Yr (Z6 tys) (Qu (Z6 tys) x)).bind (F k) = some (true,u)
  rw [hd]; exact hF) W (Xr W) args.toList [] (ZiF W) hgl h1 List.nodup_nil (by simp)
 rw [Array.toArray_toList] at hcall
 refine hcall.mono fun e W' h => ?_
 obtain ⟨v,lim',b1,b2,rfl,hE,_,⟨ho,ht,hout⟩,hold,hT,_⟩:=h
 have hv:v = .bool true:=by
  have hT:YQ W' lim' .bool true v ∧ b1 = []:=hT
  obtain ⟨⟨cs,c1,c2⟩,_⟩:=hT
  rcases c2 with ⟨c2,_⟩ | ⟨_,c2⟩
  ·cases c2
  ·simp only [Rt] at c1
   subst c2
   simpa using c1
 subst hv
 have hBel:Below W.heap.size W W':=⟨ho,ht,hout,hE.size,fun b hb => (hold b hb (by simp)).1⟩
 have hlt:∀ x ∈ p,x.block < W.heap.size:=fun x hx => hW'.lt x hx
 refine ⟨_,rfl,ZbU (pa:=p) (pv:=[]) hW' (fun b sp hd => ?_) (fun sp hsp => ?_) (fun sp hsp => ?_) (by simp) hBel ?_⟩
 ·rw [Vg,hspec H ds hlen,hres]
  exact ⟨[],[],⟨1,by simp [DataW.trod,Value.cells,hB]⟩,rfl,rfl⟩
 ·rw [Vg,hspec H ds hlen]
  refine Ki (w:=W) (DataW.TrodAll.respare (kids_rows hl hm) (slices_full_of P hz) (fun t ht => ?_) hA hsp) (fun y hy => hBel.same (hlt y hy))
  simpa using List.all_eq_true.1 hts t ht
 ·rw [Vg,hspec H ds hlen,hvars]
  rfl
 ·exact ok_one hres rfl (okWide_bool_mk hB true)
end
end Go.Sh
namespace Go.Sh
open Go Go.Proofs
theorem Ze0 (l:List ZN):(l.map (Ty.bulk ZR)).sum = Zz l:=by
 induction l with
 | nil => rfl
 | cons c l ih =>
  rw [JR,List.sum_cons,ih,W7]
  have:Ty.bulk ZR c = Z2 c:=by
   simp only [Ty.bulk,Z2]; omega
  rw [this]
theorem Zgy (n:Nd):Ty.bulk nodeT n = Zz n.2.2.1 + 3:=by
 have:=Ze0 n.2.2.1
 simp only [Ty.bulk] at this ⊢
 omega
theorem Zfo {n:Nd} (h:Ty.bulk nodeT n ≤ 1048576):Zz n.2.2.1 ≤ 1048576 ∧ n.2.2.1.length ≤ 1048576:=by
 rw [Zgy] at h
 have:=X2 n.2.2.1
 omega
end Go.Sh
namespace Go.Sh
open Go Go.Proofs
theorem ZhC (k:Nat) (b:Bool) (f:Int) (b':Bool) (f':Int) (l l':List ZN) (he:l.length = l'.length) (hl:l.length < 1099511627776):∀ (d m j:Nat),l.length - j = d → j ≤ l.length → d < m →
  Wh (fun L1 => Yt k L1) m (UM j,b,f,l,b',f',l') = some (decide (l.drop j = l'.drop j),()):=by
 intro d
 induction d with
 | zero =>
  intro m j hd hj hm
  obtain ⟨m,rfl⟩:=Qw hm
  obtain rfl:j = l.length:=by omega
  simp only [ZX,Yt]
  rw [Zbl (by simp only [UU]; omega)]
  simp [he]
 | succ d ih =>
  intro m j hd hj hm
  obtain ⟨m,rfl⟩:=Qw hm
  have hlt:j < l.length:=by omega
  have hlt':j < l'.length:=by omega
  have h0:=ih m (j + 1) (by omega) (by omega) (by omega)
  have e1:Jx.wrap (UM j + 1) = UM (j + 1):=by rw [w64 (by simp only [UU]; omega)]; rfl
  simp only [ZX,Yt,e1]
  rw [WG (by simp only [UU]; omega),WG (by simp only [UU]; omega),WG (by simp only [UU]; omega),h0]
  rw [show l.getD (UM j).toNat (UL #[],UL #[],()) = l[j] from WT hlt,show l'.getD (UM j).toNat (UL #[],UL #[],()) = l'[j] from WT hlt']
  rw [Ul hlt,Ul hlt']
  have e:(decide (l[j].1 = l'[j].1) && (decide (l[j].2.1 = l'[j].2.1) && true)) = decide (l[j] = l'[j]):=by
   rw [UX]
   simp only [Bool.and_true,Jh,decide_eq_true_eq]
   constructor
   ·rintro ⟨h1,h2⟩; exact Prod.ext h1 (Prod.ext h2 rfl)
   ·intro h; rw [h]; exact ⟨rfl,rfl⟩
  rw [e]
  by_cases h:l[j] = l'[j]
  ·simp only [List.cons.injEq,h,true_and,decide_true,Bool.not_true,cond_false]
  ·simp only [List.cons.injEq,h,false_and,decide_false,Bool.not_false,cond_true]
theorem Zj2 (k:Nat) (n m:Nd) (hk:n.2.2.1.length < k) (hl:n.2.2.1.length < 1099511627776):ZfU k (n,m,()) = some (decide (n = m),()):=by
 obtain ⟨b,f,l,u⟩:=n
 obtain ⟨b',f',l',u'⟩:=m
 simp only at hk hl
 have e:decide ((b,f,l,u) = (b',f',l',u')) = (decide (b = b') && decide (f = f') && decide (l = l')):=by
  rw [UX]
  simp only [Jh,decide_eq_true_eq,Prod.mk.injEq,and_true]
  exact ⟨fun ⟨a,b,c⟩ => ⟨⟨a,b⟩,c⟩,fun ⟨⟨a,b⟩,c⟩ => ⟨a,b,c⟩⟩
 rw [e]
 unfold ZfU
 simp only [Zbq]
 by_cases hb:b = b'
 ·subst hb
  by_cases hf:f = f'
  ·subst hf
   by_cases hlen:l.length = l'.length
   ·have h:=ZhC k b f b f l l' hlen hl l.length k 0 (by omega) (by omega) hk
    have h:Zdh k (0,b,f,l,b,f,l') = some (decide (l = l'),()):=h
    rw [h]
    simp [hlen]
   ·have:(UM l.length != UM l'.length) = true:=by rw [Zdv]; simp only [UU]; exact decide_eq_true (by omega)
    have hne:l ≠ l':=fun h => hlen (by rw [h])
    rw [this]
    simp [hne]
  ·have:(f != f') = true:=by rw [Zdv]; exact decide_eq_true hf
   rw [this]
   simp [hf]
 ·have:(!b == b') = true:=by cases b <;> cases b' <;> simp at hb <;> rfl
  rw [this]
  simp [hb]
def Zfm (a:Nd) (key:ByteArray) (b:Nd):Nd × Int × Unit :=
 bif decide (a.1 = b.1) then
  bif Qg a && Qg b then
   bif Qg (a.1,a.2.1,a.2.2.1 ++ (bif a.1 then [(key,Zby b.2.1,())] else []) ++ b.2.2.1,()) then ((a.1,a.2.1,a.2.2.1 ++ (bif a.1 then [(key,Zby b.2.1,())] else []) ++ b.2.2.1,()),0,())
   else ((false,0,[],()),2,())
  else ((false,0,[],()),2,())
 else ((false,0,[],()),1,())
theorem Zdo (k:Nat) (l:List ZN) (h:l.length < 2147483648):Y8 k (l,()) = some (l,()):=by
 show Zbk (l,()) = _
 unfold Zbk
 rw [WG h]
theorem Zhn (a b:Bool):(!a == b) = !decide (a = b):=by cases a <;> cases b <;> rfl
theorem Zj0 (k:Nat) (hk:256 < k) (a:Nd) (key:ByteArray) (b:Nd):ZfS k (a,key,b,()) = some (Zfm a key b,()):=by
 obtain ⟨b0,f0,l0,u0⟩:=a
 obtain ⟨b1,f1,l1,u1⟩:=b
 unfold ZfS Zfm
 simp only [Zef]
 rw [Zac k _ hk,Zac k _ hk,Zhn,Zhq]
 by_cases hb:b0 = b1
 ·subst hb
  simp only [decide_true,cond_true,VK,Zhq]
  cases h0:Qg (b0,f0,l0,()) with
  | false => simp
  | true =>
   cases h1:Qg (b0,f1,l1,()) with
   | false => simp
   | true =>
    have hl0:=W0 h0
    have hl1:=W0 h1
    simp only at hl0 hl1
    rw [Zdo k l0 (by omega)]
    simp only [VK,cond_true,Bool.and_self]
    cases b0 with
    | true =>
     rw [ZjX]
     simp only [VK,cond_true]
     rw [WG (by simp; omega),WG (by simp; omega),Zac k _ hk]
     simp only [VK,Zhq]
     cases Qg (true,f0,l0 ++ [(key,Zby f1,())] ++ l1,()) <;> rfl
    | false =>
     simp only [cond_false,Vg]
     rw [WG (by omega),Zac k _ hk]
     simp only [VK,Zhq]
     cases Qg (false,f0,l0 ++ l1,()) <;> rfl
 ·simp only [hb,decide_false,cond_false]
end Go.Sh
namespace Go.Sh
open Go Go.Proofs
theorem Zcz {b:Bool} {c:ZN} (h:Q1 b c = true):Z2 c ≤ 82:=by
 have:=Kn h
 have:=Ko h
 unfold Z2; omega
theorem ZdZ {b:Bool}:∀ {l:List ZN},(∀ c ∈ l,Q1 b c = true) → Zz l ≤ 82 * l.length
 | [],_ => Jj _
 | c :: l,h => by
  have h1:=Zcz (h c (Jm ..))
  have h2:=ZdZ (b:=b) (l:=l) fun c hc => h c (Jn _ hc)
  simp only [W7,JF]; omega
theorem Ziq {n:Nd} (h:Qg n = true):Zz n.2.2.1 ≤ 20910:=by
 have h1:=ZdZ (Wp (Wb h))
 have h2:=W0 h
 omega
def XT (l:List ZN) (top:Nat):Nat → Nat → Nat
 | 0,i => i
 | d + 1,i => if i < top ∧ 2 * Zz (l.take i) < Zz l then XT l top d (i + 1) else i
def YO (n:Nd) (i:Nat):Nd × ByteArray × Nd × Int × Unit :=
 ((n.1,n.2.1,n.2.2.1.take i,()),(n.2.2.1.getD i dflt).1,(bif n.1 then (true,(ZdB (n.2.2.1.getD i dflt).2.1:Int),n.2.2.1.drop (i + 1),()) else (false,0,n.2.2.1.drop i,())),0,())
def ZaP (n:Nd):Int:=(n.2.2.1.length:Int) - 1 - (bif n.1 then 1 else 0)
def ZfA (n:Nd):Nd × ByteArray × Nd × Int × Unit :=
 bif Qg n then (bif decide (ZaP n < 1) then ((false,0,[],()),UL #[],(false,0,[],()),1,()) else YO n (XT n.2.2.1 (ZaP n).toNat n.2.2.1.length 1))
 else ((false,0,[],()),UL #[],(false,0,[],()),2,())
theorem ZjL (k:Nat) (hk:256 < k) (b:Bool) (f:Int) (l:List ZN) (i:Nat) (hi:i < l.length) (hl:l.length ≤ 255) (hc:b = true → ∀ c ∈ l,c.2.1.size = 4) (L:Int × Int × Int × Int × Bool × Int × List ZN × Bool × Int × Bool × Int → Option ((Nd × ByteArray × Nd × Int × Unit) × Unit)) (s t:Int) :
  QI k L (UM i,0,s,t,b,f,l,false,0,false,0) = some (YO (b,f,l,()) i,()):=by
 simp only [QI]
 rw [Zbl (by simp only [UU]; omega),WG (by simp only [UU]; omega)]
 rw [show (UM i).toNat = i from rfl,List.drop_zero,Zdo k _ (by simp; omega)]
 have e2:Jx.wrap (UM i + 1) = UM (i + 1):=by rw [w64 (by simp only [UU]; omega)]; rfl
 simp only [VK,e2]
 rw [show (UM (i + 1)).toNat = i + 1 from rfl,show (UM l.length).toNat = l.length from rfl,List.take_length]
 rw [WG (by simp only [UU]; omega)]
 have e5:l.getD i (UL #[],UL #[],()) = l[i]:=WT hi
 have e5':l.getD i dflt = l[i]:=WT hi
 simp only [YO,e5,e5']
 cases b with
 | true =>
  simp only [cond_true]
  rw [ZhS k _ (by omega) (by have:=hc rfl l[i] (UJ hi); simp only; omega)]
  simp only [VK]
  rw [WG (by simp only [UU]; omega),Zdo k _ (by simp; omega)]
  rfl
 | false =>
  simp only [cond_false]
  rw [WG (by simp only [UU]; omega),Zdo k _ (by simp; omega)]
  rfl
theorem ZhI (k:Nat) (hk:256 < k) (b:Bool) (f:Int) (l:List ZN) (top:Nat) (ht:top < l.length) (hl:l.length ≤ 255) (hs:Zz l ≤ 20910) (hc:b = true → ∀ c ∈ l,c.2.1.size = 4):∀ (d m i:Nat),top - i ≤ d → i ≤ top → d < m →
  Wh (fun L1 => QI k L1) m (UM i,UM top,UM (Zz (l.take i)),UM (Zz l),b,f,l,false,0,false,0) = some (YO (b,f,l,()) (XT l top d i),()):=by
 intro d
 induction d with
 | zero =>
  intro m i hd hi hm
  obtain ⟨m,rfl⟩:=Qw hm
  have o:=ZjL k hk b f l i (by omega) hl hc (Wh (fun L1 => QI k L1) m) (UM (Zz (l.take i))) (UM (Zz l))
  simp only [ZX,QI] at o ⊢
  rw [Zbl (by simp only [UU]; omega)] at o ⊢
  exact o
 | succ d ih =>
  intro m i hd hi hm
  obtain ⟨m,rfl⟩:=Qw hm
  have o:=ZjL k hk b f l i (by omega) hl hc (Wh (fun L1 => QI k L1) m) (UM (Zz (l.take i))) (UM (Zz l))
  simp only [XT]
  by_cases h1:i < top
  ·have hlt:i < l.length:=by omega
   have h2:=QZ hlt
   have h3:=Xt l (i + 1)
   have e1:Jx.wrap (UM i + 1) = UM (i + 1):=by rw [w64 (by simp only [UU]; omega)]; rfl
   have e2:Jx.wrap ((2:Int) * UM (Zz (l.take i))) = UM (2 * Zz (l.take i)):=by rw [w64 (by simp only [UU]; omega)]; simp only [UU]; omega
   have e3:Jx.wrap (UM (Zz (l.take i)) + (Z2 l[i]:Int)) = UM (Zz (l.take (i + 1))):=by rw [w64 (by simp only [UU]; omega)]; simp only [UU]; omega
   have e5:l.getD (UM i).toNat (UL #[],UL #[],()) = l[i]:=WT hlt
   by_cases hb:2 * Zz (l.take i) < Zz l
   ·have h0:=ih m (i + 1) (by omega) (by omega) (by omega)
    rw [if_pos ⟨h1,hb⟩]
    simp only [ZX,QI,e1,e2]
    rw [WG (by simp only [UU]; omega),WG (by simp only [UU]; omega),WG (by simp only [UU]; omega),e5,Ze9 k _ (by simp only [Z2] at h2 ⊢; omega)]
    simp only [VK]
    rw [show Z2 (l[i].1,l[i].2.1,()) = Z2 l[i] from rfl,e3]
    exact h0
   ·rw [if_neg (by omega)]
    simp only [ZX,QI] at o ⊢
    rw [Zbl (by simp only [UU]; omega)] at o
    rw [WG (by simp only [UU]; omega),e2,Zbl (by simp only [UU]; omega)]
    exact o
  ·rw [if_neg (by omega)]
   simp only [ZX,QI] at o ⊢
   rw [Zbl (by simp only [UU]; omega)] at o ⊢
   exact o
theorem Zk6 {b:Bool} {f:Int} {l:List ZN} (h:Qg (b,f,l,()) = true):b = true → ∀ c ∈ l,c.2.1.size = 4:=by
 rintro rfl c hc
 exact (Zaz (Wp (Wb h) c hc)).1
theorem Zj6 (k:Nat) (hk:256 < k) (n:Nd):ZfY k (n,()) = some (ZfA n,()):=by
 obtain ⟨b,f,l,u⟩:=n
 unfold ZfY ZfA
 simp only [Zbs]
 rw [Zac k _ hk]
 simp only [VK,Zhq]
 cases hr:Qg (b,f,l,()) with
 | false => rfl
 | true =>
  have hl:=W0 hr
  have hs:=Ziq hr
  have hv:=Zk6 hr
  simp only at hl hs
  have e1:Jx.wrap (UM l.length - 1) = (l.length:Int) - 1:=w64 (by simp only [UU]; omega)
  have e2:Jx.wrap ((l.length:Int) - 1 - 1) = (l.length:Int) - 1 - 1:=w64 (by omega)
  have key:∀ (top:Int),top = ZaP (b,f,l,()) → 
    (bif decide (top < 1) then some (((false,(0:Int),[],()),UL #[],(false,(0:Int),[],()),OfNat.ofNat (1:Nat),()),()) else (ZaD k (l,())).bind fun y => bif decide ((0:Int) ≤ (0:Int) ∧ (0:Int) < UM l.length) then (ZaE k (((l.getD (0:Nat) (UL #[],UL #[],())).1,(l.getD (0:Nat) (UL #[],UL #[],())).2.1,()),())).bind fun y_1 => Zdj k ((1:Int),top,y_1.1,y.1,b,f,l,false,(0:Int),false,(0:Int)) else none) =
    (some (bif decide (ZaP (b,f,l,()) < 1) then ((false,0,[],()),UL #[],(false,0,[],()),1,()) else YO (b,f,l,()) (XT l (ZaP (b,f,l,())).toNat l.length 1),()):Option ((Nd × ByteArray × Nd × Int × Unit) × Unit)):=by
   intro top ht
   rw [← ht]
   by_cases h1:top < 1
   ·rw [WG h1,WG h1]
   ·have hle:top ≤ (l.length:Int) - 1:=by
     rw [ht]; unfold ZaP; cases b <;> simp <;> omega
    have hpos:0 < l.length:=by omega
    have hmem:∀ c ∈ l,Z2 c ≤ 82:=fun c hc => Zcz (Wp (Wb hr) c hc)
    have h0:Z2 l[0] ≤ 82:=hmem _ (UJ hpos)
    rw [Zbl h1,Zbl h1,ZhX k l (by omega) (by omega)]
    simp only [VK]
    rw [WG (by simp only [UU]; omega),show l.getD 0 (UL #[],UL #[],()) = l[0] from WT hpos,Ze9 k _ (by simp only [Z2] at h0 ⊢; omega)]
    simp only [VK]
    have ht1:Zz (l.take 1) = Z2 l[0]:=by
     have:=QZ hpos
     simpa [Zgt] using this
    have:=ZhI k hk b f l top.toNat (by omega) hl hs hv l.length k 1 (by omega) (by omega) (by omega)
    rw [ht1,show UM top.toNat = top by simp only [UU]; omega] at this
    exact this
  simp only [cond_true]
  cases b with
  | true =>
   simp only [cond_true,e1,e2]
   exact key _ (by simp [ZaP])
  | false =>
   simp only [cond_false,e1]
   exact key _ (by simp [ZaP])
end Go.Sh
namespace Go.Sh
open Go Go.Proofs
abbrev PrT:=ByteArray × ByteArray × Unit
def Zq (l:List PrT):List Value:=l.flatMap fun p => [.string p.1,.string p.2.1]
theorem Wx (l:List PrT):(Zq l).length = l.length * 2:=by
 induction l with
 | nil => rfl
 | cons p l ih => simp only [Zq,U9,List.length_append,JF,List.length_nil] at ih ⊢; omega
theorem Ww (a b:List PrT):Zq (a ++ b) = Zq a ++ Zq b:=by simp [Zq]
theorem Zgk {w:World} {lim:Nat → Nat} {p:PrT} {c:List Value}:Rt w lim ZR p c ↔ c = [.string p.1,.string p.2.1]:=by
 simp only [Rt]
 constructor
 ·rintro ⟨c1,d1,rfl,rfl,c2,d2,rfl,rfl,rfl⟩; rfl
 ·rintro rfl; exact ⟨[.string p.1],[.string p.2.1],rfl,rfl,[.string p.2.1],[],rfl,rfl,rfl⟩
theorem Kb {w:World} {lim:Nat → Nat} : {l:List PrT} → {css:List (List Value)} → Zs (Rt w lim ZR) l css → css.flatten = Zq l
 | [],[],_ => rfl
 | p :: l,c :: css,h => by
  have h1:=Zgk.1 h.1
  subst h1
  simp [Zq,Kb h.2]
theorem Keep.cell {w w':World} (k:Keep w w') {a:Addr} {v:Value} (h:w.cell? a = some v):w'.cell? a = some v:=by
 have:a.block < w.heap.size:=by
  unfold World.cell? at h
  split at h
  ·rename_i h1; exact Qz h1
  ·cases h
 simp only [World.cell?,k.old _ this] at h ⊢
 exact h
def zp:PrT:=(⟨#[]⟩,⟨#[]⟩,())
theorem ZfI (n:Nat):(Jd n [Value.string ⟨#[]⟩,Value.string ⟨#[]⟩]).flatten = Zq (Jd n zp):=by
 induction n with
 | zero => rfl
 | succ n ih => simp only [List.replicate_succ,List.flatten_cons,ih,Zq,U9,zp]
theorem ZiB {w:World} {lim:Nat → Nat} {b:Bool} {f:Int} {l:List PrT} {A:Option Addr} {len cap:Nat} (hsl:Rt w lim (.sl ZR) l [.slice A len cap]) (hlen:l.length < 1073741824) :
  Calls Try.prog 12 #[.agg #[.bool b,.int .i64 f,.slice A len cap]] w fun x w' => ∃ v,x = .returned v ∧ ∃ m,v = .agg #[.bool b,.int .i64 f,.slice (some ⟨m,0,none⟩) l.length (l.length + 2)] ∧
   Keep w w' ∧ w.heap.size ≤ m ∧ w'.heap[m]? = some (.cells (Zq (l ++ [zp,zp])).toArray 34 (0,0)):=by
 have hrow:=YX (Zar hsl)
 obtain ⟨A',cap',e1,hcap,css,h3,h4⟩:=hrow
 cases e1
 have hcs:=Kb h3
 let b1:=w.heap.size
 let b2:=w.heap.size + 1
 let c1:Obj:=.cells #[.bool b,.int .i64 f,.slice A l.length cap] 24
 let z2:Obj:=.cells #[.bool false,.int .i64 0,.slice none 0 0] 30
 refine Ze2 (fn:=Try.f12) (code:=Try.f12.body.getD .skip) (t:=2) (T:=30) (vs:=[.agg #[.bool b,.int .i64 f,.slice A l.length cap]]) (by kernel_rfl) (by kernel_rfl) (by kernel_rfl) (by show 1 ≤ 16; decide) (dd:=Try.prog.underlying 30 |>.getD default) (by kernel_rfl) (by kernel_rfl) ?_
 show T Try.prog 16 _ _ _ _
 refine T.seq (T.region (L.val 1 (ZjM rfl (vs:=[.bool b,.int .i64 f,.slice A l.length cap]) rfl) (L.val 2 (KV rfl (zs:=[.bool false,.int .i64 0,.slice none 0 0]) (by kernel_rfl)) (L.nil ?_))))
 have H0:H w ((w.alloc c1).alloc z2) [(b2,z2),(b1,c1)]:=by
  have h1:=(H.nil w).alloc c1
  have h2:=h1.alloc z2
  have e2:(w.alloc c1).heap.size = w.heap.size + 1:=by show (w.heap.push c1).size = _; simp
  rw [e2] at h2
  exact h2
 have e2:(w.alloc c1).heap.size = b2:=by show (w.heap.push c1).size = _; simp [b2]
 let N:=l.length
 let zrow:Nat → Obj:=fun k => .cells (Zq (Jd k zp)).toArray 34 (0,0)
 let full:Obj:=.cells (Zq (l ++ [zp,zp])).toArray 34 (0,0)
 let qv:Nat → Value:=fun i => match i with
  | 0 => .pointer (some ⟨b1,0,none⟩) | 1 => .bool b | 2 => .pointer (some ⟨b1,1,none⟩) | 3 => .int .i64 f | 4 => .pointer (some ⟨b1,2,none⟩) | 5 => .slice A l.length cap
  | 6 => .int .i64 (l.length:Int) | 7 => .int .i64 ((l.length + 2:Nat):Int) | 9 => .pointer (some ⟨b1,2,none⟩) | 10 => .slice A l.length cap | _ => undef
 let Ph:Nat → En → World → Prop:=fun m e w' => e 1 = .pointer (some ⟨b1,0,none⟩) ∧ e 2 = .pointer (some ⟨b2,0,none⟩) ∧ match m with
  | 0 => H w w' [(b2,z2),(b1,c1)]
  | 1 => ∃ q,H w w' [(q,zrow (l.length + 2)),(b2,z2),(b1,c1)] ∧ e 11 = .slice (some ⟨q,0,none⟩) 0 (l.length + 2)
  | 2 => ∃ q,H w w' [(q,full),(b2,z2),(b1,c1)] ∧ e 14 = .slice (some ⟨q,0,none⟩) l.length (l.length + 2)
  | 3 => ∃ q,H w w' [(q,full),(b2,z2),(b1,c1)] ∧ e 15 = .agg #[.bool b,.int .i64 f,.slice (some ⟨q,0,none⟩) l.length (l.length + 2)]
  | 4 => ∃ q,H w w' [(b2,.cells #[.bool b,.int .i64 f,.slice (some ⟨q,0,none⟩) l.length (l.length + 2)] 30),(q,full),(b1,c1)]
  | _ => False
 have hb1:∀ {m e w'},Ph m e w' → e 1 = .pointer (some ⟨b1,0,none⟩) ∧ w'.heap[b1]? = some c1 ∧ Keep w w':=by
  rintro m e w' ⟨g1,g2,g3⟩
  refine ⟨g1,?_⟩
  match m,g3 with
  | 0,g => exact ⟨g.at' (b1,c1) (by simp),g.keep⟩
  | 1,⟨q,g,_⟩ => exact ⟨g.at' (b1,c1) (by simp),g.keep⟩
  | 2,⟨q,g,_⟩ => exact ⟨g.at' (b1,c1) (by simp),g.keep⟩
  | 3,⟨q,g,_⟩ => exact ⟨g.at' (b1,c1) (by simp),g.keep⟩
  | 4,⟨q,g⟩ => exact ⟨g.at' (b1,c1) (by simp),g.keep⟩
 have hu24:Try.prog.underlying 24 = some (.struct (match Try.prog.underlying 24 with | some (.struct fs) => fs | _ => #[])):=by kernel_rfl
 refine T.seq (T.mixed [8,11,12,13] (fun i => i + 3) qv Ph WC (by kernel_rfl) ?_ ?_ ?_ ?_ ?_)
 ·exact ⟨rfl,by show U7 (some ⟨(w.alloc c1).heap.size,0,none⟩) = _; rw [e2],H0.drw⟩
 ·rintro m e w' i v hi hc ⟨g1,g2,g3⟩
  have hne:i ≠ 8 ∧ i ≠ 11 ∧ i ≠ 12 ∧ i ≠ 13:=by
   refine ⟨?_,?_,?_,?_⟩ <;> (rintro rfl; simp at hc)
  have hi':i < 14:=hi
  have ho:∀ s,(s = 1 ∨ s = 2 ∨ s = 11 ∨ s = 14 ∨ s = 15) → upd e (i + 3) v s = e s:=fun s hs => Zm e v (by omega)
  refine ⟨(ho 1 (by simp)).trans g1,(ho 2 (by simp)).trans g2,?_⟩
  match m,g3 with
  | 0,g => exact g
  | 1,⟨q,g,k⟩ => exact ⟨q,g,(ho 11 (by simp)).trans k⟩
  | 2,⟨q,g,k⟩ => exact ⟨q,g,(ho 14 (by simp)).trans k⟩
  | 3,⟨q,g,k⟩ => exact ⟨q,g,(ho 15 (by simp)).trans k⟩
  | 4,⟨q,g⟩ => exact ⟨q,g⟩
 ·refine ⟨fun _ m e w' hP hd hp => ?_,fun _ m e w' hP hd hp => ?_,fun _ m e w' hP hd hp => ?_,fun _ m e w' hP hd hp => ?_,fun _ m e w' hP hd hp => ?_,fun _ m e w' hP hd hp => ?_,fun _ m e w' hP hd hp => ?_,fun _ m e w' hP hd hp => ?_,
   fun h => (by cases h),fun _ m e w' hP hd hp => ?_,fun _ m e w' hP hd hp => ?_,fun h => (by cases h),fun h => (by cases h),fun h => (by cases h),trivial⟩
  ·exact ZK (x:=.tmp 1) rfl (hb1 hP).1 hu24 rfl (by kernel_rfl) rfl
  ·exact QC (x:=.tmp 3) rfl (hd 0 rfl rfl) (hb1 hP).2.1 (dd:=.bool) (by kernel_rfl) rfl rfl
  ·exact ZK (x:=.tmp 1) rfl (hb1 hP).1 hu24 rfl (by kernel_rfl) rfl
  ·exact QC (x:=.tmp 5) rfl (hd 2 rfl rfl) (hb1 hP).2.1 (dd:=.int .i64) (by kernel_rfl) rfl rfl
  ·exact ZK (x:=.tmp 1) rfl (hb1 hP).1 hu24 rfl (by kernel_rfl) rfl
  ·exact QC (x:=.tmp 7) rfl (hd 4 rfl rfl) (hb1 hP).2.1 (dd:=.slice 34) (by kernel_rfl) rfl rfl
  ·exact ZbY (x:=.tmp 8) rfl (hd 5 rfl rfl) (el:=34) (by kernel_rfl)
  ·refine Yh (x:=.tmp 9) rfl (hd 6 rfl rfl) rfl rfl ?_
   show some (Value.int .i64 (Jx.wrap ((l.length:Int) + 2))) = _
   rw [Qh (by omega) (by omega)]; rfl
  ·exact ZK (x:=.tmp 1) rfl (hb1 hP).1 hu24 rfl (by kernel_rfl) rfl
  ·exact QC (x:=.tmp 12) rfl (hd 9 rfl rfl) (hb1 hP).2.1 (dd:=.slice 34) (by kernel_rfl) rfl rfl
 ·refine ⟨fun o ho e w' hP hd => ?_,fun o ho e w' hP hd => ?_,fun o ho e w' hP hd => ?_,fun o ho e w' hP hd => ?_,trivial⟩
  ·obtain rfl:=VF.inj ho
   obtain ⟨g1,g2,g3⟩:=hP
   refine Lo.val 11 (Zks (y:=.tmp 10) rfl rfl (hd 7 rfl rfl) (ee:=34) (t:=ZR) (zs:=[.string ⟨#[]⟩,.string ⟨#[]⟩]) (by kernel_rfl) (by kernel_rfl) rfl (by decide) (Jt (by kernel_rfl)) (by omega)) ?_
   refine ⟨by rw [Zm _ _ (by decide)]; exact g1,by rw [Zm _ _ (by decide)]; exact g2,w'.heap.size,?_,QY ..⟩
   have:=H.alloc g3 (zrow (l.length + 2))
   rw [ZfI]
   exact this
  ·obtain rfl:=VF.inj ho
   obtain ⟨g1,g2,q,g3,g4⟩:=hP
   have hkeep:=g3.keep
   refine Lo.val 14 (Zin (x:=.tmp 11) (y:=.tmp 13) rfl (ee:=34) (t:=ZR) (eU:=34) (by kernel_rfl) (by kernel_rfl) g4 (g3.at' _ (Jm ..)) (hd 10 rfl rfl) h3 ?_ (by omega) (by
     simp only [List.size_toArray,Wx,List.length_replicate]
     show 0 + (l.length + 2) * 2 ≤ _
     omega)) ?_
   ·rcases h4 with h | ⟨b,off,hA,h⟩
    ·exact .inl h
    ·exact .inr ⟨b,off,hA,fun j u hj => hkeep.cell (h j u hj)⟩
   ·refine ⟨by rw [Zm _ _ (by decide)]; exact g1,by rw [Zm _ _ (by decide)]; exact g2,q,?_,by rw [QY,Ub]⟩
    have hrow:=g3.row (cs':=(Zq (l ++ [zp,zp])).toArray)
    have e3:(List.take (0 + 0 * ZR.size) (Zq (Jd (l.length + 2) zp)).toArray.toList ++ css.flatten ++ List.drop (0 + 0 * ZR.size + css.flatten.length) (Zq (Jd (l.length + 2) zp)).toArray.toList).toArray = (Zq (l ++ [zp,zp])).toArray:=by
     rw [hcs]
     simp only [Nat.zero_mul,Ub,List.take_zero,VT]
     rw [show Jd (l.length + 2) zp = Jd l.length zp ++ [zp,zp] by rw [← List.replicate_append_replicate]; rfl,Ww,Ww]
     have:(Zq l).length = (Zq (Jd l.length zp)).length:=by simp [Wx]
     rw [this,List.drop_left']
     simp
    rw [e3]
    exact hrow
  ·obtain rfl:=VF.inj ho
   obtain ⟨g1,g2,q,g3,g4⟩:=hP
   refine Lo.val 15 (Za0 rfl (zs:=[.bool false,.int .i64 0,.slice none 0 0]) (us:=[.bool b,.int .i64 f,.slice (some ⟨q,0,none⟩) l.length (l.length + 2)]) (fs:=(match Try.prog.underlying 30 with | some (.struct fs) => fs | _ => #[])) (by kernel_rfl) (by kernel_rfl) (by kernel_rfl) ?_) ?_
   ·have k1:e 4 = .bool b:=hd 1 rfl rfl
    have k2:e 6 = .int .i64 f:=hd 3 rfl rfl
    show Jw _ _ [(0,e 4),(1,e 6),(2,e 14)] = _
    rw [k1,k2,g4]
    rfl
   ·refine ⟨by rw [Zm _ _ (by decide)]; exact g1,by rw [Zm _ _ (by decide)]; exact g2,q,g3,QY ..⟩
  ·obtain rfl:=VF.inj ho
   obtain ⟨g1,g2,q,g3,g4⟩:=hP
   have g5:H w w' [(b2,z2),(q,full),(b1,c1)]:=g3.perm (U8.swap ..)
   refine Lo.unit (ZdI (x:=.tmp 2) (y:=.tmp 15) rfl g2 (vs:=[.bool b,.int .i64 f,.slice (some ⟨q,0,none⟩) l.length (l.length + 2)]) (by show (e 15).cells = _; rw [g4]; rfl) (g5.at' _ (Jm ..)) Zih (dd:=Try.prog.underlying 30 |>.getD default) (by kernel_rfl) (by kernel_rfl) (by intro v hv; simp at hv; rcases hv with rfl | rfl | rfl <;> rfl) (by show 0 + 3 ≤ 3; decide)) ?_
   exact ⟨g1,g2,q,g5.row⟩
 ·rintro e w' ⟨g1,g2,q,g3⟩ _
  refine T.ret ⟨.inr rfl,b2,_,_,_,g2,g3.at' _ (Jm ..),by kernel_rfl,q,rfl,g3.keep,g3.new (q,full) (by simp),g3.at' (q,full) (by simp)⟩
end Go.Sh
namespace Go.Sh
open Go Go.Proofs
structure RowD where
 b:Nat
 off:Nat
 len:Nat
 cap:Nat
 U:TypeId
 fz:Nat × Nat
def ZW:Option RowD → Value
 | none => .slice none 0 0
 | some r => .slice (some ⟨r.b,r.off,none⟩) r.len r.cap
def Zay:Option RowD → Nat
 | none => 0
 | some r => r.cap
def Q2:Option RowD → Nat
 | none => 0
 | some r => r.len
structure W1 (w0 w:World) (F:List (Nat × Obj)) (R:Nat → Option RowD) (vs:Nat → Array Value):Prop where
 keep:Keep w0 w
 fix:∀ p ∈ F,w.heap[p.1]? = some p.2
 row:∀ j r,R j = some r → w.heap[r.b]? = some (.cells (vs j) r.U r.fz) ∧ w0.heap.size ≤ r.b
 ok:∀ j r,R j = some r → r.off + r.cap * 2 ≤ (vs j).size ∧ (∀ x,x < (vs j).size → ¬ (r.fz.1 ≤ x ∧ x < r.fz.2)) ∧ r.len ≤ r.cap ∧ r.cap ≤ 9223372036854775807
 dis:∀ j j' r r',j ≠ j' → R j = some r → R j' = some r' → r.b ≠ r'.b
 disF:∀ j r,R j = some r → ∀ p ∈ F,p.1 ≠ r.b
theorem W1.next {w0 w w':World} {F:List (Nat × Obj)} {R:Nat → Option RowD} {vs:Nat → Array Value} (h:W1 w0 w F R vs) (k:Keep w w'):W1 w0 w' F R vs where
 keep:=h.keep.trans k
 fix p hp:=(k.old _ (Qz (h.fix p hp))).trans (h.fix p hp)
 row j r hr:=⟨(k.old _ (Qz (h.row j r hr).1)).trans (h.row j r hr).1,(h.row j r hr).2⟩
 ok:=h.ok
 dis:=h.dis
 disF:=h.disF
theorem W1.set {w0 w:World} {F:List (Nat × Obj)} {R:Nat → Option RowD} {vs:Nat → Array Value} (h:W1 w0 w F R vs) {i:Nat} {r:RowD} (hr:R i = some r) {cs:Array Value} (hs:cs.size = (vs i).size) :
  W1 w0 (w.setRow r.b cs) F R (fun j => if j = i then cs else vs j) where
 keep:=⟨by simp [World.setRow]; exact h.keep.size,fun b hb => by rw [setRow_other w r.b b _ (by have:=(h.row i r hr).2; omega)]; exact h.keep.old b hb,by simp [World.setRow]; exact h.keep.same⟩
 fix p hp:=by rw [setRow_other w r.b p.1 _ (h.disF i r hr p hp)]; exact h.fix p hp
 row j r' hr':=by
  by_cases e:j = i
  ·subst e
   rw [hr] at hr'; cases hr'
   simp only [if_true]
   exact ⟨setRow_heap w r.b _ cs _ _ (h.row j r hr).1,(h.row j r hr).2⟩
  ·simp only [e,if_false]
   rw [setRow_other w r.b r'.b _ (h.dis j i r' r e hr' hr)]
   exact h.row j r' hr'
 ok j r' hr':=by
  by_cases e:j = i
  ·subst e; simp only [if_true,hs]; exact h.ok j r' hr'
  ·simp only [e,if_false]; exact h.ok j r' hr'
 dis:=h.dis
 disF:=h.disF
def At (Fe:List (Nat × Value)) (e:En):Prop := ∀ p ∈ Fe,e p.1 = p.2
theorem At.upd {Fe:List (Nat × Value)} {e:En} (h:At Fe e) {d:Nat} {v:Value} {m:Nat} (hm:∀ p ∈ Fe,p.1 < m) (hd:m ≤ d):At Fe (upd e d v):=fun p hp => by
 rw [Zm e v (by have:=hm p hp; omega)]; exact h p hp
def iv:Value → Nat
 | .int _ n => n.toNat
 | _ => 0
def mk1:Value:=.string ⟨#[33]⟩
def sI (i:Int):ByteArray:=bytesOf [UO.wrap i]
def XV (vs:Array Value) (r:RowD) (i:Int) (k:Nat):Prop := ∀ k',k' < k → vs.toList[r.off + k' * 2]? = some mk1 ∧ vs.toList[r.off + k' * 2 + 1]? = some (.string (sI i))
def YU (vs:Array Value) (o:Nat) (i:Int):Array Value:=(vs.toList.take o ++ [mk1,.string (sI i)] ++ vs.toList.drop (o + 2)).toArray
theorem Zdy {vs:Array Value} {o:Nat} {i:Int} (h:o + 2 ≤ vs.size):(YU vs o i).size = vs.size:=by simp [YU]; omega
theorem ZbJ {vs:Array Value} {o:Nat} {i:Int} (h:o + 2 ≤ vs.size) (j:Nat):(YU vs o i).toList[j]? = if j = o then some mk1 else if j = o + 1 then some (.string (sI i)) else vs.toList[j]? := by
 have hl:(vs.toList.take o).length = o:=by simp; omega
 simp only [YU,List.append_assoc]
 rcases Nat.lt_trichotomy j o with hj | hj | hj
 ·rw [List.getElem?_append_left (by omega),List.getElem?_take]
  simp [hj]; rw [if_neg (by omega),if_neg (by omega)]
 ·subst hj
  rw [Vs (by omega),hl]; simp
 ·rw [Vs (by omega),hl]
  obtain ⟨d,rfl⟩:∃ d,j = o + 1 + d:=⟨j - o - 1,by omega⟩
  rw [show o + 1 + d - o = d + 1 by omega]
  cases d with
  | zero => simp
  | succ d =>
   simp only [J1,VT,Ha,List.getElem?_drop]
   rw [if_neg (by omega),if_neg (by omega)]
   congr 1; omega
theorem XV.step {vs:Array Value} {r:RowD} {i:Int} {k:Nat} (h:XV vs r i k) (hk:r.off + k * 2 + 2 ≤ vs.size):XV (YU vs (r.off + k * 2) i) r i (k + 1):=by
 intro k' hk'
 rw [ZbJ hk,ZbJ hk]
 by_cases e:k' = k
 ·subst e; simp
 ·have:=h k' (by omega)
  rw [if_neg (by omega),if_neg (by omega),if_neg (by omega),if_neg (by omega)]
  exact this
def cl:Code → Code
 | .seq a _ => a
 | c => c
def cr:Code → Code
 | .seq _ b => b
 | c => c
def cb:Code → Code
 | .block _ c => c
 | .loop c => c
 | c => c
noncomputable def k7:Code:=Try.f7.body.getD .skip
noncomputable def Zld:Code:=cl (cr (cr (cr (cr (cr (cr k7))))))
noncomputable def ZkZ:Code:=cr Zld
noncomputable def Zlb:Code:=cb (cb ZkZ)
noncomputable def Zle:Code:=cl (cr Zlb)
noncomputable def Zlf:Code:=cr (cr (cb Zle))
theorem Zkj {w0:World} {F:List (Nat × Obj)} {R:Nat → Option RowD} {Q:Exit → En → World → Prop} {Fe:List (Nat × Value)} (hFe:∀ p ∈ Fe,p.1 < 13) {i:Nat} {e:En} {w:World} {vs:Nat → Array Value} (hat:At Fe e) (h13:e 13 = .int .i64 (i:Int))
  {A:Option Addr} {cap:Nat} (h14:e 14 = .slice A cap cap) (hA:∀ r,R i = some r → A = some ⟨r.b,r.off,none⟩ ∧ cap = r.cap) (hN:R i = none → cap = 0) (h15:e 15 = .int .i64 0) (hW:W1 w0 w F R vs)
  (hQ:∀ e' w' vs',At Fe e' → e' 13 = .int .i64 (i:Int) → W1 w0 w' F R vs' → (∀ j,j ≠ i → vs' j = vs j) → (∀ r,R i = some r → XV (vs' i) r i r.cap) → Q .normal e' w'):T Try.prog 133 Zlf Q e w:=by
 refine T.block (T.loop (fun e w => ∃ (k:Nat) (vs':Nat → Array Value),At Fe e ∧ e 13 = .int .i64 (i:Int) ∧ e 14 = .slice A cap cap ∧ e 15 = .int .i64 (k:Int) ∧ k ≤ cap ∧ W1 w0 w F R vs' ∧ (∀ j,j ≠ i → vs' j = vs j) ∧ ∀ r,R i = some r → XV (vs' i) r i k)
  (fun e _ => cap - iv (e 15)) ⟨0,vs,hat,h13,h14,h15,U6 _,hW,fun _ _ => rfl,fun r hr k' hk' => absurd hk' (Nat.not_lt_zero _)⟩ ?_)
 rintro e w ⟨k,vs',g1,g2,g3,g4,g5,g6,g7,g8⟩
 refine T.seq (T.seq (T.region (L.val 64 (Zr (x:=.tmp 15) (.inl rfl) g4) (L.val 65 (Zr (x:=.tmp 14) (.inl rfl) (v:=.slice A cap cap) g3) (L.val 66 (ZbY (x:=.tmp 65) rfl rfl (el:=34) (by kernel_rfl))
  (L.val 67 (Yh (x:=.tmp 64) (y:=.tmp 66) rfl rfl rfl rfl (v:=.bool (decide ((k:Int) < (cap:Int)))) rfl) (L.nil ?_)))))))
 by_cases hk:k < cap
 ·refine T.condT (by show Value.bool _ = _; simp; exact hk) (T.skip ?_)
  obtain ⟨r,hr⟩:∃ r,R i = some r:=by
   cases hr:R i with
   | none => have:=hN hr; omega
   | some r => exact ⟨r,rfl⟩
  obtain ⟨rfl,hcap⟩:=hA r hr
  obtain ⟨o1,o2,o3,o4⟩:=g6.ok i r hr
  refine T.seq (T.block (T.region (L.val 70 (Zr (x:=.tmp 14) (.inl rfl) g3) (L.val 71 (Zr (x:=.tmp 15) (.inl rfl) g4) (L.val 72 (Zr (x:=.tmp 13) (.inl rfl) g2)
   (L.val 73 (Zio (x:=.tmp 72) rfl rfl (v:=.int .u8 (UO.wrap (i:Int))) rfl)
   (L.val 74 (X5 (len:=1) (ee:=5) (t:=.int .u8) (zs:=[.int .u8 0]) (cs:=[.int .u8 (UO.wrap (i:Int))]) rfl (by kernel_rfl) (by kernel_rfl) (by decide) (by decide) (by
     intro zz hz
     match zz,hz with
     | [z],_ => rfl))
   (L.val 75 (Zgh (x:=.tmp 74) (el:=5) (xs:=[UO.wrap (i:Int)]) rfl rfl (by kernel_rfl) (by kernel_rfl) (by kernel_rfl) (heap_alloc_new w _) rfl (Jj _) (by
     intro j hj
     simp at hj; subst hj; rfl))
   (L.val 76 (Za0 (zs:=[.string ⟨#[]⟩,.string ⟨#[]⟩]) (us:=[mk1,.string (sI i)]) (fs:=(match Try.prog.underlying 34 with | some (.struct fs) => fs | _ => #[])) rfl (by kernel_rfl) (by kernel_rfl) (by kernel_rfl) rfl)
   (L.val 77 (QM (x:=.tmp 70) (y:=.tmp 71) (e':=34) (t:=ZR) (b:=r.b) (off:=r.off) (len:=cap) (cap:=cap) (i:=(k:Int)) rfl (by kernel_rfl) rfl rfl (by omega) (by omega) (off':=r.off + k * 2) (by simp [Ty.size]))
   (L.unit (ZdI (x:=.tmp 77) (y:=.tmp 76) (b:=r.b) (off:=r.off + k * 2) (cur:=vs' i) (U:=r.U) (fz:=r.fz) (vs:=[mk1,.string (sI i)]) (dd:=Try.prog.underlying 34 |>.getD default) rfl rfl rfl
     ((heap_alloc_old w _ (Qz (g6.row i r hr).1)).trans (g6.row i r hr).1) o2 (by kernel_rfl) (by kernel_rfl) (by intro v hv; simp at hv; rcases hv with rfl | rfl <;> rfl) (by simp; omega))
   (L.nil ?_)))))))))) )) 
  have W2:=(g6.next (Keep.alloc w (.cells [Value.int .u8 (UO.wrap (i:Int))].toArray 5))).set hr (cs:=YU (vs' i) (r.off + k * 2) i) (Zdy (by omega))
  refine T.region (L.val 68 (Zr (x:=.tmp 15) (.inl rfl) g4) (L.val 69 (Yh (x:=.tmp 68) rfl rfl rfl rfl (v:=.int .i64 (Jx.wrap ((k:Int) + 1))) rfl) (L.val 15 (Zr (x:=.tmp 69) (.inr rfl) rfl) (L.nil ?_))))
  have hw:Jx.wrap ((k:Int) + 1) = ((k + 1:Nat):Int):=by simp [U4,IntKind.bits,IntKind.signed]; omega
  refine ⟨⟨k + 1,_,?_,g2,g3,by rw [hw]; rfl,by omega,W2,fun j hj => ?_,fun r' hr' => ?_⟩,?_⟩
  ·intro p hp
   have:=hFe p hp
   have hne:∀ s,14 ≤ s → p.1 ≠ s:=fun s hs => by omega
   simp only [upd,Zf (hne 15 (by decide)),Zf (hne 69 (by decide)),Zf (hne 68 (by decide)),Zf (hne 77 (by decide)),Zf (hne 76 (by decide)),Zf (hne 75 (by decide)),Zf (hne 74 (by decide)),Zf (hne 73 (by decide)),
    Zf (hne 72 (by decide)),Zf (hne 71 (by decide)),Zf (hne 70 (by decide)),Zf (hne 67 (by decide)),Zf (hne 66 (by decide)),Zf (hne 65 (by decide)),Zf (hne 64 (by decide)),cond_false]
   exact g1 p hp
  ·simp only [hj,if_false]; exact g7 j hj
  ·rw [hr] at hr'; cases hr'
   simp only [if_true]
   exact (g8 r hr).step (by omega)
  ·rw [g4]
   show cap - (Jx.wrap ((k:Int) + 1)).toNat < cap - ((k:Int)).toNat
   rw [hw]; simp; omega
 ·refine T.condF (by show Value.bool _ = _; simp; omega) (T.exit ?_)
  simp only [nx,bk,if_true]
  have hkc:k = cap:=by omega
  refine hQ _ _ vs' ?_ g2 g6 g7 fun r hr => by rw [← (hA r hr).2,← hkc]; exact g8 r hr
  intro p hp
  have:=hFe p hp
  have hne:∀ s,14 ≤ s → p.1 ≠ s:=fun s hs => by omega
  simp only [upd,Zf (hne 67 (by decide)),Zf (hne 66 (by decide)),Zf (hne 65 (by decide)),Zf (hne 64 (by decide)),cond_false]
  exact g1 p hp
end Go.Sh
namespace Go.Sh
open Go Go.Proofs
def ZfM:Option RowD → Option Addr
 | none => none
 | some r => some ⟨r.b,r.off,none⟩
theorem Za1 (x:Option RowD):ZW x = .slice (ZfM x) (Q2 x) (Zay x):=by cases x <;> rfl
theorem At.same {Fe:List (Nat × Value)} {e e':En} (h:At Fe e) {m:Nat} (hm:∀ p ∈ Fe,p.1 < m) (hs:∀ s,s < m → e' s = e s):At Fe e':=fun p hp => (hs _ (hm p hp)).trans (h p hp)
theorem Zkm {w0:World} {F:List (Nat × Obj)} {R:Nat → Option RowD} {Q:Exit → En → World → Prop} {Fe:List (Nat × Value)} (hFe:∀ p ∈ Fe,p.1 < 13) {bl:Nat} {c9:Array Value} (h12:(12,V5 (some ⟨bl,0,none⟩) 3 3) ∈ Fe)
  (hbl:(bl,Obj.cells c9 30 (0,0)) ∈ F) (hc:∀ i,i < 3 → c9.toList[i * 3 + 2]? = some (ZW (R i))) {e:En} {w:World} {vs:Nat → Array Value} (hat:At Fe e) (h13:e 13 = .int .i64 0) (hW:W1 w0 w F R vs)
  (hQ:∀ e' w' vs',At Fe e' → W1 w0 w' F R vs' → (∀ i,i < 3 → ∀ r,R i = some r → XV (vs' i) r (i:Int) r.cap) → Q .normal e' w'):T Try.prog 133 ZkZ Q e w:=by
 refine T.block (T.loop (fun e w => ∃ (i:Nat) (vs':Nat → Array Value),At Fe e ∧ e 13 = .int .i64 (i:Int) ∧ i ≤ 3 ∧ W1 w0 w F R vs' ∧ ∀ j,j < i → ∀ r,R j = some r → XV (vs' j) r (j:Int) r.cap)
  (fun e _ => 3 - iv (e 13)) ⟨0,vs,hat,h13,by omega,hW,fun j hj => absurd hj (Nat.not_lt_zero _)⟩ ?_)
 rintro e w ⟨i,vs',g1,g2,g3,g4,g5⟩
 refine T.seq (T.seq (T.region (L.val 46 (Zr (x:=.tmp 13) (.inl rfl) g2) (L.val 47 (Zr (x:=.tmp 12) (.inl rfl) (v:=.slice (some ⟨bl,0,none⟩) 3 3) (g1 _ h12)) (L.val 48 (ZbY (x:=.tmp 47) rfl rfl (el:=30) (by kernel_rfl))
  (L.val 49 (Yh (x:=.tmp 46) (y:=.tmp 48) rfl rfl rfl rfl (v:=.bool (decide ((i:Int) < ((3:Nat):Int)))) rfl) (L.nil ?_)))))))
 by_cases hk:i < 3
 ·refine T.condT (by show Value.bool _ = _; simp; omega) (T.skip ?_)
  let qv:Nat → Value:=fun j => match j with
   | 0 => .slice (some ⟨bl,0,none⟩) 3 3 | 1 => .int .i64 (i:Int) | 2 => .pointer (some ⟨bl,i * 3,none⟩) | 3 => .pointer (some ⟨bl,i * 3 + 2,none⟩) | 4 => ZW (R i)
   | 5 => .slice (some ⟨bl,0,none⟩) 3 3 | 6 => .int .i64 (i:Int) | 7 => .pointer (some ⟨bl,i * 3,none⟩) | 8 => .pointer (some ⟨bl,i * 3 + 2,none⟩) | 9 => ZW (R i)
   | 10 => .int .i64 (Zay (R i):Int) | 11 => .slice (ZfM (R i)) (Zay (R i)) (Zay (R i)) | 12 => .slice (ZfM (R i)) (Zay (R i)) (Zay (R i)) | _ => undef
  let Ph:Nat → En → World → Prop:=fun m e w' => At Fe e ∧ e 13 = .int .i64 (i:Int) ∧ W1 w0 w' F R vs'
  refine T.seq (T.block (T.seq (T.mixed [] (fun j => if j = 12 then 14 else 52 + j) qv Ph WC (by kernel_rfl) ?_ ?_ ?_ trivial ?_)))
  ·exact ⟨g1.same hFe (fun s hs => by simp only [upd]; rw [Zf (show s ≠ 49 by omega),Zf (show s ≠ 48 by omega),Zf (show s ≠ 47 by omega),Zf (show s ≠ 46 by omega)]; rfl),g2,g4.next (Keep.drw w)⟩
  ·rintro m e w' j v hj - ⟨q1,q2,q3⟩
   have hD:13 < (if j = 12 then 14 else 52 + j):=by split <;> omega
   exact ⟨q1.same hFe (fun s hs => Zm _ _ (by omega)),(Zm _ _ (by omega)).trans q2,q3⟩
  ·refine ⟨fun _ m e w' hP hd hp => ?_,fun _ m e w' hP hd hp => ?_,fun _ m e w' hP hd hp => ?_,fun _ m e w' hP hd hp => ?_,fun _ m e w' hP hd hp => ?_,fun _ m e w' hP hd hp => ?_,fun _ m e w' hP hd hp => ?_,fun _ m e w' hP hd hp => ?_,
    fun _ m e w' hP hd hp => ?_,fun _ m e w' hP hd hp => ?_,fun _ m e w' hP hd hp => ?_,fun _ m e w' hP hd hp => ?_,fun _ m e w' hP hd hp => ?_,trivial⟩
   ·exact Zr (x:=.tmp 12) (.inl rfl) (hP.1 _ h12)
   ·exact Zr (x:=.tmp 13) (.inl rfl) hP.2.1
   ·exact QM (x:=.tmp 52) (y:=.tmp 53) (e':=30) (t:=nodeT) rfl (by kernel_rfl) (hd 0 rfl rfl) (hd 1 rfl rfl) (by omega) (by omega) (by simp [Ty.size])
   ·exact ZK (x:=.tmp 54) (fs:=(match Try.prog.underlying 30 with | some (.struct fs) => fs | _ => #[])) rfl (hd 2 rfl rfl) (by kernel_rfl) rfl (by kernel_rfl) rfl
   ·exact QC (x:=.tmp 55) rfl (hd 3 rfl rfl) (hP.2.2.fix _ hbl) (dd:=.slice 34) (by kernel_rfl) rfl (hc i hk)
   ·exact Zr (x:=.tmp 12) (.inl rfl) (hP.1 _ h12)
   ·exact Zr (x:=.tmp 13) (.inl rfl) hP.2.1
   ·exact QM (x:=.tmp 57) (y:=.tmp 58) (e':=30) (t:=nodeT) rfl (by kernel_rfl) (hd 5 rfl rfl) (hd 6 rfl rfl) (by omega) (by omega) (by simp [Ty.size])
   ·exact ZK (x:=.tmp 59) (fs:=(match Try.prog.underlying 30 with | some (.struct fs) => fs | _ => #[])) rfl (hd 7 rfl rfl) (by kernel_rfl) rfl (by kernel_rfl) rfl
   ·exact QC (x:=.tmp 60) rfl (hd 8 rfl rfl) (hP.2.2.fix _ hbl) (dd:=.slice 34) (by kernel_rfl) rfl (hc i hk)
   ·exact ZjN (x:=.tmp 61) rfl ((hd 9 rfl rfl).trans (Za1 _)) (el:=34) (by kernel_rfl)
   ·exact ZcP (x:=.tmp 56) (y:=.tmp 62) rfl ((hd 4 rfl rfl).trans (Za1 _)) (hd 10 rfl rfl) (Jj _) (el:=34) (dd:=Try.prog.underlying 34 |>.getD default) (by kernel_rfl) (by kernel_rfl)
   ·exact Zr (x:=.tmp 63) (.inr rfl) (hd 11 rfl rfl)
  ·rintro e w' ⟨q1,q2,q3⟩ hv
   have h14:e 14 = .slice (ZfM (R i)) (Zay (R i)) (Zay (R i)):=hv 12 (by decide) rfl
   refine T.seq (T.region (L.val 15 (Zr (x:=.const (.int .i64 0)) (.inr rfl) rfl) (L.nil ?_)))
   refine Zkj hFe (i:=i) (q1.same hFe (fun s hs => Zm _ _ (by omega))) q2 h14 (fun r hr => by rw [hr]; exact ⟨rfl,rfl⟩) (fun hr => by rw [hr]; rfl) rfl q3 ?_
   intro e' w'' vs'' p1 p2 p3 p4 p5
   refine T.region (L.val 50 (Zr (x:=.tmp 13) (.inl rfl) p2) (L.val 51 (Yh (x:=.tmp 50) rfl rfl rfl rfl (v:=.int .i64 (Jx.wrap ((i:Int) + 1))) rfl) (L.val 13 (Zr (x:=.tmp 51) (.inr rfl) rfl) (L.nil ?_))))
   have hw:Jx.wrap ((i:Int) + 1) = ((i + 1:Nat):Int):=by simp [U4,IntKind.bits,IntKind.signed]; omega
   refine ⟨⟨i + 1,vs'',?_,by rw [hw]; rfl,by omega,p3,fun j hj r hr => ?_⟩,?_⟩
   ·exact p1.same hFe (fun s hs => by simp only [upd]; rw [Zf (show s ≠ 13 by omega),Zf (show s ≠ 51 by omega),Zf (show s ≠ 50 by omega)]; rfl)
   ·by_cases hji:j = i
    ·subst hji; exact p5 r hr
    ·rw [p4 j hji]; exact g5 j (by omega) r hr
   ·rw [g2]
    show 3 - (Jx.wrap ((i:Int) + 1)).toNat < 3 - ((i:Int)).toNat
    rw [hw]; simp; omega
 ·refine T.condF (by show Value.bool _ = _; simp; omega) (T.exit ?_)
  simp only [nx,bk,if_true]
  have h3:i = 3:=by omega
  subst h3
  exact hQ _ _ vs' (g1.same hFe (fun s hs => by simp only [upd]; rw [Zf (show s ≠ 49 by omega),Zf (show s ≠ 48 by omega),Zf (show s ≠ 47 by omega),Zf (show s ≠ 46 by omega)]; rfl)) g4 g5
end Go.Sh
namespace Go.Sh
open Go Go.Proofs
theorem Zi0 (s:ByteArray):QS Try.prog (binOp .neq 9 (.string s) (.string s)) = some (.bool false):=by
 have:QS Try.prog (binOp .neq 9 (.string s) (.string s)) = some (.bool (!(s.toList == s.toList))):=by kernel_rfl
 rw [this]; simp
theorem Zkt {e:En} {w:World} {o:Oper} {x y:Operand} {z:TypeId} (ho:o.op = .binOp .neq 34 x y z) (hx:ev e x = .agg #[.string ⟨#[]⟩,.string ⟨#[]⟩]) (hy:ev e y = .agg #[.string ⟨#[]⟩,.string ⟨#[]⟩]) :
  (execOp (ev e) o).run Try.prog w = .ok (.value (.bool false)) w:=by
 have hz:RA (fun _ => undef) w (fun _ => 0) (.agg [.val (.v (.string ⟨#[]⟩)),.val (.v (.string ⟨#[]⟩))]) (.agg #[.string ⟨#[]⟩,.string ⟨#[]⟩]):=by
  simp only [RA,Zw,RP]; exact ⟨_,rfl,rfl,rfl,trivial⟩
 obtain ⟨v,h1,h2,_⟩:=Zbh (C:=⟨Try.prog,fun _ => none,0,fun _ => []⟩) (σ:=fun _ => undef) (w:=w) (lim:=fun _ => 0) (tbl:=fun _ => .fresh) (op:=.neq) (T:=34) (a:=.agg [.val (.v (.string ⟨#[]⟩)),.val (.v (.string ⟨#[]⟩))])
  (b:=.agg [.val (.v (.string ⟨#[]⟩)),.val (.v (.string ⟨#[]⟩))]) (xo:=x) (yo:=y) (l:=[]) (e:=⟨.val (.v (.bool false)),[]⟩) (l':=[]) (by kernel_rfl) hz hz
 simp only [RA,RP] at h2
 subst h2
 simp only [execOp,ho,hx,hy]
 simp only [Sem.run_bind] at h1 ⊢
 rw [h1]; rfl
noncomputable def ZkX:Code:=cl (cr (cr (cr (cr (cr (cr (cr k7)))))))
noncomputable def Zlg:Code:=cr ZkX
noncomputable def Zlc:Code:=cb (cb Zlg)
noncomputable def Zlh:Code:=cr (cb (cl (cr Zlc)))
theorem Zic {w0 w:World} {F:List (Nat × Obj)} {R:Nat → Option RowD} {vs:Nat → Array Value} (h:W1 w0 w F R vs) (i:Nat):Q2 (R i) ≤ 9223372036854775807:=by
 cases hr:R i with
 | none => simp [Q2]
 | some r => have:=h.ok i r hr; simp only [Q2]; omega
theorem Zkk {w0:World} {F:List (Nat × Obj)} {R:Nat → Option RowD} {Q:Exit → En → World → Prop} {Fe:List (Nat × Value)} (hFe:∀ p ∈ Fe,p.1 < 13) {bl:Nat} {c9:Array Value} (h12:(12,V5 (some ⟨bl,0,none⟩) 3 3) ∈ Fe)
  (hbl:(bl,Obj.cells c9 30 (0,0)) ∈ F) (hc:∀ i,i < 3 → c9.toList[i * 3 + 2]? = some (ZW (R i))) {i:Nat} (hi:i < 3) {e:En} {w:World} {vs:Nat → Array Value} (hat:At Fe e) (h16:e 16 = .int .i64 (i:Int)) (h17:e 17 = .int .i64 0) (hW:W1 w0 w F R vs)
  (hM:∀ r,R i = some r → XV (vs i) r (i:Int) r.cap)
  (hQ:∀ e' w',At Fe e' → e' 16 = .int .i64 (i:Int) → W1 w0 w' F R vs → Q .normal e' w'):T Try.prog 133 Zlh Q e w:=by
 refine T.block (T.loop (fun e w => ∃ k:Nat,At Fe e ∧ e 16 = .int .i64 (i:Int) ∧ e 17 = .int .i64 (k:Int) ∧ k ≤ Q2 (R i) ∧ W1 w0 w F R vs) (fun e _ => Q2 (R i) - iv (e 17)) ⟨0,hat,h16,h17,U6 _,hW⟩ ?_)
 rintro e w ⟨k,g1,g2,g3,g4,g5⟩
 have hbig:=Zic g5 i
 refine T.seq (T.seq (T.region (L.val 84 (Zr (x:=.tmp 17) (.inl rfl) g3) (L.val 85 (Zr (x:=.tmp 12) (.inl rfl) (v:=.slice (some ⟨bl,0,none⟩) 3 3) (g1 _ h12)) (L.val 86 (Zr (x:=.tmp 16) (.inl rfl) g2)
  (L.val 87 (QM (x:=.tmp 85) (y:=.tmp 86) (e':=30) (t:=nodeT) (b:=bl) (off:=0) (len:=3) (cap:=3) (i:=(i:Int)) rfl (by kernel_rfl) rfl rfl (by omega) (by omega) (off':=i * 3) (by simp [Ty.size]))
  (L.val 88 (ZK (x:=.tmp 87) (fs:=(match Try.prog.underlying 30 with | some (.struct fs) => fs | _ => #[])) rfl rfl (by kernel_rfl) rfl (by kernel_rfl) (off':=i * 3 + 2) rfl)
  (L.val 89 (QC (x:=.tmp 88) rfl rfl (g5.fix _ hbl) (dd:=.slice 34) (by kernel_rfl) rfl (hc i hi))
  (L.val 90 (ZbY (x:=.tmp 89) rfl (Za1 _) (el:=34) (by kernel_rfl))
  (L.val 91 (Yh (x:=.tmp 84) (y:=.tmp 90) rfl rfl rfl rfl (v:=.bool (decide ((k:Int) < (Q2 (R i):Int)))) rfl) (L.nil ?_)))))))))))
 have hup:∀ s,s < 84 → upd (upd (upd (upd (upd (upd (upd (upd e 84 (.int .i64 (k:Int))) 85 (.slice (some ⟨bl,0,none⟩) 3 3)) 86 (.int .i64 (i:Int))) 87 (.pointer (some ⟨bl,i * 3,none⟩))) 88 (.pointer (some ⟨bl,i * 3 + 2,none⟩))) 89 (ZW (R i)))
   90 (.int .i64 (Q2 (R i):Int))) 91 (.bool (decide ((k:Int) < (Q2 (R i):Int)))) s = e s:=fun s hs => by
  simp only [upd]; rw [Zf (show s ≠ 91 by omega),Zf (show s ≠ 90 by omega),Zf (show s ≠ 89 by omega),Zf (show s ≠ 88 by omega),Zf (show s ≠ 87 by omega),Zf (show s ≠ 86 by omega),Zf (show s ≠ 85 by omega),Zf (show s ≠ 84 by omega)]; rfl
 by_cases hk:k < Q2 (R i)
 ·refine T.condT (by show Value.bool _ = _; simp; exact hk) (T.skip ?_)
  obtain ⟨r,hr⟩:∃ r,R i = some r:=by
   cases hr:R i with
   | none => rw [hr] at hk; simp [Q2] at hk
   | some r => exact ⟨r,rfl⟩
  rw [hr] at hk
  simp only [Q2] at hk
  obtain ⟨o1,o2,o3,o4⟩:=g5.ok i r hr
  obtain ⟨m1,m2⟩:=hM r hr k (by omega)
  let qv:Nat → Value:=fun j => match j with
   | 0 => .slice (some ⟨bl,0,none⟩) 3 3 | 1 => .int .i64 (i:Int) | 2 => .pointer (some ⟨bl,i * 3,none⟩) | 3 => .pointer (some ⟨bl,i * 3 + 2,none⟩) | 4 => ZW (R i) | 5 => .int .i64 (k:Int)
   | 6 => .pointer (some ⟨r.b,r.off + k * 2,none⟩) | 7 => .pointer (some ⟨r.b,r.off + k * 2 + 1,none⟩) | 8 => .string (sI i) | 9 => .int .i64 (i:Int) | 10 => .int .u8 (UO.wrap (i:Int)) | _ => undef
  let Ph:Nat → En → World → Prop:=fun m e w' => At Fe e ∧ e 16 = .int .i64 (i:Int) ∧ e 17 = .int .i64 (k:Int) ∧ W1 w0 w' F R vs ∧ match m with
   | 0 => True
   | 1 => ∃ b,e 105 = .slice (some ⟨b,0,none⟩) 1 1 ∧ w'.heap[b]? = some (.cells #[.int .u8 (UO.wrap (i:Int))] 5 (0,0))
   | 2 => e 106 = .string (sI i)
   | 3 => e 107 = .bool false
   | _ => False
  refine T.seq (T.block (T.seq (T.mixed [11,12,13] (fun j => 94 + j) qv Ph WC (by kernel_rfl) ?_ ?_ ?_ ?_ ?_)))
  ·exact ⟨g1.same hFe (fun s hs => hup s (by omega)),g2,g3,g5.next (Keep.drw w),trivial⟩
  ·rintro m e w' j v hj hc ⟨q1,q2,q3,q4,q5⟩
   have hne:j ≠ 11 ∧ j ≠ 12 ∧ j ≠ 13:=by
    refine ⟨?_,?_,?_⟩ <;> (rintro rfl; simp at hc)
   have hj':j < 14:=hj
   have ho:∀ s,(s < 94 ∨ 105 ≤ s) → upd e (94 + j) v s = e s:=fun s hs => Zm e v (by omega)
   refine ⟨q1.same hFe (fun s hs => ho s (by omega)),(ho 16 (by omega)).trans q2,(ho 17 (by omega)).trans q3,q4,?_⟩
   match m,q5 with
   | 0,_ => trivial
   | 1,⟨b,a1,a2⟩ => exact ⟨b,(ho 105 (by omega)).trans a1,a2⟩
   | 2,a => exact (ho 106 (by omega)).trans a
   | 3,a => exact (ho 107 (by omega)).trans a
  ·refine ⟨fun _ m e w' hP hd hp => ?_,fun _ m e w' hP hd hp => ?_,fun _ m e w' hP hd hp => ?_,fun _ m e w' hP hd hp => ?_,fun _ m e w' hP hd hp => ?_,fun _ m e w' hP hd hp => ?_,fun _ m e w' hP hd hp => ?_,fun _ m e w' hP hd hp => ?_,
    fun _ m e w' hP hd hp => ?_,fun _ m e w' hP hd hp => ?_,fun _ m e w' hP hd hp => ?_,fun h => (by cases h),fun h => (by cases h),fun h => (by cases h),trivial⟩
   ·exact Zr (x:=.tmp 12) (.inl rfl) (hP.1 _ h12)
   ·exact Zr (x:=.tmp 16) (.inl rfl) hP.2.1
   ·exact QM (x:=.tmp 94) (y:=.tmp 95) (e':=30) (t:=nodeT) rfl (by kernel_rfl) (hd 0 rfl rfl) (hd 1 rfl rfl) (by omega) (by omega) (by simp [Ty.size])
   ·exact ZK (x:=.tmp 96) (fs:=(match Try.prog.underlying 30 with | some (.struct fs) => fs | _ => #[])) rfl (hd 2 rfl rfl) (by kernel_rfl) rfl (by kernel_rfl) rfl
   ·exact QC (x:=.tmp 97) rfl (hd 3 rfl rfl) (hP.2.2.2.1.fix _ hbl) (dd:=.slice 34) (by kernel_rfl) rfl (hc i hi)
   ·exact Zr (x:=.tmp 17) (.inl rfl) hP.2.2.1
   ·exact QM (x:=.tmp 98) (y:=.tmp 99) (e':=34) (t:=ZR) rfl (by kernel_rfl) ((hd 4 rfl rfl).trans (by show ZW (R i) = _; rw [hr]; rfl)) (hd 5 rfl rfl) (by omega) (by omega) (by simp [Ty.size])
   ·exact ZK (x:=.tmp 100) (fs:=(match Try.prog.underlying 34 with | some (.struct fs) => fs | _ => #[])) rfl (hd 6 rfl rfl) (by kernel_rfl) rfl (by kernel_rfl) rfl
   ·exact QC (x:=.tmp 101) rfl (hd 7 rfl rfl) (hP.2.2.2.1.row i r hr).1 (dd:=.string) (by kernel_rfl) rfl m2
   ·exact Zr (x:=.tmp 16) (.inl rfl) hP.2.1
   ·exact Zio (x:=.tmp 103) rfl (hd 9 rfl rfl) rfl
  ·refine ⟨fun o ho e w' hP hd => ?_,fun o ho e w' hP hd => ?_,fun o ho e w' hP hd => ?_,trivial⟩
   ·obtain rfl:=VF.inj ho
    obtain ⟨q1,q2,q3,q4,q5⟩:=hP
    have h104:e 104 = .int .u8 (UO.wrap (i:Int)):=hd 10 rfl rfl
    refine Lo.val 105 (X5 (len:=1) (ee:=5) (t:=.int .u8) (zs:=[.int .u8 0]) (cs:=[.int .u8 (UO.wrap (i:Int))]) rfl (by kernel_rfl) (by kernel_rfl) (by decide) (by decide) (by
     intro zz hz
     match zz,hz with
     | [z],_ =>
      show Jw _ _ [(0,e 104)] = _
      rw [h104]; rfl)) ?_
    exact ⟨q1.same hFe (fun s hs => Zm _ _ (by omega)),(Zm _ _ (by decide)).trans q2,(Zm _ _ (by decide)).trans q3,q4.next (Keep.alloc _ _),w'.heap.size,QY ..,heap_alloc_new w' _⟩
   ·obtain rfl:=VF.inj ho
    obtain ⟨q1,q2,q3,q4,b,a1,a2⟩:=hP
    refine Lo.val 106 (Zgh (x:=.tmp 105) (el:=5) (xs:=[UO.wrap (i:Int)]) rfl a1 (by kernel_rfl) (by kernel_rfl) (by kernel_rfl) a2 rfl (Jj _) (by
     intro j hj
     simp at hj; subst hj; rfl)) ?_
    exact ⟨q1.same hFe (fun s hs => Zm _ _ (by omega)),(Zm _ _ (by decide)).trans q2,(Zm _ _ (by decide)).trans q3,q4,QY ..⟩
   ·obtain rfl:=VF.inj ho
    obtain ⟨q1,q2,q3,q4,a1⟩:=hP
    refine Lo.val 107 (Yh (x:=.tmp 102) (y:=.tmp 106) rfl (hd 8 rfl rfl) a1 rfl (Zi0 _)) ?_
    exact ⟨q1.same hFe (fun s hs => Zm _ _ (by omega)),(Zm _ _ (by decide)).trans q2,(Zm _ _ (by decide)).trans q3,q4,QY ..⟩
  ·rintro e w' ⟨q1,q2,q3,q4,q5⟩ _
   refine T.condF q5 (T.skip ?_)
   refine T.region (L.val 92 (Zr (x:=.tmp 17) (.inl rfl) q3) (L.val 93 (Yh (x:=.tmp 92) rfl rfl rfl rfl (v:=.int .i64 (Jx.wrap ((k:Int) + 1))) rfl) (L.val 17 (Zr (x:=.tmp 93) (.inr rfl) rfl) (L.nil ?_))))
   have hw:Jx.wrap ((k:Int) + 1) = ((k + 1:Nat):Int):=by simp [U4,IntKind.bits,IntKind.signed]; omega
   refine ⟨⟨k + 1,?_,q2,by rw [hw]; rfl,by rw [hr]; exact hk,q4⟩,?_⟩
   ·exact q1.same hFe (fun s hs => by simp only [upd]; rw [Zf (show s ≠ 17 by omega),Zf (show s ≠ 93 by omega),Zf (show s ≠ 92 by omega)]; rfl)
   ·rw [g3]
    show Q2 (R i) - (Jx.wrap ((k:Int) + 1)).toNat < Q2 (R i) - ((k:Int)).toNat
    rw [hw,hr]; simp [Q2]; omega
 ·refine T.condF (by show Value.bool _ = _; simp; omega) (T.exit ?_)
  simp only [nx,bk,if_true]
  exact hQ _ _ (g1.same hFe (fun s hs => hup s (by omega))) g2 g5
theorem Zk2 {w0:World} {F:List (Nat × Obj)} {R:Nat → Option RowD} {Q:Exit → En → World → Prop} {Fe:List (Nat × Value)} (hFe:∀ p ∈ Fe,p.1 < 13) {bl:Nat} {c9:Array Value} (h12:(12,V5 (some ⟨bl,0,none⟩) 3 3) ∈ Fe)
  (hbl:(bl,Obj.cells c9 30 (0,0)) ∈ F) (hc:∀ i,i < 3 → c9.toList[i * 3 + 2]? = some (ZW (R i))) {e:En} {w:World} {vs:Nat → Array Value} (hat:At Fe e) (hW:W1 w0 w F R vs)
  (hM:∀ i,i < 3 → ∀ r,R i = some r → XV (vs i) r (i:Int) r.cap)
  (hQ:∀ e' w',At Fe e' → W1 w0 w' F R vs → Q .normal e' w'):T Try.prog 133 ZkX Q e w:=by
 refine T.seq (T.region (L.val 16 (Zr (x:=.const (.int .i64 0)) (.inr rfl) rfl) (L.nil ?_)))
 refine T.block (T.loop (fun e w => ∃ i:Nat,At Fe e ∧ e 16 = .int .i64 (i:Int) ∧ i ≤ 3 ∧ W1 w0 w F R vs) (fun e _ => 3 - iv (e 16)) ⟨0,hat.same hFe (fun s hs => Zm _ _ (by omega)),rfl,by omega,hW⟩ ?_)
 rintro e w ⟨i,g1,g2,g3,g4⟩
 refine T.seq (T.seq (T.region (L.val 78 (Zr (x:=.tmp 16) (.inl rfl) g2) (L.val 79 (Zr (x:=.tmp 12) (.inl rfl) (v:=.slice (some ⟨bl,0,none⟩) 3 3) (g1 _ h12)) (L.val 80 (ZbY (x:=.tmp 79) rfl rfl (el:=30) (by kernel_rfl))
  (L.val 81 (Yh (x:=.tmp 78) (y:=.tmp 80) rfl rfl rfl rfl (v:=.bool (decide ((i:Int) < ((3:Nat):Int)))) rfl) (L.nil ?_)))))))
 by_cases hk:i < 3
 ·refine T.condT (by show Value.bool _ = _; simp; omega) (T.skip ?_)
  refine T.seq (T.block (T.seq (T.region (L.val 17 (Zr (x:=.const (.int .i64 0)) (.inr rfl) rfl) (L.nil ?_)))))
  refine Zkk hFe h12 hbl hc hk (g1.same hFe (fun s hs => by simp only [upd]; rw [Zf (show s ≠ 17 by omega),Zf (show s ≠ 81 by omega),Zf (show s ≠ 80 by omega),Zf (show s ≠ 79 by omega),Zf (show s ≠ 78 by omega)]; rfl)) g2 rfl g4 (hM i hk) ?_
  intro e' w' p1 p2 p3
  refine T.region (L.val 82 (Zr (x:=.tmp 16) (.inl rfl) p2) (L.val 83 (Yh (x:=.tmp 82) rfl rfl rfl rfl (v:=.int .i64 (Jx.wrap ((i:Int) + 1))) rfl) (L.val 16 (Zr (x:=.tmp 83) (.inr rfl) rfl) (L.nil ?_))))
  have hw:Jx.wrap ((i:Int) + 1) = ((i + 1:Nat):Int):=by simp [U4,IntKind.bits,IntKind.signed]; omega
  refine ⟨⟨i + 1,?_,by rw [hw]; rfl,by omega,p3⟩,?_⟩
  ·exact p1.same hFe (fun s hs => by simp only [upd]; rw [Zf (show s ≠ 16 by omega),Zf (show s ≠ 83 by omega),Zf (show s ≠ 82 by omega)]; rfl)
  ·rw [g2]
   show 3 - (Jx.wrap ((i:Int) + 1)).toNat < 3 - ((i:Int)).toNat
   rw [hw]; simp; omega
 ·refine T.condF (by show Value.bool _ = _; simp; omega) (T.exit ?_)
  simp only [nx,bk,if_true]
  exact hQ _ _ (g1.same hFe (fun s hs => by simp only [upd]; rw [Zf (show s ≠ 81 by omega),Zf (show s ≠ 80 by omega),Zf (show s ≠ 79 by omega),Zf (show s ≠ 78 by omega)]; rfl)) g4
end Go.Sh
namespace Go.Sh
open Go Go.Proofs
theorem Yq [Gl] {P:Program} {k f:Nat} {pk:List Kd} {rk:Kd} {F:Nat → Kd.dens pk → Option (Ans pk rk)} (hC:Ctr P k f (mk pk rk F)) {x:Kd.dens pk} {r:Ans pk rk} (hF:F k x = some r)
  (hL:Yr pk (Qu pk x) = some x) {w:World} {lim:Nat → Nat} (hlz:∀ b,w.heap.size ≤ b → lim b = 0) (hgl:Zcb w lim) {vs:List Value} (hT:Y4 w lim (Qu pk x) vs []) :
  Calls P f vs.toArray w fun en w' => ∃ v,en = .returned v ∧ Keep w w' ∧ ∃ lim' b1,Ext w lim w' lim' ∧ (∀ b,w'.heap.size ≤ b → lim' b = 0) ∧ (∀ b,b < w.heap.size → lim' b = lim b) ∧ TT w' lim' (enc rk r.1) v b1 ∧ b1.Nodup ∧ ∀ b ∈ b1,w.heap.size ≤ b:=by
 refine (hC.calls (Qu pk x) r (by simp only [mk,hL,VK]; exact hF) w lim vs [] hlz hgl hT (by simp) (by simp)).mono ?_
 rintro en w' ⟨v,lim',b1,b2,rfl,hE,hlz',hsame,hkeep,hT1,hT2,hS,hnd,hb⟩
 exact ⟨v,rfl,⟨hE.size,fun b hb => (hkeep b hb (by simp)).1,hsame⟩,lim',b1,hE,hlz',fun b hb => (hkeep b hb (by simp)).2,hT1,(VQ.1 hnd).1,fun b hb1 => by
  rcases hb b (JG _ hb1) with h | h
  ·cases h
  ·exact h⟩
theorem lies_leaf (w:World) (lim:Nat → Nat):Zcb w lim:=fun g j n h => by simp [Gl.tab] at h
theorem Zjb {w:World} {lim:Nat → Nat} {b:Bool} {f:Int} {l:List PrT} {sl:Value} (h:Rt w lim (.sl ZR) l [sl]):Rt w lim nodeT (b,f,l,()) [.bool b,.int .i64 f,sl] :=
 ⟨[.bool b],[.int .i64 f,sl],rfl,rfl,[.int .i64 f],[sl],rfl,rfl,[sl],[],rfl,h,rfl⟩
theorem K3 {w:World} {lim:Nat → Nat} {b:Bool} {f:Int} {l:List PrT} {sl:Value} (h:Rt w lim (.sl ZR) l [sl]):TT w lim (.view nodeT (b,f,l,())) (.agg #[.bool b,.int .i64 f,sl]) []:=by
 simp only [TT]
 exact ⟨⟨_,Zjb h,.inl ⟨rfl,rfl⟩⟩,trivial⟩
theorem Ext.of_keep {w w':World} {lim lim':Nat → Nat} (k:Keep w w') (hlz:∀ b,w.heap.size ≤ b → lim b = 0) (hl:∀ b,b < w.heap.size → lim' b = lim b):Ext w lim w' lim' where
 size:=k.size
 cell b o ho:=by
  have hb:b < w.heap.size:=by
   rcases VN b w.heap.size with h | h
   ·exact h
   ·rw [hlz b h] at ho; omega
  simp only [World.cell?,k.old b hb]
 lim b o ho:=by
  rcases VN b w.heap.size with h | h
  ·rw [hl b h]; exact ho
  ·rw [hlz b h] at ho; omega
 typ b T h:=by
  unfold ZS at h ⊢
  split at h
  ·rename_i c U fz hc
   rw [k.old b (Qz hc),hc]; exact h
  ·cases h
theorem ZdF {l:List PrT} {i:Nat} (h:i < l.length):(Zq l)[i * 2]? = some (.string l[i].1) ∧ (Zq l)[i * 2 + 1]? = some (.string l[i].2.1):=by
 induction l generalizing i with
 | nil => simp at h
 | cons p l ih =>
  cases i with
  | zero => exact ⟨rfl,rfl⟩
  | succ i =>
   have:=ih (i:=i) (by simpa using h)
   have e:(i + 1) * 2 = i * 2 + 1 + 1:=by omega
   simp only [Zq,U9,J1,VT,e,Ha,List.getElem_cons_succ] at this ⊢
   exact this
theorem Zit {w:World} {lim:Nat → Nat} {l m:List PrT} {bI:Nat} {U:TypeId} {fz:Nat × Nat} (hb:w.heap[bI]? = some (.cells (Zq (l ++ m)).toArray U fz)) (hl:l.length * 2 ≤ lim bI) {cap:Nat} (hc:l.length ≤ cap):Rt w lim (.sl ZR) l [.slice (some ⟨bI,0,none⟩) l.length cap]:=by
 refine ⟨some ⟨bI,0,none⟩,l.length,cap,rfl,rfl,hc,.inr ⟨bI,0,rfl,fun i hi => ⟨[.string l[i].1,.string l[i].2.1],(Zgk (w:=w) (lim:=lim)).2 rfl,fun j v hj => ?_⟩⟩⟩
 have hi2:i < (l ++ m).length:=by simp; omega
 have hat:=ZdF hi2
 rw [List.getElem_append_left hi] at hat
 have hsz:ZR.size = 2:=rfl
 rw [Wf hb,hsz]
 match j,hj with
 | 0,hj => simp at hj; subst hj; exact ⟨by simpa using hat.1,by omega⟩
 | 1,hj => simp at hj; subst hj; exact ⟨by simpa using hat.2,by omega⟩
 | j + 2,hj => simp at hj
noncomputable def ZkY:Code:=cr (cr (cr (cr (cr (cr (cr (cr k7)))))))
noncomputable def ZjG:Code:=cr (cr ZkY)
theorem spare {w0:World} {F:List (Nat × Obj)} {R:Nat → Option RowD} {Q:Exit → En → World → Prop} {Fe:List (Nat × Value)} (hFe:∀ p ∈ Fe,p.1 < 13) {b5 bI:Nat} {l:List PrT} {x0 x1:Value} (h5:(5,U7 (some ⟨b5,0,none⟩)) ∈ Fe)
  (hb5:(b5,Obj.cells #[x0,x1,.slice (some ⟨bI,0,none⟩) l.length (l.length + 2)] 30 (0,0)) ∈ F) (hbI:(bI,Obj.cells (Zq (l ++ [zp,zp])).toArray 34 (0,0)) ∈ F) (hlen:l.length < 1073741824) {e:En} {w:World} {vs:Nat → Array Value} (hat:At Fe e) (hW:W1 w0 w F R vs)
  (hQ:∀ e' w',At Fe e' → W1 w0 w' F R vs → T Try.prog 133 ZjG Q e' w'):T Try.prog 133 ZkY Q e w:=by
 let fs:Array Field:=(match Try.prog.underlying 30 with | some (.struct fs) => fs | _ => #[])
 have hu30:Try.prog.underlying 30 = some (.struct fs):=by kernel_rfl
 let sI0:Value:=.slice (some ⟨bI,0,none⟩) l.length (l.length + 2)
 refine T.seq (T.region (L.val 108 (ZK (x:=.tmp 5) (f:=2) (off':=2) rfl (by exact hat _ h5) hu30 rfl (by kernel_rfl) rfl) (L.val 109 (QC (x:=.tmp 108) (off:=2) (v:=sI0) rfl rfl (hW.fix _ hb5) (dd:=.slice 34) (by kernel_rfl) rfl rfl)
  (L.val 110 (ZK (x:=.tmp 5) (f:=2) (off':=2) rfl (by exact hat _ h5) hu30 rfl (by kernel_rfl) rfl) (L.val 111 (QC (x:=.tmp 110) (off:=2) (v:=sI0) rfl rfl (hW.fix _ hb5) (dd:=.slice 34) (by kernel_rfl) rfl rfl)
  (L.val 112 (ZjN (x:=.tmp 111) (A:=some ⟨bI,0,none⟩) (len:=l.length) (cap:=l.length + 2) rfl rfl (el:=34) (by kernel_rfl)) (L.val 113 (ZcP (x:=.tmp 109) (y:=.tmp 112) (A:=some ⟨bI,0,none⟩) (len:=l.length) (cap:=l.length + 2) (h:=l.length + 2) rfl rfl rfl (Jj _) (el:=34) (dd:=Try.prog.underlying 34 |>.getD default) (by kernel_rfl) (by kernel_rfl))
  (L.val 18 (Zr (x:=.tmp 113) (.inr rfl) rfl) (L.nil ?_)))))))))
 refine T.seq (T.seq (T.region (L.val 114 (ZK (x:=.tmp 5) (f:=2) (off':=2) rfl (by exact hat _ h5) hu30 rfl (by kernel_rfl) rfl) (L.val 115 (QC (x:=.tmp 114) (off:=2) (v:=sI0) rfl rfl (hW.fix _ hb5) (dd:=.slice 34) (by kernel_rfl) rfl rfl)
  (L.val 116 (ZbY (x:=.tmp 115) (A:=some ⟨bI,0,none⟩) (len:=l.length) (cap:=l.length + 2) rfl rfl (el:=34) (by kernel_rfl)) (L.val 19 (Zr (x:=.tmp 116) (.inr rfl) rfl) (L.nil ?_)))))))
 refine T.block (T.loop (fun e w => ∃ k:Nat,At Fe e ∧ e 18 = .slice (some ⟨bI,0,none⟩) (l.length + 2) (l.length + 2) ∧ e 19 = .int .i64 (k:Int) ∧ l.length ≤ k ∧ k ≤ l.length + 2 ∧ W1 w0 w F R vs) (fun e _ => l.length + 2 - iv (e 19))
  ⟨l.length,?_,rfl,rfl,Jj _,by omega,hW⟩ ?_)
 ·exact hat.same hFe (fun s hs => by
   simp only [upd]; rw [Zf (show s ≠ 19 by omega),Zf (show s ≠ 116 by omega),Zf (show s ≠ 115 by omega),Zf (show s ≠ 114 by omega),Zf (show s ≠ 18 by omega),Zf (show s ≠ 113 by omega),Zf (show s ≠ 112 by omega),Zf (show s ≠ 111 by omega),Zf (show s ≠ 110 by omega),Zf (show s ≠ 109 by omega),Zf (show s ≠ 108 by omega)]; rfl)
 rintro e w ⟨k,g1,g2,g3,g4,g4',g5⟩
 refine T.seq (T.seq (T.region (L.val 117 (Zr (x:=.tmp 19) (.inl rfl) g3) (L.val 118 (Zr (x:=.tmp 18) (.inl rfl) (v:=.slice (some ⟨bI,0,none⟩) (l.length + 2) (l.length + 2)) g2) (L.val 119 (ZbY (x:=.tmp 118) rfl rfl (el:=34) (by kernel_rfl))
  (L.val 120 (Yh (x:=.tmp 117) (y:=.tmp 119) rfl rfl rfl rfl (v:=.bool (decide ((k:Int) < ((l.length + 2:Nat):Int)))) rfl) (L.nil ?_)))))))
 by_cases hk:k < l.length + 2
 ·refine T.condT (by show Value.bool _ = _; simp; omega) (T.skip ?_)
  have hcells:((Zq (l ++ [zp,zp])).drop (k * 2)).take 2 = [.string ⟨#[]⟩,.string ⟨#[]⟩]:=by
   rw [Ww]
   have h2:=Wx l
   rcases VN l.length k with h | h
   ·have:k * 2 = (Zq l).length + 2:=by omega
    rw [this,← JE,JM]; rfl
   ·have:k * 2 = (Zq l).length:=by omega
    rw [this,JM]; rfl
  refine T.seq (T.block (T.seq (T.region (L.val 123 (Zr (x:=.tmp 18) (.inl rfl) g2) (L.val 124 (Zr (x:=.tmp 19) (.inl rfl) g3)
   (L.val 125 (QM (x:=.tmp 123) (y:=.tmp 124) (e':=34) (t:=ZR) (b:=bI) (off:=0) (len:=l.length + 2) (cap:=l.length + 2) (i:=(k:Int)) rfl (by kernel_rfl) rfl rfl (by omega) (by omega) (off':=k * 2) (by simp [Ty.size]))
   (L.val 126 (X6 (x:=.tmp 125) (cs:=[.string ⟨#[]⟩,.string ⟨#[]⟩]) rfl rfl (g5.fix _ hbI) (dd:=Try.prog.underlying 34 |>.getD default) (by kernel_rfl) (by kernel_rfl) (by kernel_rfl) hcells)
   (L.val 127 (Za0 (zs:=[.string ⟨#[]⟩,.string ⟨#[]⟩]) (us:=[.string ⟨#[]⟩,.string ⟨#[]⟩]) (fs:=(match Try.prog.underlying 34 with | some (.struct fs) => fs | _ => #[])) rfl (by kernel_rfl) (by kernel_rfl) (by kernel_rfl) rfl)
   (L.val 128 (Zkt (x:=.tmp 126) (y:=.tmp 127) rfl rfl rfl) (L.nil ?_))))))))))
  refine T.condF rfl (T.skip ?_)
  refine T.region (L.val 121 (Zr (x:=.tmp 19) (.inl rfl) g3) (L.val 122 (Yh (x:=.tmp 121) rfl rfl rfl rfl (v:=.int .i64 (Jx.wrap ((k:Int) + 1))) rfl) (L.val 19 (Zr (x:=.tmp 122) (.inr rfl) rfl) (L.nil ?_))))
  have hw:Jx.wrap ((k:Int) + 1) = ((k + 1:Nat):Int):=by simp [U4,IntKind.bits,IntKind.signed]; omega
  refine ⟨⟨k + 1,?_,g2,by rw [hw]; rfl,by omega,by omega,g5⟩,?_⟩
  ·exact g1.same hFe (fun s hs => by
    simp only [upd]; rw [Zf (show s ≠ 19 by omega),Zf (show s ≠ 122 by omega),Zf (show s ≠ 121 by omega),Zf (show s ≠ 128 by omega),Zf (show s ≠ 127 by omega),Zf (show s ≠ 126 by omega),Zf (show s ≠ 125 by omega),Zf (show s ≠ 124 by omega),Zf (show s ≠ 123 by omega),Zf (show s ≠ 120 by omega),Zf (show s ≠ 119 by omega),Zf (show s ≠ 118 by omega),Zf (show s ≠ 117 by omega)]; rfl)
  ·rw [g3]
   show l.length + 2 - (Jx.wrap ((k:Int) + 1)).toNat < l.length + 2 - ((k:Int)).toNat
   rw [hw]; simp; omega
 ·refine T.condF (by show Value.bool _ = _; simp; omega) (T.exit ?_)
  simp only [nx,bk,if_true]
  exact hQ _ _ (g1.same hFe (fun s hs => by simp only [upd]; rw [Zf (show s ≠ 120 by omega),Zf (show s ≠ 119 by omega),Zf (show s ≠ 118 by omega),Zf (show s ≠ 117 by omega)]; rfl)) g5
end Go.Sh
namespace Go.Sh
open Go Go.Proofs
theorem Zb7 {w:World} {lim:Nat → Nat} {b:Bool} {v:Value} {bs:List Nat} (h:TT w lim (.view .bool b) v bs):v = .bool b:=by
 simp only [TT,YQ,Rt] at h
 obtain ⟨⟨cs,rfl,h⟩,_⟩:=h
 rcases h with ⟨h,_⟩ | ⟨_,h⟩
 ·cases h
 ·cases h; rfl
theorem ZfG {w:World} {lim:Nat → Nat} {x:Nd} {v:Value} {bs:List Nat} (h:TT w lim (.view nodeT x) v bs):∃ cs,Rt w lim nodeT x cs ∧ v = .agg cs.toArray:=by
 simp only [TT,YQ] at h
 obtain ⟨⟨cs,h1,h⟩,_⟩:=h
 rcases h with ⟨_,h⟩ | ⟨h,_⟩
 ·exact ⟨cs,h1,h⟩
 ·cases h
theorem Zk9 {w0:World} {lim0:Nat → Nat} (hlz:∀ b,w0.heap.size ≤ b → lim0 b = 0) {F:List (Nat × Obj)} {R:Nat → Option RowD} {Fe:List (Nat × Value)} (hFe:∀ p ∈ Fe,p.1 < 13) (hF4:∀ p ∈ Fe,p.1 ≠ 4) {b2 b5 bI:Nat} {l:List PrT} {b:Bool} {f:Int} {sl0:Value}
  (h2:(2,U7 (some ⟨b2,0,none⟩)) ∈ Fe) (h5:(5,U7 (some ⟨b5,0,none⟩)) ∈ Fe)
  (hb2:(b2,Obj.cells #[.bool b,.int .i64 f,sl0] 24 (0,0)) ∈ F)
  (hb5:(b5,Obj.cells #[.bool b,.int .i64 f,.slice (some ⟨bI,0,none⟩) l.length (l.length + 2)] 30 (0,0)) ∈ F) (hbI:(bI,Obj.cells (Zq (l ++ [zp,zp])).toArray 34 (0,0)) ∈ F) (hnI:w0.heap.size ≤ bI)
  (hs0:Rt w0 lim0 (.sl ZR) l [sl0]) {k:Nat} (hk:l.length < k) (hlen:l.length < 1073741824) {e:En} {w:World} {vs:Nat → Array Value} (hat:At Fe e) (hW:W1 w0 w F R vs) :
  T Try.prog 133 ZjG (fun x e w' => (x = .normal ∨ x = .ret) ∧ e 4 = .bool true ∧ Keep w0 w') e w:=by
 let x:Nd:=(b,f,l,())
 let qv:Nat → Value:=fun j => match j with
  | 0 => .agg #[.bool b,.int .i64 f,.slice (some ⟨bI,0,none⟩) l.length (l.length + 2)] | 2 => .agg #[.bool b,.int .i64 f,sl0] | _ => undef
 let Ph:Nat → En → World → Prop:=fun m e w' => At Fe e ∧ W1 w0 w' F R vs ∧ match m with
  | 0 => True
  | 1 => ∃ lim,(∀ b,w'.heap.size ≤ b → lim b = 0) ∧ TT w' lim (.view nodeT x) (e 130) [] ∧ Rt w' lim (.sl ZR) l [sl0]
  | 2 => e 132 = .bool true
  | 3 => e 4 = .bool true
  | _ => False
 have hFe':∀ p ∈ Fe,p.1 < 13:=hFe
 refine T.seq (T.mixed [1,3,4] (fun j => 129 + j) qv Ph WC (by kernel_rfl) ?_ ?_ ?_ ?_ ?_)
 ·exact ⟨hat,hW.next (Keep.drw w),trivial⟩
 ·rintro m e w' j v hj hc ⟨q1,q2,q3⟩
  have hne:j ≠ 1 ∧ j ≠ 3 ∧ j ≠ 4:=by
   refine ⟨?_,?_,?_⟩ <;> (rintro rfl; simp at hc)
  have hj':j < 5:=hj
  refine ⟨q1.same hFe (fun s hs => Zm e v (by omega)),q2,?_⟩
  match m,q3 with
  | 0,_ => trivial
  | 1,⟨lim,a1,a2,a3⟩ => exact ⟨lim,a1,by rw [Zm e v (by omega)]; exact a2,a3⟩
  | 2,a => exact (Zm e v (by omega)).trans a
  | 3,a => exact (Zm e v (by omega)).trans a
 ·refine ⟨fun _ m e w' hP hd hp => ?_,fun h => (by cases h),fun _ m e w' hP hd hp => ?_,fun h => (by cases h),fun h => (by cases h),trivial⟩
  ·exact X6 (x:=.tmp 5) (cs:=[.bool b,.int .i64 f,.slice (some ⟨bI,0,none⟩) l.length (l.length + 2)]) rfl (hP.1 _ h5) (hP.2.1.fix _ hb5) (dd:=Try.prog.underlying 30 |>.getD default) (by kernel_rfl) (by kernel_rfl) (by kernel_rfl) rfl
  ·exact X6 (x:=.tmp 2) (cs:=[.bool b,.int .i64 f,sl0]) rfl (hP.1 _ h2) (hP.2.1.fix _ hb2) (dd:=Try.prog.underlying 24 |>.getD default) (by kernel_rfl) (by kernel_rfl) (by kernel_rfl) rfl
 ·refine ⟨fun o ho e w' hP hd => ?_,fun o ho e w' hP hd => ?_,fun o ho e w' hP hd => ?_,trivial⟩
  ·obtain rfl:=VF.inj ho
   obtain ⟨q1,q2,_⟩:=hP
   have h129:e 129 = .agg #[.bool b,.int .i64 f,.slice (some ⟨bI,0,none⟩) l.length (l.length + 2)]:=hd 0 rfl rfl
   let lim:Nat → Nat:=fun c => if c < w0.heap.size then lim0 c else if c = bI then l.length * 2 else 0
   have hbw:=Qz (q2.fix _ hbI)
   have hsz:=q2.keep.size
   have hz:∀ c,w'.heap.size ≤ c → lim c = 0:=fun c hc => by
    simp only [lim]; rw [if_neg (by omega),if_neg (by simp at hbw; omega)]
   have hE:Ext w0 lim0 w' lim:=Ext.of_keep q2.keep hlz (fun c hc => by simp only [lim,hc,if_true])
   have hI:lim bI = l.length * 2:=by simp only [lim]; rw [if_neg (by omega)]; simp
   have hrow:Rt w' lim (.sl ZR) l [.slice (some ⟨bI,0,none⟩) l.length (l.length + 2)]:=Zit (q2.fix _ hbI) (by rw [hI]; exact Jj _) (by omega)
   have hc:=Yq (ZfX k) (x:=(x,())) (Zj3 k x) rfl (w:=w') (lim:=lim) hz (lies_leaf _ _) (vs:=[.agg #[.bool b,.int .i64 f,.slice (some ⟨bI,0,none⟩) l.length (l.length + 2)]]) ⟨[],[],rfl,K3 hrow,rfl⟩
   refine Lo.call 130 (W5 (args := #[.tmp 129]) rfl (ZfX k).enters) (by
    show Calls Try.prog 18 [e 129].toArray w' _
    rw [h129]; exact hc) ?_
   rintro v w'' ⟨kp,lim',b1,hE',hz',hl',hT,hn,hnew⟩
   refine ⟨q1.same hFe (fun s hs => Zm _ _ (by omega)),q2.next kp,lim',hz',?_,(hs0.mono hE).mono hE'⟩
   rw [QY]
   simp only [TT] at hT ⊢
   exact ⟨hT.1,trivial⟩
  ·obtain rfl:=VF.inj ho
   obtain ⟨q1,q2,lim,a1,a2,a3⟩:=hP
   have h131:e 131 = .agg #[.bool b,.int .i64 f,sl0]:=hd 2 rfl rfl
   have hc:=Yq (ZfW k) (x:=(x,x,())) (Zj2 k x x hk (by show l.length < _; omega)) rfl (w:=w') (lim:=lim) a1 (lies_leaf _ _) (vs:=[e 130,.agg #[.bool b,.int .i64 f,sl0]]) ⟨[],[],rfl,a2,[],[],rfl,K3 a3,rfl⟩
   refine Lo.call 132 (W5 (args := #[.tmp 130,.tmp 131]) rfl (ZfW k).enters) (by
    show Calls Try.prog 17 [e 130,e 131].toArray w' _
    rw [h131]; exact hc) ?_
   rintro v w'' ⟨kp,lim',b1,hE',hz',hl',hT,hn,hnew⟩
   refine ⟨q1.same hFe (fun s hs => Zm _ _ (by omega)),q2.next kp,?_⟩
   show upd e 132 v 132 = _
   rw [QY]
   have:=Zb7 hT
   simpa using this
  ·obtain rfl:=VF.inj ho
   obtain ⟨q1,q2,a1⟩:=hP
   refine Lo.val 4 (Zr (x:=.tmp 132) (.inr rfl) a1) ?_
   refine ⟨?_,q2,QY ..⟩
   intro p hp
   rw [Zm _ _ (hF4 p hp)]
   exact q1 p hp
 ·rintro e w' ⟨q1,q2,a1⟩ _
  exact T.ret ⟨.inr rfl,a1,q2.keep⟩
end Go.Sh
namespace Go.Sh
open Go Go.Proofs
def Xh (R:Option RowD) (vs:Array Value):List (Nat × Obj):=match R with
 | none => []
 | some r => [(r.b,.cells vs r.U r.fz)]
def ZdY (R:Option RowD) (vs:Array Value):Prop := ∀ r,R = some r → r.off + r.cap * 2 ≤ vs.size ∧ (∀ x,x < vs.size → ¬ (r.fz.1 ≤ x ∧ x < r.fz.2)) ∧ r.len ≤ r.cap ∧ r.cap ≤ 9223372036854775807
theorem Zi6 {w:World} {lim:Nat → Nat} {sh:Bool} {xs:List PrT} {v:Value} {bs:List Nat} (h:Zcq w lim ZR sh xs v bs) :
  ∃ R vs,v = ZW R ∧ ZdY R vs ∧ (Xh R vs).map (·.1) = bs ∧ ∀ p ∈ Xh R vs,w.heap[p.1]? = some p.2:=by
 obtain ⟨h0,h | ⟨b,off,cap,vs,U,fz,h1,h2,h3,h4,h5,h6,h7,h8⟩⟩:=h
 ·obtain ⟨rfl,rfl,rfl⟩:=h
  exact ⟨none,#[],rfl,fun r hr => (by cases hr),rfl,fun p hp => (by cases hp)⟩
 ·have hsz:ZR.size = 2:=rfl
  have hbig:=h5.big
  rw [hsz] at h4 hbig
  refine ⟨some ⟨b,off,xs.length,cap,U,fz⟩,vs,h1,fun r hr => ?_,by simp [Xh,h8],fun p hp => ?_⟩
  ·cases hr
   exact ⟨h4,h5.free,h2,by show cap ≤ _; omega⟩
  ·simp [Xh] at hp
   subst hp
   exact h3
theorem H.adds {w0 w w':World} {B N:List (Nat × Obj)} (h:H w0 w B) (k:Keep w w') (hn:(N.map (·.1)).Nodup) (hb:∀ p ∈ N,w.heap.size ≤ p.1) (ho:∀ p ∈ N,w'.heap[p.1]? = some p.2):H w0 w' (N ++ B) where
 keep:=h.keep.trans k
 nd:=by
  rw [U5,VQ]
  refine ⟨hn,h.nd,fun a ha c hc => ?_⟩
  obtain ⟨p,hp,rfl⟩:=VG.1 ha
  obtain ⟨q,hq,rfl⟩:=VG.1 hc
  have:=Qz (h.at' q hq)
  have:=hb p hp
  omega
 at' p hp:=by
  rcases Js.1 hp with hp | hp
  ·exact ho p hp
  ·exact (k.old _ (Qz (h.at' p hp))).trans (h.at' p hp)
 new p hp:=by
  rcases Js.1 hp with hp | hp
  ·exact VI h.keep.size (hb p hp)
  ·exact h.new p hp
theorem H.parts {w0 w:World} {A B:List (Nat × Obj)} (h:H w0 w (A ++ B)):(∀ p ∈ A,∀ q ∈ B,p.1 ≠ q.1):=by
 have:=h.nd
 rw [U5,VQ] at this
 exact fun p hp q hq => this.2.2 _ (VG.2 ⟨p,hp,rfl⟩) _ (VG.2 ⟨q,hq,rfl⟩)
theorem H.tail {w0 w:World} {A B:List (Nat × Obj)} (h:H w0 w (A ++ B)):H w0 w B where
 keep:=h.keep
 nd:=by have:=h.nd; rw [U5,VQ] at this; exact this.2.1
 at' p hp:=h.at' p (JA _ hp)
 new p hp:=h.new p (JA _ hp)
theorem W1.of {w0 w:World} {F:List (Nat × Obj)} {Ra Rb Rm:Option RowD} {va vb vm:Array Value} (h:H w0 w (Xh Ra va ++ (Xh Rb vb ++ (Xh Rm vm ++ F)))) (ha:ZdY Ra va) (hb:ZdY Rb vb) (hm:ZdY Rm vm) :
  W1 w0 w F (fun j => match j with | 0 => Ra | 1 => Rb | 2 => Rm | _ => none) (fun j => match j with | 0 => va | 1 => vb | _ => vm):=by
 have mem:∀ {R:Option RowD} {vs:Array Value} {r:RowD},R = some r → (r.b,Obj.cells vs r.U r.fz) ∈ Xh R vs:=fun h => by subst h; simp [Xh]
 have p1:=h.parts
 have p2:=h.tail.parts
 have p3:=h.tail.tail.parts
 refine ⟨h.keep,fun p hp => h.tail.tail.tail.at' p hp,fun j r hr => ?_,fun j r hr => ?_,fun j j' r r' hj hr hr' => ?_,fun j r hr p hp => ?_⟩
 ·match j,hr with
  | 0,hr => exact ⟨h.at' _ (JG _ (mem hr)),h.new _ (JG _ (mem (vs:=va) hr))⟩
  | 1,hr => exact ⟨h.tail.at' _ (JG _ (mem hr)),h.tail.new _ (JG _ (mem (vs:=vb) hr))⟩
  | 2,hr => exact ⟨h.tail.tail.at' _ (JG _ (mem hr)),h.tail.tail.new _ (JG _ (mem (vs:=vm) hr))⟩
 ·match j,hr with
  | 0,hr => exact ha r hr
  | 1,hr => exact hb r hr
  | 2,hr => exact hm r hr
 ·match j,j',hj,hr,hr' with
  | 0,1,_,hr,hr' => exact p1 _ (mem hr) _ (JG _ (mem hr'))
  | 0,2,_,hr,hr' => exact p1 _ (mem hr) _ (JA _ (JG _ (mem hr')))
  | 1,2,_,hr,hr' => exact p2 _ (mem hr) _ (JG _ (mem hr'))
  | 1,0,_,hr,hr' => exact (p1 _ (mem hr') _ (JG _ (mem hr))).symm
  | 2,0,_,hr,hr' => exact (p1 _ (mem hr') _ (JA _ (JG _ (mem hr)))).symm
  | 2,1,_,hr,hr' => exact (p2 _ (mem hr') _ (JG _ (mem hr))).symm
  | 0,0,h,_,_ => exact absurd rfl h
  | 1,1,h,_,_ => exact absurd rfl h
  | 2,2,h,_,_ => exact absurd rfl h
 ·match j,hr with
  | 0,hr => exact (p1 _ (mem (vs:=va) hr) _ (JA _ (JA _ hp))).symm
  | 1,hr => exact (p2 _ (mem (vs:=vb) hr) _ (JA _ hp)).symm
  | 2,hr => exact (p3 _ (mem (vs:=vm) hr) _ hp).symm
end Go.Sh
namespace Go.Sh
open Go Go.Proofs
theorem X7 [Gl] {P:Program} {e:En} {w:World} {o:Oper} {T:TypeId} {x y:Operand} {b:Nat} {cur:Array Value} {U:TypeId} {fz:Nat × Nat} {dd:TypeDesc} {vs:List Value} (ho:o.op = .store T x y) (hx:ev e x = .pointer (some ⟨b,0,none⟩)) (hv:(ev e y).cells = vs.toArray)
  (hb:w.heap[b]? = some (.cells cur U fz)) (hfz:∀ x,x < cur.size → ¬ (fz.1 ≤ x ∧ x < fz.2)) (hT:P.underlying T = some dd) (hc:P.cellsOf T = vs.length) (h1:∀ v ∈ vs,v.oneCell' = true) (hfit:vs.length = cur.size) :
  (execOp (ev e) o).run P w = .ok .skip (w.setRow b vs.toArray):=by
 have:=ZdI (P:=P) ho hx hv hb hfz hT hc h1 (by omega)
 rw [this]
 congr 2
 simp [hfit]
theorem ZjK {b:Bool} {f:Int} {A:Option Addr} {n c:Nat}:∀ v ∈ [Value.bool b,.int .i64 f,.slice A n c],v.oneCell' = true:=by
 intro v hv; simp at hv; rcases hv with rfl | rfl | rfl <;> rfl
theorem Zfq {b:Bool} {f:Int} {R:Option RowD}:∀ v ∈ [Value.bool b,.int .i64 f,ZW R],v.oneCell' = true:=by rw [Za1]; exact ZjK
theorem Zkv {w:World} {lim:Nat → Nat} (s:ByteArray):TT w lim (.view .str s) (.string s) []:=by
 simp only [TT,YQ,Rt]; exact ⟨⟨_,rfl,.inr ⟨rfl,rfl⟩⟩,trivial⟩
theorem ZbR {w:World} {lim:Nat → Nat} {sh:Bool} {b:Bool} {f:Int} {l:List PrT} {v:Value} {bs:List Nat} (h:TT w lim (.agg [.view .bool b,.view (.int .i64) f,.own ZR sh l]) v bs) :
  ∃ R vs,v = .agg #[.bool b,.int .i64 f,ZW R] ∧ ZdY R vs ∧ (Xh R vs).map (·.1) = bs ∧ ∀ p ∈ Xh R vs,w.heap[p.1]? = some p.2:=by
 simp only [TT] at h
 obtain ⟨us,rfl,h⟩:=h
 match us,h with
 | [u1,u2,u3],h =>
  obtain ⟨a1,a2,rfl,h1,a3,a4,rfl,h2,a5,a6,rfl,h3,rfl⟩:=h
  simp only [TT,YQ,Rt] at h1 h2
  obtain ⟨⟨c1,rfl,h1⟩,rfl⟩:=h1
  obtain ⟨⟨c2,rfl,h2⟩,rfl⟩:=h2
  simp only [TT] at h3
  obtain ⟨R,vs,rfl,g2,g3,g4⟩:=Zi6 h3
  rcases h1 with ⟨h,_⟩ | ⟨_,h1⟩
  ·cases h
  rcases h2 with ⟨h,_⟩ | ⟨_,h2⟩
  ·cases h
  cases h1; cases h2
  exact ⟨R,vs,rfl,g2,by simpa using g3,g4⟩
theorem Zje {w:World} {lim:Nat → Nat} {a b c d:RV} {v:Value} {bs:List Nat} (h:TT w lim (.tup [a,b,c,d]) v bs):∃ v1 v2 v3 v4 x1 x2 x3 x4,v = .tuple [v1,v2,v3,v4].toArray ∧ bs = x1 ++ (x2 ++ (x3 ++ (x4 ++ []))) ∧
  TT w lim a v1 x1 ∧ TT w lim b v2 x2 ∧ TT w lim c v3 x3 ∧ TT w lim d v4 x4:=by
 simp only [TT] at h
 obtain ⟨us,rfl,h⟩:=h
 match us,h with
 | [v1,v2,v3,v4],h =>
  obtain ⟨x1,y1,rfl,t1,x2,y2,rfl,t2,x3,y3,rfl,t3,x4,y4,rfl,t4,rfl⟩:=h
  exact ⟨v1,v2,v3,v4,x1,x2,x3,x4,rfl,rfl,t1,t2,t3,t4⟩
theorem Zjd {w:World} {lim:Nat → Nat} {a b:RV} {v:Value} {bs:List Nat} (h:TT w lim (.tup [a,b]) v bs):∃ v1 v2 x1 x2,v = .tuple [v1,v2].toArray ∧ bs = x1 ++ (x2 ++ []) ∧ TT w lim a v1 x1 ∧ TT w lim b v2 x2:=by
 simp only [TT] at h
 obtain ⟨us,rfl,h⟩:=h
 match us,h with
 | [v1,v2],h =>
  obtain ⟨x1,y1,rfl,t1,x2,y2,rfl,t2,rfl⟩:=h
  exact ⟨v1,v2,x1,x2,rfl,rfl,t1,t2⟩
theorem H.sub {w0 w:World} {B B':List (Nat × Obj)} (h:H w0 w B) (D:List Nat) (hp:(D ++ B'.map (·.1)).Perm (B.map (·.1))) (hm:∀ p ∈ B',p ∈ B):H w0 w B' where
 keep:=h.keep
 nd:=(VQ.1 (hp.nodup_iff.2 h.nd)).2.1
 at' p hp:=h.at' p (hm p hp)
 new p hp:=h.new p (hm p hp)
theorem Zk1 {α:Type} {l:List α} (h:l.length = 9):∃ a b c d e f g i j,l = [a,b,c,d,e,f,g,i,j]:=by
 match l,h with
 | [a,b,c,d,e,f,g,i,j],_ => exact ⟨a,b,c,d,e,f,g,i,j,rfl⟩
theorem ZkV {a1 a2 a3 b1 b2 b3 c1 c2 c3:Value} {x y z:Value} (hx:x = .agg #[a1,a2,a3]) (hy:y = .agg #[b1,b2,b3]) (hz:z = .agg #[c1,c2,c3]) {zz:List Value} (h:zz.length = 9) :
  Jw (fun j => some (j * 3,3)) zz.toArray [(0,x),(1,y),(2,z)] = some [a1,a2,a3,b1,b2,b3,c1,c2,c3].toArray:=by
 obtain ⟨a,b,c,d,e,f,g,i,j,rfl⟩:=Zk1 h
 subst hx; subst hy; subst hz
 kernel_rfl
set_option maxHeartbeats 4000000 in
theorem Zez {k:Nat} {w0:World} {lim0:Nat → Nat} (hlz:∀ b,w0.heap.size ≤ b → lim0 b = 0) {b:Bool} {f:Int} {l:List PrT} {sl0:Value} (hs0:Rt w0 lim0 (.sl ZR) l [sl0]) (key:ByteArray) (hk:256 < k) (hk2:l.length < k) (hlen:l.length < 1073741824) :
  Calls Try.prog 7 #[.agg #[.bool b,.int .i64 f,sl0],.string key] w0 fun x w' => ∃ v,x = .returned v ∧ v = .bool true ∧ Keep w0 w':=by
 obtain ⟨A,len,cap,rfl⟩:∃ A len cap,sl0 = .slice A len cap:=by
  obtain ⟨A,len,cap,h,_⟩:=hs0; cases h; exact ⟨A,len,cap,rfl⟩
 let n0:Nd:=(b,f,l,())
 let c2:Obj:=.cells #[.bool b,.int .i64 f,.slice A len cap] 24
 have view0:∀ {w},Keep w0 w → Rt w lim0 (.sl ZR) l [.slice A len cap]:=fun kp => hs0.mono (Ext.of_keep kp hlz (fun _ _ => rfl))
 have lz:∀ {w},Keep w0 w → ∀ c,w.heap.size ≤ c → lim0 c = 0:=fun kp c hc => hlz c (VI kp.size hc)
 refine ZgA (fn:=Try.f7) (code:=k7) (t:=4) (vs:=[.agg #[.bool b,.int .i64 f,.slice A len cap],.string key]) (R:=fun v w' => v = .bool true ∧ Keep w0 w') (by kernel_rfl) (by kernel_rfl) (by kernel_rfl) (by show 2 ≤ 133; decide) ?_
 show T Try.prog 133 _ _ _ _
 -- regions 0,1
 refine T.seq (T.region (L.val 2 (ZjM rfl (vs:=[.bool b,.int .i64 f,.slice A len cap]) rfl) (L.val 4 (Zr (x:=.const (.bool false)) (.inr rfl) rfl) (L.nil ?_))))
 have H1:H w0 (w0.alloc c2) [(w0.heap.size,c2)]:=(H.nil w0).alloc c2
 refine T.seq (T.seq (T.region (L.call 20 (W5 (args := #[]) rfl (Zh4 k).enters) (Yq (Zh4 k) (x:=()) (ZkU k hk) rfl (lz H1.keep) (lies_leaf _ lim0) (vs:=[]) rfl) ?_)))
 rintro v w2 ⟨kp,lim',b1,hE,hz',hl',hT,hn,hnew⟩
 have hv:=Zb7 hT
 subst hv
 have H2:=H1.next kp
 clear kp hE hz' hl' hT hn hnew
 refine L.val 21 (Zli (x:=.tmp 20) rfl rfl (v:=.bool false) rfl) (L.nil (T.condF rfl (T.skip ?_)))
 -- region 3
 obtain ⟨b2,hb2⟩:∃ b2,b2 = w0.heap.size:=⟨_,rfl⟩
 rw [← hb2] at H2 ⊢
 have hll:l.length = len:=by obtain ⟨A',n',c',h,h1,_⟩:=hs0; cases h; exact h1
 refine T.seq (T.region (L.val 22 (X6 (x:=.tmp 2) (cs:=[.bool b,.int .i64 f,.slice A len cap]) rfl rfl (H2.at' (b2,c2) (by simp)) (dd:=Try.prog.underlying 24 |>.getD default) (by kernel_rfl) (by kernel_rfl) (by kernel_rfl) rfl)
  (L.call 23 (W5 (args := #[.tmp 22]) rfl ⟨Try.f12,by kernel_rfl,by kernel_rfl,by kernel_rfl⟩) (ZiB (b:=b) (f:=f) (view0 H2.keep) hlen) ?_)))
 rintro v w3 ⟨m,rfl,kp,hm1,hm2⟩
 have H3:=H2.add kp hm1 hm2
 clear kp
 refine L.val 5 (KV rfl (zs:=[.bool false,.int .i64 0,.slice none 0 0]) (by kernel_rfl)) ?_
 have H4:=H3.alloc (.cells [.bool false,.int .i64 0,.slice none 0 0].toArray 30)
 generalize hw4:w3.alloc (.cells [Value.bool false,.int .i64 0,.slice none 0 0].toArray 30) = w4 at H4 ⊢
 generalize hb5:w3.heap.size = b5 at H4 ⊢
 let c5:Obj:=.cells #[.bool b,.int .i64 f,.slice (some ⟨m,0,none⟩) l.length (l.length + 2)] 30
 let cI:Obj:=.cells (Zq (l ++ [zp,zp])).toArray 34
 refine L.unit (X7 (x:=.tmp 5) (y:=.tmp 23) (vs:=[.bool b,.int .i64 f,.slice (some ⟨m,0,none⟩) l.length (l.length + 2)]) rfl rfl rfl (H4.at' _ (Jm ..)) Zih (dd:=Try.prog.underlying 30 |>.getD default) (by kernel_rfl) (by kernel_rfl) ZjK rfl) (L.nil ?_)
 have H5:H w0 _ [(b5,c5),(m,cI),(b2,c2)]:=H4.row (cs':=[Value.bool b,.int .i64 f,.slice (some ⟨m,0,none⟩) l.length (l.length + 2)].toArray)
 generalize hw5:w4.setRow b5 [Value.bool b,.int .i64 f,.slice (some ⟨m,0,none⟩) l.length (l.length + 2)].toArray = w5 at H5 ⊢
 clear hw4 hw5
 -- region 4
 have row5:∀ {w B} {lim:Nat → Nat},H w0 w B → (m,cI) ∈ B → lim m = l.length * 2 → Rt w lim (.sl ZR) l [.slice (some ⟨m,0,none⟩) l.length (l.length + 2)]:=fun h hm hl => Zit (h.at' _ hm) (by rw [hl]; exact Jj _) (by omega)
 let limI:Nat → Nat:=fun c => if c < w0.heap.size then lim0 c else if c = m then l.length * 2 else 0
 have hmI:limI m = l.length * 2:=by
  have:=H5.new (m,cI) (by simp)
  simp only [limI]; rw [if_neg (by simp at this; omega)]; simp
 have lzI:∀ {w B},H w0 w B → (m,cI) ∈ B → ∀ c,w.heap.size ≤ c → limI c = 0:=fun {w B} h hm c hc => by
  have h1:=h.keep.size
  have h2:=Qz (h.at' _ hm)
  simp only [limI]; rw [if_neg (by omega),if_neg (by simp at h2; omega)]
 refine T.seq (T.region (L.val 25 (X6 (x:=.tmp 5) (cs:=[.bool b,.int .i64 f,.slice (some ⟨m,0,none⟩) l.length (l.length + 2)]) rfl rfl (H5.at' (b5,c5) (by simp)) (dd:=Try.prog.underlying 30 |>.getD default) (by kernel_rfl) (by kernel_rfl) (by kernel_rfl) rfl)
  (L.call 26 (W5 (args := #[.tmp 25]) rfl (Zf0 k).enters) (Yq (Zf0 k) (x:=(n0,())) (Zj6 k hk n0) rfl (lzI H5 (by simp)) (lies_leaf _ _) (vs:=[.agg #[.bool b,.int .i64 f,.slice (some ⟨m,0,none⟩) l.length (l.length + 2)]]) ⟨[],[],rfl,K3 (row5 H5 (by simp) hmI),rfl⟩) ?_)))
 rintro v w6 ⟨kp,lim',b1,hE,hz',hl',hT,hn,hnew⟩
 generalize ZfA n0 = sp at hT
 obtain ⟨⟨ba,fa,la,⟨⟩⟩,sk,⟨bb,fb,lb,⟨⟩⟩,er,⟨⟩⟩:=sp
 have hT:TT w6 lim' (.tup [.agg [.view .bool ba,.view (.int .i64) fa,.own ZR false la],.view .str sk,.agg [.view .bool bb,.view (.int .i64) fb,.own ZR false lb],.view (.int .i64) er]) v b1:=hT
 obtain ⟨v1,v2,v3,v4,x1,x2,x3,x4,rfl,rfl,t1,t2,t3,t4⟩:=Zje hT
 obtain ⟨Ra,va,rfl,oka,ea,ina⟩:=ZbR t1
 obtain ⟨Rb,vb,rfl,okb,eb,inb⟩:=ZbR t3
 have e2:x2 = []:=by simp only [TT] at t2; exact t2.2
 have e4:x4 = []:=by simp only [TT] at t4; exact t4.2
 subst e2; subst e4
 have hmapN:((Xh Ra va ++ Xh Rb vb).map (·.1)) = x1 ++ ([] ++ (x3 ++ ([] ++ []))):=by rw [U5,ea,eb]; simp
 have H6:=H5.adds (N:=Xh Ra va ++ Xh Rb vb) kp (by rw [hmapN]; exact hn) (fun p hp => hnew _ (by rw [← hmapN]; exact VG.2 ⟨p,hp,rfl⟩)) (fun p hp => by
  rcases Js.1 hp with h | h
  ·exact ina p h
  ·exact inb p h)
 clear kp hE hz' hl' hn hnew t1 t2 t3 t4 ina inb ea eb hmapN H5
 refine L.val 24 (Zr (x:=.tmp 26) (.inl rfl) rfl) (L.val 27 (WZ (x:=.tmp 24) (vs:=[.agg #[.bool ba,.int .i64 fa,ZW Ra],v2,.agg #[.bool bb,.int .i64 fb,ZW Rb],v4]) rfl rfl (v:=.agg #[.bool ba,.int .i64 fa,ZW Ra]) rfl)
  (L.val 28 (WZ (x:=.tmp 24) (vs:=[.agg #[.bool ba,.int .i64 fa,ZW Ra],v2,.agg #[.bool bb,.int .i64 fb,ZW Rb],v4]) rfl rfl (v:=v2) rfl)
  (L.val 29 (WZ (x:=.tmp 24) (vs:=[.agg #[.bool ba,.int .i64 fa,ZW Ra],v2,.agg #[.bool bb,.int .i64 fb,ZW Rb],v4]) rfl rfl (v:=.agg #[.bool bb,.int .i64 fb,ZW Rb]) rfl)
  (L.val 30 (WZ (x:=.tmp 24) (vs:=[.agg #[.bool ba,.int .i64 fa,ZW Ra],v2,.agg #[.bool bb,.int .i64 fb,ZW Rb],v4]) rfl rfl (v:=v4) rfl)
  (L.val 6 (KV rfl (zs:=[.bool false,.int .i64 0,.slice none 0 0]) (by kernel_rfl)) ?_)))))
 have H7:=H6.alloc (.cells [.bool false,.int .i64 0,.slice none 0 0].toArray 30)
 generalize w6.alloc (.cells [Value.bool false,.int .i64 0,.slice none 0 0].toArray 30) = w7 at H7 ⊢
 generalize w6.heap.size = b6 at H7 ⊢
 refine L.val 8 (KV rfl (zs:=[.bool false,.int .i64 0,.slice none 0 0]) (by kernel_rfl)) ?_
 have H8:=(H7.alloc (.cells [.bool false,.int .i64 0,.slice none 0 0].toArray 30)).perm (U8.swap ..)
 generalize w7.alloc (.cells [Value.bool false,.int .i64 0,.slice none 0 0].toArray 30) = w8 at H8 ⊢
 generalize w7.heap.size = b8 at H8 ⊢
 refine L.unit (X7 (x:=.tmp 6) (y:=.tmp 27) (vs:=[.bool ba,.int .i64 fa,ZW Ra]) rfl rfl rfl (H8.at' _ (Jm ..)) Zih (dd:=Try.prog.underlying 30 |>.getD default) (by kernel_rfl) (by kernel_rfl) Zfq rfl) (L.val 7 (Zr (x:=.tmp 28) (.inr rfl) rfl) ?_)
 have H9:=(H8.row (cs':=[Value.bool ba,.int .i64 fa,ZW Ra].toArray)).perm (U8.swap ..)
 generalize w8.setRow b6 [Value.bool ba,.int .i64 fa,ZW Ra].toArray = w9 at H9 ⊢
 refine L.unit (X7 (x:=.tmp 8) (y:=.tmp 29) (vs:=[.bool bb,.int .i64 fb,ZW Rb]) rfl rfl rfl (H9.at' _ (Jm ..)) Zih (dd:=Try.prog.underlying 30 |>.getD default) (by kernel_rfl) (by kernel_rfl) Zfq rfl) (L.val 9 (Zr (x:=.tmp 30) (.inr rfl) rfl) (L.nil ?_))
 have H10:=H9.row (cs':=[Value.bool bb,.int .i64 fb,ZW Rb].toArray)
 generalize w9.setRow b8 [Value.bool bb,.int .i64 fb,ZW Rb].toArray = w10 at H10 ⊢
 clear H6 H7 H8 H9
 -- region 5
 let fs24:Array Field:=(match Try.prog.underlying 24 with | some (.struct fs) => fs | _ => #[])
 have hu24:Try.prog.underlying 24 = some (.struct fs24):=by kernel_rfl
 refine T.seq (T.region (L.val 32 (X6 (x:=.tmp 5) (cs:=[.bool b,.int .i64 f,.slice (some ⟨m,0,none⟩) l.length (l.length + 2)]) rfl rfl (H10.at' (b5,c5) (by simp)) (dd:=Try.prog.underlying 30 |>.getD default) (by kernel_rfl) (by kernel_rfl) (by kernel_rfl) rfl)
  (L.val 33 (Zr (x:=.tmp 1) (.inl rfl) (v:=.string key) rfl) (L.val 34 (ZK (x:=.tmp 2) (f:=0) (b:=b2) (off:=0) (off':=0) rfl rfl hu24 rfl (by kernel_rfl) rfl) (L.val 35 (QC (x:=.tmp 34) (off:=0) (v:=.bool b) rfl rfl (H10.at' (b2,c2) (by simp)) (dd:=.bool) (by kernel_rfl) rfl rfl)
  (L.val 36 (ZK (x:=.tmp 2) (f:=1) (b:=b2) (off:=0) (off':=1) rfl rfl hu24 rfl (by kernel_rfl) rfl) (L.val 37 (QC (x:=.tmp 36) (off:=1) (v:=.int .i64 f) rfl rfl (H10.at' (b2,c2) (by simp)) (dd:=.int .i64) (by kernel_rfl) rfl rfl)
  (L.val 38 (Za0 (zs:=[.bool false,.int .i64 0,.slice none 0 0]) (us:=[.bool b,.int .i64 f,.slice none 0 0]) (fs:=(match Try.prog.underlying 30 with | some (.struct fs) => fs | _ => #[])) rfl (by kernel_rfl) (by kernel_rfl) (by kernel_rfl) rfl)
  (L.call 39 (W5 (args := #[.tmp 32,.tmp 33,.tmp 38]) rfl (ZfT k).enters) (Yq (ZfT k) (x:=(n0,key,(b,f,[],()),())) (Zj0 k hk n0 key (b,f,[],())) rfl (lzI H10 (by simp)) (lies_leaf _ _)
   (vs:=[.agg #[.bool b,.int .i64 f,.slice (some ⟨m,0,none⟩) l.length (l.length + 2)],.string key,.agg #[.bool b,.int .i64 f,.slice none 0 0]])
   ⟨[],[],rfl,K3 (row5 H10 (by simp) hmI),[],[],rfl,Zkv key,[],[],rfl,K3 ⟨none,0,0,rfl,rfl,Jj _,.inl rfl⟩,rfl⟩) ?_)))))))))
 rintro v w11 ⟨kp,lim',b1,hE,hz',hl',hT,hn,hnew⟩
 generalize Zfm n0 key (b,f,[],()) = mg at hT
 obtain ⟨⟨bm,fm,lm,⟨⟩⟩,er2,⟨⟩⟩:=mg
 have hT:TT w11 lim' (.tup [.agg [.view .bool bm,.view (.int .i64) fm,.own ZR true lm],.view (.int .i64) er2]) v b1:=hT
 obtain ⟨v1,v5,x1,x2,rfl,rfl,t1,t2⟩:=Zjd hT
 obtain ⟨Rm,vm,rfl,okm,em,inm⟩:=ZbR t1
 have e2:x2 = []:=by simp only [TT] at t2; exact t2.2
 subst e2
 have hmapN:(Xh Rm vm).map (·.1) = x1 ++ ([] ++ []):=by rw [em]; simp
 have H11:=H10.adds (N:=Xh Rm vm) kp (by rw [hmapN]; exact hn) (fun p hp => hnew _ (by rw [← hmapN]; exact VG.2 ⟨p,hp,rfl⟩)) inm
 clear kp hE hz' hl' hn hnew t1 t2 inm em hmapN H10
 refine L.val 31 (Zr (x:=.tmp 39) (.inl rfl) rfl) (L.val 40 (WZ (x:=.tmp 31) (vs:=[.agg #[.bool bm,.int .i64 fm,ZW Rm],v5]) rfl rfl (v:=.agg #[.bool bm,.int .i64 fm,ZW Rm]) rfl)
  (L.val 41 (WZ (x:=.tmp 31) (vs:=[.agg #[.bool bm,.int .i64 fm,ZW Rm],v5]) rfl rfl (v:=v5) rfl) (L.val 10 (KV rfl (zs:=[.bool false,.int .i64 0,.slice none 0 0]) (by kernel_rfl)) ?_)))
 have H12:=H11.alloc (.cells [.bool false,.int .i64 0,.slice none 0 0].toArray 30)
 generalize w11.alloc (.cells [Value.bool false,.int .i64 0,.slice none 0 0].toArray 30) = w12 at H12 ⊢
 generalize w11.heap.size = b10 at H12 ⊢
 refine L.unit (X7 (x:=.tmp 10) (y:=.tmp 40) (vs:=[.bool bm,.int .i64 fm,ZW Rm]) rfl rfl rfl (H12.at' _ (Jm ..)) Zih (dd:=Try.prog.underlying 30 |>.getD default) (by kernel_rfl) (by kernel_rfl) Zfq rfl) (L.val 11 (Zr (x:=.tmp 41) (.inr rfl) rfl) (L.nil ?_))
 have H13:=H12.row (cs':=[Value.bool bm,.int .i64 fm,ZW Rm].toArray)
 generalize w12.setRow b10 [Value.bool bm,.int .i64 fm,ZW Rm].toArray = w13 at H13 ⊢
 clear H11 H12
 -- region 6
 refine T.seq (T.region (L.val 42 (X6 (x:=.tmp 6) (cs:=[.bool ba,.int .i64 fa,ZW Ra]) rfl rfl (H13.at' (b6,.cells [Value.bool ba,.int .i64 fa,ZW Ra].toArray 30) (by simp)) (dd:=Try.prog.underlying 30 |>.getD default) (by kernel_rfl) (by kernel_rfl) (by kernel_rfl) rfl)
  (L.val 43 (X6 (x:=.tmp 8) (cs:=[.bool bb,.int .i64 fb,ZW Rb]) rfl rfl (H13.at' (b8,.cells [Value.bool bb,.int .i64 fb,ZW Rb].toArray 30) (by simp)) (dd:=Try.prog.underlying 30 |>.getD default) (by kernel_rfl) (by kernel_rfl) (by kernel_rfl) rfl)
  (L.val 44 (X6 (x:=.tmp 10) (cs:=[.bool bm,.int .i64 fm,ZW Rm]) rfl rfl (H13.at' (b10,.cells [Value.bool bm,.int .i64 fm,ZW Rm].toArray 30) (by simp)) (dd:=Try.prog.underlying 30 |>.getD default) (by kernel_rfl) (by kernel_rfl) (by kernel_rfl) rfl)
  (L.val 45 (X5 (len:=3) (ee:=30) (t:=nodeT) (zs:=[.bool false,.int .i64 0,.slice none 0 0]) (cs:=[.bool ba,.int .i64 fa,ZW Ra,.bool bb,.int .i64 fb,ZW Rb,.bool bm,.int .i64 fm,ZW Rm]) rfl (by kernel_rfl) (by kernel_rfl) (by decide) (by decide) (by
    intro zz hz
    exact ZkV rfl rfl rfl hz))
  (L.val 12 (Zr (x:=.tmp 45) (.inr rfl) rfl) (L.nil ?_)))))))
 have H14:=H13.alloc (.cells [.bool ba,.int .i64 fa,ZW Ra,.bool bb,.int .i64 fb,ZW Rb,.bool bm,.int .i64 fm,ZW Rm].toArray 30)
 generalize w13.alloc (.cells [Value.bool ba,.int .i64 fa,ZW Ra,.bool bb,.int .i64 fb,ZW Rb,.bool bm,.int .i64 fm,ZW Rm].toArray 30) = w14 at H14 ⊢
 generalize w13.heap.size = bl at H14 ⊢
 let c9:Array Value := #[.bool ba,.int .i64 fa,ZW Ra,.bool bb,.int .i64 fb,ZW Rb,.bool bm,.int .i64 fm,ZW Rm]
 let F:List (Nat × Obj):=[(bl,.cells c9 30),(b5,c5),(m,cI),(b2,c2)]
 have H15:H w0 w14 (Xh Ra va ++ (Xh Rb vb ++ (Xh Rm vm ++ F))):=by
  refine H14.sub [b10,b8,b6] ?_ ?_
  ·simp only [F,U5,JR,List.map_nil]
   generalize (Xh Ra va).map (·.1) = ra
   generalize (Xh Rb vb).map (·.1) = rb
   generalize (Xh Rm vm).map (·.1) = rm
   refine List.perm_iff_count.2 fun a => ?_
   simp only [List.count_append,List.count_cons,List.count_nil]
   omega
  ·intro p hp
   simp only [F,Js,VM,Uv,or_false] at hp ⊢
   rcases hp with h | h | h | h | h | h | h
   ·simp [h]
   ·simp [h]
   ·simp [h]
   ·left; exact h
   ·simp [h]
   ·simp [h]
   ·simp [h]
 clear H13 H14
 have W:=W1.of H15 oka okb okm
 let Fe:List (Nat × Value):=[(2,.pointer (some ⟨b2,0,none⟩)),(5,.pointer (some ⟨b5,0,none⟩)),(12,.slice (some ⟨bl,0,none⟩) 3 3)]
 have hFe:∀ p ∈ Fe,p.1 < 13:=by intro p hp; simp [Fe] at hp; rcases hp with rfl | rfl | rfl <;> simp
 have hF4:∀ p ∈ Fe,p.1 ≠ 4:=by intro p hp; simp [Fe] at hp; rcases hp with rfl | rfl | rfl <;> simp
 have h12:(12,V5 (some ⟨bl,0,none⟩) 3 3) ∈ Fe:=by simp [Fe]
 have hbl:(bl,Obj.cells c9 30 (0,0)) ∈ F:=by simp [F]
 have hc:∀ i,i < 3 → c9.toList[i * 3 + 2]? = some (ZW ((fun j => match j with | 0 => Ra | 1 => Rb | 2 => Rm | _ => none:Nat → Option RowD) i)):=by
  intro i hi
  match i,hi with
  | 0,_ => rfl
  | 1,_ => rfl
  | 2,_ => rfl
 refine T.seq (T.seq (T.region (L.val 13 (Zr (x:=.const (.int .i64 0)) (.inr rfl) rfl) (L.nil ?_))))
 refine Zkm hFe h12 hbl hc (by intro p hp; simp only [Fe,VM,Uv,or_false] at hp; rcases hp with rfl | rfl | rfl <;> rfl) rfl W ?_
 intro e1 w15 vs1 A1 W2 M1
 refine T.seq (Zk2 hFe h12 hbl hc A1 W2 M1 ?_)
 intro e2 w16 A2 W3
 refine spare hFe (b5:=b5) (bI:=m) (l:=l) (by simp [Fe]) (by simp only [F]; exact Jn _ (Jm ..)) (by simp only [F]; exact Jn _ (Jn _ (Jm ..))) hlen A2 W3 ?_
 intro e3 w17 A3 W4
 exact Zk9 hlz hFe hF4 (b2:=b2) (b5:=b5) (bI:=m) (l:=l) (b:=b) (f:=f) (by simp [Fe]) (by simp [Fe]) (by simp only [F]; exact Jn _ (Jn _ (Jn _ (Jm ..))))
  (by simp only [F]; exact Jn _ (Jm ..)) (by simp only [F]; exact Jn _ (Jn _ (Jm ..))) (H15.new (m,cI) (by simp [F])) hs0 hk2 hlen A3 W4
end Go.Sh
namespace Go.Sh
open Go Go.Proofs
def f7_F (k:Nat):Kd.dens (Z6 [nodeT,.str]) → Option (Ans (Z6 [nodeT,.str]) (.view .bool)):=fun x => if 256 < k ∧ x.1.2.2.1.length < k ∧ x.1.2.2.1.length < 1073741824 then some (true,()) else none
theorem f7_ctr (k:Nat):Ctr Try.prog k 7 (mk (Z6 [nodeT,.str]) (.view .bool) f7_F) where
 enters:=⟨Try.f7,by kernel_rfl,by kernel_rfl,by kernel_rfl⟩
 calls:=by
  intro rvs r hr w lim vs bs hlz hgl hT hnd hbs
  obtain ⟨x,hd,hF⟩:=Uy.1 hr
  have he:=ZZ _ rvs x hd
  subst he
  obtain ⟨⟨b,f,l,⟨⟩⟩,key,⟨⟩⟩:=x
  have hF:(if 256 < k ∧ l.length < k ∧ l.length < 1073741824 then some (true,()) else none) = some r:=hF
  split at hF
  ·rename_i hc
   cases hF
   obtain ⟨us,c1,hT⟩:∃ us:List Value,us = vs ∧ Y4 w lim [.view nodeT (b,f,l,()),.view .str key] us bs:=⟨vs,rfl,hT⟩
   subst c1
   match us,hT with
   | [v1,v2],hT =>
    obtain ⟨x1,y1,rfl,t1,x2,y2,rfl,t2,rfl⟩:=hT
    obtain ⟨cs,hr1,rfl⟩:=ZfG t1
    have hx1:x1 = []:=by simp only [TT] at t1; exact t1.2
    simp only [TT,YQ,Rt] at t2
    obtain ⟨⟨c2,rfl,t2⟩,rfl⟩:=t2
    rcases t2 with ⟨h,_⟩ | ⟨_,t2⟩
    ·cases h
    cases t2
    subst hx1
    obtain ⟨a1,a2,rfl,rfl,a3,a4,rfl,rfl,a5,a6,rfl,hs,rfl⟩:=hr1
    obtain ⟨sl,rfl⟩:∃ sl,a5 = [sl]:=by
     obtain ⟨A,len,cap,h,_⟩:=hs; exact ⟨_,h⟩
    refine (Zez hlz hs key hc.1 hc.2.1 hc.2.2).mono ?_
    rintro e w' ⟨v,rfl,rfl,kp⟩
    refine ⟨_,lim,[],[],rfl,Ext.of_keep kp hlz (fun _ _ => rfl),fun c hc => hlz c (VI kp.size hc),kp.same,fun c hc _ => ⟨kp.old c hc,rfl⟩,?_,?_,?_,by simp,by simp⟩
    ·show TT w' lim (.view .bool true) (.bool true) []
     simp only [TT,YQ,Rt]; exact ⟨⟨_,rfl,.inr ⟨rfl,rfl⟩⟩,trivial⟩
    ·show TL w' lim [.view nodeT,.view .str] [_,_] [] []
     simp [TL]
    ·show Wo w w' [.view nodeT,.view .str] [_,_]
     simp [Wo]
  ·cases hF
theorem keeps_plain:∀ x:Kd.dens (Z6 [nodeT,.str]),Zgc [nodeT,.str] x → KH [nodeT,.str] x ≤ 1048576 → ∃ k u,f7_F k x = some (true,u):=by
 rintro ⟨n,key,u⟩ _ hb
 have hb:Ty.bulk nodeT n + (Ty.bulk .str key + 0) ≤ 1048576:=hb
 have hl:=(Zfo (n:=n) (by omega)).2
 refine ⟨2147483648,(),?_⟩
 have h1:n.2.2.1.length < 2147483648 ∧ n.2.2.1.length < 1073741824:=⟨by omega,by omega⟩
 unfold f7_F
 exact if_pos ⟨by decide,h1.1,h1.2⟩
end Go.Sh
