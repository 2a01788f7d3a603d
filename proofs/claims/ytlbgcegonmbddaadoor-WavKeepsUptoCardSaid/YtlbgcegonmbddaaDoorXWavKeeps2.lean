/-
  What the row needs, part 2.
-/
import Derived.Test.YtlbgcegonmbddaaDoorXWavKeeps1
import Derived.Lib.SliceRun
import Derived.Laws.StructEq
import Derived.Laws.CopyRow
import Derived.Laws.Append
import Derived.Laws.AppendOwn
import Derived.Laws.BytesString
import Derived.Lib.ConvBytes
set_option linter.unusedSimpArgs false
set_option linter.unusedVariables false
set_option linter.unusedSectionVars false
open Array renaming ext'→JJ,range→JX,toList_map→JY,length_toList→J6,toArray_toList→J7,toList_setIfInBounds→Vl
open Bool renaming and_eq_true→Jh,false_eq_true→JK,not_eq_true'→J8
open Go.Builtin renaming append_→Jf,firstCells→Ji,zeroCells→Jl,lenOf→Jr,copy_→JC,len_→JD,nextslicecap→JE
open ByteArray renaming ext→Vm
open Go.Instr renaming fill→Jx,sliceAt→JL,sureAddr→JM,index→JZ,loadAt→J0,alloc→J9,build→Va,field→Vb,fieldAt→Vc,indexAt→Vd,sliceBounds→Ve,storeAt→Vf,buildSlice→Vn,makeSlice→Vo,sliceBound→Vp
open Int renaming eq_ofNat_of_zero_le→Vq
open Go.IntKind renaming i64→Jy
open List renaming replicate→Jd,mem_cons_self→Jm,mem_cons_of_mem→Jo,getElem?_drop→Jp,ext_getElem?→Js,mem_append→Jt,append_assoc→Jv,getElem?_take→Jz,length_take→JA,mem_append_right→JB,drop_drop→JF,length_cons→JG,mem_append_left→JH,drop_left→JN,eq_nil_of_length_eq_zero→JO,getElem?_append→JP,length_append→JQ,length_set→JR,map_cons→JS,mem_of_mem_drop→JT,mem_of_mem_take→JU,toList_toArray→JV,cons→J1,cons_append→J2,flatten_cons→J3,nodup_cons→J4,all_eq_true→Vg,append_nil→Vh,getElem?_map→Vi,length_drop→Vj,take_left→Vk,flatten_append→Vr,flatten_nil→Vs,getElem?_append_right→Vu,getElem?_cons→Vv,getElem?_set→Vw,mem_of_getElem?→Vx,mem_singleton→Vy,of_mem_zip→Vz,range'_succ→VA,size_toArray→VB
open Nat renaming add_mul→Jg,le_refl→Jj,mul_le_mul_right→Jk,one_mul→Jq,le_of_ble_eq_true→Ju,beq→Ja,add_zero→JI,add_assoc→JW,mul_le_mul→J5,lt_succ_self→VC
open Option renaming isSome_iff_exists→VD,map_some→VE
open Go.Value renaming int→Jw
namespace Go.Sh
open Go
variable [Gl]
theorem ZU (b o j:Nat):(⟨b,o,none⟩:Addr).add j = ⟨b,o + j,none⟩:=by
 unfold Addr.add; split <;> simp_all
theorem Y6 {P:Program} {t:TypeId} {d:TypeDesc} (h:P.underlying t = some d):∃ i,P.info? t = some i:=by
 unfold Program.underlying at h
 grind
theorem Z2 {P:Program} {t:TypeId} {d:TypeDesc} (h:P.underlying t = some d) (w:World):(sizeOf t).run P w = .ok (P.cellsOf t) w:=by
 obtain ⟨i,hi⟩:=Y6 h
 simp [sizeOf,typeInfo,hi,Program.cellsOf]
theorem Xc {P:Program} {t:TypeId} {d:TypeDesc} (h:P.underlying t = some d) (w:World):(isAgg t).run P w = .ok (Y7 d) w:=by
 unfold isAgg
 rw [Sem.run_bind,run_underlying h w]
 cases d <;> simp [Y7]
theorem Y5 {P:Program} {T:TypeId} {d:TypeDesc} (h:P.underlying T = some d) (ha:Y7 d = true) {w:World} {b off:Nat} {cs:List Value}
  (hl:cs.length = P.cellsOf T) (hc:∀ j v,cs[j]? = some v → w.cell? ⟨b,off + j,none⟩ = some v):(loadVar T ⟨b,off,none⟩).run P w = .ok (.agg cs.toArray) w:=by
 have:=run_loadCells_list (P:=P) w ⟨b,off,none⟩ cs (fun j v hj => by rw [ZU]; exact hc j v hj)
 simp_all [loadVar,Xc h,ha,Z2 h,this]
theorem Wq {P:Program} {T:TypeId} {d:TypeDesc} (h:P.underlying T = some d) (ha:Y7 d = false) {w:World} {b off:Nat} {v:Value}
  (hc:w.cell? ⟨b,off,none⟩ = some v):(loadVar T ⟨b,off,none⟩).run P w = .ok v w:=by
 simp [loadVar,Xc h,ha,hc]
theorem W5 {cs:List AV} {a:AV} (h:a ∈ cs) {r:Nat} (hr:r ∈ Za a):r ∈ Zd cs:=by
 induction cs with
 | nil => cases h
 | cons x l ih =>
  grind [Zd]
theorem W6 {cs:List AV} {r:Nat} (h:r ∈ Zd cs):∃ a ∈ cs,r ∈ Za a:=by
 induction cs with
 | nil => simp [Zd] at h
 | cons x l ih =>
  grind [Zd]
theorem Ze.sub {T:ZF} {cs ds:List AV} (h:∀ a ∈ ds,a ∈ cs) (k:Ze T (Zd cs)):Ze T (Zd ds):=by
 intro r hr
 obtain ⟨a,ha,hr⟩:=W6 hr
 exact k r (W5 (h a ha) hr)
theorem Ze.mem {T:ZF} {cs:List AV} (k:Ze T (Zd cs)) {a:AV} (h:a ∈ cs):Ze T (Za a):=fun r hr => k r (W5 h hr)
theorem Kw (ps:List PV):Zd (ps.map .val) = []:=by
 induction ps with
 | nil => rfl
 | cons p l ih => simp [Zd,Za,ih]
section
variable {C:Ctx} {σ:QM} {w:World} {lim:Nat → Nat} {tbl:ZF}
theorem Zd6 {cs:List AV} {b off:Nat} (h:∀ j a,cs[j]? = some a → ∃ v,w.cell? ⟨b,off + j,none⟩ = some v ∧ RA σ w lim a v) :
  ∃ vs,ZA σ w lim cs vs ∧ ∀ j v,vs[j]? = some v → w.cell? ⟨b,off + j,none⟩ = some v:=by
 induction cs generalizing off with
 | nil => exact ⟨[],by simp [ZA],by simp⟩
 | cons a l ih =>
  obtain ⟨v,h1,h2⟩:=h 0 a rfl
  obtain ⟨vs,h3,h4⟩:=ih (off:=off + 1) (fun j x hx => by
   have:=h (j + 1) x (by simpa using hx)
   grind)
  refine ⟨v :: vs,by simp [ZA,h2,h3],fun j u hu => ?_⟩
  grind
theorem Zbw {T:TypeId} {cs:List AV} {l l':List Nat} {e:Eff} (hm:(cut C T cs).run tbl l = some (e,l')) {b off:Nat}
  (hc:∀ j a,cs[j]? = some a → ∃ v,w.cell? ⟨b,off + j,none⟩ = some v ∧ RA σ w lim a v) (hk:Ze tbl (Zd cs)) :
  ∃ x,(loadVar T ⟨b,off,none⟩).run C.P w = .ok x w ∧ RA σ w lim e.val x ∧ Ze tbl (Za e.val) ∧ e.ups = []:=by
 unfold cut at hm
 cases hd:C.P.underlying T with
 | none => simp [hd,M.run] at hm
 | some d =>
  simp only [hd] at hm
  cases ha:Y7 d with
  | true =>
   simp only [ha,cond_true] at hm
   ·obtain ⟨hl,hm⟩:=M.run_guard hm
    obtain ⟨rfl,_⟩:=M.run_ret hm
    have hl':=ZC hl
    obtain ⟨vs,h1,h2⟩:=Zd6 (σ:=σ) (lim:=lim) (cs:=cs.take (C.P.cellsOf T)) (b:=b) (off:=off) (fun j a ha => hc j a (by
     grind))
    have h3:=(ZB.1 h1).length
    refine ⟨_,Y5 hd ha (by rw [← h3,hl']) h2,by simp only [RA]; exact ⟨vs,rfl,h1⟩,?_,rfl⟩
    simp only [Za]
    exact hk.sub fun a ha => JU ha
  | false =>
   simp only [ha,cond_false] at hm
   cases cs with
   | nil => simp [M.run] at hm
   | cons a l2 =>
    simp only at hm
    obtain ⟨rfl,_⟩:=M.run_ret hm
    obtain ⟨v,h1,h2⟩:=hc 0 a rfl
    exact ⟨v,Wq hd ha (by simpa using h1),h2,hk.mem (Jm ..),rfl⟩
theorem Zhq {ps:List PV} {v:Value} (h:RA σ w lim (.sp ps) v):∃ b off,v = .pointer (some ⟨b,off,none⟩) ∧
  ∀ j a,(ps.map AV.val)[j]? = some a → ∃ c,w.cell? ⟨b,off + j,none⟩ = some c ∧ RA σ w lim a c:=by
 simp only [RA] at h
 obtain ⟨b,off,hv,h⟩:=h
 refine ⟨b,off,hv,fun j a ha => ?_⟩
 rw [Vi] at ha
 cases hp:ps[j]? with
 | none => simp [hp] at ha
 | some p =>
  simp [hp] at ha; grind [RA]
theorem Wz {r k:Nat} {cs:List AV} {v:Value} (ha:RA σ w lim (.bx r k) v) (hr:RR σ w lim r (.box cs)) :
  ∃ b vs T,σ r = .pointer (some ⟨b,0,none⟩) ∧ v = .pointer (some ⟨b,k,none⟩) ∧ w.heap[b]? = some (.cells vs T (0,0)) ∧ ZA σ w lim cs vs.toList ∧ lim b = 0:=by
 grind [RA,RR]
theorem Wp {b:Nat} {vs:Array Value} {T:TypeId} {fz:Nat × Nat} (h:w.heap[b]? = some (.cells vs T fz)) (o:Nat):w.cell? ⟨b,o,none⟩ = vs.toList[o]? := by
 simp [World.cell?,h]
theorem Zdy {T:TypeId} {a:AV} {v:Value} {l l':List Nat} {e:Eff} (hm:(Zcm C T a).run tbl l = some (e,l')) (ha:RA σ w lim a v)
  (hres:∀ r x,tbl r = .live x → RR σ w lim r x ∧ Ze tbl (ZL r x)) :
  ∃ x,(J0 T v).run C.P w = .ok x w ∧ RA σ w lim e.val x ∧ Ze tbl (Za e.val) ∧ e.ups = []:=by
 unfold Zcm at hm
 split at hm
 ·rename_i r k
  simp only [M.run] at hm
  cases hr:tbl r with
  | fresh => simp [hr,M.run] at hm
  | gone => simp [hr,M.run] at hm
  | live y =>
   cases y with
   | arr => simp [hr,M.run] at hm
   | nest => simp [hr,M.run] at hm
   | box cs =>
    simp only [hr] at hm
    obtain ⟨h1,h2⟩:=hres r _ hr
    obtain ⟨b,vs,U,_,rfl,h4,h5,_⟩:=Wz ha h1
    have:=Zbw (σ:=σ) (lim:=lim) hm (b:=b) (off:=k) (fun j a hj => by
     rw [Jp] at hj
     obtain ⟨c,hc,hr⟩:=(ZB.1 h5).get hj
     exact ⟨c,by rw [Wp h4]; exact hc,hr⟩) (h2.sub fun a ha => JT ha)
    simpa [J0,JM] using this
 ·rename_i ps
  obtain ⟨b,off,rfl,h⟩:=Zhq ha
  have:=Zbw (σ:=σ) (lim:=lim) hm (b:=b) (off:=off) h (by intro r hr; rw [Kw] at hr; cases hr)
  simpa [J0,JM] using this
 ·rename_i r t i k
  simp only [M.run] at hm
  cases hr:tbl r with
  | fresh => simp [hr,M.run] at hm
  | gone => simp [hr,M.run] at hm
  | live y =>
   cases y with
   | box => simp [hr,M.run] at hm
   | nest => simp [hr,M.run] at hm
   | arr t' xs sh =>
    simp only [hr] at hm
    split at hm
    ·rename_i ht
     subst ht
     obtain ⟨hi,hm⟩:=M.run_need hm
     have hi:=of_decide_eq_true hi
     obtain ⟨h1,_⟩:=hres r _ hr
     simp only [RR] at h1
     simp only [RA] at ha
     obtain ⟨b,off,len,cap,h3,rfl⟩:=ha
     rcases h1.2 with ⟨h4,h5⟩ | ⟨b',off',cap',vs,U,fz,h4,h5,h6,h7,h8,h9,h10⟩
     ·rw [h5] at h3; simp at h3
     ·rw [h4] at h3
      obtain ⟨⟨rfl,rfl⟩,rfl,rfl⟩:(b' = b ∧ off' = off) ∧ xs.length = len ∧ cap' = cap:=by simpa using h3
      have hx:=h9 i hi
      have hlen:=Rt.length hx
      have hall:=QF hx
      have hxi:xs.getD i t'.dflt = xs[i]:=by simp_all
      replace hm:M.run tbl (cut C T (((cellsOf t' xs[i]).drop k).map .val)) (r :: l) = some (e,l'):=by rw [← hxi]; exact hm
      have:=Zbw (σ:=σ) (lim:=lim) hm (b:=b') (off:=off' + i * t'.size + k) (fun j a hj => by
       rw [Vi,Jp] at hj
       cases hp:(cellsOf t' xs[i])[k + j]? with
       | none => simp [hp] at hj
       | some p =>
        simp [hp] at hj; subst hj
        obtain ⟨c,hc,hr⟩:=hall.get hp
        refine ⟨c,?_,by simpa [RA] using hr⟩
        rw [Wp h6]
        grind) (by intro r hr; rw [Kw] at hr; cases hr)
      simpa [J0,JM] using this
    ·simp [M.run] at hm
 ·simp [M.run] at hm
theorem Xm {α:Type} {P:Program} {s:Sem α} {a:α} (h:Wr P s = some a) (w:World):s.run P w = .ok a w:=by
 induction s generalizing w with
 | pure x => simp [Wr] at h; subst h; rfl
 | program k ih => exact ih P h w
 | _ => simp [Wr] at h
theorem ZdG {a:AV} {v:Value} {l l':List Nat} {e:Eff} (hm:(Kc a).run tbl l = some (e,l')) (ha:RA σ w lim a v) :
  (∃ p,v = .pointer (some p)) ∧ e.val = a ∧ e.ups = []:=by
 unfold Kc at hm
 split at hm
 ·obtain ⟨rfl,_⟩:=M.run_ret hm
  grind [RA]
 ·obtain ⟨rfl,_⟩:=M.run_ret hm
  grind [RA]
 ·obtain ⟨rfl,_⟩:=M.run_ret hm
  grind [RA]
 ·obtain ⟨rfl,_⟩:=M.run_ret hm
  simp only [RA] at ha; obtain ⟨a,n,m,rfl,_⟩:=ha; exact ⟨⟨_,rfl⟩,rfl,rfl⟩
 ·exact (M.run_fail hm).elim
theorem Zci {T:TypeId} {f:Nat} {a:AV} {v:Value} {l l':List Nat} {e:Eff} (hm:(YE C T f a).run tbl l = some (e,l')) (ha:RA σ w lim a v) (hk:Ze tbl (Za a)) :
  ∃ x,(Vc T v f).run C.P w = .ok x w ∧ RA σ w lim e.val x ∧ Ze tbl (Za e.val) ∧ e.ups = []:=by
 unfold YE KO at hm
 cases hu:C.P.underlying T with
 | none => simp [hu,M.run] at hm
 | some d =>
  cases d with
  | struct fs =>
   simp only [hu] at hm
   cases hf:fs[f]? with
   | none => simp [hf,M.run] at hm
   | some fd =>
    simp only [hf] at hm
    cases hz:Ja (C.P.cellsOf fd.type) 0 with
    | true => simp [hz,M.run] at hm
    | false =>
     simp only [hz,cond_false] at hm
     have hz':C.P.cellsOf fd.type ≠ 0:=fun h => by rw [h] at hz; simp at hz
     obtain ⟨i,hi⟩:∃ i,C.P.info? fd.type = some i:=by
      cases h:C.P.info? fd.type with
      | none => simp [Program.cellsOf,h] at hz'
      | some i => exact ⟨i,rfl⟩
     have hsz:i.size ≠ 0:=by simpa [Program.cellsOf,hi] using hz'
     have run:∀ b o,(Vc T (.pointer (some ⟨b,o,none⟩)) f).run C.P w = .ok (.pointer (some ⟨b,o + fd.offset,none⟩)) w:=by
      simp_all [Vc,run_underlying hu,hf,JM,fieldPlace,sizeOf,typeInfo,hi,hsz,ZU]
     split at hm
     ·obtain ⟨rfl,_⟩:=M.run_ret hm
      grind [RA,Za]
     ·obtain ⟨rfl,_⟩:=M.run_ret hm
      grind [RA,JW,Za]
     ·obtain ⟨rfl,_⟩:=M.run_ret hm
      grind [RA,Za]
     ·exact (M.run_fail hm).elim
  | _ => simp [hu,M.run] at hm
theorem Qc {P:Program} {T e:TypeId} {t:Ty} (h:QV P T = some (e,t)):P.underlying T = some (.slice e) ∧ Zgf P depth e = some t ∧ P.cellsOf e = t.size:=by
 unfold QV at h
 split at h
 ·rename_i e' hu
  cases ht:Zgf P depth e' with
  | none => simp [ht] at h
  | some ty =>
   simp only [ht] at h
   cases hb:Ja (P.cellsOf e') ty.size with
   | false => simp [hb] at h
   | true => simp_all
 ·simp at h
theorem QO {P:Program} {n:Nat} {e:TypeId} {t:Ty} (h:Zgf P n e = some t):∃ d,P.underlying e = some d:=by
 cases n with
 | zero => simp [Zgf] at h
 | succ n =>
  simp only [Zgf] at h
  grind
theorem Xl {P:Program} {T e:TypeId} {t:Ty} (he:QV P T = some (e,t)) {b off len cap:Nat} {k:IntKind} {i:Int} (h0:0 ≤ i) (h1:i < len) (w:World) :
  (Vd T (.slice (some ⟨b,off,none⟩) len cap) (.int k i)).run P w = .ok (.pointer (some ⟨b,off + i.toNat * t.size,none⟩)) w:=by
 obtain ⟨hu,ht,hs⟩:=Qc he
 obtain ⟨d,hd⟩:=QO ht
 simp [Vd,asIntOf,run_underlying hu,h0,h1,Z2 hd,ZU,hs]
theorem Zcj {T:TypeId} {a i:AV} {v vi:Value} {l l':List Nat} {e:Eff} (hm:(YF C T a i).run tbl l = some (e,l')) (ha:RA σ w lim a v) (hi:RA σ w lim i vi)
  (hk:Ze tbl (Za a)) (hres:∀ r x,tbl r = .live x → RR σ w lim r x ∧ Ze tbl (ZL r x)) :
  ∃ x,(Vd T v vi).run C.P w = .ok x w ∧ RA σ w lim e.val x ∧ Ze tbl (Za e.val) ∧ e.ups = []:=by
 unfold YF at hm
 split at hm
 ·rename_i kk n
  simp only [RA,RP] at hi; subst hi
  cases he:QV C.P T with
  | none => simp [he,M.run] at hm
  | some p =>
   obtain ⟨ee,t⟩:=p
   simp only [he] at hm
   split at hm
   ·rename_i r
    simp only [M.run] at hm
    cases hr:tbl r with
    | fresh => simp [hr,M.run] at hm
    | gone => simp [hr,M.run] at hm
    | live y =>
     cases y with
     | box => simp [hr,M.run] at hm
     | nest t' xss o =>
      simp only [hr] at hm
      split at hm
      ·rename_i ht
       subst ht
       obtain ⟨hn,hm⟩:=M.run_need hm
       obtain ⟨h0,h1⟩:=of_decide_eq_true hn
       obtain ⟨rfl,_⟩:=M.run_ret hm
       obtain ⟨h2,_⟩:=hres r _ hr
       simp only [RR] at h2
       simp only [RA] at ha; obtain ⟨rfl,_⟩:=ha
       obtain ⟨_,b',off',cap',vs,U,fz,h4,_⟩:=h2
       refine ⟨_,by rw [h4]; exact Xl he h0 h1 w,?_,by grind [Za],rfl⟩
       grind [RA,Ty.size]
      ·simp [M.run] at hm
     | arr t' xs sh =>
      simp only [hr] at hm
      split at hm
      ·rename_i ht
       subst ht
       obtain ⟨hn,hm⟩:=M.run_need hm
       obtain ⟨h0,h1⟩:=of_decide_eq_true hn
       obtain ⟨rfl,_⟩:=M.run_ret hm
       obtain ⟨h2,_⟩:=hres r _ hr
       simp only [RR] at h2
       simp only [RA] at ha; obtain ⟨rfl,_⟩:=ha
       rcases h2.2 with ⟨h4,h5⟩ | ⟨b',off',cap',vs,U,fz,h4,h5,h6,h7,h8,h9,h10⟩
       ·subst h4; simp at h1; omega
       ·rw [h4]
        refine ⟨_,Xl he h0 (by exact_mod_cast h1) w,?_,by simpa [Za] using hk,rfl⟩
        grind [RA]
      ·simp [M.run] at hm
   ·rename_i r u i0 j0
    simp only [M.run] at hm
    cases hr:tbl r with
    | fresh => simp [hr,M.run] at hm
    | gone => simp [hr,M.run] at hm
    | live y =>
     cases y with
     | box => simp [hr,M.run] at hm
     | nest => simp [hr,M.run] at hm
     | arr t' xs sh =>
      simp only [hr] at hm
      split at hm
      ·rename_i ht
       subst ht
       split at hm
       ·rename_i ht
        subst ht
        obtain ⟨hn,hm⟩:=M.run_need hm
        obtain ⟨c1,c2,c3,c4⟩:=of_decide_eq_true hn
        obtain ⟨rfl,_⟩:=M.run_ret hm
        obtain ⟨h2,_⟩:=hres r _ hr
        simp only [RR] at h2
        simp only [RA] at ha
        obtain ⟨A,len,cap,hs,rfl⟩:=ha
        rcases h2.2 with ⟨h4,h5⟩ | ⟨b',off',cap',vs,U,fz,h4,h5,h6,h7,h8,h9,h10⟩
        ·subst h4; simp at c2; omega
        ·rw [h4] at hs
         obtain ⟨rfl,rfl,rfl⟩:some ⟨b',off',none⟩ = A ∧ xs.length = len ∧ cap' = cap:=by simpa using hs
         have hci:¬ (cap' = i0):=by omega
         simp only [hci,if_false,VE,ZU]
         refine ⟨_,Xl he c3 (by omega) w,?_,by grind [Za,Vy],by first | rfl | trivial⟩
         grind [RA]
       ·simp [M.run] at hm
      ·simp [M.run] at hm
   ·rename_i t' xs
    split at hm
    ·rename_i ht
     subst ht
     obtain ⟨hn,hm⟩:=M.run_need hm
     obtain ⟨h0,h1⟩:=of_decide_eq_true hn
     obtain ⟨rfl,_⟩:=M.run_ret hm
     simp only [RA,RP,Rt] at ha
     obtain ⟨A,len,cap,hv,h2,h3,h4⟩:=ha
     obtain rfl:v = .slice A len cap:=by simpa using hv
     rcases h4 with h4 | ⟨b,off,rfl,h4⟩
     ·subst h4; simp at h1; omega
     ·have hlt:n.toNat < xs.length:=by omega
      refine ⟨_,Xl he h0 (by rw [← h2]; exact_mod_cast h1) w,?_,by intro r hr; simp [Za] at hr,rfl⟩
      have hx:(xs.getD n.toNat t'.dflt) = xs[n.toNat]:=by simp_all
      show RA σ w lim (.sp (cellsOf t' (xs.getD n.toNat t'.dflt))) _
      rw [hx]
      simp only [RA]
      refine ⟨b,off + n.toNat * t'.size,rfl,fun j p hp => ?_⟩
      obtain ⟨c,hc,hcell⟩:=h4 n.toNat hlt
      obtain ⟨u,hu,hr⟩:=(QF hc).get hp
      simp_all
    ·simp [M.run] at hm
   ·simp [M.run] at hm
 ·simp [M.run] at hm
theorem ZjI {s:ByteArray} {i:Nat} (h:i < s.size):s[i]? = some (s.data.toList.getD i 0):=by
 have h':i < s.data.toList.length:=by simpa using h
 have h2:i < s.data.size:=h
 simp [List.getD,getElem?_pos,h]
 rfl
theorem Xu : {cs:List AV} → {vs:List Value} → {k:IntKind} → {ns:List Int} → Kx cs = some (k,ns) → ZA σ w lim cs vs → vs = ns.map (.int k)
 | [],vs,k,ns,h,hv => by simp [Kx] at h
 | [a],vs,k,ns,h,hv => by
  unfold Kx at h
  split at h
  ·rename_i k0 n0 he
   cases h
   cases he
   match vs,hv with
   | [v],hv => simp_all [ZA,RA,RP,and_true]
  ·simp_all
  ·cases h
 | a :: b :: cs,vs,k,ns,h,hv => by
  unfold Kx at h
  split at h
  ·rename_i he; cases he
  ·rename_i k0 n0 l he he2
   cases he2
   split at h
   ·rename_i k1 ns1 h1
    split at h
    ·rename_i hk
     cases h
     subst hk
     match vs,hv with
     | v :: vs,hv =>
      simp only [ZA] at hv
      have h2:=hv.1
      simp only [RA,RP] at h2
      subst h2
      rw [Xu h1 hv.2]
      rfl
    ·cases h
   ·cases h
  ·cases h
theorem Zb5 : {cs:List AV} → {vs:List Value} → {k:FloatKind} → {ns:List Nat} → ZeK cs = some (k,ns) → ZA σ w lim cs vs → vs = ns.map (.float k)
 | [],vs,k,ns,h,hv => by simp [ZeK] at h
 | [a],vs,k,ns,h,hv => by
  unfold ZeK at h
  split at h
  ·rename_i k0 n0 he
   cases h
   cases he
   match vs,hv with
   | [v],hv => simp_all [ZA,RA,RP,and_true]
  ·simp_all
  ·cases h
 | a :: b :: cs,vs,k,ns,h,hv => by
  unfold ZeK at h
  split at h
  ·rename_i he; cases he
  ·rename_i k0 n0 l he he2
   cases he2
   split at h
   ·rename_i k1 ns1 h1
    split at h
    ·rename_i hk
     cases h
     subst hk
     match vs,hv with
     | v :: vs,hv =>
      simp only [ZA] at hv
      have h2:=hv.1
      simp only [RA,RP] at h2
      subst h2
      rw [Zb5 h1 hv.2]
      rfl
    ·cases h
   ·cases h
  ·cases h
theorem ZgL {T:TypeId} {f:Nat} {a:AV} {v:Value} {l l':List Nat} {e:Eff} (hm:(ZcA C T f a).run tbl l = some (e,l')) (ha:RA σ w lim a v) (hk:Ze tbl (Za a)) :
  ∃ x,(Vb T v f).run C.P w = .ok x w ∧ RA σ w lim e.val x ∧ Ze tbl (Za e.val) ∧ e.ups = []:=by
 unfold ZcA at hm
 split at hm
 ·rename_i cs
  simp only [RA] at ha
  obtain ⟨vs,rfl,hvs⟩:=ha
  have hall:=ZB.1 hvs
  unfold KO at hm
  cases hu:C.P.underlying T with
  | none => simp [hu,M.run] at hm
  | some dT =>
   cases dT with
   | struct fs =>
    simp only [hu] at hm
    cases hf:fs[f]? with
    | none => simp [hf,M.run] at hm
    | some fd =>
     simp only [hf] at hm
     cases hd:C.P.underlying fd.type with
     | none => simp [hd,M.run] at hm
     | some d =>
      simp only [hd] at hm
      have hlen:=hall.length
      cases hag:Y7 d with
      | true =>
       simp only [hag,cond_true] at hm
       obtain ⟨hg,hm⟩:=M.run_guard hm
       obtain ⟨rfl,_⟩:=M.run_ret hm
       have hg:=Ju hg
       refine ⟨.agg ((vs.drop fd.offset).take (C.P.cellsOf fd.type)).toArray,?_,by simp only [RA]; exact ⟨_,rfl,ZB.2 (Zv.take _ (Zv.drop _ hall))⟩,?_,rfl⟩
       ·simp [Vb,run_underlying hu,hf,asAgg,part,Xc hd,hag,Z2 hd]
       ·simp only [Za]
        exact hk.sub fun a ha => JT (JU ha)
      | false =>
       simp only [hag,cond_false] at hm
       cases hc:cs[fd.offset]? with
       | none => simp [hc,M.run] at hm
       | some a =>
        simp only [hc] at hm
        obtain ⟨rfl,_⟩:=M.run_ret hm
        obtain ⟨v,hv,hr⟩:=hall.get hc
        refine ⟨v,?_,hr,hk.mem (Vx hc),rfl⟩
        simp [Vb,run_underlying hu,hf,asAgg,part,Xc hd,hag,hv]
   | _ => simp [hu,M.run] at hm
 ·exact (M.run_fail hm).elim
theorem ZgT {T:TypeId} {a i:AV} {v vi:Value} {l l':List Nat} {e:Eff} (hm:(ZcB C T a i).run tbl l = some (e,l')) (ha:RA σ w lim a v) (hi:RA σ w lim i vi) :
  ∃ x,(JZ T v vi).run C.P w = .ok x w ∧ RA σ w lim e.val x ∧ Ze tbl (Za e.val) ∧ e.ups = []:=by
 unfold ZcB at hm
 split at hm
 ·rename_i cs k n
  simp only [RA,RP] at ha hi; subst hi
  obtain ⟨vs,rfl,hvs⟩:=ha
  split at hm
  ·rename_i len e' hu
   cases hd:C.P.underlying e' with
   | none => simp [hd,M.run] at hm
   | some d =>
    simp only [hd] at hm
    obtain ⟨hg,hm⟩:=M.run_guard hm
    simp only [Jh,J8] at hg
    obtain ⟨⟨g1,g2⟩,g3⟩:=hg
    have g2:=ZC g2
    have g3:=ZC g3
    have hlen:=(ZB.1 hvs).length
    have fin:∀ (u:Value),vs[n.toNat]? = some u → 0 ≤ n → n < len → (JZ T (.agg vs.toArray) (.int k n)).run C.P w = .ok u w:=by
     intro u hv h0 h1
     simp [JZ,asIntOf,run_underlying hu,h0,h1,Z2 hd,g2,part,Xc hd,g1,hv]
    split at hm
    ·rename_i k' ns hns
     obtain ⟨hn,hm⟩:=M.run_need hm
     obtain ⟨h0,h1⟩:=of_decide_eq_true hn
     obtain ⟨rfl,_⟩:=M.run_ret hm
     have hv:=Xu hns hvs
     have hl:ns.length = len:=by rw [← g3,hlen,hv]; simp
     have hlt:n.toNat < ns.length:=by omega
     refine ⟨.int k' (ns.getD n.toNat 0),fin _ ?_ h0 h1,by simp only [RA,RP],by intro r hr; simp [Za] at hr,rfl⟩
     simp_all
    ·split at hm
     ·rename_i k' ns hns
      obtain ⟨hn,hm⟩:=M.run_need hm
      obtain ⟨h0,h1⟩:=of_decide_eq_true hn
      obtain ⟨rfl,_⟩:=M.run_ret hm
      have hv:=Zb5 hns hvs
      have hl:ns.length = len:=by rw [← g3,hlen,hv]; simp
      have hlt:n.toNat < ns.length:=by omega
      refine ⟨.float k' (ns.getD n.toNat 0),fin _ ?_ h0 h1,by simp only [RA,RP],by intro r hr; simp [Za] at hr,rfl⟩
      simp_all
     ·simp [M.run] at hm
  ·simp [M.run] at hm
 ·rename_i s k n
  simp only [RA,RP] at ha hi; subst ha; subst hi
  split at hm
  ·rename_i hu
   obtain ⟨hn,hm⟩:=M.run_need hm
   obtain ⟨h0,h1⟩:=of_decide_eq_true hn
   obtain ⟨rfl,_⟩:=M.run_ret hm
   have hlt:n.toNat < s.size:=by omega
   refine ⟨.int .u8 (bt s n),?_,by simp only [RA,RP],by intro r hr; simp [Za] at hr,rfl⟩
   simp [JZ,asIntOf,run_underlying hu,h0,ZjI hlt,bt]
  ·simp [M.run] at hm
 ·simp [M.run] at hm
theorem Zec {i:Nat} {a:AV} {v:Value} {l l':List Nat} {e:Eff} (hm:(Zaj i a).run tbl l = some (e,l')) (ha:RA σ w lim a v) (hk:Ze tbl (Za a)) :
  ∃ x,(Instr.extract v i).run C.P w = .ok x w ∧ RA σ w lim e.val x ∧ Ze tbl (Za e.val) ∧ e.ups = []:=by
 unfold Zaj at hm
 split at hm
 ·rename_i vs
  cases hv:vs[i]? with
  | none => simp [hv,M.run] at hm
  | some a =>
   simp only [hv] at hm
   obtain ⟨rfl,_⟩:=M.run_ret hm
   simp only [RA] at ha
   obtain ⟨xs,rfl,h⟩:=ha
   obtain ⟨c,hc,hr⟩:=(ZB.1 h).get hv
   exact ⟨c,by simp [Instr.extract,hc],hr,by simp only [Za] at hk; exact hk.mem (Vx hv),rfl⟩
 ·simp [M.run] at hm
theorem Zh5 {c a b:AV} {vc va vb:Value} {l l':List Nat} {e:Eff} (hm:(Ze5 c a b).run tbl l = some (e,l')) (hc:RA σ w lim c vc) (ha:RA σ w lim a va) (hb:RA σ w lim b vb)
  (ka:Ze tbl (Za a)) (kb:Ze tbl (Za b)) :
  ∃ t x,vc = .bool t ∧ x = (if t then va else vb) ∧ RA σ w lim e.val x ∧ Ze tbl (Za e.val) ∧ e.ups = []:=by
 unfold Ze5 at hm
 grind [RA,RP,M.run]
theorem Zs {v:Value}:RA σ w lim (.val (.v v)) v:=by simp only [RA,RP]
theorem Zh {T:ZF}:Ze T []:=by intro r hr; cases hr
theorem K6 {P:Program} {op:BinOp} {T:TypeId} {x y:Operand} {a b:Value} (h:plain a = true) (w:World):(eqGuard op T x y a b).run P w = .ok () w:=by
 cases op <;> first | rfl | (cases a <;> first | (simp [plain] at h; done) | rfl)
theorem Zh6 {s:Sem Value} {l l':List Nat} {e:Eff} (hm:(KM C s).run tbl l = some (e,l')) :
  ∃ v,s.run C.P w = .ok v w ∧ RA σ w lim e.val v ∧ Ze tbl (Za e.val) ∧ e.ups = []:=by
 unfold KM at hm
 cases hs:Wr C.P s with
 | none => simp [hs,M.run] at hm
 | some v =>
  simp only [hs] at hm
  obtain ⟨_,hm⟩:=M.run_guard hm
  obtain ⟨rfl,_⟩:=M.run_ret hm
  exact ⟨v,Xm hs w,Zs,Zh,rfl⟩
theorem Xr {x y:Value} {f:IntKind → Int → IntKind → Int → M Eff} {g:M Eff} {l l':List Nat} {e:Eff} (hm:(Zbr x y f g).run tbl l = some (e,l')) :
  (∃ k a k' b,x = .int k a ∧ y = .int k' b ∧ (f k a k' b).run tbl l = some (e,l')) ∨ g.run tbl l = some (e,l'):=by
 unfold Zbr at hm
 grind
theorem Ze6 {x y:Value} {f:ByteArray → ByteArray → M Eff} {g:M Eff} {l l':List Nat} {e:Eff} (hm:(Zhz x y f g).run tbl l = some (e,l')) :
  (∃ a b,x = .string a ∧ y = .string b ∧ (f a b).run tbl l = some (e,l')) ∨ g.run tbl l = some (e,l'):=by
 unfold Zhz at hm
 grind
theorem ZjD {op:BinOp} {T:TypeId} {x y:Value} {xo yo:Operand} {l l':List Nat} {e:Eff} (hm:(Zht C op T x y).run tbl l = some (e,l')) :
  ∃ v,(do eqGuard op T xo yo x y; binOp op T x y:Sem Value).run C.P w = .ok v w ∧ RA σ w lim e.val v ∧ Ze tbl (Za e.val) ∧ e.ups = []:=by
 unfold Zht at hm
 obtain ⟨hp,hm⟩:=M.run_guard hm
 simp only [Jh] at hp
 obtain ⟨hp1,hp2⟩:=hp
 simp only [Sem.run_bind,K6 hp1,Result.andThen_ok]
 have gen:∀ {s:Sem Value},(KM C s).run tbl l = some (e,l') → ∃ v,s.run C.P w = .ok v w ∧ RA σ w lim e.val v ∧ Ze tbl (Za e.val) ∧ e.ups = []:=fun h => Zh6 h
 cases op with
 | quo =>
  rcases Xr hm with ⟨k,a,k',b,rfl,rfl,h2⟩ | hm
  ·obtain ⟨hk,h3⟩:=M.run_guard h2
   obtain rfl:=of_decide_eq_true hk
   obtain ⟨hn,h4⟩:=M.run_need h3
   have hn:=of_decide_eq_true hn
   obtain ⟨rfl,_⟩:=M.run_ret h4
   exact ⟨_,by simp [binOp,Op.intDiv,hn],Zs,Zh,rfl⟩
  ·exact gen hm
 | rem =>
  rcases Xr hm with ⟨k,a,k',b,rfl,rfl,h2⟩ | hm
  ·obtain ⟨hk,h3⟩:=M.run_guard h2
   obtain rfl:=of_decide_eq_true hk
   obtain ⟨hn,h4⟩:=M.run_need h3
   have hn:=of_decide_eq_true hn
   obtain ⟨rfl,_⟩:=M.run_ret h4
   exact ⟨_,by simp [binOp,Op.intDiv,hn],Zs,Zh,rfl⟩
  ·exact (M.run_fail hm).elim
 | shl =>
  rcases Xr hm with ⟨k,a,k',b,rfl,rfl,hm⟩ | hm
  ·obtain ⟨hn,hm⟩:=M.run_need hm
   have hn:=of_decide_eq_true hn
   obtain ⟨rfl,_⟩:=M.run_ret hm
   exact ⟨_,by simp only [binOp,Op.shift]; simp_all <;> omega,Zs,Zh,rfl⟩
  ·exact (M.run_fail hm).elim
 | shr =>
  rcases Xr hm with ⟨k,a,k',b,rfl,rfl,hm⟩ | hm
  ·obtain ⟨hn,hm⟩:=M.run_need hm
   have hn:=of_decide_eq_true hn
   obtain ⟨rfl,_⟩:=M.run_ret hm
   exact ⟨_,by simp only [binOp,Op.shift]; simp_all <;> omega,Zs,Zh,rfl⟩
  ·exact (M.run_fail hm).elim
 | add =>
  rcases Ze6 hm with ⟨a,b,rfl,rfl,hm⟩ | hm
  ·obtain ⟨hn,hm⟩:=M.run_need hm
   have hn:=of_decide_eq_true hn
   obtain ⟨rfl,_⟩:=M.run_ret hm
   refine ⟨_,?_,Zs,Zh,rfl⟩
   have:¬ (((a.size + b.size:Nat):Int) > Jy.max):=by
    simp_all <;> omega
   simp_all [binOp,Op.stringOp]
  ·exact gen hm
 | _ => exact gen hm
theorem ZoX {P:Program} {T el:TypeId} (hu:P.underlying T = some (.pointer el)) {a:Addr} (d:Nat) (w:World) :
  (Op.equalIn (d + 1) T (.pointer (some a)) (.pointer none)).run P w = .ok false w:=by
 simp [Op.equalIn,run_underlying hu]
def Vt (w:World) (lim:Nat → Nat) (t:Ty) (x:t.den) (v:Value):Prop := ∃ cs,Rt w lim t x cs ∧ ((t.isAgg = true ∧ v = .agg cs.toArray) ∨ (t.isAgg = false ∧ cs = [v]))
theorem ZkQ {P:Program} {n:Nat} {T:TypeId} {t:Ty} (h:eqT P n T t = true):∃ d,P.underlying T = some d ∧ Y7 d = t.isAgg:=by
 cases n with
 | zero => simp [eqT] at h
 | succ n =>
  unfold eqT at h
  split at h
  ·rename_i hu; refine ⟨_,hu,?_⟩; cases t <;> simp at h <;> rfl
  ·rename_i hu; refine ⟨_,hu,?_⟩; cases t <;> simp at h <;> rfl
  ·rename_i hu; refine ⟨_,hu,?_⟩; cases t <;> simp at h <;> rfl
  ·rename_i hu; refine ⟨_,hu,?_⟩; simp only [Jh] at h; rw [h.1.1.1]; rfl
  ·cases h
theorem Zg7 {P:Program} {T:TypeId} {t:Ty} {d:TypeDesc} (hu:P.underlying T = some d) (hd:Y7 d = t.isAgg) (hc:P.cellsOf T = t.size) {off:Nat} {xs:Array Value} {x:t.den} (hr:Rt w lim t x ((xs.toList.drop off).take t.size)) (hs:t.isAgg = false → t.size = 1) :
  ∃ v,(part T xs off).run P w = .ok v w ∧ Vt w lim t x v:=by
 cases ha:t.isAgg with
 | true =>
  refine ⟨.agg (xs.extract off (off + t.size)),by simp [part,Xc hu,hd,ha,Z2 hu,hc],⟨_,hr,.inl ⟨ha,?_⟩⟩⟩
  congr 1
  grind
 | false =>
  have h1:=hs ha
  have hl:=Rt.length hr
  rw [h1] at hl hr
  match hcs:(xs.toList.drop off).take 1,hl with
  | [v],_ =>
   rw [hcs] at hr
   have hv:xs[off]? = some v:=by
    have:((xs.toList.drop off).take 1)[0]? = some v:=by rw [hcs]; rfl
    grind
   exact ⟨v,by simp [part,Xc hu,hd,ha,hv],⟨_,hr,.inr ⟨ha,rfl⟩⟩⟩
theorem Ki {P:Program} {n dd:Nat} (ih:∀ (T:TypeId) (t:Ty) (x y:t.den) (v v':Value),eqT P n T t = true → Vt w lim t x v → Vt w lim t y v' → (Op.equalIn dd T v v').run P w = .ok (t.eqb x y) w) {xs ys:Array Value} :
  ∀ (l:List Field) (t:Ty) (off:Nat) (x y:t.den),eqF P (eqT P n) off l t = true → Rt w lim t x (xs.toList.drop off) → Rt w lim t y (ys.toList.drop off) →
   (Op.eqFields dd xs ys l).run P w = .ok (t.eqb x y) w
 | [],t,off,x,y,h,hx,hy => by
  match t,h with
  | .unit,h => rfl
 | f :: l,t,off,x,y,h,hx,hy => by
  match t,h with
  | .pair a b,h =>
   simp only [eqF,Jh] at h
   obtain ⟨⟨⟨⟨h1,h0⟩,h2⟩,h3⟩,h4⟩:=h
   have hn:f.name ≠ "_" := by simpa using h0
   obtain ⟨d,hu,hd⟩:=ZkQ h2
   have hs:a.isAgg = false → a.size = 1:=by intro h; cases a <;> first | rfl | (simp [Ty.isAgg] at h)
   simp only [Rt] at hx hy
   obtain ⟨c,d1,e1,e2,e3⟩:=hx
   obtain ⟨c',d1',e1',e2',e3'⟩:=hy
   have l1:=Rt.length e2
   have l2:=Rt.length e2'
   have q1:(xs.toList.drop off).take a.size = c:=by rw [e1,← l1,Vk]
   have q2:(ys.toList.drop off).take a.size = c':=by rw [e1',← l2,Vk]
   have q3:xs.toList.drop (off + a.size) = d1:=by rw [← JF,e1,← l1,JN]
   have q4:ys.toList.drop (off + a.size) = d1':=by rw [← JF,e1',← l2,JN]
   obtain ⟨v,r1,r2⟩:=Zg7 (w:=w) (lim:=lim) hu hd (ZC h3) (off:=off) (xs:=xs) (x:=x.1) (by rw [q1]; exact e2) hs
   obtain ⟨v',r1',r2'⟩:=Zg7 (w:=w) (lim:=lim) hu hd (ZC h3) (off:=off) (xs:=ys) (x:=y.1) (by rw [q2]; exact e2') hs
   have r3:=ih f.type a x.1 y.1 v v' h2 r2 r2'
   have r4:=Ki ih l b (off + a.size) x.2 y.2 h4 (by rw [q3]; exact e3) (by rw [q4]; exact e3')
   skip
   simp only [Op.eqFields,hn,ne_eq,not_false_eq_true,if_true,Sem.run_bind,ZC h1,r1,r1',r3,Result.andThen_ok,Ty.eqb]
   cases a.eqb x.1 y.1 with
   | true => simpa using r4
   | false => simp
theorem Zgx {P:Program}:∀ (n d:Nat) (T:TypeId) (t:Ty) (x y:t.den) (v v':Value),eqT P n T t = true → Vt w lim t x v → Vt w lim t y v' → (Op.equalIn (d + n) T v v').run P w = .ok (t.eqb x y) w
 | 0,_,_,_,_,_,_,_,h,_,_ => by simp [eqT] at h
 | n + 1,d,T,t,x,y,v,v',h,hx,hy => by
  obtain ⟨cs,hx1,hx2⟩:=hx
  obtain ⟨cs',hy1,hy2⟩:=hy
  unfold eqT at h
  split at h
  ·rename_i hu
   cases t <;> simp at h
   simp only [Rt] at hx1 hy1
   subst hx1; subst hy1
   simp only [Ty.isAgg,JK,false_and,true_and,false_or,J1.injEq,and_true] at hx2 hy2
   subst hx2; subst hy2
   exact run_equalIn_bool w (d + n) T _ _ hu
  ·rename_i k hu
   cases t <;> simp at h
   subst h
   simp only [Rt] at hx1 hy1
   subst hx1; subst hy1
   simp only [Ty.isAgg,JK,false_and,true_and,false_or,J1.injEq,and_true] at hx2 hy2
   subst hx2; subst hy2
   have:=run_equalIn_int w (d + n) T k k x y hu
   grind [Ty.eqb]
  ·rename_i hu
   cases t <;> simp at h
   simp only [Rt] at hx1 hy1
   subst hx1; subst hy1
   simp only [Ty.isAgg,JK,false_and,true_and,false_or,J1.injEq,and_true] at hx2 hy2
   subst hx2; subst hy2
   have:=run_equalIn_string w (d + n) T x y hu
   rw [show d + (n + 1) = (d + n) + 1 from rfl,this,← beq_toListBytes]
   simp only [Ty.eqb]
   congr 1
   rw [Bool.eq_iff_iff]
   simp only [decide_eq_true_eq]
   rw [beq_toListBytes,ByteArray.toList_eq,ByteArray.toList_eq]
   simp only [beq_iff_eq]
   constructor
   ·intro e; exact Vm (Array.toList_inj.1 e)
   ·intro e; rw [e]
  ·rename_i fs hu
   simp only [Jh,J8] at h
   obtain ⟨⟨⟨ha,hst⟩,hsz⟩,hF⟩:=h
   rcases hx2 with ⟨_,rfl⟩ | ⟨hb,_⟩
   ·rcases hy2 with ⟨_,rfl⟩ | ⟨hb,_⟩
    ·have hf:P.underlying T = some (.struct (P.fieldsOf T)):=by simp [Program.fieldsOf,hu]
     have he:(P.fieldsOf T) = fs:=by simp [Program.fieldsOf,hu]
     rw [show d + (n + 1) = (d + n) + 1 from rfl,run_equalIn_struct w (d + n) T _ _ hf hst,he]
     exact Ki (fun T t x y v v' => Zgx n d T t x y v v') fs.toList t 0 x y hF (by simpa using hx1) (by simpa using hy1)
    ·rw [ha] at hb; cases hb
   ·rw [ha] at hb; cases hb
  ·cases h
theorem Zh8:∀ {cs:List AV} {ps:List PV} {vs:List Value},pvs cs = some ps → ZA σ w lim cs vs → Zv (RP w lim) ps vs
 | [],ps,vs,h,hr => by
  simp only [pvs,Option.some.injEq] at h; subst h
  cases vs with
  | nil => trivial
  | cons => simp [ZA] at hr
 | c :: cs,ps,vs,h,hr => by
  cases c with
  | val p =>
   simp only [pvs] at h
   split at h
   ·rename_i ps' hp
    cases h
    match vs,hr with
    | v :: vs,hr =>
     simp only [ZA,RA] at hr
     exact ⟨hr.1,Zh8 hp hr.2⟩
   ·cases h
  | _ => simp [pvs] at h
theorem Zey {T:TypeId} {cs ds:List AV} {xs ys:List Value} {neg:Bool} {l l':List Nat} {e:Eff} (hm:(Ze2 C T cs ds neg).run tbl l = some (e,l')) (ha:ZA σ w lim cs xs) (hb:ZA σ w lim ds ys) :
  C.P.eqGuardType C.P.depth T = false ∧ ∃ b,(Op.equalIn 10000 T (.agg xs.toArray) (.agg ys.toArray)).run C.P w = .ok b w ∧ e = ⟨.val (.v (.bool (bif neg then !b else b))),[]⟩:=by
 unfold Ze2 at hm
 split at hm
 ·rename_i t ht
  obtain ⟨hg,hm⟩:=M.run_guard hm
  simp only [Jh,J8] at hg
  obtain ⟨⟨h1,h2⟩,h3⟩:=hg
  split at hm
  ·rename_i ps qs hps hqs
   split at hm
   ·rename_i x y hx hy
    obtain ⟨rfl,_⟩:=M.run_ret hm
    have k1:=Yw hx (Zh8 hps ha)
    have k2:=Yw hy (Zh8 hqs hb)
    exact ⟨h3,_,Zgx depth 9988 T t x y _ _ h2 ⟨_,k1,.inl ⟨h1,rfl⟩⟩ ⟨_,k2,.inl ⟨h1,rfl⟩⟩,rfl⟩
   ·exact (M.run_fail hm).elim
  ·exact (M.run_fail hm).elim
 ·exact (M.run_fail hm).elim
theorem Zml {op:BinOp} {T:TypeId} {x y:Value} {xo yo:Operand} {m:M Eff} (hf:Zky op x y = some m) {l l':List Nat} {e:Eff} (hm:m.run tbl l = some (e,l')) :
  ∃ v,(do eqGuard op T xo yo x y; binOp op T x y:Sem Value).run C.P w = .ok v w ∧ RA σ w lim e.val v ∧ Ze tbl (Za e.val) ∧ e.ups = []:=by
 unfold Zky at hf
 split at hf
 ·rename_i k a k' b
  have key:∀ op,(op = .add ∨ op = .sub ∨ op = .mul ∨ op = .quo) → (bif decide (k = k') then M.opt (floatBits op k a b) fun r => M.ret (⟨.val (.v (.float k r)),[]⟩:Eff) else M.fail).run tbl l = some (e,l') →
    ∃ v,(do eqGuard op T xo yo (.float k a) (.float k' b); binOp op T (.float k a) (.float k' b):Sem Value).run C.P w = .ok v w ∧ RA σ w lim e.val v ∧ Ze tbl (Za e.val) ∧ e.ups = []:=by
   intro op hop h
   obtain ⟨hk,h1⟩:=M.run_guard h
   obtain rfl:=of_decide_eq_true hk
   obtain ⟨r,hr,h2⟩:=M.run_opt h1
   obtain ⟨rfl,_⟩:=M.run_ret h2
   have:=run_float_arith (P:=C.P) w op T k a b r hr
   refine ⟨.float k r,?_,Zs,Zh,rfl⟩
   grind [eqGuard]
  grind
 ·rename_i a b c d
  split at hf
  ·cases hf
   obtain ⟨r,hr,h⟩:=M.run_opt hm
   obtain ⟨rfl,_⟩:=M.run_ret h
   have:=run_complex_mul (P:=C.P) w T a b c d r.1 r.2 hr
   exact ⟨.complex .f64 r.1 r.2,by simpa [eqGuard] using this,Zs,Zh,rfl⟩
  ·cases hf
 ·cases hf
theorem Zg6 {P:Program} {T e:TypeId} (h:P.underlying T = some (.slice e)) (a:Option Addr) (l c:Nat) (w:World):(Op.equal T (.slice a l c) (.slice none 0 0)).run P w = .ok a.isNone w:=by
 have:=Lib.run_equalIn_slice_nil (P:=P) w 9999 T e a l c 0 0 h
 simp [Op.equal,Op.maxDepth,this]
theorem QA {a:AV} {v:Value} (h:RA σ w lim a v):RA σ w lim (W9 a) v:=by
 cases a <;> first | exact h | grind [RA,W9,RP]
theorem ZdK (a:AV):Za (W9 a) = Za a:=by cases a <;> rfl
theorem ZhC {op:BinOp} {T:TypeId} {a b:AV} {x y:Value} {xo yo:Operand} {l l':List Nat} {e:Eff} (hm:(Ze0 C op T a b).run tbl l = some (e,l'))
  (ha:RA σ w lim a x) (hb:RA σ w lim b y) :
  ∃ v,(do eqGuard op T xo yo x y; binOp op T x y:Sem Value).run C.P w = .ok v w ∧ RA σ w lim e.val v ∧ Ze tbl (Za e.val) ∧ e.ups = []:=by
 unfold Ze0 at hm
 split at hm
 ·rename_i cs ds
  simp only [RA] at ha hb
  obtain ⟨xs,rfl,ha⟩:=ha
  obtain ⟨ys,rfl,hb⟩:=hb
  split at hm
  ·obtain ⟨hg,b,h1,rfl⟩:=Zey hm ha hb
   exact ⟨.bool b,by simp [run_eqGuard_agg,hg,run_eql_struct,h1],Zs,Zh,rfl⟩
  ·obtain ⟨hg,b,h1,rfl⟩:=Zey hm ha hb
   exact ⟨.bool (!b),by simp [run_eqGuard_agg,hg,run_neq_struct,h1],Zs,Zh,rfl⟩
  ·exact (M.run_fail hm).elim
 ·simp only [RA,RP] at ha hb; subst ha; subst hb
  split at hm
  ·rename_i m hfl
   exact Zml hfl hm
  ·exact ZjD hm
 ·rename_i r k y'
  simp only [RA,RP] at ha hb; subst hb
  obtain ⟨bb,_,rfl⟩:=ha
  obtain ⟨hn,hm2⟩:=M.run_guard hm
  clear hm
  simp only [Jh] at hn
  obtain ⟨h1,h2⟩:=hn
  have hy:y = .pointer none:=by unfold ZgU at h1; split at h1 <;> simp_all
  clear h1
  subst hy
  cases hu:C.P.underlying T with
  | none => simp [hu] at h2
  | some d =>
   cases d with
   | pointer el =>
    have hq:∀ w,(Op.equal T (.pointer (some ⟨bb,k,none⟩)) (.pointer none)).run C.P w = .ok false w:=fun w => ZoX hu 9999 w
    cases op with
    | eql =>
     obtain ⟨rfl,_⟩:=M.run_ret hm2
     exact ⟨.bool false,by simp [eqGuard,binOp,hq],Zs,Zh,rfl⟩
    | neq =>
     obtain ⟨rfl,_⟩:=M.run_ret hm2
     exact ⟨.bool true,by simp [eqGuard,binOp,hq],Zs,Zh,rfl⟩
    | _ => exact (M.run_fail hm2).elim
   | _ => simp [hu] at h2
 ·rename_i t xs y'
  simp only [RA,RP] at ha hb; subst hb
  obtain ⟨ha,hnil⟩:=ha
  obtain ⟨hn,hm2⟩:=M.run_guard hm
  clear hm
  simp only [Jh] at hn
  obtain ⟨h1,h2⟩:=hn
  have:=WQ h1; subst this
  clear h1
  obtain ⟨A,l,c,rfl,hA⟩:∃ A l c,x = .slice A l c ∧ A.isNone = xs.isEmpty:=by
   grind [Rt]
  cases hu:C.P.underlying T with
  | none => simp [hu] at h2
  | some d =>
   cases d with
   | slice el =>
    have hq:=Zg6 (P:=C.P) hu A l c w
    cases op with
    | eql =>
     obtain ⟨rfl,_⟩:=M.run_ret hm2
     exact ⟨.bool A.isNone,by simp [eqGuard,binOp,hq],by rw [hA]; exact Zs,Zh,rfl⟩
    | neq =>
     obtain ⟨rfl,_⟩:=M.run_ret hm2
     exact ⟨.bool (!A.isNone),by simp [eqGuard,binOp,hq],by rw [hA]; exact Zs,Zh,rfl⟩
    | _ => exact (M.run_fail hm2).elim
   | _ => simp [hu] at h2
 ·simp [M.run] at hm
theorem ZmU {op:UnOp} {a:AV} {x:Value} {l l':List Nat} {e:Eff} (hm:(Zkz C op a).run tbl l = some (e,l')) (ha:RA σ w lim a x) :
  ∃ v,(Op.unary op x).run C.P w = .ok v w ∧ RA σ w lim e.val v ∧ Ze tbl (Za e.val) ∧ e.ups = []:=by
 unfold Zkz at hm
 split at hm
 ·simp only [RA,RP] at ha; subst ha
  split at hm
  ·rename_i v hs
   obtain ⟨_,hm⟩:=M.run_guard hm
   obtain ⟨rfl,_⟩:=M.run_ret hm
   exact ⟨v,Xm hs w,Zs,Zh,rfl⟩
  ·simp [M.run] at hm
 ·simp [M.run] at hm
def Row (w:World) (lim:Nat → Nat) (t:Ty) (xs:List t.den) (v:Value):Prop :=
 ∃ A cap,v = .slice A xs.length cap ∧ xs.length ≤ cap ∧ (xs = [] ∨ ∃ b off,A = some ⟨b,off,none⟩ ∧ ∀ i (h:i < xs.length),∃ c,Rt w lim t xs[i] c ∧
  ∀ j u,c[j]? = some u → w.cell? ⟨b,off + i * t.size + j,none⟩ = some u)
theorem KW {t:Ty} {xs:List t.den} {v:Value} (h:Rt w lim (.sl t) xs [v]):Row w lim t xs v:=by
 simp only [Rt] at h
 obtain ⟨A,len,cap,hv,h2,h3,h4⟩:=h
 obtain rfl:v = .slice A len cap:=by simpa using hv
 refine ⟨A,cap,by rw [h2],by rw [h2]; exact h3,?_⟩
 grind
theorem Zat {r:Nat} {t:Ty} {xs:List t.den} {sh:Bool} (h:RR σ w lim r (.arr t xs sh)):Row w lim t xs (σ r):=by
 simp only [RR] at h
 rcases h.2 with ⟨h4,h5⟩ | ⟨b,off,cap,vs,U,fz,h4,h5,h6,h7,h8,h9,h10⟩
 ·subst h4; exact ⟨none,0,h5,Jj _,.inl rfl⟩
 ·refine ⟨_,cap,h4,h5,.inr ⟨b,off,rfl,fun i hi => ⟨_,h9 i hi,fun j u hj => ?_⟩⟩⟩
  rw [Wp h6]
  grind
theorem YR {t:Ty} {a:AV} {v:Value} {l l':List Nat} {xs:List t.den} (hm:(ZdQ t a).run tbl l = some (xs,l')) (ha:RA σ w lim a v)
  (hres:∀ r x,tbl r = .live x → RR σ w lim r x ∧ Ze tbl (ZL r x)):Row w lim t xs v:=by
 unfold ZdQ at hm
 split at hm
 ·rename_i r
  simp only [M.run] at hm
  cases hr:tbl r with
  | fresh => simp [hr,M.run] at hm
  | gone => simp [hr,M.run] at hm
  | live y =>
   cases y with
   | box => simp [hr,M.run] at hm
   | nest => simp [hr,M.run] at hm
   | arr t' ys sh =>
    simp only [hr] at hm
    split at hm
    ·rename_i ht
     subst ht
     obtain ⟨rfl,_⟩:=M.run_ret hm
     simp only [RA] at ha; obtain ⟨rfl,_⟩:=ha
     exact Zat (hres r _ hr).1
    ·simp [M.run] at hm
 ·have:=M.run_ofOpt hm
  simp only [RA] at ha
  exact KW (Zf5 this ha)
 ·simp [M.run] at hm
theorem KV {t:Ty} {xs:List t.den} {v:Value} (h:Row w lim t xs v):∃ A cap,v = .slice A xs.length cap ∧ xs.length ≤ cap ∧
  ∃ css:List (List Value),Zv (Rt w lim t) xs css ∧ (xs = [] ∨ ∃ b off,A = some ⟨b,off,none⟩ ∧ ∀ j u,css.flatten[j]? = some u → w.cell? ⟨b,off + j,none⟩ = some u):=by
 obtain ⟨A,cap,hv,hc,h⟩:=h
 refine ⟨A,cap,hv,hc,?_⟩
 rcases h with h | ⟨b,off,hA,h⟩
 ·subst h; exact ⟨[],trivial,.inl rfl⟩
 ·suffices H:∀ (xs:List t.den) (off:Nat),(∀ i (h:i < xs.length),∃ c,Rt w lim t xs[i] c ∧ ∀ j u,c[j]? = some u → w.cell? ⟨b,off + i * t.size + j,none⟩ = some u) →
    ∃ css:List (List Value),Zv (Rt w lim t) xs css ∧ ∀ j u,css.flatten[j]? = some u → w.cell? ⟨b,off + j,none⟩ = some u by
   obtain ⟨css,h1,h2⟩:=H xs off h
   grind
  intro xs
  induction xs with
  | nil => intro off _; exact ⟨[],trivial,by simp⟩
  | cons x xs ih =>
   intro off h
   obtain ⟨c,h1,h2⟩:=h 0 (by simp)
   obtain ⟨css,h3,h4⟩:=ih (off + t.size) (fun i hi => by
    obtain ⟨c,h5,h6⟩:=h (i + 1) (by simpa using hi)
    grind)
   refine ⟨c :: css,⟨h1,h3⟩,fun j u hj => ?_⟩
   have hl:=Rt.length h1
   grind
theorem ZN {t:Ty} {xs:List t.den} {css:List (List Value)} (h:Zv (Rt w lim t) xs css):css.flatten.length = xs.length * t.size:=by
 induction xs generalizing css with
 | nil => match css,h with | [],_ => simp
 | cons x xs ih => match css,h with
  | c :: css,h => simp [ih h.2,Rt.length h.1,Jg]; omega
theorem Zjk {k:IntKind} {xs:List Int} {css:List (List Value)} (h:Zv (Rt w lim (.int k)) xs css):css.flatten = xs.map (Jw k):=by
 induction xs generalizing css with
 | nil => match css,h with | [],_ => rfl
 | cons x xs ih => match css,h with
  | c :: css,h =>
   have h1:=h.1
   grind [Rt,ih h.2]
theorem ZhF (l:List Int) (acc:ByteArray):(l.foldl (fun r n => r.push (UInt8.ofNat n.toNat)) acc) = ⟨acc.data ++ (l.map fun n => UInt8.ofNat n.toNat).toArray⟩:=by
 induction l generalizing acc with
 | nil => simp
 | cons a l ih => simp_all
theorem Zak {P:Program} {e:TypeId} (h:Y0 P e = true):P.underlying e = some (.int .u8) ∧ P.cellsOf e = 1:=by
 unfold Y0 at h
 split at h
 ·rename_i hu; exact ⟨hu,ZC h⟩
 ·cases h
theorem XL {src dst e:TypeId} {v:Value} {xs:List Int} (hs:C.P.underlying src = some (.slice e)) (hd:C.P.underlying dst = some .string) (hb:Y0 C.P e = true)
  (hr:Row w lim (.int .u8) xs v):(convert src dst v).run C.P w = .ok (.string (bytesOf xs)) w:=by
 obtain ⟨hu,_⟩:=Zak hb
 obtain ⟨A,cap,rfl,hc,css,h1,h2⟩:=KV hr
 rw [run_convert_bytes_string w src dst e A _ _ hs hu hd]
 rcases h2 with h2 | ⟨b,off,rfl,h2⟩
 ·subst h2
  cases A with
  | none => simp [Conv.bytesToString,bytesOf]; rfl
  | some a =>
   rfl
 ·have hl:=ZN h1
  rw [Zjk h1] at h2 hl
  have:=run_loadCells_list (P:=C.P) w ⟨b,off,none⟩ (xs.map (Jw .u8)) (fun j v hj => by rw [ZU]; exact h2 j v hj)
  rw [List.length_map] at this
  rw [run_bytesToString w _ _ _ xs this,ZhF]
  congr 2
  apply Vm
  simp [bytesOf]
theorem Zeb {base:Nat} {src dst:TypeId} {a:AV} {v:Value} {l l':List Nat} {e:Eff} (hm:(Zai C base src dst a).run tbl l = some (e,l')) (ha:RA σ w lim a v)
  (hres:∀ r x,tbl r = .live x → RR σ w lim r x ∧ Ze tbl (ZL r x)) :
  (∃ x,(convert src dst v).run C.P w = .ok x w ∧ RA σ w lim e.val x ∧ Ze tbl (Za e.val) ∧ e.ups = []) ∨
  (∃ el s,C.P.underlying src = some .string ∧ C.P.underlying dst = some (.slice el) ∧ Y0 C.P el = true ∧ Ja el Zkp = true ∧ v = .string s ∧ s.size < 1099511627776 ∧ tbl base = .fresh ∧
   e = ⟨.own base,[(base,.live (.arr (.int .u8) (Zx s) false))]⟩) ∨
  (∃ r t xs sh el el',src = dst ∧ C.P.underlying src = some (.slice el') ∧ C.P.underlying dst = some (.slice el) ∧ Y0 C.P el = true ∧ v = σ r ∧ (∃ A l c,v = .slice A l c) ∧ tbl r = .live (.arr t xs sh) ∧ 1 ≤ xs.length ∧
   e = ⟨.own r,[(r,.live (.arr t xs sh))]⟩):=by
 unfold Zai at hm
 split at hm
 ·rename_i el' el hs hd
  split at hm
  ·rename_i r
   obtain ⟨hb,hm⟩:=M.run_guard hm
   simp only [Jh] at hb
   simp only [M.run] at hm
   split at hm
   ·rename_i t xs sh hr
    obtain ⟨hx,hm⟩:=M.run_guard hm
    obtain ⟨rfl,_⟩:=M.run_ret hm
    simp only [RA] at ha
    exact .inr (.inr ⟨r,t,xs,sh,el,el',ZC hb.1,hs,hd,hb.2,ha.1,ha.2,hr,Ju hx,rfl⟩)
   ·simp [M.run] at hm
  ·simp [M.run] at hm
 ·rename_i el hs hd
  obtain ⟨hb,hm⟩:=M.run_guard hm
  obtain ⟨xs,l1,h1,h2⟩:=M.run_bind_some hm
  obtain ⟨rfl,_⟩:=M.run_ret h2
  exact .inl ⟨_,XL hs hd hb (YR h1 ha hres),Zs,Zh,rfl⟩
 ·rename_i el hs hd
  split at hm
  ·rename_i s
   simp only [RA,RP] at ha; subst ha
   obtain ⟨hb,hm⟩:=M.run_guard hm
   simp only [Jh] at hb
   obtain ⟨hn,hm⟩:=M.run_need hm
   have hn:=of_decide_eq_true hn
   simp only [Z4,M.run] at hm
   cases hf:tbl base with
   | fresh =>
    simp only [hf,M.run] at hm
    grind
   | gone => simp [hf,M.run] at hm
   | live y => simp [hf,M.run] at hm
  ·simp [M.run] at hm
 ·rename_i fk ik hs hd
  split at hm
  ·rename_i s b
   simp only [RA,RP] at ha; subst ha
   obtain ⟨n,hn,hm⟩:=M.run_opt hm
   obtain ⟨rfl,_⟩:=M.run_ret hm
   exact .inl ⟨_,run_convert_float_int (P:=C.P) w src dst s ik b n (by rw [hs]; rfl) hd hn,Zs,Zh,rfl⟩
  ·simp [M.run] at hm
 ·split at hm
  ·simp only [RA,RP] at ha; subst ha
   split at hm
   ·rename_i v hs
    obtain ⟨_,hm⟩:=M.run_guard hm
    obtain ⟨rfl,_⟩:=M.run_ret hm
    exact .inl ⟨v,Xm hs w,Zs,Zh,rfl⟩
   ·simp [M.run] at hm
  ·simp [M.run] at hm
 ·simp [M.run] at hm
theorem Zj3 {base:Nat} {ats:Array TypeId} {ty:TypeId} {a:AV} {v:Value} {l l':List Nat} {e:Eff} (hm:(QE C base .len ats [a]).run tbl l = some (e,l')) (ha:RA σ w lim a v)
  (hres:∀ r x,tbl r = .live x → RR σ w lim r x ∧ Ze tbl (ZL r x)) :
  ∃ x,(JD ats ty #[v]).run C.P w = .ok x w ∧ RA σ w lim e.val x ∧ Ze tbl (Za e.val) ∧ e.ups = []:=by
 simp only [QE] at hm
 split at hm
 ·rename_i T hT
  split at hm
  ·rename_i s hu
   simp only [RA,RP] at ha; subst ha
   obtain ⟨rfl,_⟩:=M.run_ret hm
   exact ⟨_,by simp [JD,hT,run_underlying hu,goInt],Zs,Zh,rfl⟩
  ·rename_i r hu
   simp only [M.run] at hm
   cases hr:tbl r with
   | fresh => simp [hr,M.run] at hm
   | gone => simp [hr,M.run] at hm
   | live y =>
    cases y with
    | box => simp [hr,M.run] at hm
    | nest t' xss o =>
     simp only [hr] at hm
     obtain ⟨rfl,_⟩:=M.run_ret hm
     simp only [RA] at ha; obtain ⟨rfl,_⟩:=ha
     have h2:=(hres r _ hr).1
     simp only [RR] at h2
     obtain ⟨_,b',off',cap',vs,U,fz,h4,_⟩:=h2
     rw [h4]
     exact ⟨_,by simp [JD,hT,run_underlying hu,goInt],Zs,Zh,rfl⟩
    | arr t' xs sh =>
     simp only [hr] at hm
     obtain ⟨rfl,_⟩:=M.run_ret hm
     simp only [RA] at ha; obtain ⟨rfl,_⟩:=ha
     obtain ⟨A,cap,hv,_⟩:=Zat (hres r _ hr).1
     rw [hv]
     exact ⟨_,by simp [JD,hT,run_underlying hu,goInt],Zs,Zh,rfl⟩
  ·rename_i t' xs hu
   obtain ⟨rfl,_⟩:=M.run_ret hm
   simp only [RA,RP] at ha
   obtain ⟨A,cap,hv,_⟩:=KW ha
   subst hv
   exact ⟨_,by simp [JD,hT,run_underlying hu,goInt],Zs,Zh,rfl⟩
  ·rename_i x hu
   obtain ⟨hb,hm⟩:=M.run_guard hm
   obtain ⟨rfl,_⟩:=M.run_ret hm
   simp only [RA,RP] at ha; subst ha
   have:=WQ hb; subst this
   exact ⟨_,by simp [JD,hT,run_underlying hu,goInt],Zs,Zh,rfl⟩
  ·simp [M.run] at hm
 ·simp [M.run] at hm
theorem KN {v:Value} (h:v.oneCell' = true):v.cells = #[v]:=by
 cases v <;> first | rfl | (simp [Value.oneCell'] at h)
theorem Yx {t:Ty} {xs:List t.den} {v:Value} (h:Rt w lim (.sl t) xs [v]):v.oneCell' = true:=by
 simp only [Rt] at h; obtain ⟨A,len,cap,hv,_⟩:=h
 obtain rfl:v = .slice A len cap:=by simpa using hv
 rfl
theorem Zal {a:AV} {v:Value} {cs:List AV} (hcs:a.cells? = some cs) (hv:RA σ w lim a v):∃ ws:List Value,v.cells = ws.toArray ∧ ZA σ w lim cs ws ∧ ((∀ l,a ≠ .agg l) → ws = [v] ∧ cs = [a] ∧ v.oneCell' = true):=by
 have one:v.oneCell' = true → cs = [a] → ∃ ws:List Value,v.cells = ws.toArray ∧ ZA σ w lim cs ws ∧ ((∀ l,a ≠ .agg l) → ws = [v] ∧ cs = [a] ∧ v.oneCell' = true):=by
  intro h1 h2
  subst h2
  exact ⟨[v],by rw [KN h1],by simp [ZA,hv],fun _ => ⟨rfl,rfl,h1⟩⟩
 cases a with
 | agg l =>
  simp [AV.cells?] at hcs; subst hcs
  simp only [RA] at hv; obtain ⟨ws,rfl,hw⟩:=hv
  exact ⟨ws,rfl,hw,fun h => absurd rfl (h l)⟩
 | dead => simp [AV.cells?] at hcs
 | tup => simp [AV.cells?] at hcs
 | clo f l =>
  simp [AV.cells?] at hcs; subst hcs
  simp only [RA] at hv
  obtain ⟨us,rfl,hw⟩:=hv
  exact one rfl rfl
 | val p =>
  cases p with
  | v x =>
   simp only [AV.cells?] at hcs
   cases hx:x.oneCell' with
   | false => simp [hx] at hcs
   | true =>
    simp_all [hx,RA,RP]
  | sl t xs =>
   simp [AV.cells?] at hcs
   simp only [RA,RP] at hv
   exact one (Yx hv) hcs.symm
 | own r => simp [AV.cells?] at hcs; simp only [RA] at hv; obtain ⟨_,A,l,c,rfl⟩:=hv; exact one rfl hcs.symm
 | bx r k => simp [AV.cells?] at hcs; simp only [RA] at hv; obtain ⟨b,_,rfl⟩:=hv; exact one rfl hcs.symm
 | el r t i k => simp [AV.cells?] at hcs; simp only [RA] at hv; obtain ⟨b,off,len,cap,_,rfl⟩:=hv; exact one rfl hcs.symm
 | sub r t i j => simp [AV.cells?] at hcs; simp only [RA] at hv; obtain ⟨A,len,cap,_,rfl⟩:=hv; exact one rfl hcs.symm
 | sp ps => simp [AV.cells?] at hcs; simp only [RA] at hv; obtain ⟨b,off,rfl,_⟩:=hv; exact one rfl hcs.symm
 | fn f => simp [AV.cells?] at hcs; simp only [RA] at hv; subst hv; exact one rfl hcs.symm
 | ns t xs => simp [AV.cells?] at hcs; simp only [RA] at hv; exact one (Yx hv.1) hcs.symm
 | vp t xs => simp [AV.cells?] at hcs; simp only [RA] at hv; obtain ⟨a,n,m,rfl,_⟩:=hv; exact one rfl hcs.symm
 | me r T => simp [AV.cells?] at hcs; simp only [RA] at hv; obtain ⟨p,rfl,_⟩:=hv; exact one rfl hcs.symm
theorem ZeL (l:List Value):∀ (n:Nat) (cs:Array Value) (off:Nat),off + n + l.length ≤ cs.size →
  (l.zipIdx n).foldl (fun cs (c,j) => cs.setIfInBounds (off + j) c) cs = (cs.toList.take (off + n) ++ l ++ cs.toList.drop (off + n + l.length)).toArray:=by
 induction l with
 | nil => intro n cs off _; simp
 | cons x l ih =>
  intro n cs off h
  simp only [JG] at h
  simp only [List.zipIdx_cons,List.foldl_cons]
  rw [ih (n + 1) _ off (by simp; omega)]
  apply JJ
  simp only [Vl]
  apply Js
  intro i
  simp only [JP,Jz,Jp,JA,JQ,JR,J6,JG,Vw,Vv]
  grind
theorem Kt {place:Nat → Option (Nat × Nat)}:∀ (ps:List (Nat × AV)) (qs:List (Nat × Value)) (cells:List AV) (vs:List Value) {out:List AV},
  Kr place cells ps = some out → Zv (fun p q => p.1 = q.1 ∧ RA σ w lim p.2 q.2) ps qs → ZA σ w lim cells vs →
  ∃ us:List Value,Jx place vs.toArray qs = some us.toArray ∧ ZA σ w lim out us
 | [],[],cells,vs,out,h,_,hc => by
  grind [Kr,Jx]
 | (i,a) :: ps,(j,v) :: qs,cells,vs,out,h,hk,hc => by
  obtain ⟨⟨rfl,hv⟩,hk⟩:=hk
  simp only [Kr] at h
  cases hp:place i with
  | none => simp [hp] at h
  | some q =>
   obtain ⟨off,size⟩:=q
   cases hcs:a.cells? with
   | none => simp [hp,hcs] at h
   | some cs =>
    simp only [hp,hcs] at h
    cases hb:(Ja cs.length size && Nat.ble (off + size) cells.length) with
    | false => simp [hb] at h
    | true =>
     simp only [hb,cond_true] at h
     simp only [Jh] at hb
     have h1:=ZC hb.1
     have h2:off + size ≤ cells.length:=Ju hb.2
     obtain ⟨ws,hw1,hw2,_⟩:=Zal hcs hv
     have hl:=(ZB.1 hw2).length
     have hlc:=(ZB.1 hc).length
     have hnew:ZA σ w lim (cells.take off ++ cs ++ cells.drop (off + size)) (vs.take off ++ ws ++ vs.drop (off + size)) :=
      ZB.2 (Zv.append (Zv.append (Zv.take off (ZB.1 hc)) (ZB.1 hw2)) (Zv.drop _ (ZB.1 hc)))
     obtain ⟨us,h3,h4⟩:=Kt ps qs _ _ h hk hnew
     refine ⟨us,?_,h4⟩
     simp only [Jx,hp,hw1]
     rw [if_neg (by simp; omega)]
     rw [← h3]
     congr 1
     have:=ZeL ws 0 vs.toArray off (by simp; omega)
     simp_all
 | [],_ :: _,_,_,_,_,h,_ => h.elim
 | _ :: _,[],_,_,_,_,h,_ => h.elim
theorem Zbf (l:List Value):ZA σ w lim (l.map fun v => .val (.v v)) l:=by
 induction l with
 | nil => simp [ZA]
 | cons v l ih => simp [ZA,ih,RA,RP]
theorem Zdr (l:List Value):Zd (l.map fun v => AV.val (.v v)) = []:=by
 induction l with
 | nil => rfl
 | cons v l ih => simp [Zd,Za,ih]
theorem Wn {P:Program} {T:TypeId} {zs:List Value} (h:zeroCells P T = some zs) (w:World):∃ z,(zeroValue T).run P w = .ok z w ∧ z.cells.toList = zs:=by
 unfold zeroCells at h
 cases hi:P.info? T with
 | none => simp [hi] at h
 | some i =>
  simp only [hi] at h
  cases hz:i.zero with
  | none => simp [hz] at h
  | some z => simp_all [hz,zeroValue,typeInfo,hi]
theorem Ks {T:ZF} {place:Nat → Option (Nat × Nat)}:∀ (ps:List (Nat × AV)) (cells:List AV) {out:List AV},Kr place cells ps = some out →
  Ze T (Zd cells) → (∀ p ∈ ps,Ze T (Za p.2)) → Ze T (Zd out)
 | [],cells,out,h,k,_ => by simp [Kr] at h; subst h; exact k
 | (i,a) :: ps,cells,out,h,k,kp => by
  simp only [Kr] at h
  cases hp:place i with
  | none => simp [hp] at h
  | some q =>
   obtain ⟨off,size⟩:=q
   cases hcs:a.cells? with
   | none => simp [hp,hcs] at h
   | some cs =>
    simp only [hp,hcs] at h
    cases hb:(Ja cs.length size && Nat.ble (off + size) cells.length) with
    | false => simp [hb] at h
    | true =>
     simp only [hb,cond_true] at h
     refine Ks ps _ h ?_ (fun p hp => kp p (Jo _ hp))
     have kc:Ze T (Zd cs):=by
      have ka:=kp (i,a) (Jm ..)
      simp only at ka
      unfold AV.cells? at hcs
      split at hcs
      ·grind [Za]
      ·simp at hcs
      ·simp at hcs
      ·rename_i x
       cases hx:x.oneCell' with
       | false => simp [hx] at hcs
       | true => simp [hx] at hcs; grind [Zd,Za]
      grind [Zd]
     intro r hr
     obtain ⟨x,hx,hr⟩:=W6 hr
     simp only [Jv,Jt] at hx
     rcases hx with hx | hx | hx
     ·exact (k.mem (JU hx)) r hr
     ·exact (kc.mem hx) r hr
     ·exact (k.mem (JT hx)) r hr
theorem Zax {P:Program}:∀ (fs:List Field) (w:World),(∀ f ∈ fs,∃ i,P.info? f.type = some i) →
  (fs.mapM fun f => do pure (f.offset,← sizeOf f.type):Sem (List (Nat × Nat))).run P w = .ok (fs.map fun f => (f.offset,P.cellsOf f.type)) w
 | [],w,_ => by simp
 | f :: fs,w,h => by
  obtain ⟨i,hi⟩:=h f (by simp)
  have ih:=Zax fs w (fun g hg => h g (by simp [hg]))
  simp_all [List.mapM_cons,Sem.run_bind,sizeOf,typeInfo,run_program,Result.andThen_ok,hi,Sem.run_pure,JS,Program.cellsOf]
end
end Go.Sh
namespace Go.Sh
open Go
variable [Gl]
variable {C:Ctx} {G:Glob} {σ:QM} {w:World} {lim:Nat → Nat} {st:St} {tmps:Array Value}
theorem Zb (i:Nat) (x:RS) (u:Qh) (r:Nat):Zm ((i,x) :: u) r = if i = r then some x else Zm u r:=by
 by_cases h:i = r
 ·subst h; simp [Zm]
 ·simp [Zm,Zc h,h]
theorem ZS (T:ZF):T.put [] = T:=rfl
theorem ZP (T:ZF) (u v:Qh):T.put (u ++ v) = (T.put v).put u:=by
 funext r
 induction u with
 | nil => rfl
 | cons p u ih =>
  obtain ⟨i,x⟩:=p
  simp only [ZF.put,J2,Zb] at ih ⊢
  grind
theorem WU (T:ZF) (p:Nat × RS) (u:Qh):T.put (p :: u) = (T.put u).put [p]:=ZP T [p] u
theorem ZT (T:ZF) (i:Nat) (x:RS) (u:Qh) (r:Nat):T.put ((i,x) :: u) r = if i = r then x else T.put u r:=by
 simp only [ZF.put,Zb]
 by_cases h:i = r <;> simp [h]
theorem Zf (T:ZF) (i:Nat) (x:RS) (r:Nat):T.put [(i,x)] r = if i = r then x else T r:=by
 rw [ZT]; rfl
theorem RelW.noput {G:Glob} {σ σ':QM} {lim lim':Nat → Nat} {st:St} {tmps:Array Value} {w w':World} {ups:Qh} {v:AV} {x:Value}
  (h:RelW G σ lim st tmps w) (u:Upd G σ lim st w σ' lim' w' v x ups):RelW G σ' lim' ⟨st.env,st.tbl.put ups⟩ tmps w' :=
 RelW.step (a:=⟨tmps,[]⟩) h u none (by simp)
theorem Upd.dead {v:AV} {x:Value} {σ':QM} {lim':Nat → Nat} {w':World} {ups:Qh}
  (ext:Ext w lim w' lim') (lz:∀ b,w'.heap.size ≤ b → lim' b = 0) (same:w'.os = w.os ∧ w'.tape = w.tape ∧ w'.output = w.output)
  (sig:∀ r,st.tbl r ≠ .fresh → σ' r = σ r)
  (rest:∀ r,Zw (st.tbl r) = true → Zm ups r = none → ∀ b,blk (σ r) = some b → w'.heap[b]? = w.heap[b]? ∧ lim' b = lim b)
  (new:∀ r y,Zm ups r = some (.live y) → RR σ' w' lim' r y ∧ Ze (st.tbl.put ups) (ZL r y))
  (inj:∀ r r' y b,Zm ups r = some (.live y) → Zw (st.tbl.put ups r') = true → blk (σ' r) = some b → blk (σ' r') = some b → r' = r)
  (own:∀ r y b,Zm ups r = some (.live y) → blk (σ' r) = some b → (G.w0.heap.size ≤ b ∨ b ∈ G.lent))
  (keep:∀ b,b < G.w0.heap.size → b ∉ G.lent → w'.heap[b]? = w.heap[b]?) (limk:∀ b,b < G.w0.heap.size → b ∉ G.lent → lim' b = lim b)
  (nofresh:∀ r,Zm ups r ≠ some .fresh) (val:RA σ' w' lim' v x) (known:Ze (st.tbl.put ups) (Za v)):Upd G σ lim st w σ' lim' w' v x ups :=
 ⟨ext,lz,same,sig,rest,new,inj,own,keep,limk,nofresh,val,known⟩
theorem RelW.show_one (h:RelW G σ lim st tmps w) {r:Nat} {t:Ty} {xs:List t.den} {sh:Bool} (hr:st.tbl r = .live (.arr t xs sh)) :
  ∃ lim',RelW G σ lim' ⟨st.env,st.tbl.put [(r,.live (.arr t xs true))]⟩ tmps w ∧ Ext w lim w lim' ∧ RP w lim' (.sl t xs) (σ r):=by
 obtain ⟨hR,_⟩:=h.res r _ hr
 have hlr:Zw (st.tbl r) = true:=by rw [hr]; rfl
 simp only [RR] at hR
 obtain ⟨hsz,hR⟩:=hR
 rcases hR with ⟨h4,h5⟩ | ⟨b,off,cap,vs,U,fz,h4,h5,h6,h7,h8,h9,h10⟩
 ·subst h4
  refine ⟨lim,h.noput (v:=.dead) (x:=undef) (σ':=σ) (lim':=lim) (w':=w) (Upd.dead (Ext.refl _ _) h.lz ⟨rfl,rfl,rfl⟩ (fun _ _ => rfl) (fun _ _ _ _ _ => ⟨rfl,rfl⟩) ?_ ?_ ?_ (fun _ _ _ => rfl) (fun _ _ _ => rfl) ?_ (by simp [RA]) (by simp [Za,Ze])),Ext.refl _ _,?_⟩
  ·intro r' y hl
   rw [Zb] at hl
   grind [RR,ZL,Ze,Zm]
  ·intro r1 r2 y b hl _ hb
   rw [Zb] at hl
   grind [blk,Zm]
  ·intro r1 y b hl hb
   rw [Zb] at hl
   grind [blk,Zm]
  ·grind [Zm]
  grind [RP,Rt]
 ·have hbr:blk (σ r) = some b:=by rw [h4]; rfl
  have hbs:b < w.heap.size:=(Array.getElem?_eq_some_iff.1 h6).1
  have hle:lim b ≤ off + xs.length * t.size:=by cases sh <;> simp at h10 <;> omega
  refine ⟨fun x => if x = b then off + xs.length * t.size else lim x,?_⟩
  have hE:Ext w lim w (fun x => if x = b then off + xs.length * t.size else lim x):=⟨Jj _,fun _ _ _ => rfl,fun x o ho => by
   grind,fun _ _ h => h,fun x o ho hf => by
   by_cases hx:x = b
   ·subst hx
    simp only [if_true] at ho
    have:=Jk t.size h5
    rw [KQ h6 (h8.free o (by omega))] at hf; cases hf
   ·simp only [hx,if_false] at ho; exact ⟨ho,hf⟩⟩
  have other:∀ r',Zw (st.tbl r') = true → r' ≠ r → ∀ b',blk (σ r') = some b' → b' ≠ b:=by
   intro r' hl hne b' hb e
   subst e
   exact hne (h.inj r' r b' hl hlr hb hbr)
  refine ⟨h.noput (v:=.dead) (x:=undef) (σ':=σ) (w':=w) (Upd.dead hE ?_ ⟨rfl,rfl,rfl⟩ (fun _ _ => rfl) ?_ ?_ ?_ ?_ (fun _ _ _ => rfl) (fun x hx hxl => by
   have:x ≠ b:=by
    intro e; subst e
    rcases h.own r x hlr hbr with h1 | h1
    ·omega
    ·exact hxl h1
   simp [this]) ?_ (by simp [RA]) (by simp [Za,Ze])),hE,?_⟩
  ·intro x hx
   have:x ≠ b:=by omega
   simp [this]; exact h.lz x hx
  ·intro r' hl hn b' hb
   rw [Zb] at hn
   grind
  ·intro r' y hl
   rw [Zb] at hl
   split at hl
   ·rename_i e; subst e
    simp at hl; subst hl
    refine ⟨?_,by simp [ZL,Ze]⟩
    simp only [RR]
    exact ⟨hsz,.inr ⟨b,off,cap,vs,U,fz,h4,h5,h6,h7,h8,fun i hi => (h9 i hi).mono hE,by simp⟩⟩
   ·simp [Zm] at hl
  ·intro r1 r2 y b' hl hl2 hb1 hb2
   rw [Zb] at hl
   split at hl
   ·rename_i e; subst e
    rw [Zf] at hl2
    grind
   ·simp [Zm] at hl
  ·intro r1 y b' hl hb
   rw [Zb] at hl
   split at hl
   ·rename_i e; subst e; exact h.own r b' hlr hb
   ·simp [Zm] at hl
  ·grind [Zm]
  ·simp only [RP,Rt]
   refine ⟨_,_,cap,by rw [h4],rfl,h5,.inr ⟨b,off,rfl,fun i hi => ⟨_,(h9 i hi).mono hE,fun j u hj => ?_⟩⟩⟩
   rw [Jz,Jp] at hj
   split at hj
   ·rename_i hjt
    refine ⟨by rw [Wp h6]; exact hj,?_⟩
    simp
    have:(i + 1) * t.size ≤ xs.length * t.size:=Jk _ hi
    rw [Jg] at this
    omega
   ·simp at hj
def Wx (T:ZF) (u:Qh):Prop := ∀ p ∈ u,∃ (t:Ty) (xs:List t.den) (sh:Bool),p.2 = .live (.arr t xs true) ∧ T p.1 = .live (.arr t xs sh)
theorem Wx.at {T:ZF} : {u:Qh} → (hu:Wx T u) → {r:Nat} → {t:Ty} → {xs:List t.den} → {sh:Bool} → T r = .live (.arr t xs sh) → ∃ sh',T.put u r = .live (.arr t xs sh')
 | [],_,r,t,xs,sh,h => ⟨sh,h⟩
 | (i,x) :: u,hu,r,t,xs,sh,h => by
  rw [ZT]
  split
  ·rename_i e; subst e
   obtain ⟨t',ys,s',h1,h2⟩:=hu (i,x) (Jm ..)
   simp_all
  ·exact Wx.at (fun p hp => hu p (Jo _ hp)) h
theorem RelW.shows:(u:Qh) → (h:RelW G σ lim st tmps w) → Wx st.tbl u →
  ∃ lim',RelW G σ lim' ⟨st.env,st.tbl.put u⟩ tmps w ∧ Ext w lim w lim' ∧ ∀ r (t:Ty) (xs:List t.den),(r,RS.live (.arr t xs true)) ∈ u → RP w lim' (.sl t xs) (σ r)
 | [],h,_ => ⟨lim,h,Ext.refl _ _,by simp⟩
 | (i,x) :: u,h,hu => by
  obtain ⟨lim1,h1,e1,r1⟩:=RelW.shows u h (fun p hp => hu p (Jo _ hp))
  obtain ⟨t,xs,sh,hx,hT⟩:=hu (i,x) (Jm ..)
  simp only at hx hT; subst hx
  obtain ⟨sh',hT'⟩:=Wx.at (fun p hp => hu p (Jo _ hp)) hT
  obtain ⟨lim2,h2,e2,r2⟩:=RelW.show_one h1 (st:=⟨st.env,st.tbl.put u⟩) hT'
  refine ⟨lim2,by rw [WU]; exact h2,e1.trans e2,fun r t' xs' hm => ?_⟩
  cases hm with
  | head => exact r2
  | tail _ hm => exact (r1 r t' xs' hm).mono e2
theorem Wx.append {T:ZF} {u v:Qh} (h:Wx T u) (k:Wx T v):Wx T (u ++ v):=by
 intro p hp
 rcases Jt.1 hp with hp | hp
 ·exact h p hp
 ·exact k p hp
theorem ZmH {t : Ty} {xs : List t.den} {A : Option Addr} {cap : Nat} (h6 : xs = [] ∨ ∃ b off, A = some ⟨b, off, none⟩ ∧ ∀ i (h : i < xs.length), ∃ c, Rt w lim t xs[i] c ∧
        ∀ j v, c[j]? = some v → w.cell? ⟨b, off + i * t.size + j, none⟩ = some v ∧ off + i * t.size + j < lim b) (h5 : xs.length ≤ cap) {l h : Nat} (h1 : l ≤ h) (h2 : h ≤ xs.length) {sz : Nat} (hs : sz = t.size) :
    Rt w lim (.sl t) ((xs.take h).drop l) [.slice (if cap = l then A else A.map (·.add (l * sz))) (h - l) (cap - l)] := by
  subst hs
  simp only [Rt]
  refine ⟨_, _, _, rfl, by simp; omega, by omega, ?_⟩
  by_cases he : l = h
  · left; subst he; simp
  · right
    rcases h6 with h6 | ⟨b, off, rfl, h6⟩
    · subst h6; simp at h2; omega
    · refine ⟨b, off + l * t.size, by rw [if_neg (by omega)]; simp [ZU], fun i hi => ?_⟩
      have hi' : l + i < h := by simp at hi; omega
      obtain ⟨c, hc, hcell⟩ := h6 (l + i) (by omega)
      grind
theorem ZbY {a:AV} {l l':List Nat} {p:PV} {u:Qh} (hm:(ZmR a).run st.tbl l = some ((p,u),l')) :
  Wx st.tbl u ∧ ∀ (w:World) (lim:Nat → Nat) (v:Value),RA σ w lim a v → ∀ lim',Ext w lim w lim' → (∀ r (t:Ty) (xs:List t.den),(r,RS.live (.arr t xs true)) ∈ u → RP w lim' (.sl t xs) (σ r)) → RP w lim' p v:=by
 unfold ZmR at hm
 split at hm
 ·obtain ⟨h,_⟩:=M.run_ret hm
  cases h
  refine ⟨(by intro p hp; cases hp),fun w lim v ha lim' e _ => ?_⟩
  simp only [RA] at ha; exact ha.mono e
 ·obtain ⟨h,_⟩:=M.run_ret hm
  cases h
  refine ⟨(by intro p hp; cases hp),fun w lim v ha lim' e _ => ?_⟩
  simp only [RA] at ha; simp only [RP]; exact ha.1.mono e
 ·rename_i r
  simp only [M.run] at hm
  cases hr:st.tbl r with
  | fresh => simp [hr,M.run] at hm
  | gone => simp [hr,M.run] at hm
  | live y =>
   cases y with
   | box => simp [hr,M.run] at hm
   | nest => simp [hr,M.run] at hm
   | arr t xs sh =>
    simp only [hr] at hm
    obtain ⟨h,_⟩:=M.run_ret hm
    cases h
    refine ⟨by intro q hq; simp_all,fun w lim v ha lim' e k => ?_⟩
    grind [RA]
 ·rename_i r t i j
  simp only [M.run] at hm
  cases hr:st.tbl r with
  | fresh => simp [hr,M.run] at hm
  | gone => simp [hr,M.run] at hm
  | live y =>
   cases y with
   | box => simp [hr,M.run] at hm
   | nest => simp [hr,M.run] at hm
   | arr t' xs sh =>
    simp only [hr] at hm
    split at hm
    ·rename_i ht
     subst ht
     obtain ⟨hc,hm2⟩:=M.run_need hm
     obtain ⟨c1,c2⟩:=of_decide_eq_true hc
     obtain ⟨h,_⟩:=M.run_ret hm2
     cases h
     refine ⟨by intro q hq; simp_all,fun w lim v ha lim' e k => ?_⟩
     have h1:=k r t' xs (by simp)
     simp only [RA] at ha
     obtain ⟨A,len,cap,hs,rfl⟩:=ha
     rw [hs] at h1
     simp only [RP,Rt] at h1
     obtain ⟨A',len',cap',hv,h4,h5,h6⟩:=h1
     obtain ⟨rfl,rfl,rfl⟩:A = A' ∧ len = len' ∧ cap = cap':=by simpa using hv
     subst h4
     simp only [RP]
     exact ZmH h6 h5 c1 c2 rfl
    ·simp [M.run] at hm
 ·simp [M.run] at hm
theorem ZaA : {as:List AV} → {l l':List Nat} → {ps:List PV} → {u:Qh} → (Zhf as).run st.tbl l = some ((ps,u),l') →
  Wx st.tbl u ∧ ∀ (w:World) (lim:Nat → Nat) (vs:List Value),ZA σ w lim as vs → ∀ lim',Ext w lim w lim' → (∀ r (t:Ty) (xs:List t.den),(r,RS.live (.arr t xs true)) ∈ u → RP w lim' (.sl t xs) (σ r)) → Zv (RP w lim') ps vs
 | [],l,l',ps,u,hm => by
  obtain ⟨h,_⟩:=M.run_ret hm
  cases h
  exact ⟨(by intro p hp; cases hp),fun w lim vs h lim' _ _ => by match vs,h with | [],_ => trivial⟩
 | a :: as,l,l',ps,u,hm => by
  simp only [Zhf] at hm
  obtain ⟨⟨p,u1⟩,l1,h1,h2⟩:=M.run_bind_some hm
  obtain ⟨⟨qs,u2⟩,l2,h3,h4⟩:=M.run_bind_some h2
  obtain ⟨h,_⟩:=M.run_ret h4
  cases h
  obtain ⟨s1,k1⟩:=ZbY (σ:=σ) h1
  obtain ⟨s2,k2⟩:=ZaA (as:=as) h3
  refine ⟨s1.append s2,fun w lim vs h lim' e k => ?_⟩
  match vs,h with
  | v :: vs,h =>
   simp only [ZA] at h
   exact ⟨k1 w lim v h.1 lim' e (fun r t xs hm => k r t xs (JH _ hm)),k2 w lim vs h.2 lim' e (fun r t xs hm => k r t xs (JB _ hm))⟩
theorem ZdZ {t:Ty} {a:AV} {l l':List Nat} {x:t.den} {u:Qh} (hm:(Zjv t a).run st.tbl l = some ((x,u),l')) :
  Wx st.tbl u ∧ ∀ (w:World) (lim:Nat → Nat) (v:Value),RA σ w lim a v → ∀ lim',Ext w lim w lim' → (∀ r (t:Ty) (xs:List t.den),(r,RS.live (.arr t xs true)) ∈ u → RP w lim' (.sl t xs) (σ r)) →
   ∃ cs,Rt w lim' t x cs ∧ v.cells = cs.toArray ∧ ((t.isAgg = true ∧ v = .agg cs.toArray) ∨ (t.isAgg = false ∧ cs = [v])):=by
 unfold Zjv at hm
 split at hm
 ·rename_i cs
  obtain ⟨hg,hm⟩:=M.run_guard hm
  obtain ⟨⟨ps,u1⟩,l1,h1,h2⟩:=M.run_bind_some hm
  simp only at h2
  cases ho:XG t ps with
  | none => simp [ho,M.run] at h2
  | some y =>
   simp only [ho] at h2
   obtain ⟨h,_⟩:=M.run_ret h2
   cases h
   obtain ⟨s1,k1⟩:=ZaA (σ:=σ) h1
   refine ⟨s1,fun w lim v ha lim' e k => ?_⟩
   simp only [RA] at ha
   obtain ⟨vs,rfl,hv⟩:=ha
   exact ⟨vs,Yw ho (k1 w lim vs hv lim' e k),rfl,.inl ⟨hg,rfl⟩⟩
 ·rename_i a hna
  cases hag:t.isAgg with
  | true => simp [hag,M.run] at hm
  | false =>
   simp only [hag,cond_false] at hm
   obtain ⟨⟨p,u1⟩,l1,h1,h2⟩:=M.run_bind_some hm
   simp only at h2
   cases ho:XG t [p] with
   | none => simp [ho,M.run] at h2
   | some y =>
    simp only [ho] at h2
    obtain ⟨h,_⟩:=M.run_ret h2
    cases h
    obtain ⟨s1,k1⟩:=ZbY (σ:=σ) h1
    refine ⟨s1,fun w lim v ha lim' e k => ?_⟩
    have hp:=k1 w lim v ha lim' e k
    have hrt:=Yw (w:=w) (lim:=lim') (cs:=[v]) ho ⟨hp,trivial⟩
    refine ⟨[v],hrt,?_,.inr ⟨rfl,rfl⟩⟩
    have:v.oneCell' = true:=by
     cases t <;> simp only [Ty.isAgg] at hag <;> first | contradiction | skip
     all_goals first
      | (simp only [Rt] at hrt; obtain rfl:=List.singleton_inj.1 hrt; rfl)
      | (exact Yx hrt)
      | grind [Rt]
    rw [KN this]
theorem Zew {t:Ty} : {as:List AV} → {l l':List Nat} → {xs:List t.den} → {u:Qh} → (dens t as).run st.tbl l = some ((xs,u),l') →
  Wx st.tbl u ∧ ∀ (w:World) (lim:Nat → Nat) (vs:List Value),ZA σ w lim as vs → ∀ lim',Ext w lim w lim' → (∀ r (t:Ty) (xs:List t.den),(r,RS.live (.arr t xs true)) ∈ u → RP w lim' (.sl t xs) (σ r)) →
   Zv (fun x v => ∃ cs,Rt w lim' t x cs ∧ v.cells = cs.toArray) xs vs
 | [],l,l',xs,u,hm => by
  obtain ⟨h,_⟩:=M.run_ret hm
  cases h
  exact ⟨(by intro p hp; cases hp),fun w lim vs h lim' _ _ => by match vs,h with | [],_ => trivial⟩
 | a :: as,l,l',xs,u,hm => by
  simp only [dens] at hm
  obtain ⟨⟨x,u1⟩,l1,h1,h2⟩:=M.run_bind_some hm
  obtain ⟨⟨ys,u2⟩,l2,h3,h4⟩:=M.run_bind_some h2
  obtain ⟨h,_⟩:=M.run_ret h4
  cases h
  obtain ⟨s1,k1⟩:=ZdZ (σ:=σ) h1
  obtain ⟨s2,k2⟩:=Zew (as:=as) h3
  refine ⟨s1.append s2,fun w lim vs h lim' e k => ?_⟩
  match vs,h with
  | v :: vs,h =>
   simp only [ZA] at h
   obtain ⟨cs,h5,h6,_⟩:=k1 w lim v h.1 lim' e (fun r t xs hm => k r t xs (JH _ hm))
   exact ⟨⟨cs,h5,h6⟩,k2 w lim vs h.2 lim' e (fun r t xs hm => k r t xs (JB _ hm))⟩
theorem Below.heap_alloc' (w:World) (o:Obj) (k:Nat) (h:k < w.heap.size):(w.alloc o).heap[k]? = w.heap[k]? := heap_alloc_old w o k h
theorem Kh {T:ZF} {a:AV} {cs:List AV} (hcs:a.cells? = some cs) (ka:Ze T (Za a)):Ze T (Zd cs):=by
 unfold AV.cells? at hcs
 split at hcs
 ·grind [Za]
 ·simp at hcs
 ·simp at hcs
 ·rename_i x
  cases hx:x.oneCell' with
  | false => simp [hx] at hcs
  | true => simp [hx] at hcs; grind [Zd,Za]
 grind [Zd]
theorem RelW.newblk (h:RelW G σ lim st tmps w) {w':World} (hs:w'.heap.size = w.heap.size + 1) (hold:∀ k,k < w.heap.size → w'.heap[k]? = w.heap[k]?)
  (hsame:w'.os = w.os ∧ w'.tape = w.tape ∧ w'.output = w.output) {n:Nat} (hn:st.tbl n = .fresh) {y:Res} {x:Value} (hx:blk x = some w.heap.size)
  (hy:Ext w lim w' lim → (∀ r,st.tbl r ≠ .fresh → (if r = n then x else σ r) = σ r) → RR (fun r => if r = n then x else σ r) w' lim n y) (hk:Ze st.tbl (ZL n y)) :
  RelW G (fun r => if r = n then x else σ r) lim ⟨st.env,st.tbl.put [(n,.live y)]⟩ tmps w' ∧ Ext w lim w' lim:=by
 have hE:Ext w lim w' lim:=⟨by omega,fun b o ho => by
  have hb:b < w.heap.size:=by
   rcases Nat.lt_or_ge b w.heap.size with h' | h'
   ·exact h'
   ·rw [h.lz b h'] at ho; omega
  simp [World.cell?,hold b hb],fun _ _ ho => ho,fun b T hT => by
  have hb:b < w.heap.size:=by
   rcases Nat.lt_or_ge b w.heap.size with h' | h'
   ·exact h'
   ·simp [Z8,Array.getElem?_eq_none h'] at hT
  simpa [Z8,hold b hb] using hT,NF.keep h.lz hold⟩
 have hσ:∀ r,st.tbl r ≠ .fresh → (if r = n then x else σ r) = σ r:=by
  grind
 have hnf:∀ r,Zm [(n,RS.live y)] r ≠ some .fresh:=by grind [Zm]
 have old:∀ r b,Zw (st.tbl r) = true → blk (σ r) = some b → b < w.heap.size:=by
  intro r b hl hb
  cases hr:st.tbl r with
  | live z =>
   obtain ⟨h1,_⟩:=h.res r z hr
   cases z with
   | box cs =>
    grind [RR,blk]
   | arr t xs sh =>
    grind [RR,blk]
   | nest t xss o =>
    grind [RR,blk]
  | fresh => rw [hr] at hl; simp [Zw] at hl
  | gone => rw [hr] at hl; simp [Zw] at hl
 refine ⟨h.noput (v:=.dead) (x:=undef) (Upd.dead hE ?_ hsame hσ ?_ ?_ ?_ ?_ ?_ (fun _ _ _ => rfl) hnf (by simp [RA]) (by simp [Za,Ze])),hE⟩
 ·intro b hb; exact h.lz b (by omega)
 ·grind
 ·intro r z hl
  rw [Zb] at hl
  split at hl
  ·rename_i e; subst e
   simp at hl; subst hl
   exact ⟨hy hE hσ,hk.put hnf⟩
  ·simp [Zm] at hl
 ·intro r1 r2 z b hl hl2 hb1 hb2
  rw [Zb] at hl
  split at hl
  ·rename_i e; subst e
   simp [hx] at hb1; subst hb1
   rw [Zf] at hl2
   grind
  ·simp [Zm] at hl
 ·intro r1 z b hl hb
  rw [Zb] at hl
  split at hl
  ·rename_i e; subst e
   simp [hx] at hb; subst hb
   exact .inl h.ext.size
  ·simp [Zm] at hl
 ·intro b hb _
  exact hold b (Nat.lt_of_lt_of_le hb h.ext.size)
def Qb (C:Ctx) (G:Glob) (st:St) (tmps:Array Value) (w:World) (s:Sem Value) (e:Eff):Prop :=
 ∃ x w' σ' lim',s.run C.P w = .ok x w' ∧ RelW G σ' lim' ⟨st.env,st.tbl.put e.ups⟩ tmps w' ∧ RA σ' w' lim' e.val x ∧ Ze (st.tbl.put e.ups) (Za e.val)
theorem Qb.quiet (h:RelW G σ lim st tmps w) {s:Sem Value} {e:Eff} (hr:∃ x,s.run C.P w = .ok x w ∧ RA σ w lim e.val x ∧ Ze st.tbl (Za e.val) ∧ e.ups = []):Qb C G st tmps w s e:=by
 obtain ⟨x,h1,h2,h3,h4⟩:=hr
 exact ⟨x,w,σ,lim,h1,by rw [h4]; exact h,h2,by rw [h4]; exact h3⟩
theorem X9 {α:Type} {tbl:ZF} {n:Nat} {k:M α} {l l':List Nat} {x:α} (hm:(Z4 n 1 k).run tbl l = some (x,l')):tbl n = .fresh ∧ ∃ l2,k.run tbl l2 = some (x,l'):=by
 simp only [Z4,M.run] at hm
 cases hf:tbl n with
 | fresh => grind
 | gone => simp [hf,M.run] at hm
 | live y => simp [hf,M.run] at hm
theorem Zip (h:RelW G σ lim st tmps w) {n:Nat} (hn:st.tbl n = .fresh) {T:TypeId} {cs:List AV} {vs:List Value} (hc:ZA σ w lim cs vs) (hk:Ze st.tbl (Zd cs)) :
  RelW G (fun r => if r = n then .pointer (some ⟨w.heap.size,0,none⟩) else σ r) lim ⟨st.env,st.tbl.put [(n,.live (.box cs))]⟩ tmps (w.alloc (.cells vs.toArray T)) ∧
  Ext w lim (w.alloc (.cells vs.toArray T)) lim:=by
 refine h.newblk (by simp) (fun k hk => Below.heap_alloc' w _ k hk) ⟨rfl,rfl,rfl⟩ hn rfl (fun hE hσ => ?_) hk
 simp only [RR]
 refine ⟨w.heap.size,vs.toArray,T,by simp,heap_alloc_new w _,?_,h.lz _ (Jj _)⟩
 exact ZA.mono hE hσ _ _ hk hc
theorem RelW.reword (h:RelW G σ lim st tmps w) {r:Nat} {x y:Res} (hr:st.tbl r = .live x) (hk:Ze st.tbl (ZL r y)) (hy:RR σ w lim r y):RelW G σ lim ⟨st.env,st.tbl.put [(r,.live y)]⟩ tmps w:=by
 have hlr:Zw (st.tbl r) = true:=by rw [hr]; rfl
 have hnf:∀ s,Zm [(r,RS.live y)] s ≠ some .fresh:=by grind [Zm]
 have hl:∀ s z,Zm [(r,RS.live y)] s = some (.live z) → s = r ∧ z = y:=by
  intro s z hs
  rw [Zb] at hs
  grind [Zm]
 refine h.noput (v:=.dead) (x:=undef) (Upd.dead (Ext.refl _ _) h.lz ⟨rfl,rfl,rfl⟩ (fun _ _ => rfl) (fun _ _ _ _ _ => ⟨rfl,rfl⟩) ?_ ?_ ?_ (fun _ _ _ => rfl) (fun _ _ _ => rfl) hnf (by simp [RA]) (by simp [Za,Ze]))
 ·intro s z hs
  obtain ⟨rfl,rfl⟩:=hl s z hs
  exact ⟨hy,hk.put hnf⟩
 ·intro r1 r2 z b hs hl2 hb1 hb2
  obtain ⟨rfl,rfl⟩:=hl r1 z hs
  rw [Zf] at hl2
  split at hl2
  ·rename_i e; exact e.symm
  ·exact h.inj r2 r1 b hl2 hlr hb2 hb1
 ·intro s z b hs hb
  obtain ⟨rfl,rfl⟩:=hl s z hs
  exact h.own s b hlr hb
theorem Zmz {T:ZF} {n:Nat} {x y:RS}:(T.put [(n,x)]).put [(n,y)] = T.put [(n,y)]:=by
 funext r
 simp only [ZF.put,Zb]
 grind
theorem Zhx (h:RelW G σ lim st tmps w) {base:Nat} {T:TypeId} {l l':List Nat} {e:Eff} (hm:(Zcy C base T).run st.tbl l = some (e,l')) :
  Qb C G st tmps w (J9 T true (.tuple #[])) e:=by
 unfold Zcy at hm
 cases hz:zeroCells C.P T with
 | none => simp [hz,M.run] at hm
 | some zs =>
  simp only [hz] at hm
  obtain ⟨hf,l2,hm⟩:=X9 hm
  obtain ⟨rfl,_⟩:=M.run_ret hm
  obtain ⟨z,hz1,hz2⟩:=Wn hz w
  obtain ⟨h1,h2⟩:=Zip h hf (T:=T) (Zbf zs) (by intro r hr; rw [Zdr] at hr; cases hr)
  cases hg:((C.live 0).any (Ja T) && ZbE zs) with
  | false =>
   have e0:XA C base T zs = zs.map fun v => .val (.v v):=by simp only [XA,hg,cond_false]
   rw [e0]
   refine ⟨_,_,_,_,?_,h1,by simp only [RA]; exact ⟨w.heap.size,by simp,rfl⟩,?_⟩
   ·simp [J9,hz1,newVar,newRow,← hz2]
   ·intro r hr; grind [Za,Zf]
  | true =>
   have e0:XA C base T zs = .me base T :: (zs.drop 1).map fun v => .val (.v v):=by simp only [XA,hg,cond_true]
   rw [e0]
   simp only [Jh] at hg
   obtain ⟨x,rfl⟩:∃ x,zs = [.pointer none,x]:=by
    have:=hg.2
    unfold ZbE at this
    grind
   have hr1:(st.tbl.put [(base,.live (.box (List.map (fun v => AV.val (.v v)) [.pointer none,x])))]) base = .live (.box (List.map (fun v => AV.val (.v v)) [.pointer none,x])):=by simp [Zf]
   obtain ⟨q1,q2⟩:=h1.res base _ hr1
   have h3:=h1.reword (r:=base) (y:=.box [.me base T,.val (.v x)]) hr1 (by
     intro r hr
     grind [ZL,Zd,Za]) (by
     simp only [RR] at q1 ⊢
     obtain ⟨b,vs,U,e1,e2,e3,e4⟩:=q1
     refine ⟨b,vs,U,e1,e2,?_,e4⟩
     have hb:b = w.heap.size:=by simp at e1; exact e1.symm
     have hU:U = T:=by
      subst hb
      have e5:(w.alloc (Obj.cells [Value.pointer none,x].toArray T)).heap[w.heap.size]? = some (Obj.cells [Value.pointer none,x].toArray T):=heap_alloc_new w _
      simp_all
     match hvs:vs.toList,e3 with
     | [v0,v1],e3 =>
      simp_all [JS,List.map_nil,ZA,RA,RP,and_true,Z8,e2,hU])
   simp only at h3
   rw [Zmz] at h3
   refine ⟨_,_,_,_,?_,h3,by simp only [RA]; exact ⟨w.heap.size,by simp,rfl⟩,?_⟩
   ·simp [J9,hz1,newVar,newRow,← hz2]
   ·intro r hr; grind [Za,Zf]
theorem ZkK (h:RelW G σ lim st tmps w) {base:Nat} {T:TypeId} {a:AV} {v:Value} {l l':List Nat} {e:Eff} (hm:(Zhu base a).run st.tbl l = some (e,l'))
  (ha:RA σ w lim a v) (hk:Ze st.tbl (Za a)):Qb C G st tmps w (Instr.box T v) e:=by
 unfold Zhu at hm
 cases hc:a.cells? with
 | none => simp [hc,M.run] at hm
 | some cs =>
  simp only [hc] at hm
  obtain ⟨hf,l2,hm⟩:=X9 hm
  obtain ⟨rfl,_⟩:=M.run_ret hm
  obtain ⟨ws,h1,h2,_⟩:=Zal hc ha
  obtain ⟨h3,h4⟩:=Zip h hf (T:=T) h2 (Kh hc hk)
  refine ⟨_,_,_,_,?_,h3,by simp only [RA]; exact ⟨w.heap.size,by simp,rfl⟩,?_⟩
  ·simp [Instr.box,newVar,newRow,h1]
  ·intro r hr; grind [Za,Zf]
theorem Zcu {t:Ty} {rest:List Value} : {xs:List t.den} → {css:List (List Value)} → Zv (Rt w lim t) xs css → ∀ i (h:i < xs.length),
  Rt w lim t xs[i] (((css.flatten ++ rest).drop (i * t.size)).take t.size)
 | x :: xs,c :: css,h,0,_ => by
  have hl:=Rt.length h.1
  simp only [List.getElem_cons_zero,Nat.zero_mul,List.drop_zero,J3,Jv]
  rw [List.take_append_of_le_length (by omega),List.take_of_length_le (by omega)]
  exact h.1
 | x :: xs,c :: css,h,i + 1,hi => by
  have hl:=Rt.length h.1
  simp only [List.getElem_cons_succ,J3,Jv]
  rw [Jg,Jq,Nat.add_comm,← JF,← hl,JN,hl]
  exact Zcu h.2 i (by simpa using hi)
 | [],_,_,i,hi => by simp at hi
 | _ :: _,[],h,_,_ => h.elim
theorem ZaE (h:RelW G σ lim st tmps w) {n:Nat} (hn:st.tbl n = .fresh) {t:Ty} {xs:List t.den} {vs:Array Value} {T:TypeId} {fz:Nat × Nat} {w':World} {cap:Nat} (sh:Bool)
  (hs:w'.heap.size = w.heap.size + 1) (hold:∀ k,k < w.heap.size → w'.heap[k]? = w.heap[k]?) (hnew:w'.heap[w.heap.size]? = some (.cells vs T fz))
  (hsame:w'.os = w.os ∧ w'.tape = w.tape ∧ w'.output = w.output) (hsz:0 < t.size) (hc:xs.length ≤ cap) (hcap:cap * t.size ≤ vs.size)
  (hfz:Fit t T vs.size fz) {css:List (List Value)} (hx:Zv (Rt w lim t) xs css) {rest:List Value} (hv:vs.toList = css.flatten ++ rest) :
  RelW G (fun r => if r = n then .slice (some ⟨w.heap.size,0,none⟩) xs.length cap else σ r) lim ⟨st.env,st.tbl.put [(n,.live (.arr t xs sh))]⟩ tmps w' ∧ Ext w lim w' lim:=by
 refine h.newblk hs hold hsame hn rfl (fun hE hσ => ?_) (by intro r hr; cases hr)
 simp only [RR]
 refine ⟨hsz,.inr ⟨w.heap.size,0,cap,vs,T,fz,by simp,hc,hnew,by omega,hfz,fun i hi => ?_,by have:=h.lz _ (Jj w.heap.size); cases sh <;> simp [this]⟩⟩
 rw [Nat.zero_add,hv]
 exact (Zcu hx i hi).mono hE
theorem Wl {n:Nat} {σ':QM} {w':World} {lim':Nat → Nat} {x:Value} {A:Option Addr} {len cap:Nat} (hx:x = .slice A len cap) (hs:σ' n = x):RA σ' w' lim' (.own n) x:=by
 grind [RA]
theorem Qa {T:ZF} {n:Nat} {y:Res} (h:T n = .live y):Ze T (Za (.own n)):=by
 intro r hr; grind [Za]
theorem Zd2 {ρ:Operand → Value}:(L:List (Nat × Operand)) → (as:List AV) → ZA σ w lim as (L.map fun p => ρ p.2) →
  Zv (fun (p:Nat × AV) (q:Nat × Value) => p.1 = q.1 ∧ RA σ w lim p.2 q.2) ((L.map (·.1)).zip as) (L.map fun p => (p.1,ρ p.2))
 | [],[],_ => trivial
 | p :: L,a :: as,ha => by
  simp only [JS,ZA] at ha
  exact ⟨⟨rfl,ha.1⟩,Zd2 L as ha.2⟩
 | [],_ :: _,h => by simp [ZA] at h
 | _ :: _,[],h => by simp [ZA] at h
theorem ZhE (h:RelW G σ lim st tmps w) {T:TypeId} {ps:Array (Nat × Operand)} {as:List AV} {ρ:Operand → Value} {l l':List Nat} {e:Eff}
  (hm:(Zcz C T (ps.toList.map (·.1)) as).run st.tbl l = some (e,l')) (ha:ZA σ w lim as (ps.toList.map fun p => ρ p.2)) (hk:∀ a ∈ as,Ze st.tbl (Za a)) :
  Qb C G st tmps w (Va T (ps.map fun (i,x) => (i,ρ x))) e:=by
 unfold Zcz KO at hm
 cases hz:zeroCells C.P T with
 | none => simp [hz,M.run] at hm
 | some zs =>
  cases hu:C.P.underlying T with
  | none => simp [hz,hu,M.run] at hm
  | some d =>
   cases d with
   | struct fs =>
    simp only [hz,hu] at hm
    obtain ⟨hg,hm⟩:=M.run_guard hm
    cases hf:Kr (ZfZ C fs) (zs.map fun v => .val (.v v)) ((ps.toList.map (·.1)).zip as) with
    | none => simp [hf,M.run] at hm
    | some cs =>
     simp only [hf] at hm
     obtain ⟨rfl,_⟩:=M.run_ret hm
     obtain ⟨z,hz1,hz2⟩:=Wn hz w
     have hall:=Zd2 ps.toList as ha
     obtain ⟨us,h1,h2⟩:=Kt _ _ _ _ hf hall (Zbf zs)
     refine Qb.quiet h ⟨.agg us.toArray,?_,by simp only [RA]; exact ⟨us,rfl,h2⟩,?_,rfl⟩
     ·have hpl:=Zax (P:=C.P) fs.toList w (fun f hf => by
       have:=Vg.1 hg f hf
       exact VD.1 this)
      have hplace:(fun i => (fs.toList.map fun f => (f.offset,C.P.cellsOf f.type))[i]?) = ZfZ C fs:=by
       grind [ZfZ]
      have hzs:zs.toArray = z.cells:=by rw [← hz2]
      simp_all [Va,Sem.run_bind,hz1,Result.andThen_ok,run_underlying hu,bind_pure_comp,Array.mapM_eq_mapM_toList,Sem.run_map,List.getElem?_toArray,hplace,JY]
     ·simp only [Za]
      refine Ks _ _ hf (by intro r hr; rw [Zdr] at hr; cases hr) (fun p hp => ?_)
      exact hk p.2 (Vz hp).2
   | array n ee =>
    simp only [hz,hu] at hm
    obtain ⟨hg,hm⟩:=M.run_guard hm
    obtain ⟨i,hi⟩:=VD.1 hg
    cases hf:Kr (fun i => some (i * C.P.cellsOf ee,C.P.cellsOf ee)) (zs.map fun v => .val (.v v)) ((ps.toList.map (·.1)).zip as) with
    | none => simp [hf,M.run] at hm
    | some cs =>
     simp only [hf] at hm
     obtain ⟨rfl,_⟩:=M.run_ret hm
     obtain ⟨z,hz1,hz2⟩:=Wn hz w
     have hall:=Zd2 ps.toList as ha
     obtain ⟨us,h1,h2⟩:=Kt _ _ _ _ hf hall (Zbf zs)
     refine Qb.quiet h ⟨.agg us.toArray,?_,by simp only [RA]; exact ⟨us,rfl,h2⟩,?_,rfl⟩
     ·have hzs:zs.toArray = z.cells:=by rw [← hz2]
      simp_all [Program.cellsOf,hi,Va,Sem.run_bind,hz1,Result.andThen_ok,run_underlying hu,sizeOf,typeInfo,run_program,Sem.run_pure,JY]
     ·simp only [Za]
      refine Ks _ _ hf (by intro r hr; rw [Zdr] at hr; cases hr) (fun p hp => ?_)
      exact hk p.2 (Vz hp).2
   | _ => simp [hz,hu,M.run] at hm
theorem Xx {P:Program} {T e:TypeId} {t:Ty} (he:QV P T = some (e,t)):∃ i,P.info? e = some i ∧ i.size = t.size ∧ P.bytesOf e = i.bytes:=by
 obtain ⟨hu,ht,hs⟩:=Qc he
 obtain ⟨d,hd⟩:=QO ht
 obtain ⟨i,hi⟩:=Y6 hd
 simp_all [Program.cellsOf,hi,Program.bytesOf]
theorem ZgM {sz:Nat}:∀ (css:List (List Value)) (qs:List (Nat × Value)) (k:Nat) (pre rest:List Value),
  (∀ c ∈ css,c.length = sz) → pre.length = k * sz → rest.length = css.length * sz → qs.map (·.1) = List.range' k css.length → Zv (fun c (q:Nat × Value) => q.2.cells = c.toArray) css qs →
  Jx (fun i => some (i * sz,sz)) (pre ++ rest).toArray qs = some (pre ++ css.flatten).toArray
 | [],[],k,pre,rest,_,_,hr,_,_ => by
  simp_all [Jx]
 | c :: css,(i,v) :: qs,k,pre,rest,hc,hp,hr,hi,hq => by
  simp only [JS,JG,VA,J1.injEq] at hi
  obtain ⟨rfl,hi⟩:=hi
  have hcl:=hc c (Jm ..)
  have hv:=hq.1
  simp only at hv
  have hrl:sz ≤ rest.length:=by rw [hr,JG,Jg]; omega
  simp only [Jx,hv]
  rw [if_neg (by simp [hcl,hp]; omega)]
  have:=ZeL c 0 (pre ++ rest).toArray (i * sz) (by simp [hp]; omega)
  simp only [JI] at this
  rw [show (Array.foldl (fun cs x => cs.setIfInBounds (i * sz + x.2) x.1) (pre ++ rest).toArray c.toArray.zipIdx) = (List.foldl (fun cs x => cs.setIfInBounds (i * sz + x.2) x.1) (pre ++ rest).toArray c.zipIdx) by
   simp_all]
  rw [this]
  have e1:((pre ++ rest).take (i * sz) ++ c ++ (pre ++ rest).drop (i * sz + c.length)) = (pre ++ c) ++ rest.drop sz:=by
   rw [← hp,Vk,hcl,← JF,JN]
  rw [e1]
  have ih:=ZgM css qs (i + 1) (pre ++ c) (rest.drop sz) (fun c' h' => hc c' (Jo _ h')) (by simp [hp,hcl,Jg])
   (by simp [hr,Jg]) hi hq.2
  rw [ih]
  simp
 | [],_ :: _,_,_,_,_,_,_,hi,_ => by simp at hi
 | _ :: _,[],_,_,_,_,_,_,hi,_ => by simp [VA] at hi
theorem Zj8 (o:Nat):¬ (((0:Nat),(0:Nat)).1 ≤ o ∧ o < ((0:Nat),(0:Nat)).2):=by simp
theorem Qn : {u:Qh} → {r:Nat} → {z:RS} → Zm u r = some z → (r,z) ∈ u
 | [],_,_,h => by simp [Zm] at h
 | (a,b) :: u,r,z,h => by
  rw [Zb] at h
  split at h
  ·simp_all
  ·exact Jo _ (Qn h)
theorem Wx.fresh {T:ZF} {u:Qh} (s:Wx T u) {n:Nat} (hf:T n = .fresh):T.put u n = .fresh:=by
 cases hl:Zm u n with
 | none => simp [ZF.put,hl,hf]
 | some z =>
  obtain ⟨t',ys,sh,_,h4⟩:=s _ (Qn hl)
  simp_all
theorem ZcR {t:Ty} {ρ:Operand → Value}:(L:List (Nat × Operand)) → (xs:List t.den) → Zv (fun x v => ∃ cs,Rt w lim t x cs ∧ v.cells = cs.toArray) xs (L.map fun p => ρ p.2) →
  ∃ css:List (List Value),Zv (Rt w lim t) xs css ∧ Zv (fun c (q:Nat × Value) => q.2.cells = c.toArray) css (L.map fun p => (p.1,ρ p.2))
 | [],[],_ => ⟨[],trivial,trivial⟩
 | p :: L,x :: xs,hd => by
  simp only [JS] at hd
  obtain ⟨⟨c,e1,e2⟩,hd⟩:=hd
  obtain ⟨css,e3,e4⟩:=ZcR L xs hd
  exact ⟨c :: css,⟨e1,e3⟩,⟨e2,e4⟩⟩
 | [],_ :: _,h => h.elim
 | _ :: _,[],h => h.elim
theorem Zjl {t:Ty} : {xs:List t.den} → {css:List (List Value)} → Zv (Rt w lim t) xs css → ∀ c ∈ css,c.length = t.size
 | [],[],_,_,h => by cases h
 | _ :: _,c :: css,k,c',h => by
  cases h with
  | head => exact Rt.length k.1
  | tail _ h => exact Zjl k.2 c' h
 | [],_ :: _,k,_,_ => k.elim
 | _ :: _,[],k,_,_ => k.elim
theorem Zch (h:RelW G σ lim st tmps w) {base:Nat} {T:TypeId} {len:Nat} {ps:Array (Nat × Operand)} {as:List AV} {ρ:Operand → Value} {l l':List Nat} {e:Eff}
  (hm:(X4 C base T len (ps.toList.map (·.1)) as).run st.tbl l = some (e,l')) (ha:ZA σ w lim as (ps.toList.map fun p => ρ p.2)) :
  Qb C G st tmps w (Vn T len (ps.map fun (i,x) => (i,ρ x))) e:=by
 unfold X4 at hm
 cases he:QV C.P T with
 | none => simp [he,M.run] at hm
 | some q =>
  obtain ⟨ee,t⟩:=q
  simp only [he] at hm
  obtain ⟨hg,hm1⟩:=M.run_guard hm
  clear hm
  simp only [Jh,beq_iff_eq] at hg
  obtain ⟨⟨⟨g1,gz⟩,g2'⟩,g3'⟩:=hg
  have g2:=Ju g2'
  have gk:=(Xa g3').2
  have g3:=(Xa g3').1
  clear g2' g3'
  obtain ⟨⟨xs,u⟩,l1,h1,h2⟩:=M.run_bind_some hm1
  simp only at h2
  obtain ⟨hxl',h3⟩:=M.run_guard h2
  have hxl:=ZC hxl'
  obtain ⟨hf,l2,h4⟩:=X9 h3
  obtain ⟨rfl,_⟩:=M.run_ret h4
  clear h2 h3 h4 hm1 hxl'
  obtain ⟨s1,k1⟩:=Zew (σ:=σ) h1
  obtain ⟨lim1,hR,hE,hsh⟩:=RelW.shows u h s1
  obtain ⟨css,hcss,hcells⟩:=ZcR _ _ (k1 w lim _ ha lim1 hE hsh)
  have hcl:css.length = len:=by rw [← hcss.length,hxl]
  obtain ⟨i,hi,his,_⟩:=Xx he
  obtain ⟨hu,ht,hs⟩:=Qc he
  have hflat:=ZN hcss
  obtain ⟨hN,hE2⟩:=ZaE hR (st:=⟨st.env,st.tbl.put u⟩) (s1.fresh hf) (w':=w.alloc (.cells css.flatten.toArray ee)) (T:=ee) (vs:=css.flatten.toArray) (fz:=(0,0)) (cap:=xs.length) false
   (by simp) (fun k hk => heap_alloc_old w _ k hk) (heap_alloc_new w _) ⟨rfl,rfl,rfl⟩ g3 (Jj _) (by simp_all) ⟨fun o _ => Zj8 o,gk,Jj _,by rw [VB,hflat]; exact Jk _ (by rw [hxl]; have:=Nat.mul_le_mul_left len g3; omega)⟩ hcss (rest:=[]) (by simp)
  refine ⟨.slice (some ⟨w.heap.size,0,none⟩) xs.length xs.length,_,_,_,?_,by rw [WU]; exact hN,Wl rfl (by simp),Qa (y:=.arr t xs false) (by rw [ZT]; simp)⟩
  have hlen0:¬ (2 ^ 24 < len * i.size):=by rw [his]; omega
  have hfill:∀ zs:List Value,zs.length = len * t.size → Jx (fun j => some (j * t.size,t.size)) zs.toArray (ps.toList.map fun p => (p.1,ρ p.2)) = some css.flatten.toArray:=by
   intro zs hz
   have:=ZgM (sz:=t.size) css (ps.toList.map fun p => (p.1,ρ p.2)) 0 [] zs (Zjl hcss) (by simp) (by rw [hz,hcl])
    (by rw [List.map_map,hcl]; rw [show ((fun x:Nat × Value => x.1) ∘ fun p:Nat × Operand => (p.1,ρ p.2)) = (·.1) from rfl,g1,List.range_eq_range']) hcells
   simpa using this
  have hz0:∃ z,(zeroValue ee).run C.P w = .ok z w:=by
   cases hzz:zeroCells C.P ee with
   | none => simp [hzz] at gz
   | some zs => obtain ⟨z,hz,_⟩:=Wn hzz w; exact ⟨z,hz⟩
  obtain ⟨z,hz⟩:=hz0
  simp only [Vn,Sem.run_bind,run_underlying hu,Result.andThen_ok,sizeOf,typeInfo,run_program,hi,Sem.run_pure,Sem.run_ite,gt_iff_lt]
  rw [if_neg hlen0]
  simp only [his,JY]
  have e2:List.map (fun x => (x.1,ρ x.2)) ps.toList = ps.toList.map fun p => (p.1,ρ p.2):=rfl
  by_cases h0:len * t.size = 0
  ·have:len = 0:=by
    rcases Nat.mul_eq_zero.1 h0 with h | h
    ·exact h
    ·omega
   subst this
   have hx0:xs = []:=JO hxl
   have hc0:css = []:=JO hcl
   subst hx0; subst hc0
   have:=hfill [] (by simp)
   simp only [Vs] at this
   have hr0:∀ f:Nat → Value,Array.map f (JX 0) = [].toArray:=fun f => by simp
   simp only [hr0,Nat.zero_mul,if_true,Sem.run_pure,Result.andThen_ok,this]
   simp [newRow]
  simp_all [hz,Result.andThen_ok,J7,newRow,hxl]
theorem Zcx (z:List Value) (hz:0 < z.length):∀ n,(List.range (n * z.length)).map (fun x => z.toArray[x % z.length]!) = (Jd n z).flatten
 | 0 => by simp
 | n + 1 => by
  rw [Jg,Jq,List.range_add,List.map_append,Zcx z hz n,List.replicate_succ',Vr]
  congr 1
  simp only [List.map_map,J3,Vs,Vh]
  apply Js
  intro i
  simp only [Vi]
  by_cases h:i < z.length
  ·simp_all [Nat.mod_eq_of_lt h,h]
  simp_all
theorem Zjn {t:Ty} {zs:List Value} {z:t.den} (h:XG t (zs.map .v) = some z):Rt w lim t z zs:=by
 refine Yw h ?_
 clear h
 induction zs with
 | nil => trivial
 | cons v l ih => exact ⟨rfl,ih⟩
theorem QT {α β:Type} {R:α → β → Prop} {a:α} {b:β} (h:R a b):∀ n,Zv R (Jd n a) (Jd n b)
 | 0 => trivial
 | n + 1 => ⟨h,QT h n⟩
theorem Qu {n:Int} (h0:0 ≤ n) (h1:n < 4294967296):Jy.wrap n = n:=by
 simp [IntKind.wrap,IntKind.bits,IntKind.signed]; omega
theorem Zj4 (h:RelW G σ lim st tmps w) {base:Nat} {T:TypeId} {a b:AV} {vl vc:Value} {l l':List Nat} {e:Eff}
  (hm:(Ze3 C base T a b).run st.tbl l = some (e,l')) (ha:RA σ w lim a vl) (hb:RA σ w lim b vc):Qb C G st tmps w (Vo T vl vc) e:=by
 unfold Ze3 at hm
 split at hm
 ·rename_i ll cc
  simp only [RA,RP] at ha hb; subst ha; subst hb
  cases he:QV C.P T with
  | none => simp [he,M.run] at hm
  | some q =>
   obtain ⟨ee,t⟩:=q
   simp only [he] at hm
   obtain ⟨hg,hm1⟩:=M.run_guard hm
   simp only [Jh] at hg
   have g1:=Ju hg.1
   have gk:=(Xa hg.2).2
   have g2:=(Xa hg.2).1
   cases hz:zeroCells C.P ee with
   | none => simp [hz,M.run] at hm1
   | some zs =>
    simp only [hz] at hm1
    cases ho:XG t (zs.map .v) with
    | none => simp [ho,M.run] at hm1
    | some z =>
     simp only [ho] at hm1
     obtain ⟨hn,hm2⟩:=M.run_need hm1
     obtain ⟨h0,h1,h2⟩:=of_decide_eq_true hn
     obtain ⟨hf,l2,hm3⟩:=X9 hm2
     obtain ⟨rfl,_⟩:=M.run_ret hm3
     obtain ⟨i,hi,his,hib⟩:=Xx he
     obtain ⟨hu,ht,hs⟩:=Qc he
     obtain ⟨zv,hz1,hz2⟩:=Wn hz w
     have hrz:=Zjn (w:=w) (lim:=lim) ho
     have hzl:=Rt.length hrz
     obtain ⟨L,rfl⟩:=Vq h0
     obtain ⟨N,rfl⟩:=Vq (show 0 ≤ cc by omega)
     have hLN:L ≤ N:=by omega
     have hcells:((JX (N * t.size)).map (fun x => zv.cells[x % zv.cells.size]!)).toList = (Jd L zs).flatten ++ (Jd (N - L) zs).flatten:=by
      have hsz:zv.cells.size = zs.length:=by rw [← hz2]; simp
      have:=Zcx zs (by omega) N
      rw [← Vr,List.replicate_append_replicate,show L + (N - L) = N by omega,← this,hzl]
      simp only [JY,Array.toList_range,hsz,hzl]
      rw [← hz2]
     obtain ⟨hN,hE2⟩:=ZaE h hf (w':=w.alloc (.cells ((JX (N * t.size)).map (fun x => zv.cells[x % zv.cells.size]!)) ee)) (T:=ee) (fz:=(0,0)) (cap:=N) (xs:=Jd L z) false
      (by simp) (fun k hk => heap_alloc_old w _ k hk) (heap_alloc_new w _) ⟨rfl,rfl,rfl⟩ g2 (by simpa using hLN) (by simp) ⟨fun o _ => Zj8 o,gk,Jj _,by simp only [Array.size_map,Array.size_range]; exact Jk _ (by omega)⟩ (QT hrz L) hcells
     refine ⟨.slice (some ⟨w.heap.size,0,none⟩) L N,_,_,_,?_,hN,Wl rfl (by simp),Qa (y:=.arr t (Jd L z) false) (by rw [ZT]; simp)⟩
     have hmul:(i.bytes:Int) * (N:Int) ≤ 281474976710656:=by
      rw [← hib]
      have h3:C.P.bytesOf ee * N ≤ 65536 * 4294967295:=J5 g1 (by omega)
      omega
     have w1:Jy.wrap (L:Int) = L:=Qu (by omega) (by omega)
     have w2:Jy.wrap (N:Int) = N:=Qu (by omega) (by omega)
     have hc0:¬ ((N:Int) < 0):=by omega
     have hl0:¬ ((L:Int) < 0):=by omega
     have hlc:¬ ((N:Int) < (L:Int)):=by omega
     have hbig:¬ (281474976710656 < (i.bytes:Int) * (N:Int)):=by omega
     simp only [Vo,Sem.run_bind,run_underlying hu,Result.andThen_ok,asInt,asIntOf,Sem.run_pure,typeInfo,run_program,hi,w1,w2]
     simp only [Int.reducePow,decide_eq_true_eq,Bool.or_eq_true,hc0,hl0,hlc,hbig,gt_iff_lt,or_self,decide_false,JK,if_false,Sem.run_bind,run_askRoom,Result.andThen_ok,sizeOf,typeInfo,run_program,hi,Sem.run_pure,Int.toNat_natCast,his,Sem.run_ite,hz1]
     by_cases hN0:N * t.size = 0
     ·have hr0:∀ f:Nat → Value,Array.map f (JX 0) = #[]:=fun f => by simp
      rw [if_pos hN0,hN0]
      simp only [hr0,Result.andThen_ok]
      simp [newRow]
     ·simp [hN0,newRow]
 ·simp [M.run] at hm
theorem Zjm (s:ByteArray):Zv (Rt w lim (.int .u8)) (Zx s) ((Zx s).map fun n => [Jw .u8 n]):=by
 generalize Zx s = L
 induction L with
 | nil => trivial
 | cons n L ih => exact ⟨rfl,ih⟩
theorem ZeI (L:List Int):(L.map fun n => [Jw .u8 n]).flatten = L.map (Jw .u8):=by
 induction L with
 | nil => rfl
 | cons n L ih => simp [ih]
theorem Zge (h:RelW G σ lim st tmps w) {base:Nat} {src dst el:TypeId} {s:ByteArray} (hs:C.P.underlying src = some .string) (hd:C.P.underlying dst = some (.slice el))
  (hb:Y0 C.P el = true) (hbk:Ja el Zkp = true) (hf:st.tbl base = .fresh) (_hsz:s.size < 1099511627776) :
  Qb C G st tmps w (convert src dst (.string s)) ⟨.own base,[(base,.live (.arr (.int .u8) (Zx s) false))]⟩:=by
 obtain ⟨hu,_⟩:=Zak hb
 have hr:=Lib.run_convert_string_bytes (P:=C.P) w src dst el s hs hd hu
 have hge:=grownCap_ge w s.size 0 el
 have hnl:(Zx s).length = s.size:=by simp [Zx]
 obtain ⟨hN,hE2⟩:=ZaE h hf (w':=Lib.bytesWorld w el s) (t:=.int .u8) (T:=el) (vs:=Lib.bytesCells w el s) (fz:=((Lib.bytesCells w el s).size,(Lib.bytesCells w el s).size + 1)) (cap:=grownCap w s.size 0 el) (xs:=Zx s) false
  (Lib.bytesWorld_size w el s) (fun k hk => Lib.bytesWorld_at_old w el s k hk) (Lib.bytesWorld_at_new w el s) ⟨by rfl,by rfl,by rfl⟩
  (by simp [Ty.size]) (by rw [hnl]; exact hge) (by simp [Ty.size,Lib.bytesCells]; omega) ⟨fun o ho => by simp only; omega,hbk,Nat.le_succ _,by have:=grownCap_le_maxLen w s.size 0 el (by simp only [maxLen]; omega); simp only [maxLen] at this; simp [Ty.size,Lib.bytesCells]; omega⟩ (Zjm s) (rest:=(Array.replicate (grownCap w s.size 0 el - s.size) (Jw .u8 0)).toList)
  (by rw [ZeI]; simp [Lib.bytesCells,Zx])
 rw [hnl] at hN
 exact ⟨_,_,_,_,hr,hN,Wl rfl (by simp),Qa (y:=.arr (.int .u8) (Zx s) false) (by rw [ZT]; simp)⟩
end Go.Sh
namespace Go.Sh
open Go
variable [Gl]
variable {C:Ctx} {G:Glob} {σ:QM} {w:World} {lim:Nat → Nat} {st:St} {tmps:Array Value}
theorem Wy {o:Option AV} {d:Int} {k:Int → M Eff} {tbl:ZF} {l l':List Nat} {e:Eff} (hm:(Kg o d k).run tbl l = some (e,l')) :
  (o = none ∧ (k d).run tbl l = some (e,l')) ∨ ∃ kk n,o = some (.val (.v (.int kk n))) ∧ (k n).run tbl l = some (e,l'):=by
 unfold Kg at hm
 split at hm
 ·exact .inl ⟨rfl,hm⟩
 ·exact .inr ⟨_,_,rfl,hm⟩
 ·exact (M.run_fail hm).elim
def Zgi (σ:QM) (w:World) (lim:Nat → Nat):Option AV → Option Value → Prop
 | none,none => True
 | some a,some v => RA σ w lim a v
 | _,_ => False
theorem Xb {P:Program} {kk:IntKind} {n:Int} {y:Nat} {code:BoundsCode} (h0:0 ≤ n) (h1:n ≤ y) (w:World):(Vp (.int kk n) y code).run P w = .ok n.toNat w:=by
 simp [Vp,asIntOf,h0,h1]
theorem Zaw {P:Program} {s:Bool} {len cap:Nat} {lo hi:Option AV} {vlo vhi:Option Value} {l h:Int} (hlo:Zgi σ w lim lo vlo) (hhi:Zgi σ w lim hi vhi)
  (el:lo = none ∧ l = 0 ∨ ∃ kk,lo = some (.val (.v (.int kk l)))) (eh:hi = none ∧ h = len ∨ ∃ kk,hi = some (.val (.v (.int kk h)))) (h0:0 ≤ l) (h1:l ≤ h) (h2:h ≤ len) (h3:len ≤ cap) (w:World) :
  (Ve s len cap vlo vhi none).run P w = .ok (l.toNat,h.toNat,cap) w:=by
 have e1:(vlo = none ∧ l = 0) ∨ ∃ kk,vlo = some (.int kk l):=by
  rcases el with ⟨rfl,e⟩ | ⟨kk,rfl⟩
  ·cases vlo with
   | none => exact .inl ⟨rfl,e⟩
   | some v => exact hlo.elim
  ·cases vlo with
   | none => exact hlo.elim
   | some v => grind [Zgi,RA,RP]
 have e2:(vhi = none ∧ h = len) ∨ ∃ kk,vhi = some (.int kk h):=by
  rcases eh with ⟨rfl,e⟩ | ⟨kk,rfl⟩
  ·cases vhi with
   | none => exact .inl ⟨rfl,e⟩
   | some v => exact hhi.elim
  ·cases vhi with
   | none => exact hhi.elim
   | some v => grind [Zgi,RA,RP]
 have hh:h ≤ cap:=by omega
 have hlh:l ≤ (h.toNat:Int):=by omega
 rcases e1 with ⟨rfl,rfl⟩ | ⟨kl,rfl⟩ <;> rcases e2 with ⟨rfl,rfl⟩ | ⟨kh,rfl⟩ <;> simp [Ve]
 ·rw [Xb (by omega) hh]; simp
 ·rw [Xb h0 (by omega)]; simp
 ·rw [Xb (by omega) hh]; simp only [Result.andThen_ok]; rw [Xb h0 hlh]; simp
theorem ZbV {P:Program} {T el:TypeId} {d:TypeDesc} (hu:P.underlying T = some (.slice el)) (hd:P.underlying el = some d) {A:Option Addr} {n cap l h:Nat} {vlo vhi:Option Value} {w:World}
  (hb:(Ve true n cap vlo vhi none).run P w = .ok (l,h,cap) w) :
  (JL T (.slice A n cap) vlo vhi none).run P w = .ok (.slice (if cap = l then A else A.map (·.add (l * P.cellsOf el))) (h - l) (cap - l)) w:=by
 simp only [JL,Sem.run_bind,run_underlying hu,Result.andThen_ok,Instr.slice,hb,Z2 hd,Sem.run_pure]
theorem ZmM (h:RelW G σ lim st tmps w) {T:TypeId} {x:AV} {v:Value} {lo hi:Option AV} {vlo vhi:Option Value} {l l':List Nat} {e:Eff}
  (hm:(Zhw C T x lo hi).run st.tbl l = some (e,l')) (ha:RA σ w lim x v) (hlo:Zgi σ w lim lo vlo) (hhi:Zgi σ w lim hi vhi) :
  Qb C G st tmps w (JL T v vlo vhi none) e:=by
 unfold Zhw at hm
 split at hm
 ·rename_i r ee t he
  simp only [M.run] at hm
  cases hr:st.tbl r with
  | fresh => simp [hr,M.run] at hm
  | gone => simp [hr,M.run] at hm
  | live y =>
   cases y with
   | box => simp [hr,M.run] at hm
   | nest => simp [hr,M.run] at hm
   | arr t' xs sh =>
    simp only [hr] at hm
    split at hm
    ·rename_i ht
     subst ht
     obtain ⟨hue,ht,hs⟩:=Qc he
     obtain ⟨d,hd⟩:=QO ht
     simp only [RA] at ha
     obtain ⟨rfl,_⟩:=ha
     obtain ⟨A,cap,hv,hc⟩:∃ A cap,σ r = .slice A xs.length cap ∧ xs.length ≤ cap:=by
      obtain ⟨hR,_⟩:=h.res r _ hr
      grind [RR]
     rcases Wy hm with ⟨rfl,hm2⟩ | ⟨kh,hn,rfl,hm2⟩ <;> rcases Wy hm2 with ⟨rfl,hm3⟩ | ⟨kl,ln,rfl,hm3⟩
     all_goals
      obtain ⟨hcc,hm4⟩:=M.run_need hm3
      obtain ⟨h0,h1,h3⟩:=of_decide_eq_true hcc
      obtain ⟨rfl,_⟩:=M.run_ret hm4
      have hb:=Zaw (P:=C.P) (s:=true) (len:=xs.length) (cap:=cap) hlo hhi (by simp_all) (by simp_all) h0 h1 h3 hc w
      refine Qb.quiet h ⟨_,by rw [hv]; exact ZbV hue hd hb,?_,?_,rfl⟩
      ·grind [RA]
      ·intro q hq; grind [Za,Vy]
    ·simp [M.run] at hm
 ·exact (M.run_fail hm).elim
theorem YV (h:RelW G σ lim st tmps w) {T:TypeId} {x:AV} {v:Value} {lo hi:Option AV} {vlo vhi:Option Value} {l l':List Nat} {e:Eff}
  (hm:(Yb C T x lo hi).run st.tbl l = some (e,l')) (ha:RA σ w lim x v) (hlo:Zgi σ w lim lo vlo) (hhi:Zgi σ w lim hi vhi) :
  Qb C G st tmps w (JL T v vlo vhi none) e:=by
 unfold Yb at hm
 cases hsub:ZmN C x with
 | true => rw [hsub] at hm; exact ZmM h hm ha hlo hhi
 | false =>
 rw [hsub] at hm
 simp only [cond_false] at hm
 split at hm
 ·rename_i hu
  split at hm
  ·rename_i s
   simp only [RA,RP] at ha; subst ha
   rcases Wy hm with ⟨rfl,hm2⟩ | ⟨kh,hn,rfl,hm2⟩ <;> rcases Wy hm2 with ⟨rfl,hm3⟩ | ⟨kl,ln,rfl,hm3⟩
   all_goals
    obtain ⟨hc,hm4⟩:=M.run_need hm3
    obtain ⟨h0,h1,h2⟩:=of_decide_eq_true hc
    obtain ⟨rfl,_⟩:=M.run_ret hm4
    refine Qb.quiet h ⟨_,?_,Zs,Zh,rfl⟩
    simp only [JL,Sem.run_bind,run_underlying hu,Result.andThen_ok,Instr.slice,Option.isSome_none,JK,if_false]
    rw [Zaw (s:=false) hlo hhi (by simp_all) (by simp_all) h0 h1 h2 (Jj _)]
    simp
  ·exact (M.run_fail hm).elim
 ·rename_i el hu
  cases he:QV C.P T with
  | none => simp [he,M.run] at hm
  | some q =>
   obtain ⟨ee,t⟩:=q
   simp only [he] at hm
   obtain ⟨⟨p,u⟩,l1,h1,h2⟩:=M.run_bind_some hm
   simp only at h2
   cases hp:PV.asSl t p with
   | none => simp [hp,M.run] at h2
   | some xs =>
    simp only [hp] at h2
    obtain ⟨s1,k1⟩:=ZbY (σ:=σ) h1
    obtain ⟨lim1,hR,hE,hsh⟩:=RelW.shows u h s1
    have hrt:=Zf5 hp (k1 w lim v ha lim1 hE hsh)
    obtain ⟨hue,ht,hs⟩:=Qc he
    obtain ⟨d,hd⟩:=QO ht
    rcases Wy h2 with ⟨rfl,hm2⟩ | ⟨kh,hn,rfl,hm2⟩ <;> rcases Wy hm2 with ⟨rfl,hm3⟩ | ⟨kl,ln,rfl,hm3⟩
    all_goals
     obtain ⟨hc,hm4⟩:=M.run_need hm3
     obtain ⟨h0,h1,h3⟩:=of_decide_eq_true hc
     obtain ⟨rfl,_⟩:=M.run_ret hm4
     simp only [Rt] at hrt
     obtain ⟨A,len,cap,hv,h4,h5,h6⟩:=hrt
     obtain rfl:v = .slice A len cap:=by simpa using hv
     subst h4
     have hb:=Zaw (P:=C.P) (s:=true) (len:=xs.length) (cap:=cap) hlo hhi (by simp_all) (by simp_all) h0 h1 h3 h5 w
     refine ⟨_,w,σ,lim1,ZbV hue hd hb,hR,?_,Zh⟩
     simp only [RA,RP]
     exact ZmH h6 h5 (by omega) (by omega) hs
 ·exact (M.run_fail hm).elim
theorem Z5 {P:Program} (g o:Nat) (t:TypeId) (fz:Nat × Nat):∀ (vs:List Value) (i:Nat) (cur:Array Value) (w:World),w.heap[g]? = some (.cells cur t fz) → o + i + vs.length ≤ cur.size →
  (∀ x,x < cur.size → ¬ (fz.1 ≤ x ∧ x < fz.2)) → (∀ v ∈ vs,v.oneCell' = true) →
  (storeCells ⟨g,o,none⟩ vs i).run P w = .ok () (w.setRow g (cur.toList.take (o + i) ++ vs ++ cur.toList.drop (o + i + vs.length)).toArray)
 | [],i,cur,w,hg,_,_,_ => by
  simp only [storeCells,Vh,List.length_nil,JI,List.take_append_drop,J7]
  rw [setRow_self w g cur t fz hg]
  rfl
 | v :: rest,i,cur,w,hg,hl,hf,h1 => by
  have hi:o + i < cur.size:=by simp at hl; omega
  have hadd:(⟨g,o,none⟩:Addr).add i = ⟨g,o + i,none⟩:=ZU g o i
  have hcell:w.cell? ⟨g,o + i,none⟩ = some cur[o + i]:=by simp [World.cell?,hg,hi]
  have hfro:w.frozen? ⟨g,o + i,none⟩ = false:=by
   simp_all [World.frozen?,hg]
  have hst:(store ((⟨g,o,none⟩:Addr).add i) v).run P w = .ok () (w.setRow g (cur.setIfInBounds (o + i) v)):=by
   rw [hadd,run_store P w _ v _ (h1 v (by simp)),hcell]
   simp [hfro,setCell_eq_setRow w g (o + i) cur t fz v hg]
  have ih:=Z5 (P:=P) g o t fz rest (i + 1) (cur.setIfInBounds (o + i) v) (w.setRow g (cur.setIfInBounds (o + i) v)) (setRow_heap w g cur _ t _ hg) (by simp at hl ⊢; omega)
   (fun x hx => hf x (by simpa using hx)) (fun x hx => h1 x (by simp [hx]))
  simp only [storeCells,Sem.run_bind,hst,Result.andThen_ok,ih,setRow_setRow]
  congr 2
  apply JJ
  simp only [Vl]
  apply Js
  intro j
  simp only [JP,Jz,Jp,JA,JQ,JR,J6,JG,Vw,Vv]
  grind
theorem RelW.write (h:RelW G σ lim st tmps w) {r:Nat} {x y:Res} (hr:st.tbl r = .live x) {b:Nat} (hb:blk (σ r) = some b) {vs cs:Array Value} {T:TypeId} {fz:Nat × Nat}
  (hg:w.heap[b]? = some (.cells vs T fz)) (hsame:∀ o,o < lim b → cs[o]? = vs[o]?) (hk:Ze st.tbl (ZL r y))
  (hy:Ext w lim (w.setRow b cs) lim → RR σ (w.setRow b cs) lim r y) :
  RelW G σ lim ⟨st.env,st.tbl.put [(r,.live y)]⟩ tmps (w.setRow b cs) ∧ Ext w lim (w.setRow b cs) lim:=by
 have hlr:Zw (st.tbl r) = true:=by rw [hr]; rfl
 have hE:Ext w lim (w.setRow b cs) lim:=⟨by simp,fun b' o ho => by
  by_cases e:b' = b
  ·subst e
   rw [cell_setRow_same w b' o vs cs T fz hg,hsame o ho]
   simp [World.cell?,hg]
  ·exact cell_setRow_other w b cs _ e,fun _ _ ho => ho,fun b' T' hT => by
  by_cases e:b' = b
  ·subst e
   simp_all [Z8,hg,setRow_heap w b' vs cs T fz hg]
  ·simpa [Z8,setRow_other w b b' cs e] using hT,NF.row hg (setRow_heap w b vs cs T fz hg) (fun c hc => setRow_other w b c cs hc)⟩
 refine ⟨h.noput (v:=.dead) (x:=undef) (Upd.dead hE ?_ ⟨rfl,rfl,rfl⟩ (fun _ _ => rfl) ?_ ?_ ?_ ?_ ?_ (fun _ _ _ => rfl) ?_ (by simp [RA]) (by simp [Za,Ze])),hE⟩
 ·intro b' hb'; exact h.lz b' (by simpa using hb')
 ·intro r' hl hn b' hb'
  rw [Zb] at hn
  have hne:r' ≠ r:=by intro e; simp [e] at hn
  have:b' ≠ b:=by intro e; subst e; exact hne (h.inj r' r b' hl hlr hb' hb)
  exact ⟨setRow_other w b b' cs this,rfl⟩
 ·intro r' z hl
  rw [Zb] at hl
  split at hl
  ·rename_i e; subst e
   simp at hl; subst hl
   exact ⟨hy hE,hk.put (by grind [Zm])⟩
  ·simp [Zm] at hl
 ·intro r1 r2 z b' hl hl2 hb1 hb2
  rw [Zb] at hl
  split at hl
  ·rename_i e; subst e
   rw [Zf] at hl2
   split at hl2
   ·rename_i e; exact e.symm
   ·exact h.inj r2 r b' hl2 hlr hb2 hb1
  ·simp [Zm] at hl
 ·intro r1 z b' hl hb'
  rw [Zb] at hl
  split at hl
  ·rename_i e; subst e; exact h.own r b' hlr hb'
  ·simp [Zm] at hl
 ·intro b' hb' hl
  have:b' ≠ b:=by
   intro e; subst e
   rcases h.own r b' hlr hb with h1 | h1
   ·omega
   ·exact hl h1
  exact setRow_other w b b' cs this
 grind [Zm]
theorem Znw {ws:List AV} {vs:List Value} (h:ws.all Yq = true) (hv:ZA σ w lim ws vs):∀ v ∈ vs,v.oneCell' = true:=by
 induction ws generalizing vs with
 | nil => match vs,hv with | [],_ => simp
 | cons a ws ih =>
  match vs,hv with
  | v :: vs,hv =>
   simp only [List.all_cons,Jh] at h
   simp only [ZA] at hv
   intro u hu
   cases hu with
   | tail _ hu => exact ih h.2 hv.2 u hu
   | head =>
    have h1:=h.1
    have h2:=hv.1
    cases a with
    | val p =>
     cases p with
     | v x =>
      simp only [RA,RP] at h2; subst h2
      cases v <;> first | rfl | (simp [Yq] at h1)
     | sl t xs => simp only [RA,RP] at h2; exact Yx h2
    | own r => simp only [RA] at h2; obtain ⟨_,A,l,c,rfl⟩:=h2; rfl
    | bx r k => simp only [RA] at h2; obtain ⟨b,_,rfl⟩:=h2; rfl
    | el r t i k => simp only [RA] at h2; obtain ⟨b,off,len,cap,_,rfl⟩:=h2; rfl
    | sub r t i j => simp only [RA] at h2; obtain ⟨A,len,cap,_,rfl⟩:=h2; rfl
    | sp ps => simp only [RA] at h2; obtain ⟨b,off,rfl,_⟩:=h2; rfl
    | fn f => simp only [RA] at h2; subst h2; rfl
    | ns t xs => simp only [RA] at h2; exact Yx h2.1
    | vp t xs => simp only [RA] at h2; obtain ⟨a,n,m,rfl,_⟩:=h2; rfl
    | me r T => simp only [RA] at h2; obtain ⟨p,rfl,_⟩:=h2; rfl
    | clo f l => simp only [RA] at h2; obtain ⟨vs,rfl,_⟩:=h2; rfl
    | agg l => simp [Yq] at h1
    | tup l => simp [Yq] at h1
    | dead => simp [Yq] at h1
theorem ZcE {α β:Type} {R:α → β → Prop} {l:List α} {m:List β} {a:List α} {b:List β} (k:Nat) (h:Zv R l m) (k':Zv R a b):Zv R (Yz l k a) (Yz m k b):=by
 unfold Yz
 have:=k'.length
 rw [this]
 exact Zv.append (Zv.append (Zv.take _ h) k') (Zv.drop _ h)
def Zkw (C:Ctx) (G:Glob) (st:St) (tmps:Array Value) (w:World) (s:Sem Unit) (e:Eff):Prop :=
 ∃ w' σ' lim',s.run C.P w = .ok () w' ∧ RelW G σ' lim' ⟨st.env,st.tbl.put e.ups⟩ tmps w' ∧ e.val = .tup []
theorem Zif (h:RelW G σ lim st tmps w) {T:TypeId} {a x:AV} {va vx:Value} {l l':List Nat} {e:Eff} (hm:(ZcD C T a x).run st.tbl l = some (e,l'))
  (ha:RA σ w lim a va) (hx:RA σ w lim x vx) (kx:Ze st.tbl (Za x)) (hT:∃ d,C.P.underlying T = some d):Zkw C G st tmps w (Vf T va vx) e:=by
 unfold ZcD at hm
 obtain ⟨d,hT⟩:=hT
 cases hc:x.cells? with
 | none => simp [hc,M.run] at hm
 | some ws =>
  simp only [hc] at hm
  obtain ⟨hg,hm1⟩:=M.run_guard hm
  simp only [Jh] at hg
  have hlen:=ZC hg.1
  obtain ⟨vs,h1,h2,_⟩:=Zal hc hx
  have hvl:=(ZB.1 h2).length
  have hone:=Znw hg.2 h2
  have run:∀ (b o:Nat) (cur:Array Value) (U:TypeId) (fz:Nat × Nat),w.heap[b]? = some (.cells cur U fz) → (∀ x,x < cur.size → ¬ (fz.1 ≤ x ∧ x < fz.2)) → o + vs.length ≤ cur.size →
    (Vf T (.pointer (some ⟨b,o,none⟩)) vx).run C.P w = .ok () (w.setRow b (cur.toList.take o ++ vs ++ cur.toList.drop (o + vs.length)).toArray):=by
   intro b o cur U fz hb hfz hfit
   have:=Z5 (P:=C.P) b o U fz vs 0 cur w hb (by simpa using hfit) hfz hone
   simp_all [JI,Vf,JM,Sem.run_bind,Sem.run_pure,Result.andThen_ok,storeVar,Z2 hT,h1,← hlen,hvl]
  split at hm1
  ·rename_i r k
   simp only [M.run] at hm1
   cases hr:st.tbl r with
   | fresh => simp [hr,M.run] at hm1
   | gone => simp [hr,M.run] at hm1
   | live y =>
    cases y with
    | arr => simp [hr,M.run] at hm1
    | nest => simp [hr,M.run] at hm1
    | box cs =>
     simp only [hr] at hm1
     obtain ⟨hle,hm2⟩:=M.run_guard hm1
     have hle:=Ju hle
     obtain ⟨rfl,_⟩:=M.run_ret hm2
     obtain ⟨hR,hK⟩:=h.res r _ hr
     obtain ⟨b,cur,U,h3,rfl,h5,h6,h7⟩:=Wz ha hR
     have hcl:=(ZB.1 h6).length
     have hrun:=run b k cur U (0,0) h5 (fun o _ => Zj8 o) (by simp_all)
     obtain ⟨hW,hE⟩:=h.write hr (y:=.box (Yz cs k ws)) (by rw [h3]; rfl) (cs:=(cur.toList.take k ++ vs ++ cur.toList.drop (k + vs.length)).toArray) h5 (fun o ho => by omega)
      (by
       intro r' hr'
       obtain ⟨a',ha',hr'⟩:=W6 hr'
       simp only [Yz,Jv,Jt] at ha'
       rcases ha' with ha' | ha' | ha'
       ·exact (hK.mem (JU ha')) r' hr'
       ·exact ((Kh hc kx).mem ha') r' hr'
       ·exact (hK.mem (JT ha')) r' hr')
      (fun hE => by
       simp only [RR]
       refine ⟨b,_,U,h3,setRow_heap w b cur _ U _ h5,?_,h7⟩
       have:=ZcE k (ZB.1 h6) (ZB.1 h2)
       have h8:=ZA.mono (T:=st.tbl) hE (fun _ _ => rfl) _ _ (by
        intro r' hr'
        obtain ⟨a',ha',hr'⟩:=W6 hr'
        simp only [Yz,Jv,Jt] at ha'
        rcases ha' with ha' | ha' | ha'
        ·exact (hK.mem (JU ha')) r' hr'
        ·exact ((Kh hc kx).mem ha') r' hr'
        ·exact (hK.mem (JT ha')) r' hr') (ZB.2 this)
       simpa [Yz] using h8)
     exact ⟨_,_,_,hrun,hW,rfl⟩
  ·rename_i r t i k
   simp only [M.run] at hm1
   cases hr:st.tbl r with
   | fresh => simp [hr,M.run] at hm1
   | gone => simp [hr,M.run] at hm1
   | live y =>
    cases y with
    | box => simp [hr,M.run] at hm1
    | nest => simp [hr,M.run] at hm1
    | arr t' xs sh =>
     cases sh with
     | true => simp [hr,M.run] at hm1
     | false =>
      simp only [hr] at hm1
      split at hm1
      ·rename_i ht
       subst ht
       obtain ⟨⟨ps,u⟩,l1,h3,h4⟩:=M.run_bind_some hm1
       simp only at h4
       obtain ⟨hi,h5⟩:=M.run_need h4
       have hi:=of_decide_eq_true hi
       obtain ⟨hg2,h6⟩:=M.run_guard h5
       simp only [Jh] at hg2
       have hle:=Ju hg2.1
       have hxi:xs.getD i t'.dflt = xs[i]:=by simp_all
       cases ho:XG t' (Yz (cellsOf t' (xs.getD i t'.dflt)) k ps) with
       | none => simp only [ho] at h6; exact (M.run_fail h6).elim
       | some y =>
        simp only [ho] at h6
        obtain ⟨rfl,_⟩:=M.run_ret h6
        rw [hxi] at ho
        obtain ⟨s1,k1⟩:=ZaA (σ:=σ) h3
        obtain ⟨lim1,hR,hE,hsh⟩:=RelW.shows u h s1
        have hps:=k1 w lim _ h2 lim1 hE hsh
        have hru:Zm u r = none:=by
         cases hl:Zm u r with
         | none => rfl
         | some z =>
          have:=Vg.1 hg2.2 _ (Qn hl)
          simp [WJ] at this
        have hr1:(st.tbl.put u) r = .live (.arr t' xs false):=by simp [ZF.put,hru,hr]
        obtain ⟨hRR,_⟩:=hR.res r _ hr1
        simp only [RR] at hRR
        simp only [RA] at ha
        obtain ⟨b,off,len,cap,e1,rfl⟩:=ha
        rcases hRR.2 with ⟨h8,h9⟩ | ⟨b',off',cap',cur,U,fz,g1,g2,g3,g4,g5,g6,g7⟩
        ·rw [h9] at e1; simp at e1
        ·rw [g1] at e1
         obtain ⟨⟨rfl,rfl⟩,rfl,rfl⟩:(b' = b ∧ off' = off) ∧ xs.length = len ∧ cap' = cap:=by simpa using e1
         have him:(i + 1) * t'.size ≤ xs.length * t'.size:=Jk _ hi
         have hxm:xs.length * t'.size ≤ cap' * t'.size:=Jk _ g2
         rw [Jg,Jq] at him
         have hrun:=run b' (off' + i * t'.size + k) cur U fz g3 g5.free (by omega)
         simp at g7
         have hold:=g6 i hi
         have holdl:=Rt.length hold
         have hnew:Rt w lim1 t' y (Yz ((cur.toList.drop (off' + i * t'.size)).take t'.size) k vs):=Yw ho (ZcE k (QF hold) hps)
         have hcl:cur.toList.length = cur.size:=by simp
         have hpart:(((cur.toList.take (off' + i * t'.size + k) ++ vs ++ cur.toList.drop (off' + i * t'.size + k + vs.length)).drop (off' + i * t'.size)).take t'.size) = Yz ((cur.toList.drop (off' + i * t'.size)).take t'.size) k vs:=by
          unfold Yz
          apply Js
          intro j
          simp only [JP,Jz,Jp,JA,JQ,Vj]
          repeat' split
          all_goals first | rfl | omega | (congr 1; omega)
         have hother:∀ j,j < xs.length → j ≠ i → (((cur.toList.take (off' + i * t'.size + k) ++ vs ++ cur.toList.drop (off' + i * t'.size + k + vs.length)).drop (off' + j * t'.size)).take t'.size) = ((cur.toList.drop (off' + j * t'.size)).take t'.size):=by
          intro j hj hji
          have hsep:(j + 1) * t'.size ≤ i * t'.size ∨ (i + 1) * t'.size ≤ j * t'.size:=by
           rcases Nat.lt_or_gt_of_ne hji with h' | h'
           ·exact .inl (Jk _ h')
           ·exact .inr (Jk _ h')
          rw [Jg,Jq,Jg,Jq] at hsep
          apply Js
          intro m
          simp only [JP,Jz,Jp,JA,JQ,Vj]
          repeat' split
          all_goals first | rfl | omega | (congr 1; omega)
         obtain ⟨hW,hE2⟩:=hR.write (st:=⟨st.env,st.tbl.put u⟩) hr1 (y:=.arr t' (xs.set i y) false) (b:=b') (by rw [g1]; rfl)
          (cs:=(cur.toList.take (off' + i * t'.size + k) ++ vs ++ cur.toList.drop (off' + i * t'.size + k + vs.length)).toArray) g3 (fun o ho => by omega) (by intro r' hr'; cases hr')
          (fun hE2 => by
           simp only [RR]
           refine ⟨hRR.1,.inr ⟨b',off',cap',_,U,fz,by rw [JR]; exact g1,by rw [JR]; exact g2,setRow_heap w b' cur _ U fz g3,by simp; omega,⟨fun o ho => g5.free o (by simp at ho; omega),g5.kind,g5.ord,by have:=g5.big; simp; omega⟩,fun j hj => ?_,by simp; exact g7⟩⟩
           simp only [JR] at hj
           by_cases hji:j = i
           ·subst hji
            simp only [List.getElem_set_self]
            rw [hpart]
            exact hnew.mono hE2
           ·simp only [List.getElem_set_ne (Ne.symm hji)]
            rw [hother j hj hji]
            exact (g6 j hj).mono hE2)
         exact ⟨_,_,_,hrun,by rw [WU]; exact hW,rfl⟩
      ·simp [M.run] at hm1
  ·exact (M.run_fail hm1).elim
theorem RelW.gone (h:RelW G σ lim st tmps w) {r:Nat} (hr:st.tbl r ≠ .fresh):RelW G σ lim ⟨st.env,st.tbl.put [(r,.gone)]⟩ tmps w:=by
 have hn:∀ r',Zm [(r,RS.gone)] r' ≠ some .fresh:=by grind [Zm]
 have hl':∀ r' y,Zm [(r,RS.gone)] r' = some (.live y) → False:=by
  grind [Zm]
 exact h.noput (v:=.dead) (x:=undef) (Upd.dead (Ext.refl _ _) h.lz ⟨rfl,rfl,rfl⟩ (fun _ _ => rfl) (fun _ _ _ _ _ => ⟨rfl,rfl⟩) (fun r' y hl => (hl' r' y hl).elim) (fun r' _ y _ hl => (hl' r' y hl).elim)
  (fun r' y _ hl => (hl' r' y hl).elim) (fun _ _ _ => rfl) (fun _ _ _ => rfl) hn (by simp [RA]) (by simp [Za,Ze]))
set_option maxHeartbeats 1000000 in
theorem Zgl {P:Program} {T U e:TypeId} {dU:TypeDesc} {i:TypeInfo} (ht:P.underlying T = some (.slice e)) (hU:P.underlying U = some dU) (hz:dU = .string ∨ ∃ e',dU = .slice e')
  (hi:P.info? e = some i) {x:Value} {n:Nat} {news:List Value} {w:World} (hlen:(Jr x).run P w = .ok n w) (hfc:(Ji i.size n x).run P w = .ok news.toArray w)
  {b off sLen sCap:Nat} {cur:Array Value} {V:TypeId} {fz:Nat × Nat} (hg:w.heap[b]? = some (.cells cur V fz)) (hfz:∀ o,o < cur.size → ¬ (fz.1 ≤ o ∧ o < fz.2)) (hroom:sLen + n ≤ sCap)
  (hfit:off + sLen * i.size + news.length ≤ cur.size) (h1:∀ v ∈ news,v.oneCell' = true) (ty:TypeId) :
  (Jf #[T,U] ty #[.slice (some ⟨b,off,none⟩) sLen sCap,x]).run P w = .ok (.slice (some ⟨b,off,none⟩) (sLen + n) sCap)
   (w.setRow b (cur.toList.take (off + sLen * i.size) ++ news ++ cur.toList.drop (off + sLen * i.size + news.length)).toArray):=by
 have hst:=Z5 (P:=P) b (off + sLen * i.size) V fz news 0 cur w hg (by simpa using hfit) hfz h1
 simp only [JI] at hst
 rcases hz with rfl | ⟨e',rfl⟩
 all_goals simp [Jf,run_underlying ht,run_underlying hU,sizeOf,typeInfo,hi,hlen,hroom,hfc,ZU,hst]
set_option maxHeartbeats 1000000 in
theorem ZkB {P:Program} {T U e:TypeId} {dU:TypeDesc} {i:TypeInfo} (ht:P.underlying T = some (.slice e)) (hU:P.underlying U = some dU) (hz:dU = .string ∨ ∃ e',dU = .slice e')
  (hi:P.info? e = some i) {x:Value} {w:World} (hlen:(Jr x).run P w = .ok 0 w) (hfc:(Ji i.size 0 x).run P w = .ok #[] w) (ty:TypeId) :
  (Jf #[T,U] ty #[.slice none 0 0,x]).run P w = .ok (.slice none 0 0) w:=by
 rcases hz with rfl | ⟨e',rfl⟩
 all_goals simp [Jf,run_underlying ht,run_underlying hU,sizeOf,typeInfo,hi,hlen,hfc]
set_option maxHeartbeats 1000000 in
theorem Zgk {P:Program} {T U e:TypeId} {dU:TypeDesc} {i:TypeInfo} {z:Value} (ht:P.underlying T = some (.slice e)) (hU:P.underlying U = some dU) (hz:dU = .string ∨ ∃ e',dU = .slice e')
  (hi:P.info? e = some i) (hzero:i.zero = some z) {x:Value} {n:Nat} {news olds:List Value} {w:World} (hlen:(Jr x).run P w = .ok n w) (hfc:(Ji i.size n x).run P w.drew = .ok news.toArray w.drew)
  {A:Option Addr} {sLen sCap:Nat} (hold:(Ji i.size sLen (.slice A sLen sCap)).run P w.drew = .ok olds.toArray w.drew) (hgr:sCap < sLen + n) (h63:sLen + n < 4294967296)
  (h48:JE (sLen + n) sCap * i.bytes ≤ 281474976710656) (ty:TypeId) :
  (Jf #[T,U] ty #[.slice A sLen sCap,x]).run P w = .ok (.slice (some ⟨w.heap.size,0,none⟩) (sLen + n) (grownCap w (sLen + n) sCap e))
   (w.drew.alloc (.cells (olds.toArray ++ news.toArray ++ Jl z.cells (grownCap w (sLen + n) sCap e - (sLen + n))) e)):=by
 have hn:¬ (sLen + n ≤ sCap):=by omega
 have h63':¬ (9223372036854775807 < ((sLen:Int) + (n:Int))):=by omega
 have h48':¬ (281474976710656 < JE (sLen + n) sCap * i.bytes):=by omega
 rcases hz with rfl | ⟨e',rfl⟩
 all_goals
  simp [Jf,run_underlying ht,run_underlying hU,sizeOf,typeInfo,zeroValue,hi,hzero,hlen,hn,h63',h48',Question.forced,hfc,hold,newRow,grownCap]
  grind
set_option maxHeartbeats 1000000 in
theorem Zkt {P:Program} {T U e:TypeId} {k:IntKind} {i:TypeInfo} {z:Value} (ht:P.underlying T = some (.slice e)) (hU:P.underlying U = some (.int k))
  (hi:P.info? e = some i) (hzero:i.zero = some z) {n:Nat} {w:World} (hn:n < 4294967296) (hby:i.bytes ≤ 65536)
  {b off sLen sCap:Nat} {cur:Array Value} {V:TypeId} {fz:Nat × Nat} (hg:w.heap[b]? = some (.cells cur V fz)) (hfz:∀ o,o < cur.size → ¬ (fz.1 ≤ o ∧ o < fz.2)) (hroom:sLen + n ≤ sCap)
  {news:List Value} (hnews:news.toArray = if n * i.size = 0 then #[] else Jl z.cells n)
  (hfit:off + sLen * i.size + news.length ≤ cur.size) (h1:∀ v ∈ news,v.oneCell' = true) (ty:TypeId) :
  (Jf #[T,U] ty #[.slice (some ⟨b,off,none⟩) sLen sCap,.int .i64 n]).run P w = .ok (.slice (some ⟨b,off,none⟩) (sLen + n) sCap)
   (w.setRow b (cur.toList.take (off + sLen * i.size) ++ news ++ cur.toList.drop (off + sLen * i.size + news.length)).toArray):=by
 have hst:=Z5 (P:=P) b (off + sLen * i.size) V fz news 0 cur w hg (by simpa using hfit) hfz h1
 simp only [JI] at hst
 have w1:Jy.wrap (n:Int) = n:=Qu (by omega) (by omega)
 have hbig:¬ (281474976710656 < (n:Int) * (i.bytes:Int)):=by
  have h3:n * i.bytes ≤ 4294967295 * 65536:=J5 (by omega) hby
  omega
 have hn0:¬ ((n:Int) < 0):=by omega
 by_cases h0:n * i.size = 0
 ·rw [if_pos h0] at hnews
  have:news = []:=by simpa using hnews
  subst this
  simp [Jf,run_underlying ht,run_underlying hU,sizeOf,typeInfo,zeroValue,hi,hzero,asInt,asIntOf,w1,hn0,hbig,hroom,h0,ZU,storeCells]
  have hr:=setRow_self w b cur V fz hg
  simp [hr]
 ·rw [if_neg h0] at hnews
  have hnews':(Jl z.cells n).toList = news:=by rw [← hnews]
  simp [Jf,run_underlying ht,run_underlying hU,sizeOf,typeInfo,zeroValue,hi,hzero,asInt,asIntOf,w1,hn0,hbig,hroom,h0,ZU,hnews',hst]
set_option maxHeartbeats 1000000 in
theorem Zks {P:Program} {T U e:TypeId} {k:IntKind} {i:TypeInfo} {z:Value} (ht:P.underlying T = some (.slice e)) (hU:P.underlying U = some (.int k))
  (hi:P.info? e = some i) (hzero:i.zero = some z) {w:World} (ty:TypeId) :
  (Jf #[T,U] ty #[.slice none 0 0,.int .i64 0]).run P w = .ok (.slice none 0 0) w:=by
 have w1:Jy.wrap (0:Int) = 0:=Qu (by omega) (by omega)
 simp [Jf,run_underlying ht,run_underlying hU,sizeOf,typeInfo,zeroValue,hi,hzero,asInt,asIntOf,w1]
set_option maxHeartbeats 1000000 in
theorem ZeZ {P:Program} {T U e:TypeId} {k:IntKind} {i:TypeInfo} {z:Value} (ht:P.underlying T = some (.slice e)) (hU:P.underlying U = some (.int k))
  (hi:P.info? e = some i) (hzero:i.zero = some z) {n:Nat} {olds news:List Value} {w:World} (hn:n < 4294967296) (hby:i.bytes ≤ 65536) (hs0:0 < i.size)
  {A:Option Addr} {sLen sCap:Nat} (hold:(Ji i.size sLen (.slice A sLen sCap)).run P w.drew = .ok olds.toArray w.drew) (hgr:sCap < sLen + n) (h63:sLen + n < 4294967296)
  (h48:JE (sLen + n) sCap * i.bytes ≤ 281474976710656) (hnews:news.toArray = Jl z.cells n) (ty:TypeId) :
  (Jf #[T,U] ty #[.slice A sLen sCap,.int .i64 n]).run P w = .ok (.slice (some ⟨w.heap.size,0,none⟩) (sLen + n) (grownCap w (sLen + n) sCap e))
   (w.drew.alloc (.cells (olds.toArray ++ news.toArray ++ Jl z.cells (grownCap w (sLen + n) sCap e - (sLen + n))) e)):=by
 have hroom:¬ (sLen + n ≤ sCap):=by omega
 have h63':¬ (9223372036854775807 < ((sLen:Int) + (n:Int))):=by omega
 have h48':¬ (281474976710656 < JE (sLen + n) sCap * i.bytes):=by omega
 have w1:Jy.wrap (n:Int) = n:=Qu (by omega) (by omega)
 have hbig:¬ (281474976710656 < (n:Int) * (i.bytes:Int)):=by
  have h3:n * i.bytes ≤ 4294967295 * 65536:=J5 (by omega) hby
  omega
 have hn0:¬ ((n:Int) < 0):=by omega
 by_cases h0:n * i.size = 0
 ·have hnz:n = 0:=by
   rcases Nat.mul_eq_zero.1 h0 with h | h
   ·exact h
   ·omega
  subst hnz
  have:news = []:=by
   grind [Jl]
  subst this
  simp [Jf,run_underlying ht,run_underlying hU,sizeOf,typeInfo,zeroValue,hi,hzero,asInt,asIntOf,hbig,Question.forced,hold,newRow,grownCap]
  grind
 ·simp [Jf,run_underlying ht,run_underlying hU,sizeOf,typeInfo,zeroValue,hi,hzero,asInt,asIntOf,w1,hn0,hbig,hroom,h0,h63',h48',Question.forced,hold,newRow,grownCap]
  grind
theorem RelW.takeover (h:RelW G σ lim st tmps w) {r n:Nat} {x y:Res} (hr:st.tbl r = .live x) (hn:st.tbl n = .fresh) {b:Nat} (hb:blk (σ r) = some b) {vs cs:Array Value} {T:TypeId} {fz:Nat × Nat}
  (hg:w.heap[b]? = some (.cells vs T fz)) (hsame:∀ o,o < lim b → cs[o]? = vs[o]?) (hk:Ze st.tbl (ZL n y)) {v:Value} (hv:blk v = some b)
  (hy:Ext w lim (w.setRow b cs) lim → RR (fun s => if s = n then v else σ s) (w.setRow b cs) lim n y) :
  RelW G (fun s => if s = n then v else σ s) lim ⟨st.env,st.tbl.put [(n,.live y),(r,.gone)]⟩ tmps (w.setRow b cs):=by
 have hlr:Zw (st.tbl r) = true:=by rw [hr]; rfl
 have hnr:n ≠ r:=by grind
 have hE:Ext w lim (w.setRow b cs) lim:=⟨by simp,fun b' o ho => by
  by_cases e:b' = b
  ·subst e
   rw [cell_setRow_same w b' o vs cs T fz hg,hsame o ho]
   simp [World.cell?,hg]
  ·exact cell_setRow_other w b cs _ e,fun _ _ ho => ho,fun b' T' hT => by
  by_cases e:b' = b
  ·subst e
   simp_all [Z8,hg,setRow_heap w b' vs cs T fz hg]
  ·simpa [Z8,setRow_other w b b' cs e] using hT,NF.row hg (setRow_heap w b vs cs T fz hg) (fun c hc => setRow_other w b c cs hc)⟩
 have hσ:∀ s,st.tbl s ≠ .fresh → (if s = n then v else σ s) = σ s:=by
  grind
 have hnf:∀ s,Zm [(n,RS.live y),(r,RS.gone)] s ≠ some .fresh:=by grind [Zm]
 have hl:∀ s z,Zm [(n,RS.live y),(r,RS.gone)] s = some (.live z) → s = n ∧ z = y:=by
  intro s z hs
  rw [Zb,Zb] at hs
  grind [Zm]
 refine h.noput (v:=.dead) (x:=undef) (Upd.dead hE ?_ ⟨rfl,rfl,rfl⟩ hσ ?_ ?_ ?_ ?_ ?_ (fun _ _ _ => rfl) hnf (by simp [RA]) (by simp [Za,Ze]))
 ·intro b' hb'; exact h.lz b' (by simpa using hb')
 ·intro r' hl' hno b' hb'
  have hne:r' ≠ r:=by
   intro e; subst e
   rw [Zb,Zb] at hno
   simp [hnr] at hno
  have:b' ≠ b:=by intro e; subst e; exact hne (h.inj r' r b' hl' hlr hb' hb)
  exact ⟨setRow_other w b b' cs this,rfl⟩
 ·intro s z hs
  obtain ⟨rfl,rfl⟩:=hl s z hs
  exact ⟨hy hE,hk.put hnf⟩
 ·intro r1 r2 z b' hs hl2 hb1 hb2
  obtain ⟨rfl,rfl⟩:=hl r1 z hs
  simp [hv] at hb1; subst hb1
  rw [ZT,Zf] at hl2
  split at hl2
  ·rename_i e; exact e.symm
  ·rename_i hne
   split at hl2
   ·simp [Zw] at hl2
   ·rename_i hne2
    have hne':¬ r2 = r1:=fun e => hne e.symm
    simp only [hne',if_false] at hb2
    exact absurd (h.inj r2 r b hl2 hlr hb2 hb) (fun e => hne2 e.symm)
 ·intro s z b' hs hb'
  obtain ⟨rfl,rfl⟩:=hl s z hs
  simp [hv] at hb'; subst hb'
  exact h.own r b hlr hb
 ·intro b' hb' hl'
  have:b' ≠ b:=by
   intro e; subst e
   rcases h.own r b' hlr hb with h1 | h1
   ·omega
   ·exact hl' h1
  exact setRow_other w b b' cs this
theorem RelW.nilname (h:RelW G σ lim st tmps w) {n:Nat} (hn:st.tbl n = .fresh) (t:Ty) (ht:0 < t.size) (sh:Bool) :
  RelW G (fun s => if s = n then .slice none 0 0 else σ s) lim ⟨st.env,st.tbl.put [(n,.live (.arr t [] sh))]⟩ tmps w:=by
 have hσ:∀ s,st.tbl s ≠ .fresh → (if s = n then Value.slice none 0 0 else σ s) = σ s:=by
  grind
 have hnf:∀ s,Zm [(n,RS.live (.arr t [] sh))] s ≠ some .fresh:=by grind [Zm]
 have hl:∀ s z,Zm [(n,RS.live (.arr t [] sh))] s = some (.live z) → s = n ∧ z = .arr t [] sh:=by
  intro s z hs
  rw [Zb] at hs
  grind [Zm]
 refine h.noput (v:=.dead) (x:=undef) (Upd.dead (Ext.refl _ _) h.lz ⟨rfl,rfl,rfl⟩ hσ (fun _ _ _ _ _ => ⟨rfl,rfl⟩) ?_ ?_ ?_ (fun _ _ _ => rfl) (fun _ _ _ => rfl) hnf (by simp [RA]) (by simp [Za,Ze]))
 ·intro s z hs
  obtain ⟨rfl,rfl⟩:=hl s z hs
  exact ⟨by grind [RR],by intro r hr; cases hr⟩
 ·grind [blk]
 grind [blk]
theorem Zbi : {t:Ty} → {x:t.den} → {cs:List Value} → Rt w lim t x cs → ∀ v ∈ cs,v.oneCell' = true
 | .bool,_,_,h => by grind [Rt,Value.oneCell']
 | .int _,_,_,h => by grind [Rt,Value.oneCell']
 | .fl _,_,_,h => by grind [Rt,Value.oneCell']
 | .cx _,_,_,h => by grind [Rt,Value.oneCell']
 | .str,_,_,h => by grind [Rt,Value.oneCell']
 | .raw,_,_,h => by grind [Rt]
 | .sl _,_,_,h => by grind [Rt,Value.oneCell']
 | .unit,_,_,h => by simp only [Rt] at h; subst h; simp
 | .pair a b,_,_,h => by
  simp only [Rt] at h; obtain ⟨c,d,rfl,h1,h2⟩:=h
  intro v hv
  rcases Jt.1 hv with hv | hv
  ·exact Zbi h1 v hv
  ·exact Zbi h2 v hv
theorem Yn {t:Ty} : {xs:List t.den} → {css:List (List Value)} → Zv (Rt w lim t) xs css → ∀ v ∈ css.flatten,v.oneCell' = true
 | [],[],_ => by simp
 | _ :: _,c :: css,h => by
  intro v hv
  rw [J3] at hv
  rcases Jt.1 hv with hv | hv
  ·exact Zbi h.1 v hv
  ·exact Yn h.2 v hv
 | [],_ :: _,h => h.elim
 | _ :: _,[],h => h.elim
inductive More (C:Ctx) (w:World) (lim:Nat → Nat) (t:Ty) (z:t.den) (U:TypeId) (v:Value) (ys:List t.den) (css:List (List Value)):Prop
 | cells (dU:TypeDesc) (hU:C.P.underlying U = some dU) (hz:dU = .string ∨ ∃ e',dU = .slice e') (hx:Zv (Rt w lim t) ys css)
   (hlen:(Jr v).run C.P w = .ok ys.length w) (hfc:(Ji t.size ys.length v).run C.P w = .ok css.flatten.toArray w) (hfd:(Ji t.size ys.length v).run C.P w.drew = .ok css.flatten.toArray w.drew)
 | noughts (k:IntKind) (hU:C.P.underlying U = some (.int k)) (n:Nat) (hv:v = .int .i64 n) (hn:n < 2147483648) (hy:ys = Jd n z)
theorem ZeO {t:Ty} {z:t.den} {U:TypeId} {x:AV} {vx:Value} {k:List t.den → M Eff} {tbl:ZF} {l l':List Nat} {e:Eff} (hm:(Zcn C t z U x k).run tbl l = some (e,l'))
  (hx:RA σ w lim x vx) (hres:∀ r y,tbl r = .live y → RR σ w lim r y ∧ Ze tbl (ZL r y)) :
  ∃ ys css l2,(k ys).run tbl l2 = some (e,l') ∧ More C w lim t z U vx ys css:=by
 unfold Zcn at hm
 split at hm
 ·rename_i hU
  split at hm
  ·rename_i s
   simp only [RA,RP] at hx; subst hx
   split at hm
   ·rename_i ht
    subst ht
    have hn:(Zx s).length = s.size:=by simp [Zx]
    have hfc:∀ w':World,(Ji (Ty.int .u8).size (Zx s).length (.string s)).run C.P w' = .ok ((Zx s).map fun n => [Jw .u8 n]).flatten.toArray w':=by
     intro w'
     rw [ZeI,hn]
     simp only [Ji,Sem.run_pure]
     congr 1
     apply JJ
     have:(s.extract 0 s.size).data = s.data:=by
      simp
     simp [this,Zx]
    exact ⟨Zx s,(Zx s).map fun n => [Jw .u8 n],l,hm,.cells _ hU (.inl rfl) (Zjm s) (by simp [Jr,hn]) (hfc w) (hfc w.drew)⟩
   ·simp [M.run] at hm
  ·exact (M.run_fail hm).elim
 ·rename_i kk hU
  split at hm
  ·rename_i n
   simp only [RA,RP] at hx; subst hx
   obtain ⟨hn,hm2⟩:=M.run_need hm
   obtain ⟨h0,h1⟩:=Zdw hn
   exact ⟨_,[],l,hm2,.noughts kk hU n.toNat (by rw [Int.toNat_of_nonneg h0]) (by omega) rfl⟩
  ·exact (M.run_fail hm).elim
 ·rename_i el hU
  obtain ⟨ys,l1,h1,h2⟩:=M.run_bind_some hm
  obtain ⟨A,cap,rfl,hc,css,h3,h4⟩:=KV (YR h1 hx hres)
  have hfl:=ZN h3
  have hfc:∀ w':World,w'.heap = w.heap → (Ji t.size ys.length (.slice A ys.length cap)).run C.P w' = .ok css.flatten.toArray w':=by
   intro w' hw
   have hcell:∀ a,w'.cell? a = w.cell? a:=fun a => by simp [World.cell?,hw]
   rcases h4 with h4 | ⟨b,off,rfl,h4⟩
   ·subst h4
    have:css = []:=by match css,h3 with | [],_ => rfl
    subst this
    cases A with
    | none => simp [Ji]
    | some a => simp [Ji,loadCells,loadCellsFrom]
   ·exact run_firstCells_some w' t.size ys.length _ _ _ css.flatten hfl (fun j u hj => by rw [ZU,hcell]; exact h4 j u hj)
  exact ⟨ys,css,l1,h2,.cells _ hU (.inr ⟨el,rfl⟩) h3 (by simp [Jr]) (hfc w rfl) (hfc w.drew rfl)⟩
 ·exact (M.run_fail hm).elim
theorem Zd1 (z:Value) (n:Nat) (h:0 < z.cells.size):(Jl z.cells n).toList = (Jd n z.cells.toList).flatten:=by
 have:=Zcx z.cells.toList (by simpa using h) n
 simp_all [J6,J7,Jl]
theorem Zj9 {b off:Nat} {vs:Array Value} {V:TypeId} {fz:Nat × Nat} (hg:w.heap[b]? = some (.cells vs V fz)) {t:Ty} {xs:List t.den} {cap:Nat}
  (hfit:off + xs.length * t.size ≤ vs.size) (w':World) (hw:w'.heap = w.heap) (P:Program) :
  (Ji t.size xs.length (.slice (some ⟨b,off,none⟩) xs.length cap)).run P w' = .ok ((vs.toList.drop off).take (xs.length * t.size)).toArray w':=by
 refine run_firstCells_some w' t.size xs.length _ _ _ _ (by simp; omega) (fun j u hj => ?_)
 rw [ZU]
 have hcell:w'.cell? ⟨b,off + j,none⟩ = w.cell? ⟨b,off + j,none⟩:=by simp [World.cell?,hw]
 rw [hcell,Wp hg]
 grind
theorem ZdJ {t:Ty}:∀ (xs:List t.den) (l:List Value),l.length = xs.length * t.size → (∀ i (h:i < xs.length),Rt w lim t xs[i] ((l.drop (i * t.size)).take t.size)) →
  ∃ css:List (List Value),Zv (Rt w lim t) xs css ∧ css.flatten = l
 | [],l,hl,_ => ⟨[],trivial,by simp_all⟩
 | x :: xs,l,hl,h => by
  rw [JG,Jg,Jq] at hl
  obtain ⟨css,h1,h2⟩:=ZdJ xs (l.drop t.size) (by simp; omega) (fun i hi => by
   have:=h (i + 1) (by simpa using hi)
   rw [Jg,Jq,Nat.add_comm (i * t.size),← JF] at this
   simpa using this)
  refine ⟨l.take t.size :: css,⟨by have:=h 0 (by simp); simpa using this,h1⟩,?_⟩
  simp_all
theorem Zdp (h:RelW G σ lim st tmps w) {n:Nat} (hn:st.tbl n = .fresh) {t:Ty} (ht:0 < t.size) {xs ys:List t.den} {css1 css2:List (List Value)} (h1:Zv (Rt w lim t) xs css1) (h2:Zv (Rt w lim t) ys css2)
  {e:TypeId} {z:Array Value} {cap m:Nat} (hz:z.size = t.size) (hc:xs.length + ys.length ≤ cap) (hm:m = cap - (xs.length + ys.length)) (hk:okB e t = true) (sh:Bool) (hcm:cap ≤ 9223372036854775807) {olds news:List Value} (e1:css1.flatten = olds) (e2:css2.flatten = news) :
  RelW G (fun r => if r = n then .slice (some ⟨w.heap.size,0,none⟩) (xs ++ ys).length cap else σ r) lim ⟨st.env,st.tbl.put [(n,.live (.arr t (xs ++ ys) sh))]⟩ tmps
   (w.drew.alloc (.cells (olds.toArray ++ news.toArray ++ Jl z m) e)):=by
 subst e1; subst e2; subst hm
 have hl1:=ZN h1
 have hl2:=ZN h2
 have hsz:(Jl z (cap - (xs.length + ys.length))).size = (cap - (xs.length + ys.length)) * t.size:=by rw [size_zeroCells,hz]
 have hmul:cap * t.size = xs.length * t.size + ys.length * t.size + (cap - (xs.length + ys.length)) * t.size:=by
  rw [← Jg,← Jg]; congr 1; omega
 exact (ZaE h hn (w':=w.drew.alloc (.cells (css1.flatten.toArray ++ css2.flatten.toArray ++ Jl z (cap - (xs.length + ys.length))) e)) (T:=e) (fz:=(0,0)) (cap:=cap) (xs:=xs ++ ys) sh
  (by simp) (fun k hk => heap_alloc_old w.drew _ k hk) (heap_alloc_new w.drew _) ⟨rfl,rfl,rfl⟩ ht (by simpa using hc)
  (by simp_all) ⟨fun o _ => Zj8 o,hk,Jj _,by simp only [Array.size_append,VB,hl1,hl2,hsz]; rw [JW,← JW,← hmul]; exact Jk _ hcm⟩ (Zv.append h1 h2)
  (rest:=(Jl z (cap - (xs.length + ys.length))).toList) (by simp)).1
theorem Zgw {α:Type} (p q:List α) (k:Nat):(p ++ q).drop (p.length + k) = q.drop k:=by rw [← JF,JN]
theorem Zib (h:RelW G σ lim st tmps w) {r n:Nat} {t:Ty} {xs ys:List t.den} {sh:Bool} (hr:st.tbl r = .live (.arr t xs sh)) (hn:st.tbl n = .fresh)
  {b off cap:Nat} {vs:Array Value} {U:TypeId} {fz:Nat × Nat} (e1:σ r = .slice (some ⟨b,off,none⟩) xs.length cap) (e3:w.heap[b]? = some (.cells vs U fz)) (e4:off + cap * t.size ≤ vs.size)
  (e5:Fit t U vs.size fz) (e6:∀ i (h:i < xs.length),Rt w lim t xs[i] ((vs.toList.drop (off + i * t.size)).take t.size)) (e7:bif sh then lim b ≤ off + xs.length * t.size else lim b = 0)
  (ht:0 < t.size) {css2:List (List Value)} (h2:Zv (Rt w lim t) ys css2) (hroom:xs.length + ys.length ≤ cap) {news:List Value} (hnews:css2.flatten = news) :
  RelW G (fun s => if s = n then .slice (some ⟨b,off,none⟩) (xs ++ ys).length cap else σ s) lim ⟨st.env,st.tbl.put [(n,.live (.arr t (xs ++ ys) sh)),(r,.gone)]⟩ tmps
   (w.setRow b (vs.toList.take (off + xs.length * t.size) ++ news ++ vs.toList.drop (off + xs.length * t.size + news.length)).toArray):=by
 have hl2:=ZN h2
 rw [hnews] at hl2
 have hle:lim b ≤ off + xs.length * t.size:=by cases sh <;> simp at e7 <;> omega
 have hmul:(xs.length + ys.length) * t.size ≤ cap * t.size:=Jk _ hroom
 rw [Jg] at hmul
 have hvl:vs.toList.length = vs.size:=by simp
 have hns:(vs.toList.take (off + xs.length * t.size) ++ news ++ vs.toList.drop (off + xs.length * t.size + news.length)).toArray.size = vs.size:=by
  grind
 refine h.takeover hr hn (by rw [e1]; rfl) e3 (fun o ho => ?_) (by intro r' hr'; cases hr') rfl (fun hE => ?_)
 ·grind
 ·simp only [RR]
  refine ⟨ht,.inr ⟨b,off,cap,_,U,fz,by simp,by simpa using hroom,setRow_heap w b vs _ U fz e3,by rw [hns]; exact e4,⟨fun o ho => e5.free o (by rw [hns] at ho; exact ho),e5.kind,e5.ord,by rw [hns]; exact e5.big⟩,fun i hi => ?_,?_⟩⟩
  ·by_cases hix:i < xs.length
   ·rw [List.getElem_append_left hix]
    have him:(i + 1) * t.size ≤ xs.length * t.size:=Jk _ hix
    rw [Jg,Jq] at him
    have:(((vs.toList.take (off + xs.length * t.size) ++ news ++ vs.toList.drop (off + xs.length * t.size + news.length)).drop (off + i * t.size)).take t.size) = ((vs.toList.drop (off + i * t.size)).take t.size):=by
     apply Js
     grind
    simp only [JV,this]
    exact (e6 i hix).mono hE
   ·have hiy:i - xs.length < ys.length:=by simp at hi; omega
    rw [List.getElem_append_right (by omega)]
    have hpre:(vs.toList.take (off + xs.length * t.size)).length = off + xs.length * t.size:=by simp; omega
    have hidx:off + i * t.size = (vs.toList.take (off + xs.length * t.size)).length + (i - xs.length) * t.size:=by
     rw [hpre,JW,← Jg]; congr 2; omega
    have hlist:(((vs.toList.take (off + xs.length * t.size) ++ news ++ vs.toList.drop (off + xs.length * t.size + news.length)).drop (off + i * t.size)).take t.size) =
      (((css2.flatten ++ vs.toList.drop (off + xs.length * t.size + news.length)).drop ((i - xs.length) * t.size)).take t.size):=by
     rw [Jv,hidx,Zgw,hnews]
    simp only [JV,hlist]
    exact (Zcu h2 _ hiy).mono hE
  ·cases sh
   ·simpa using e7
   ·simp; grind
theorem nil_append (h:RelW G σ lim st tmps w) {base:Nat} (hf:st.tbl base = .fresh) {t:Ty} (g2:1 ≤ t.size) {T U ee ty:TypeId} (gk:okB ee t = true) (hu:C.P.underlying T = some (.slice ee)) {i:TypeInfo} (hi:C.P.info? ee = some i)
  {zv:Value} (hzv:i.zero = some zv) (his:i.size = t.size) (hzcs:zv.cells.size = t.size) (hby:i.bytes ≤ 65536) (hbig:∀ a b:Nat,a < b → b < 2147483648 → JE b a * i.bytes ≤ 281474976710656)
  {z:t.den} {zs:List Value} (hrz:Rt w lim t z zs) (hzrow:∀ n,(Jl zv.cells n).toList = (Jd n zs).flatten) {vx:Value} {ys:List t.den} {css:List (List Value)}
  (hmore:More C w lim t z U vx ys css) (hn:ys.length < 2147483648) (sh:Bool) :
  Qb C G st tmps w (Jf #[T,U] ty #[.slice none 0 0,vx]) ⟨.own base,(base,.live (.arr t ([] ++ ys) sh)) :: []⟩:=by
 have stay:ys = [] → (Jf #[T,U] ty #[.slice none 0 0,vx]).run C.P w = .ok (.slice none 0 0) w → Qb C G st tmps w (Jf #[T,U] ty #[.slice none 0 0,vx]) ⟨.own base,(base,.live (.arr t ([] ++ ys) sh)) :: []⟩:=by
  intro hy hr
  subst hy
  exact ⟨_,_,_,_,hr,h.nilname hf t g2 sh,Wl (len:=0) (cap:=0) rfl (by simp),Qa (y:=.arr t [] sh) (by rw [ZT]; simp)⟩
 have grow:∀ (css2:List (List Value)) (news:List Value),Zv (Rt w lim t) ys css2 → css2.flatten = news →
   (Jf #[T,U] ty #[.slice none 0 0,vx]).run C.P w = .ok (.slice (some ⟨w.heap.size,0,none⟩) (0 + ys.length) (grownCap w (0 + ys.length) 0 ee))
   (w.drew.alloc (.cells (([]:List Value).toArray ++ news.toArray ++ Jl zv.cells (grownCap w (0 + ys.length) 0 ee - (0 + ys.length))) ee)) →
   Qb C G st tmps w (Jf #[T,U] ty #[.slice none 0 0,vx]) ⟨.own base,(base,.live (.arr t ([] ++ ys) sh)) :: []⟩:=by
  intro css2 news h2 e2 hr
  have hge:=grownCap_ge w (0 + ys.length) 0 ee
  have:=Zdp h hf g2 (xs:=[]) (css1:=[]) (olds:=[]) trivial h2 (e:=ee) hzcs (cap:=grownCap w (0 + ys.length) 0 ee) (m:=grownCap w (0 + ys.length) 0 ee - (0 + ys.length)) (by simpa using hge) (by simp) gk sh (by have:=grownCap_le_maxLen w (0 + ys.length) 0 ee (by simp only [maxLen]; omega); simpa only [maxLen] using this) rfl e2
  exact ⟨_,_,_,_,hr,this,Wl rfl (by simp),Qa (y:=.arr t ([] ++ ys) sh) (by rw [ZT]; simp)⟩
 cases hmore with
 | cells dU hU hz hx hlen hfc hfd =>
  by_cases h0:ys.length = 0
  ·have hy:ys = []:=JO h0
   subst hy
   have:css = []:=by match css,hx with | [],_ => rfl
   subst this
   exact stay rfl (ZkB hu hU hz hi hlen (by rw [his]; exact hfc) ty)
  ·refine grow css _ hx rfl ?_
   exact Zgk hu hU hz hi hzv hlen (by rw [his]; exact hfd) (A:=none) (olds:=[]) (by simp [Ji]) (by omega) (by omega) (hbig _ _ (by omega) (by omega)) ty
 | noughts k hU n hv hnn hy =>
  subst hv
  have hyl:ys.length = n:=by rw [hy]; simp
  by_cases h0:n = 0
  ·subst h0
   exact stay (by rw [hy]; rfl) (Zks hu hU hi hzv ty)
  ·refine grow (Jd n zs) _ (by rw [hy]; exact QT hrz n) rfl ?_
   rw [hyl]
   exact ZeZ hu hU hi hzv (by omega) hby (by omega) (A:=none) (olds:=[]) (by simp [Ji]) (by omega) (by omega) (hbig _ _ (by omega) (by omega)) (by rw [← hzrow]) ty
theorem Zmw {vs:Array Value} {off n:Nat} (h:off + n ≤ vs.size):((vs.toList.drop off).take n).length = n:=by
 grind
set_option maxHeartbeats 2000000 in
theorem Zgm (h : RelW G σ lim st tmps w) {base : Nat} {ats : Array TypeId} {ty : TypeId} {s x : AV} {vs vx : Value} {l l' : List Nat} {e : Eff}
    (hm : (Zbo C base ats s x).run st.tbl l = some (e, l')) (hs : RA σ w lim s vs) (hx : RA σ w lim x vx) : Qb C G st tmps w (Jf ats ty #[vs, vx]) e := by
  unfold Zbo at hm
  split at hm
  · rename_i T U hat
    obtain rfl : ats = #[T, U] := by apply JJ; simpa using hat
    cases he : QV C.P T with
    | none => simp [he, M.run] at hm
    | some q =>
      obtain ⟨ee, t⟩ := q
      simp only [he] at hm
      obtain ⟨hg, hm1⟩ := M.run_guard hm
      clear hm
      simp only [Jh] at hg
      have g1 := Ju hg.1
      have gk := (Xa hg.2).2
      have g2 := (Xa hg.2).1
      cases hz : zeroCells C.P ee with
      | none => simp [hz, M.run] at hm1
      | some zs =>
        simp only [hz] at hm1
        cases ho : XG t (zs.map .v) with
        | none => simp [ho, M.run] at hm1
        | some z =>
          simp only [ho] at hm1
          obtain ⟨i, hi, his, hib⟩ := Xx he
          obtain ⟨hu, ht, hsz⟩ := Qc he
          have hrz := Zjn (w := w) (lim := lim) ho
          have hzl := Rt.length hrz
          obtain ⟨zv, hzv, hzc⟩ : ∃ zv, i.zero = some zv ∧ zv.cells.toList = zs := by
            unfold zeroCells at hz
            simp_all
          have hzcs : zv.cells.size = t.size := by rw [← hzl, ← hzc]; simp
          have hby : i.bytes ≤ 65536 := by rw [← hib]; exact g1
          have hbig : ∀ a b : Nat, a < b → b < 2147483648 → JE b a * i.bytes ≤ 281474976710656 := fun a b h1 h2 =>
            growslice_fits h1 (by have : b * i.bytes ≤ 2147483647 * 65536 := J5 (by omega) hby
                                  omega)
          have hzrow : ∀ n, (Jl zv.cells n).toList = (Jd n zs).flatten := fun n => by rw [Zd1 zv n (by omega), hzc]
          split at hm1
          · rename_i r
            simp only [M.run] at hm1
            cases hr : st.tbl r with
            | fresh => simp [hr, M.run] at hm1
            | gone => simp [hr, M.run] at hm1
            | live y =>
              cases y with
              | box => simp [hr, M.run] at hm1
              | nest => simp [hr, M.run] at hm1
              | arr t' xs sh =>
                simp only [hr] at hm1
                split at hm1
                · rename_i htt
                  subst htt
                  obtain ⟨ys, css, l2, hk, hmore⟩ := ZeO hm1 hx h.res
                  simp only [Zim] at hk
                  obtain ⟨hn, hk2⟩ := M.run_need hk
                  have hn := of_decide_eq_true hn
                  obtain ⟨hf, l3, hk3⟩ := X9 hk2
                  obtain ⟨rfl, _⟩ := M.run_ret hk3
                  simp only [RA] at hs; obtain ⟨rfl, _⟩ := hs
                  have hnr : base ≠ r := by grind
                  have hG := h.gone (r := r) (by rw [hr]; simp)
                  have hfG : (st.tbl.put [(r, .gone)]) base = .fresh := by rw [Zf, if_neg (Ne.symm hnr)]; exact hf
                  have hRR := (h.res r _ hr).1
                  simp only [RR] at hRR
                  rcases hRR.2 with ⟨h8, h9⟩ | ⟨b, off, cap, vs, V, fz, e1, e2, e3, e4, e5, e6, e7⟩
                  · subst h8
                    rw [h9]
                    obtain ⟨x', w', s', m', r1, r2, r3, r4⟩ := nil_append (C := C) (ty := ty) hG hfG g2 gk hu hi hzv his hzcs hby hbig hrz hzrow hmore (by simpa using hn) sh
                    exact ⟨x', w', s', m', r1, by rw [WU]; exact r2, r3, by rw [WU]; exact r4⟩
                  · rw [e1]
                    have hxm : xs.length * t'.size ≤ cap * t'.size := Jk _ e2
                    have hfitx : off + xs.length * t'.size ≤ vs.size := Nat.le_trans (Nat.add_le_add_left hxm off) e4
                    have his' := his
                    have hzcs' := hzcs
                    obtain ⟨css1, c1, c2⟩ := ZdJ (w := w) (lim := lim) (t := t') xs ((vs.toList.drop off).take (xs.length * t'.size)) (Zmw hfitx) (fun j hj => by
                      have him : (j + 1) * t'.size ≤ xs.length * t'.size := Jk _ hj
                      rw [Jg, Jq] at him
                      have := e6 j hj
                      have e : ((((vs.toList.drop off).take (xs.length * t'.size)).drop (j * t'.size)).take t'.size) = ((vs.toList.drop (off + j * t'.size)).take t'.size) := by
                        apply Js
                        intro m
                        simp only [Jz, Jp]
                        grind
                      rw [e]; exact this)
                    have hold := Zj9 e3 (t := t') (xs := xs) (cap := cap) (by omega) w.drew rfl C.P
                    by_cases hroom : xs.length + ys.length ≤ cap
                    · have fin : ∀ (css2 : List (List Value)) (news : List Value), Zv (Rt w lim t') ys css2 → css2.flatten = news →
                          (Jf #[T, U] ty #[.slice (some ⟨b, off, none⟩) xs.length cap, vx]).run C.P w = .ok (.slice (some ⟨b, off, none⟩) (xs.length + ys.length) cap)
                            (w.setRow b (vs.toList.take (off + xs.length * t'.size) ++ news ++ vs.toList.drop (off + xs.length * t'.size + news.length)).toArray) →
                          Qb C G st tmps w (Jf #[T, U] ty #[.slice (some ⟨b, off, none⟩) xs.length cap, vx]) ⟨.own base, (base, .live (.arr t' (xs ++ ys) sh)) :: [(r, .gone)]⟩ := by
                        intro css2 news k1 k2 k3
                        have := Zib h hr hf e1 e3 e4 e5 e6 e7 g2 k1 hroom k2
                        exact ⟨_, _, _, _, k3, this, Wl rfl (by simp), Qa (y := .arr t' (xs ++ ys) sh) (by rw [ZT]; simp)⟩
                      have hmulr : (xs.length + ys.length) * t'.size ≤ cap * t'.size := Jk _ hroom
                      rw [Jg] at hmulr
                      cases hmore with
                      | cells dU hU hzz hxx hlen hfc hfd =>
                        have hfl := ZN hxx
                        refine fin css _ hxx rfl ?_
                        have := Zgl (off := off) (sLen := xs.length) (sCap := cap) hu hU hzz hi hlen (by rw [his']; exact hfc) e3 e5.free hroom (by rw [his', hfl]; omega) (Yn hxx) ty
                        simp_all
                      | noughts k hU n hv hnn hy =>
                        subst hv
                        have hyl : ys.length = n := by rw [hy]; simp
                        have hxx : Zv (Rt w lim t') ys (Jd n zs) := by rw [hy]; exact QT hrz n
                        have hfl := ZN hxx
                        refine fin (Jd n zs) _ hxx rfl ?_
                        have := Zkt (z := zv) (n := n) (off := off) (sLen := xs.length) (sCap := cap) hu hU hi hzv (by omega) hby e3 e5.free (by rw [← hyl]; exact hroom) (news := (Jd n zs).flatten)
                          (by
                            rw [his']
                            by_cases h0 : n * t'.size = 0
                            · grind
                            · rw [if_neg h0, ← hzrow]) (by rw [his', hfl]; omega) (Yn hxx) ty
                        simp_all
                    · have fin : ∀ (css2 : List (List Value)) (news : List Value), Zv (Rt w lim t') ys css2 → css2.flatten = news →
                          (Jf #[T, U] ty #[.slice (some ⟨b, off, none⟩) xs.length cap, vx]).run C.P w = .ok (.slice (some ⟨w.heap.size, 0, none⟩) (xs.length + ys.length) (grownCap w (xs.length + ys.length) cap ee))
                            (w.drew.alloc (.cells (((vs.toList.drop off).take (xs.length * t'.size)).toArray ++ news.toArray ++ Jl zv.cells (grownCap w (xs.length + ys.length) cap ee - (xs.length + ys.length))) ee)) →
                          Qb C G st tmps w (Jf #[T, U] ty #[.slice (some ⟨b, off, none⟩) xs.length cap, vx]) ⟨.own base, (base, .live (.arr t' (xs ++ ys) sh)) :: [(r, .gone)]⟩ := by
                        intro css2 news k1 k2 k3
                        have hge := grownCap_ge w (xs.length + ys.length) cap ee
                        have := Zdp hG (st := ⟨st.env, st.tbl.put [(r, .gone)]⟩) hfG g2 c1 k1 (e := ee) hzcs' (cap := grownCap w (xs.length + ys.length) cap ee) hge rfl gk sh (by have := grownCap_le_maxLen w (xs.length + ys.length) cap ee (by simp only [maxLen]; omega); simpa only [maxLen] using this) c2 k2
                        exact ⟨_, _, _, _, k3, by rw [WU]; exact this, Wl rfl (by simp), Qa (y := .arr t' (xs ++ ys) sh) (by rw [ZT]; simp)⟩
                      cases hmore with
                      | cells dU hU hzz hxx hlen hfc hfd =>
                        refine fin css _ hxx rfl ?_
                        exact Zgk hu hU hzz hi hzv hlen (by rw [his']; exact hfd) (by rw [his']; exact hold) (by omega) (by omega) (hbig _ _ (by omega) (by omega)) ty
                      | noughts k hU n hv hnn hy =>
                        subst hv
                        have hyl : ys.length = n := by rw [hy]; simp
                        refine fin (Jd n zs) _ (by rw [hy]; exact QT hrz n) rfl ?_
                        rw [hyl]
                        exact ZeZ hu hU hi hzv (by omega) hby (by omega) (by rw [his']; exact hold) (by omega) (by omega) (hbig _ _ (by omega) (by omega)) (by rw [← hzrow]) ty
                · simp [M.run] at hm1
          · rename_i v
            obtain ⟨hnil, hm2⟩ := M.run_guard hm1
            have := WQ hnil
            subst this
            simp only [RA, RP] at hs; subst hs
            obtain ⟨ys, css, l2, hk, hmore⟩ := ZeO hm2 hx h.res
            simp only [Zim] at hk
            obtain ⟨hn, hk2⟩ := M.run_need hk
            have hn := of_decide_eq_true hn
            obtain ⟨hf, l3, hk3⟩ := X9 hk2
            obtain ⟨rfl, _⟩ := M.run_ret hk3
            exact nil_append (C := C) (ty := ty) h hf g2 gk hu hi hzv his hzcs hby hbig hrz hzrow hmore (by simpa using hn) false
          · exact (M.run_fail hm1).elim
  · exact (M.run_fail hm).elim
theorem ZnC {t:Ty} {xs:List t.den} {A:Option Addr} {len cap:Nat} (h:Row w lim t xs (.slice A len cap)) {l j:Nat} (h1:l ≤ j) (h2:j ≤ xs.length) :
  Row w lim t ((xs.take j).drop l) (.slice (if cap = l then A else A.map (·.add (l * t.size))) (j - l) (cap - l)):=by
 obtain ⟨A',cap',hv,hc,h⟩:=h
 obtain ⟨rfl,rfl,rfl⟩:A = A' ∧ len = xs.length ∧ cap = cap':=by simpa using hv
 have hl:((xs.take j).drop l).length = j - l:=by simp_all
 refine ⟨_,_,by rw [hl],by rw [hl]; omega,?_⟩
 by_cases he:l = j
 ·left; subst he; simp
 ·right
  rcases h with h | ⟨b,off,rfl,h⟩
  ·subst h; simp at h2; omega
  ·refine ⟨b,off + l * t.size,by rw [if_neg (by omega)]; simp [ZU],fun i hi => ?_⟩
   have hi':l + i < j:=by simp at hi; omega
   obtain ⟨c,hc',hcell⟩:=h (l + i) (by omega)
   grind
theorem ZmG {t:Ty} {xs:List t.den} {A:Option Addr} {len cap:Nat} (h:Row w lim t xs (.slice A len cap)) {n:Nat} (hn:n ≤ xs.length):Row w lim t (xs.take n) (.slice A n cap):=by
 obtain ⟨A',cap',hv,hc,h⟩:=h
 obtain ⟨rfl,rfl,rfl⟩:A = A' ∧ len = xs.length ∧ cap = cap':=by simpa using hv
 have hl:(xs.take n).length = n:=by rw [JA]; omega
 refine ⟨_,_,by rw [hl],by rw [hl]; omega,?_⟩
 rcases h with h | ⟨b,off,rfl,h⟩
 ·left; subst h; simp
 ·right
  refine ⟨b,off,rfl,fun i hi => ?_⟩
  simp_all
theorem ZaH {t:Ty} {y:AV} {k:List t.den → M Eff} {v:Value} {tbl:ZF} {l l':List Nat} {e:Eff} (hm:(Zfb t y k).run tbl l = some (e,l')) (ha:RA σ w lim y v)
  (hres:∀ r x,tbl r = .live x → RR σ w lim r x ∧ Ze tbl (ZL r x)):∃ ys l2,(k ys).run tbl l2 = some (e,l') ∧ Row w lim t ys v:=by
 unfold Zfb at hm
 split at hm
 ·rename_i r u i j
  simp only [M.run] at hm
  cases hr:tbl r with
  | fresh => simp [hr,M.run] at hm
  | gone => simp [hr,M.run] at hm
  | live z =>
   cases z with
   | box => simp [hr,M.run] at hm
   | nest => simp [hr,M.run] at hm
   | arr t' ys sh =>
    simp only [hr] at hm
    split at hm
    ·rename_i ht
     subst ht
     split at hm
     ·rename_i ht
      subst ht
      obtain ⟨hc,hm2⟩:=M.run_need hm
      obtain ⟨h1,h2⟩:=of_decide_eq_true hc
      have hrow:=Zat (hres r _ hr).1
      simp only [RA] at ha
      obtain ⟨A,len,cap,hs,rfl⟩:=ha
      rw [hs] at hrow
      exact ⟨_,_,hm2,ZnC hrow h1 h2⟩
     ·simp [M.run] at hm
    ·simp [M.run] at hm
 ·obtain ⟨ys,l1,h1,h2⟩:=M.run_bind_some hm
  exact ⟨ys,l1,h2,YR h1 ha hres⟩
theorem Zkg {t:Ty} {ys:List t.den} {v:Value} (h:Row w lim t ys v) {n:Nat} (hn:n ≤ ys.length) (P:Program):∃ css:List (List Value),Zv (Rt w lim t) (ys.take n) css ∧
  (Ji t.size n v).run P w = .ok css.flatten.toArray w ∧ (Jr v).run P w = .ok ys.length w:=by
 obtain ⟨A,cap,rfl,hc,h'⟩:=id h
 obtain ⟨A',cap',hv,hc,css,h3,h4⟩:=KV (ZmG h hn)
 have hl:(ys.take n).length = n:=by simp; omega
 obtain ⟨rfl,rfl⟩:A = A' ∧ cap = cap':=by simp at hv; exact ⟨hv.1,hv.2.2⟩
 have hfl:=ZN h3
 rw [hl] at hfl
 refine ⟨css,h3,?_,by simp [Jr]⟩
 rcases h4 with h4 | ⟨b,off,rfl,h4⟩
 ·rw [h4] at h3
  have:css = []:=by match css,h3 with | [],_ => rfl
  subst this
  have hn0:n = 0:=by rw [h4] at hl; simpa using hl.symm
  subst hn0
  cases A with
  | none => simp [Ji]
  | some a => simp [Ji,loadCells,loadCellsFrom]
 ·exact run_firstCells_some w t.size n _ _ _ css.flatten hfl (fun j u hj => by rw [ZU]; exact h4 j u hj)
theorem Zgt {P:Program} {T U ee ty:TypeId} {t:Ty} (he:QV P T = some (ee,t)) {A:Option Addr} {dl dc m n:Nat} {vy:Value} {cells:List Value} {w w':World}
  (hlen:(Jr vy).run P w = .ok m w) (hn:n = min m dl) (hfc:(Ji t.size n vy).run P w = .ok cells.toArray w)
  (hst:(match A with | some a => storeCells a cells 0 | none => pure ():Sem Unit).run P w = .ok () w') :
  (JC #[T,U] ty #[.slice A dl dc,vy]).run P w = .ok (.int .i64 n) w':=by
 obtain ⟨hue,ht,hs⟩:=Qc he
 obtain ⟨d,hd⟩:=QO ht
 have h2:=Z2 hd w
 rw [hs] at h2
 subst hn
 cases A with
 | none =>
  simp_all [Sem.run_pure,JC,run_underlying hue,hlen,h2,hfc,goInt]
 | some a =>
  simp_all [JC,run_underlying hue,hlen,h2,hfc,goInt,hst]
theorem Zet (h:RelW G σ lim st tmps w) {r:Nat} {t:Ty} {xs:List t.den} (hr:st.tbl r = .live (.arr t xs false)) {i j:Nat} (hij:i ≤ j) (hj:j ≤ xs.length) {T U ee ty:TypeId} (he:QV C.P T = some (ee,t))
  {vx vy:Value} {A:Option Addr} {len cap:Nat} (hσ:σ r = .slice A len cap) (hvx:∃ dc,vx = .slice (if cap = i then A else A.map (·.add (i * t.size))) (j - i) dc) {ys:List t.den} (hy:Row w lim t ys vy) :
  Qb C G st tmps w (JC #[T,U] ty #[vx,vy]) ⟨.val (.v (.int .i64 ((min ys.length (j - i):Nat):Int))),[(r,.live (.arr t (xs.take i ++ ys.take (j - i) ++ xs.drop (i + min ys.length (j - i))) false))]⟩:=by
 obtain ⟨dc,rfl⟩:=hvx
 generalize hn:min ys.length (j - i) = n
 have hny:n ≤ ys.length:=by omega
 obtain ⟨css,hcss,hfc,hlen⟩:=Zkg hy hny C.P
 have hty:ys.take (j - i) = ys.take n:=by
  grind
 rw [hty]
 have hl:(ys.take n).length = n:=by simp; omega
 have hfl:=ZN hcss
 rw [hl] at hfl
 obtain ⟨hR,_⟩:=h.res r _ hr
 have hR0:=hR
 simp only [RR] at hR
 obtain ⟨hsz,hR⟩:=hR
 have quiet:n = 0 → css.flatten = [] → Qb C G st tmps w (JC #[T,U] ty #[.slice (if cap = i then A else A.map (·.add (i * t.size))) (j - i) dc,vy]) ⟨.val (.v (.int .i64 (n:Int))),[(r,.live (.arr t (xs.take i ++ ys.take n ++ xs.drop (i + n)) false))]⟩:=by
  intro h0 hf
  refine ⟨_,w,σ,lim,Zgt (U:=U) (ty:=ty) (dc:=dc) he hlen hn.symm hfc (w':=w) ?_,?_,Zs,Zh⟩
  ·rw [hf]
   split <;> simp [storeCells]
  ·have e:xs.take i ++ ys.take n ++ xs.drop (i + n) = xs:=by rw [h0]; simp
   rw [e]
   exact h.reword hr (by intro q hq; cases hq) hR0
 rcases hR with ⟨e1,e2⟩ | ⟨b,off,cap',vs,V,fz,e1,e2,e3,e4,e5,e6,e7⟩
 ·have h0:n = 0:=by rw [e1] at hj; simp at hj; omega
  exact quiet h0 (JO (by rw [hfl,h0]; simp))
 ·by_cases h0:n = 0
  ·exact quiet h0 (JO (by rw [hfl,h0]; simp))
  ·rw [e1] at hσ
   obtain ⟨rfl,rfl,rfl⟩:some ⟨b,off,none⟩ = A ∧ xs.length = len ∧ cap' = cap:=by simpa using hσ
   have hci:¬ (cap' = i):=by omega
   have hmul:(i + n) * t.size ≤ cap' * t.size:=Jk _ (by omega)
   rw [Jg] at hmul
   have hvl:vs.toList.length = vs.size:=by simp
   have hst:=Z5 (P:=C.P) b (off + i * t.size) V fz css.flatten 0 vs w e3 (by rw [hfl]; omega) e5.free (Yn hcss)
   simp only [JI,hfl] at hst
   have hns:(vs.toList.take (off + i * t.size) ++ css.flatten ++ vs.toList.drop (off + i * t.size + n * t.size)).toArray.size = vs.size:=by
    grind
   simp only [cond_false] at e7
   have hW:=h.write hr (y:=.arr t (xs.take i ++ ys.take n ++ xs.drop (i + n)) false) (by rw [e1]; rfl) e3 (cs:=(vs.toList.take (off + i * t.size) ++ css.flatten ++ vs.toList.drop (off + i * t.size + n * t.size)).toArray)
    (fun o ho => by omega) (by intro q hq; cases hq) (fun hE => by
     simp only [RR]
     have hlen':(xs.take i ++ ys.take n ++ xs.drop (i + n)).length = xs.length:=by grind
     refine ⟨hsz,.inr ⟨b,off,cap',_,V,fz,by rw [hlen']; exact e1,by rw [hlen']; exact e2,setRow_heap w b vs _ V fz e3,by rw [hns]; exact e4,⟨fun o ho => e5.free o (by rw [hns] at ho; exact ho),e5.kind,e5.ord,by rw [hns]; exact e5.big⟩,fun p hp => ?_,by simpa using e7⟩⟩
     rw [hlen'] at hp
     by_cases hp1:p < i
     ·have him:(p + 1) * t.size ≤ i * t.size:=Jk _ hp1
      rw [Jg,Jq] at him
      have e:(((vs.toList.take (off + i * t.size) ++ css.flatten ++ vs.toList.drop (off + i * t.size + n * t.size)).drop (off + p * t.size)).take t.size) = ((vs.toList.drop (off + p * t.size)).take t.size):=by
       apply Js
       grind
      simp only [JV,e]
      have e':(xs.take i ++ ys.take n ++ xs.drop (i + n))[p]'(by rw [hlen']; exact hp) = xs[p]:=by
       grind
      rw [e']
      exact (e6 p hp).mono hE
     ·by_cases hp2:p < i + n
      ·have hpre:(vs.toList.take (off + i * t.size)).length = off + i * t.size:=by simp; omega
       have hidx:off + p * t.size = (vs.toList.take (off + i * t.size)).length + (p - i) * t.size:=by
        rw [hpre,JW,← Jg]; congr 2; omega
       have hlist:(((vs.toList.take (off + i * t.size) ++ css.flatten ++ vs.toList.drop (off + i * t.size + n * t.size)).drop (off + p * t.size)).take t.size) =
         (((css.flatten ++ vs.toList.drop (off + i * t.size + n * t.size)).drop ((p - i) * t.size)).take t.size):=by
        rw [Jv,hidx,Zgw]
       simp only [JV,hlist]
       have e':(xs.take i ++ ys.take n ++ xs.drop (i + n))[p]'(by rw [hlen']; exact hp) = (ys.take n)[p - i]'(by rw [hl]; omega):=by
        grind
       rw [e']
       exact (Zcu hcss _ (by rw [hl]; omega)).mono hE
      ·have him:(i + n) * t.size ≤ p * t.size:=Jk _ (by omega)
       rw [Jg] at him
       have e:(((vs.toList.take (off + i * t.size) ++ css.flatten ++ vs.toList.drop (off + i * t.size + n * t.size)).drop (off + p * t.size)).take t.size) = ((vs.toList.drop (off + p * t.size)).take t.size):=by
        apply Js
        intro m
        simp only [JP,Jz,Jp,JA,JQ,Vj,hfl]
        grind
       simp only [JV,e]
       have e'':(xs.take i ++ ys.take n ++ xs.drop (i + n))[p]? = xs[p]? := by
        rw [Jv,Vu (by simp; omega),Vu (by simp; omega),Jp]
        simp only [JA]
        congr 1
        omega
       have e':(xs.take i ++ ys.take n ++ xs.drop (i + n))[p]'(by rw [hlen']; exact hp) = xs[p]:=by
        simp_all
       rw [e']
       exact (e6 p hp).mono hE)
   refine ⟨_,_,σ,lim,Zgt (U:=U) (ty:=ty) (dc:=dc) he hlen hn.symm hfc ?_,hW.1,Zs,Zh⟩
   simp_all [hci,if_false,VE,ZU]
theorem ZjN (h:RelW G σ lim st tmps w) {ats:Array TypeId} {ty:TypeId} {x y:AV} {vx vy:Value} {l l':List Nat} {e:Eff}
  (hm:(Ze1 C ats x y).run st.tbl l = some (e,l')) (hx:RA σ w lim x vx) (hy:RA σ w lim y vy):Qb C G st tmps w (JC ats ty #[vx,vy]) e:=by
 unfold Ze1 at hm
 split at hm
 ·rename_i T U hat
  obtain rfl:ats = #[T,U]:=by apply JJ; simpa using hat
  cases he:QV C.P T with
  | none => simp [he,M.run] at hm
  | some q =>
   obtain ⟨ee,t⟩:=q
   simp only [he] at hm
   split at hm
   ·rename_i r
    simp only [M.run] at hm
    split at hm
    ·rename_i t' xs hr
     split at hm
     ·rename_i ht
      subst ht
      simp only [ZaG] at hm
      obtain ⟨ys,l2,hk,hrow⟩:=ZaH hm hy h.res
      obtain ⟨rfl,_⟩:=M.run_ret hk
      simp only [RA] at hx
      obtain ⟨rfl,_⟩:=hx
      obtain ⟨A,cap,hv⟩:∃ A cap,σ r = .slice A xs.length cap:=by
       obtain ⟨hR,_⟩:=h.res r _ hr
       grind [RR]
      refine Zet h hr (Nat.zero_le _) (Jj _) he hv ⟨cap,?_⟩ hrow
      simp_all [Addr.add]
     ·simp [M.run] at hm
    ·exact (M.run_fail hm).elim
   ·rename_i r u i j
    simp only [M.run] at hm
    split at hm
    ·rename_i t' xs hr
     split at hm
     ·rename_i ht
      subst ht
      split at hm
      ·rename_i ht
       subst ht
       obtain ⟨hc,hm2⟩:=M.run_need hm
       obtain ⟨h1,h2⟩:=of_decide_eq_true hc
       simp only [ZaG] at hm2
       obtain ⟨ys,l2,hk,hrow⟩:=ZaH hm2 hy h.res
       obtain ⟨rfl,_⟩:=M.run_ret hk
       simp only [RA] at hx
       obtain ⟨A,len,cap,hs,rfl⟩:=hx
       exact Zet h hr h1 h2 he hs ⟨_,rfl⟩ hrow
      ·simp [M.run] at hm
     ·simp [M.run] at hm
    ·exact (M.run_fail hm).elim
   ·exact (M.run_fail hm).elim
 ·exact (M.run_fail hm).elim
end Go.Sh
namespace Go.Sh
open Go
variable [Gl]
variable {C:Ctx} {G:Glob} {σ:QM} {w:World} {lim:Nat → Nat} {st:St} {tmps:Array Value}
def XN (w:World) (lim:Nat → Nat) (t:Ty) (x:t.den) (v:Value):Prop :=
 ∃ cs,Rt w lim t x cs ∧ ((t.isAgg = true ∧ v = .agg cs.toArray) ∨ (t.isAgg = false ∧ cs = [v]))
def Zh4 (w:World) (lim:Nat → Nat) (t:Ty) (sh:Bool) (xs:List t.den) (v:Value) (bs:List Nat):Prop :=
 0 < t.size ∧ ((xs = [] ∧ v = .slice none 0 0 ∧ bs = []) ∨ ∃ b off cap vs T fz,v = .slice (some ⟨b,off,none⟩) xs.length cap ∧ xs.length ≤ cap ∧
   w.heap[b]? = some (.cells vs T fz) ∧ off + cap * t.size ≤ vs.size ∧ Fit t T vs.size fz ∧
   (∀ i (h:i < xs.length),Rt w lim t xs[i] ((vs.toList.drop (off + i * t.size)).take t.size)) ∧ (bif sh then lim b ≤ off + xs.length * t.size else lim b = 0) ∧ bs = [b])
def Znr (x v:Value):Prop:=x = .pointer none ∨ x = v
mutual
def TT (w:World) (lim:Nat → Nat):RV → Value → List Nat → Prop
 | .view t x,v,bs => XN w lim t x v ∧ bs = []
 | .own t sh xs,v,bs => Zh4 w lim t sh xs v bs
 | .box cs,v,bs => ∃ b vs U bs1,v = .pointer (some ⟨b,0,none⟩) ∧ w.heap[b]? = some (.cells vs U (0,0)) ∧ KL w lim cs vs.toList bs1 ∧ lim b = 0 ∧ bs = b :: bs1
 | .agg cs,v,bs => ∃ vs:List Value,v = .agg vs.toArray ∧ KL w lim cs vs bs
 | .tup cs,v,bs => ∃ vs:List Value,v = .tuple vs.toArray ∧ KL w lim cs vs bs
 | .fn f,v,bs => v = .func (.func f) #[] #[] ∧ bs = []
 | .ns t xs,v,bs => (Rt w lim (.sl t) xs [v] ∧ (xs = [] → v = .slice none 0 0)) ∧ bs = []
 | .vp t xs,v,bs => (∃ a n m,v = .pointer (some a) ∧ Rt w lim (.sl t) xs [.slice (some a) n m]) ∧ bs = []
 | .clo f cs,v,bs => ∃ vs:List Value,v = .func (.func f) #[] vs.toArray ∧ KL w lim cs vs bs
 | .bld T xs,v,bs => ∃ b x y bs1,v = .pointer (some ⟨b,0,none⟩) ∧ w.heap[b]? = some (.cells #[x,y] T (0,0)) ∧ Znr x v ∧ Zh4 w lim (.int .u8) false xs y bs1 ∧ lim b = 0 ∧ bs = b :: bs1
def KL (w:World) (lim:Nat → Nat):List RV → List Value → List Nat → Prop
 | [],[],bs => bs = []
 | x :: l,v :: m,bs => ∃ b1 b2,bs = b1 ++ b2 ∧ TT w lim x v b1 ∧ KL w lim l m b2
 | _,_,_ => False
end
def Qt:RS → Bool
 | .gone => true
 | _ => false
def Zy:Qh → List Nat
 | [] => []
 | (r,x) :: u => if Qt x then r :: Zy u else Zy u
def WX:Qh → Qh
 | [] => []
 | (r,x) :: u => if Qt x then WX u else (r,x) :: WX u
theorem WP (u v:Qh):Zy (u ++ v) = Zy u ++ Zy v:=by
 induction u with
 | nil => rfl
 | cons p u ih => obtain ⟨r,x⟩:=p; simp only [J2,Zy]; split <;> simp [ih]
theorem Q7 {u:Qh} {r:Nat}:r ∈ Zy u ↔ (r,RS.gone) ∈ u:=by
 induction u with
 | nil => simp [Zy]
 | cons p u ih =>
  obtain ⟨s,x⟩:=p
  simp only [Zy]
  cases x <;> simp [Qt,ih]
theorem Kz {u:Qh} {p:Nat × RS}:p ∈ WX u ↔ p ∈ u ∧ Qt p.2 = false:=by
 induction u with
 | nil => simp [WX]
 | cons q u ih =>
  obtain ⟨s,x⟩:=q
  simp only [WX]
  grind
def Zcg (T:ZF) (u:Qh):Prop := ∀ p ∈ u,(p.2 = .gone ∧ Zw (T p.1) = true) ∨ ∃ (t:Ty) (xs:List t.den) (sh:Bool),p.2 = .live (.arr t xs true) ∧ T p.1 = .live (.arr t xs sh)
theorem Zcg.append {T:ZF} {u v:Qh} (h:Zcg T u) (k:Zcg T v):Zcg T (u ++ v):=by
 intro p hp
 rcases Jt.1 hp with hp | hp
 ·exact h p hp
 ·exact k p hp
theorem Wx.good {T:ZF} {u:Qh} (h:Wx T u):Zcg T u:=fun p hp => .inr (h p hp)
theorem Wx.nogones {T:ZF} {u:Qh} (h:Wx T u):Zy u = []:=by
 induction u with
 | nil => rfl
 | cons p u ih =>
  obtain ⟨r,x⟩:=p
  obtain ⟨t,xs,sh,hx,_⟩:=h (r,x) (Jm ..)
  simp only at hx; subst hx
  simp only [Zy,Qt]
  exact ih fun q hq => h q (Jo _ hq)
structure Shown (σ:QM) (w:World) (lim':Nat → Nat) (T:ZF) (u:Qh):Prop where
 sl:∀ r (t:Ty) (xs:List t.den),(r,RS.live (.arr t xs true)) ∈ u → RP w lim' (.sl t xs) (σ r)
 rr:∀ r x,(r,RS.gone) ∈ u → T r = .live x → RR σ w lim' r x
theorem Shown.left {σ:QM} {w:World} {lim':Nat → Nat} {T:ZF} {u v:Qh} (h:Shown σ w lim' T (u ++ v)):Shown σ w lim' T u :=
 ⟨fun r t xs hm => h.sl r t xs (JH _ hm),fun r x hm => h.rr r x (JH _ hm)⟩
theorem Shown.right {σ:QM} {w:World} {lim':Nat → Nat} {T:ZF} {u v:Qh} (h:Shown σ w lim' T (u ++ v)):Shown σ w lim' T v :=
 ⟨fun r t xs hm => h.sl r t xs (JB _ hm),fun r x hm => h.rr r x (JB _ hm)⟩
def ZX (σ:QM) (l:List Nat):List Nat:=l.filterMap fun r => blk (σ r)
theorem X5 (σ:QM) (a b:List Nat):ZX σ (a ++ b) = ZX σ a ++ ZX σ b:=by simp [ZX]
theorem Zaf (t:Ty) (sh:Bool) (a:AV) {l l':List Nat} {x:RV} {u:Qh} (hm:(take (.own t sh) a).run st.tbl l = some ((x,u),l')) :
  Zcg st.tbl u ∧ ∀ (v:Value),RA σ w lim a v → (∀ r y,st.tbl r = .live y → RR σ w lim r y) → ∀ lim',Ext w lim w lim' → Shown σ w lim' st.tbl u → TT w lim' x v (ZX σ (Zy u)):=by
 cases a with
 | own r =>
  simp only [take,M.run] at hm
  cases hr:st.tbl r with
  | fresh => simp [hr,M.run] at hm
  | gone => simp [hr,M.run] at hm
  | live y =>
   cases y with
   | box => simp [hr,M.run] at hm
   | nest => simp [hr,M.run] at hm
   | arr t' xs s =>
    simp only [hr] at hm
    split at hm
    ·rename_i ht
     subst ht
     obtain ⟨hg,hm2⟩:=M.run_guard hm
     obtain ⟨h,_⟩:=M.run_ret hm2
     cases h
     refine ⟨by intro p hp; simp at hp; subst hp; exact .inl ⟨rfl,by rw [hr]; rfl⟩,fun v ha _ lim' e shn => ?_⟩
     have hR:=shn.rr r _ (by simp) hr
     simp only [RA] at ha; obtain ⟨rfl,_⟩:=ha
     simp only [TT,Zh4]
     simp only [RR] at hR
     refine ⟨hR.1,?_⟩
     rcases hR.2 with ⟨e1,e2⟩ | ⟨b,off,cap,vs,U,fz,e1,e2,e3,e4,e5,e6,e7⟩
     ·simp_all [Zy,Qt,ZX,e2,blk]
     ·refine .inr ⟨b,off,cap,vs,U,fz,e1,e2,e3,e4,e5,e6,?_,by simp [Zy,Qt,ZX,e1,blk]⟩
      grind
    ·simp [M.run] at hm
 | val p =>
  cases p with
  | v y =>
   simp only [take] at hm
   obtain ⟨hg,hm2⟩:=M.run_guard hm
   simp only [Jh] at hg
   obtain ⟨h,_⟩:=M.run_ret hm2
   cases h
   have:=WQ hg.1
   subst this
   refine ⟨(by intro p hp; cases hp),fun v ha _ lim' e shn => ?_⟩
   simp only [RA,RP] at ha; subst ha
   simp only [TT,Zh4]
   exact ⟨Ju hg.2,.inl ⟨trivial,trivial,rfl⟩⟩
  | sl => simp [take,M.run] at hm
 | _ => simp [take,M.run] at hm
theorem Zgd {t:Ty} {a:AV} {T:ZF} {l l':List Nat} {xs:List t.den} {u:Qh} (hm:(YW t a).run T l = some ((xs,u),l')):(take (.own t false) a).run T l = some ((.own t false xs,u),l'):=by
 cases a with
 | own r =>
  simp only [YW,take,M.run] at hm ⊢
  cases hr:T r with
  | fresh => simp [hr,M.run] at hm
  | gone => simp [hr,M.run] at hm
  | live y =>
   cases y with
   | box => simp [hr,M.run] at hm
   | nest => simp [hr,M.run] at hm
   | arr t' ys s =>
    simp only [hr] at hm ⊢
    split at hm
    ·rename_i ht
     subst ht
     rw [dif_pos rfl]
     obtain ⟨hg,hm2⟩:=M.run_guard hm
     obtain ⟨h,h2⟩:=M.run_ret hm2
     cases h
     simp [hg,M.run,h2]
    ·simp [M.run] at hm
 | val p =>
  cases p with
  | v y =>
   simp only [YW,take] at hm ⊢
   obtain ⟨hg,hm2⟩:=M.run_guard hm
   obtain ⟨h,h2⟩:=M.run_ret hm2
   cases h
   simp [hg,M.run,h2]
  | sl => simp [YW,M.run] at hm
 | _ => simp [YW,M.run] at hm
theorem Znt {r:Nat} {T:TypeId} {c:AV} {x:Value} (h:Zns r T c = true) (hx:RA σ w lim c x) {b:Nat} (hr:σ r = .pointer (some ⟨b,0,none⟩)):Znr x (.pointer (some ⟨b,0,none⟩)) ∧ Z8 w b = some T:=by
 unfold Zns at h
 split at h
 ·rename_i q U
  simp only [Jh] at h
  obtain ⟨h1,h2⟩:=h
  obtain rfl:=ZC h1
  obtain rfl:=ZC h2
  simp only [RA] at hx
  obtain ⟨p,rfl,e,b',e1,e2⟩:=hx
  rw [hr] at e1
  obtain rfl:b = b':=by simpa using e1
  refine ⟨?_,e2⟩
  rcases e with rfl | e
  ·exact .inl rfl
  ·rw [e,hr]; exact .inr rfl
 ·cases h
theorem Zhe (ks:List Kd) (a:AV):take (.ref ks) a = take (.box ks) a:=by
 cases a with
 | bx r k => cases k <;> rfl
 | _ => rfl
theorem ZmQ (T:TypeId) (a:AV):take (.use T) a = take (.bld T) a:=by
 cases a with
 | bx r k => cases k <;> rfl
 | _ => rfl
theorem Zhc (t:Ty) (a:AV) {l l':List Nat} {x:RV} {u:Qh} (hm:(Zig t a).run st.tbl l = some ((x,u),l')) :
  Zcg st.tbl u ∧ ∀ (v:Value),RA σ w lim a v → (∀ r y,st.tbl r = .live y → RR σ w lim r y) → ∀ lim',Ext w lim w lim' → Shown σ w lim' st.tbl u → TT w lim' x v (ZX σ (Zy u)):=by
 unfold Zig at hm
 split at hm
 ·rename_i t' xs
  split at hm
  ·rename_i ht
   subst ht
   obtain ⟨h,_⟩:=M.run_ret hm
   cases h
   refine ⟨(by intro p hp; cases hp),fun v ha _ lim' e _ => ?_⟩
   simp only [RA] at ha
   simp only [TT]
   exact ⟨⟨ha.1.mono e,ha.2⟩,rfl⟩
  ·simp [M.run] at hm
 ·rename_i y
  obtain ⟨hg,hm2⟩:=M.run_guard hm
  obtain ⟨h,_⟩:=M.run_ret hm2
  cases h
  refine ⟨(by intro p hp; cases hp),fun v ha _ lim' e _ => ?_⟩
  simp only [RA,RP] at ha
  have:=WQ hg
  subst this
  subst ha
  simp only [TT,Rt]
  exact ⟨⟨⟨none,0,0,rfl,rfl,Jj _,.inl trivial⟩,fun _ => trivial⟩,rfl⟩
 ·rename_i r
  simp only [M.run] at hm
  cases hr:st.tbl r with
  | fresh => simp [hr,M.run] at hm
  | gone => simp [hr,M.run] at hm
  | live y =>
   cases y with
   | box => simp [hr,M.run] at hm
   | nest => simp [hr,M.run] at hm
   | arr t' xs s =>
    simp only [hr] at hm
    split at hm
    ·rename_i ht
     subst ht
     obtain ⟨hc,hm2⟩:=M.run_need hm
     have hc:=of_decide_eq_true hc
     obtain ⟨h,_⟩:=M.run_ret hm2
     cases h
     refine ⟨by intro p hp; simp_all,fun v ha _ lim' e shn => ?_⟩
     have:=shn.sl r t' xs (by simp)
     grind [RA,RP,TT,Zy,Qt,ZX]
    ·simp [M.run] at hm
 ·simp [M.run] at hm
theorem Zhd (t:Ty) (a:AV) {l l':List Nat} {x:RV} {u:Qh} (hm:(Zih t a).run st.tbl l = some ((x,u),l')) :
  Zcg st.tbl u ∧ ∀ (v:Value),RA σ w lim a v → (∀ r y,st.tbl r = .live y → RR σ w lim r y) → ∀ lim',Ext w lim w lim' → Shown σ w lim' st.tbl u → TT w lim' x v (ZX σ (Zy u)):=by
 unfold Zih at hm
 split at hm
 ·rename_i t' xs
  split at hm
  ·rename_i ht
   subst ht
   obtain ⟨h,_⟩:=M.run_ret hm
   cases h
   refine ⟨(by intro p hp; cases hp),fun v ha _ lim' e _ => ?_⟩
   simp only [RA] at ha
   obtain ⟨a,n,m,h1,h2⟩:=ha
   simp only [TT]
   exact ⟨⟨a,n,m,h1,h2.mono e⟩,rfl⟩
  ·simp [M.run] at hm
 ·rename_i r u'
  split at hm
  ·simp only [M.run] at hm
   cases hr:st.tbl r with
   | fresh => simp [hr,M.run] at hm
   | gone => simp [hr,M.run] at hm
   | live y =>
    cases y with
    | box => simp [hr,M.run] at hm
    | nest => simp [hr,M.run] at hm
    | arr t' xs s =>
     simp only [hr] at hm
     split at hm
     ·rename_i ht
      subst ht
      obtain ⟨hc,hm2⟩:=M.run_need hm
      obtain ⟨h,_⟩:=M.run_ret hm2
      cases h
      refine ⟨by intro p hp; simp at hp; subst hp; exact .inr ⟨t',xs,s,rfl,hr⟩,fun v ha _ lim' e shn => ?_⟩
      have:=shn.sl r t' xs (by simp)
      simp only [RA] at ha; obtain ⟨b,off,len,cap,hs,rfl⟩:=ha
      simp only [RP] at this
      rw [hs] at this
      simp only [TT]
      exact ⟨⟨⟨b,off,none⟩,len,cap,by simp,this⟩,by simp [Zy,Qt,ZX]⟩
     ·simp [M.run] at hm
  ·simp [M.run] at hm
 ·simp [M.run] at hm
theorem Zad (T:TypeId) (a:AV) {l l':List Nat} {x:RV} {u:Qh} (hm:(take (.bld T) a).run st.tbl l = some ((x,u),l')) :
  Zcg st.tbl u ∧ ∀ (v:Value),RA σ w lim a v → (∀ r y,st.tbl r = .live y → RR σ w lim r y) → ∀ lim',Ext w lim w lim' → Shown σ w lim' st.tbl u → TT w lim' x v (ZX σ (Zy u)):=by
 cases a with
 | bx r k =>
  cases k with
  | succ k => simp [take,M.run] at hm
  | zero =>
   simp only [take,M.run] at hm
   cases hr:st.tbl r with
   | fresh => simp [hr,M.run] at hm
   | gone => simp [hr,M.run] at hm
   | live y =>
    cases y with
    | arr => simp [hr,M.run] at hm
    | nest => simp [hr,M.run] at hm
    | box cs =>
     match cs,hr with
     | [c0,c1],hr =>
      simp only [hr] at hm
      obtain ⟨hg,hm2⟩:=M.run_guard hm
      obtain ⟨⟨ys,u1⟩,l1,h1,h2⟩:=M.run_bind_some hm2
      obtain ⟨h,_⟩:=M.run_ret h2
      cases h
      obtain ⟨s1,k1⟩:=Zaf (σ:=σ) (w:=w) (lim:=lim) _ _ c1 (Zgd h1)
      refine ⟨by
       intro p hp
       cases hp with
       | head => exact .inl ⟨rfl,by rw [hr]; rfl⟩
       | tail _ hp => exact s1 p hp,fun v ha hres lim' e shn => ?_⟩
      have hR:=hres r _ hr
      have hR':=shn.rr r _ (Jm ..) hr
      obtain ⟨b,vs,U,e1,rfl,e3,e4,_⟩:=Wz ha hR
      simp only [RR] at hR'
      obtain ⟨b',vs',U',f1,_,_,f4⟩:=hR'
      rw [e1] at f1
      obtain rfl:b = b':=by simpa using f1
      obtain ⟨vl⟩:=vs
      match vl,e4,e3 with
      | [x,y],e4,e3 =>
       simp only [ZA,and_true] at e4
       simp only [TT]
       have:=k1 y e4.2 hres lim' e (Shown.right (u:=[(r,.gone)]) shn)
       simp only [TT] at this
       obtain ⟨m1,m2⟩:=Znt (w:=w) (lim:=lim) hg e4.1 e1
       simp only [Z8,e3,Option.some.injEq] at m2
       subst m2
       exact ⟨b,x,y,_,rfl,e3,m1,this,f4,by simp [Zy,Qt,ZX,e1,blk]⟩
     | [],hr => simp [hr,M.run] at hm
     | [_],hr => simp [hr,M.run] at hm
     | _ :: _ :: _ :: _,hr => simp [hr,M.run] at hm
 | _ => simp [take,M.run] at hm
mutual
theorem ZeX:(k:Kd) → (a:AV) → {l l':List Nat} → {x:RV} → {u:Qh} → (take k a).run st.tbl l = some ((x,u),l') →
  Zcg st.tbl u ∧ ∀ (v:Value),RA σ w lim a v → (∀ r y,st.tbl r = .live y → RR σ w lim r y) → ∀ lim',Ext w lim w lim' → Shown σ w lim' st.tbl u → TT w lim' x v (ZX σ (Zy u))
 | .view t,a,l,l',x,u,hm => by
  simp only [take] at hm
  obtain ⟨⟨y,u1⟩,l1,h1,h2⟩:=M.run_bind_some hm
  obtain ⟨h,_⟩:=M.run_ret h2
  cases h
  obtain ⟨s1,k1⟩:=ZdZ (σ:=σ) h1
  refine ⟨s1.good,fun v ha _ lim' e sh => ?_⟩
  obtain ⟨cs,h3,_,h4⟩:=k1 w lim v ha lim' e sh.sl
  simp only [TT]
  exact ⟨⟨cs,h3,h4⟩,by rw [s1.nogones]; rfl⟩
 | .own t sh,a,l,l',x,u,hm => Zaf t sh a hm
 | .box ks,a,l,l',x,u,hm => by
  cases a with
  | bx r k =>
   cases k with
   | succ k => simp [take,M.run] at hm
   | zero =>
    simp only [take,M.run] at hm
    cases hr:st.tbl r with
    | fresh => simp [hr,M.run] at hm
    | gone => simp [hr,M.run] at hm
    | live y =>
     cases y with
     | arr => simp [hr,M.run] at hm
     | nest => simp [hr,M.run] at hm
     | box cs =>
      simp only [hr] at hm
      obtain ⟨⟨ys,u1⟩,l1,h1,h2⟩:=M.run_bind_some hm
      obtain ⟨h,_⟩:=M.run_ret h2
      cases h
      obtain ⟨s1,k1⟩:=QJ ks cs h1
      refine ⟨by
       intro p hp
       cases hp with
       | head => exact .inl ⟨rfl,by rw [hr]; rfl⟩
       | tail _ hp => exact s1 p hp,fun v ha hres lim' e shn => ?_⟩
      have hR:=hres r _ hr
      have hR':=shn.rr r _ (Jm ..) hr
      obtain ⟨b,vs,U,e1,rfl,e3,e4,_⟩:=Wz ha hR
      simp only [RR] at hR'
      obtain ⟨b',vs',U',f1,_,_,f4⟩:=hR'
      rw [e1] at f1
      obtain rfl:b = b':=by simpa using f1
      simp only [TT]
      exact ⟨b,vs,U,_,rfl,e3,k1 vs.toList e4 hres lim' e (Shown.right (u:=[(r,.gone)]) shn),f4,by simp [Zy,Qt,ZX,e1,blk]⟩
  | _ => simp [take,M.run] at hm
 | .ref ks,a,l,l',x,u,hm => by
  rw [Zhe] at hm
  cases a with
  | bx r k =>
   cases k with
   | succ k => simp [take,M.run] at hm
   | zero =>
    simp only [take,M.run] at hm
    cases hr:st.tbl r with
    | fresh => simp [hr,M.run] at hm
    | gone => simp [hr,M.run] at hm
    | live y =>
     cases y with
     | arr => simp [hr,M.run] at hm
     | nest => simp [hr,M.run] at hm
     | box cs =>
      simp only [hr] at hm
      obtain ⟨⟨ys,u1⟩,l1,h1,h2⟩:=M.run_bind_some hm
      obtain ⟨h,_⟩:=M.run_ret h2
      cases h
      obtain ⟨s1,k1⟩:=QJ ks cs h1
      refine ⟨by
       intro p hp
       cases hp with
       | head => exact .inl ⟨rfl,by rw [hr]; rfl⟩
       | tail _ hp => exact s1 p hp,fun v ha hres lim' e shn => ?_⟩
      have hR:=hres r _ hr
      have hR':=shn.rr r _ (Jm ..) hr
      obtain ⟨b,vs,U,e1,rfl,e3,e4,_⟩:=Wz ha hR
      simp only [RR] at hR'
      obtain ⟨b',vs',U',f1,_,_,f4⟩:=hR'
      rw [e1] at f1
      obtain rfl:b = b':=by simpa using f1
      simp only [TT]
      exact ⟨b,vs,U,_,rfl,e3,k1 vs.toList e4 hres lim' e (Shown.right (u:=[(r,.gone)]) shn),f4,by simp [Zy,Qt,ZX,e1,blk]⟩
  | _ => simp [take,M.run] at hm
 | .agg ks,a,l,l',x,u,hm => by
  cases a with
  | agg cs =>
   simp only [take] at hm
   obtain ⟨⟨ys,u1⟩,l1,h1,h2⟩:=M.run_bind_some hm
   obtain ⟨h,_⟩:=M.run_ret h2
   cases h
   obtain ⟨s1,k1⟩:=QJ ks cs h1
   refine ⟨s1,fun v ha hres lim' e shn => ?_⟩
   simp only [RA] at ha; obtain ⟨vs,rfl,h3⟩:=ha
   simp only [TT]
   exact ⟨vs,rfl,k1 vs h3 hres lim' e shn⟩
  | _ => simp [take,M.run] at hm
 | .tup ks,a,l,l',x,u,hm => by
  cases a with
  | tup cs =>
   simp only [take] at hm
   obtain ⟨⟨ys,u1⟩,l1,h1,h2⟩:=M.run_bind_some hm
   obtain ⟨h,_⟩:=M.run_ret h2
   cases h
   obtain ⟨s1,k1⟩:=QJ ks cs h1
   refine ⟨s1,fun v ha hres lim' e shn => ?_⟩
   simp only [RA] at ha; obtain ⟨vs,rfl,h3⟩:=ha
   simp only [TT]
   exact ⟨vs,rfl,k1 vs h3 hres lim' e shn⟩
  | _ => simp [take,M.run] at hm
 | .fn f,a,l,l',x,u,hm => by
  cases a with
  | fn g =>
   simp only [take] at hm
   obtain ⟨hg,hm2⟩:=M.run_guard hm
   obtain ⟨h,_⟩:=M.run_ret hm2
   cases h
   obtain rfl:=ZC hg
   refine ⟨(by intro p hp; cases hp),fun v ha _ lim' e shn => ?_⟩
   simp only [RA] at ha
   simp only [TT]
   exact ⟨ha,rfl⟩
  | _ => simp [take,M.run] at hm
 | .ns t,a,l,l',x,u,hm => Zhc t a (by simpa only [take] using hm)
 | .vp t,a,l,l',x,u,hm => Zhd t a (by simpa only [take] using hm)
 | .clo f ks,a,l,l',x,u,hm => by
  cases a with
  | clo g cs =>
   simp only [take] at hm
   obtain ⟨hg,hm⟩:=M.run_guard hm
   obtain ⟨⟨ys,u1⟩,l1,h1,h2⟩:=M.run_bind_some hm
   obtain ⟨h,_⟩:=M.run_ret h2
   cases h
   obtain rfl:=ZC hg
   obtain ⟨s1,k1⟩:=QJ ks cs h1
   refine ⟨s1,fun v ha hres lim' e shn => ?_⟩
   simp only [RA] at ha; obtain ⟨vs,rfl,h3⟩:=ha
   simp only [TT]
   exact ⟨vs,rfl,k1 vs h3 hres lim' e shn⟩
  | _ => simp [take,M.run] at hm
 | .bld T,a,l,l',x,u,hm => Zad T a hm
 | .use T,a,l,l',x,u,hm => Zad T a (by rw [← ZmQ]; exact hm)
theorem QJ:(ks:List Kd) → (as:List AV) → {l l':List Nat} → {xs:List RV} → {u:Qh} → (takes ks as).run st.tbl l = some ((xs,u),l') →
  Zcg st.tbl u ∧ ∀ (vs:List Value),ZA σ w lim as vs → (∀ r y,st.tbl r = .live y → RR σ w lim r y) → ∀ lim',Ext w lim w lim' → Shown σ w lim' st.tbl u → KL w lim' xs vs (ZX σ (Zy u))
 | [],[],l,l',xs,u,hm => by
  obtain ⟨h,_⟩:=M.run_ret hm
  cases h
  refine ⟨(by intro p hp; cases hp),fun vs h _ lim' _ _ => ?_⟩
  match vs,h with | [],_ => simp [KL,Zy,ZX]
 | k :: ks,a :: as,l,l',xs,u,hm => by
  simp only [takes] at hm
  obtain ⟨⟨x,u1⟩,l1,h1,h2⟩:=M.run_bind_some hm
  obtain ⟨⟨ys,u2⟩,l2,h3,h4⟩:=M.run_bind_some h2
  obtain ⟨h,_⟩:=M.run_ret h4
  cases h
  obtain ⟨s1,k1⟩:=ZeX k a h1
  obtain ⟨s2,k2⟩:=QJ ks as h3
  refine ⟨s1.append s2,fun vs h hres lim' e shn => ?_⟩
  match vs,h with
  | v :: vs,h =>
   simp only [ZA] at h
   simp only [KL]
   exact ⟨_,_,by rw [WP,X5],k1 v h.1 hres lim' e shn.left,k2 vs h.2 hres lim' e shn.right⟩
 | [],_ :: _,l,l',xs,u,hm => by simp [takes,M.run] at hm
 | _ :: _,[],l,l',xs,u,hm => by simp [takes,M.run] at hm
end
theorem ZdI {i:Nat} {x:RS} {u:Qh} (h:Zaa ((i,x) :: u) = true):(∀ p ∈ u,p.1 = i → Zcw x p.2 = true) ∧ Zaa u = true:=by
 simp only [Zaa,Jh,Vg] at h
 refine ⟨fun p hp e => ?_,h.2⟩
 have:=h.1 p hp
 simp_all
theorem Za9 {x:RS}:Zcw x .gone = false:=by
 cases x with
 | live y => cases y with
  | arr t xs s => cases s <;> rfl
  | box cs => rfl
  | nest t xss o => rfl
 | _ => rfl
theorem Zeg {x:RS}:Zcw .gone x = false:=rfl
theorem YO : {u:Qh} → Zaa u = true → {r:Nat} → (r,RS.gone) ∈ u → ∀ y,(r,y) ∈ u → y = .gone
 | (i,x) :: u,h,r,hg,y,hy => by
  obtain ⟨h1,h2⟩:=ZdI h
  cases hg with
  | head =>
   cases hy with
   | head => rfl
   | tail _ hy => have:=h1 _ hy rfl; rw [Zeg] at this; cases this
  | tail _ hg =>
   cases hy with
   | head => have:=h1 _ hg rfl; rw [Za9] at this; cases this
   | tail _ hy => exact YO h2 hg y hy
 | [],_,_,hg,_,_ => by cases hg
theorem XY : {u:Qh} → Zaa u = true → (Zy u).Nodup
 | [],_ => by simp [Zy]
 | (i,x) :: u,h => by
  obtain ⟨h1,h2⟩:=ZdI h
  simp only [Zy]
  cases hx:Qt x with
  | false => simpa using XY h2
  | true =>
   simp only [if_true,J4]
   refine ⟨fun hm => ?_,XY h2⟩
   have:=h1 _ (Q7.1 hm) rfl
   rw [Za9] at this; cases this
theorem ZdB : {u:Qh} → {r:Nat} → {z:RS} → (r,z) ∈ u → ∃ y,Zm u r = some y
 | (i,x) :: u,r,z,h => by
  rw [Zb]
  by_cases e:i = r
  ·exact ⟨x,by simp [e]⟩
  ·simp only [e,if_false]
   cases h with
   | head => exact absurd rfl e
   | tail _ h => exact ZdB h
theorem Zjh {T:ZF} {u:Qh} {r:Nat} (h:∀ y,(r,y) ∉ u):T.put u r = T r:=by
 simp only [ZF.put]
 cases hl:Zm u r with
 | none => rfl
 | some y => exact absurd (Qn hl) (h y)
theorem Zdz : {u:Qh} → {r:Nat} → (r,RS.gone) ∉ u → Zm u r = Zm (WX u) r
 | [],_,_ => rfl
 | (i,x) :: u,r,h => by
  have ih:=Zdz (u:=u) (r:=r) (fun hm => h (Jo _ hm))
  simp only [WX]
  cases hx:Qt x with
  | true =>
   have:x = .gone:=by cases x <;> simp [Qt] at hx ⊢
   subst this
   have hir:i ≠ r:=fun e => h (by rw [e]; exact Jm ..)
   simp [Zb,hir,ih]
  | false => simp [Zb,ih]
theorem RelW.gonesAll:(gs:List Nat) → {st:St} → RelW G σ lim st tmps w → (∀ r ∈ gs,st.tbl r ≠ .fresh) → RelW G σ lim ⟨st.env,fun r => if r ∈ gs then .gone else st.tbl r⟩ tmps w
 | [],st,h,_ => by simpa using h
 | g :: gs,st,h,hf => by
  have h1:=h.gone (hf g (Jm ..))
  have h2:=RelW.gonesAll gs (st:=⟨st.env,st.tbl.put [(g,.gone)]⟩) h1 (fun r hr => by
   grind [Zf])
  have e:(fun r => if r ∈ gs then RS.gone else st.tbl.put [(g,.gone)] r) = (fun r => if r ∈ g :: gs then RS.gone else st.tbl r):=by
   funext r
   simp only [Zf,List.mem_cons]
   grind
  simp_all
theorem ZfU {l:List Nat} (hn:l.Nodup) (hi:∀ r ∈ l,∀ r' ∈ l,∀ b,blk (σ r) = some b → blk (σ r') = some b → r = r'):(ZX σ l).Nodup:=by
 induction l with
 | nil => simp [ZX]
 | cons a l ih =>
  grind [ZX,J4]
theorem YN (h:RelW G σ lim st tmps w) {r b:Nat} (hl:Zw (st.tbl r) = true) (hb:blk (σ r) = some b):b < w.heap.size:=by
 cases hr:st.tbl r with
 | live z =>
  obtain ⟨h1,_⟩:=h.res r z hr
  cases z with
  | box cs =>
   grind [RR,blk]
  | arr t xs sh =>
   grind [RR,blk]
  | nest t xss o =>
   grind [RR,blk]
 | fresh => rw [hr] at hl; simp [Zw] at hl
 | gone => rw [hr] at hl; simp [Zw] at hl
theorem RelW.takes (h:RelW G σ lim st tmps w) {u:Qh} (g:Zcg st.tbl u) (ok:Zaa u = true) :
  ∃ lim',RelW G σ lim' ⟨st.env,st.tbl.put u⟩ tmps w ∧ Ext w lim w lim' ∧ Shown σ w lim' st.tbl u ∧ (ZX σ (Zy u)).Nodup ∧
   ∀ b ∈ ZX σ (Zy u),(G.w0.heap.size ≤ b ∨ b ∈ G.lent) ∧ b < w.heap.size ∧ ∀ r,Zw (st.tbl.put u r) = true → blk (σ r) ≠ some b:=by
 have hsS:Wx st.tbl (WX u):=by
  intro p hp
  obtain ⟨h1,h2⟩:=Kz.1 hp
  rcases g p h1 with ⟨h3,_⟩ | h3
  ·rw [h3] at h2; cases h2
  ·exact h3
 obtain ⟨lim1,hR,hE,hsl⟩:=RelW.shows (WX u) h hsS
 have hgl:∀ r ∈ Zy u,Zw (st.tbl r) = true:=by
  intro r hr
  rcases g _ (Q7.1 hr) with ⟨_,h3⟩ | ⟨t,xs,sh,h3,_⟩
  ·exact h3
  ·simp only at h3; cases h3
 have hgS:∀ r ∈ Zy u,(st.tbl.put (WX u)) r = st.tbl r:=by
  intro r hr
  refine Zjh fun y hy => ?_
  obtain ⟨h1,h2⟩:=Kz.1 hy
  have:=YO ok (Q7.1 hr) y h1
  subst this; simp [Qt] at h2
 have hG:=RelW.gonesAll (Zy u) hR (fun r hr => by
  simp only; rw [hgS r hr]; intro e; have:=hgl r hr; rw [e] at this; cases this)
 have e:(fun r => if r ∈ Zy u then RS.gone else (st.tbl.put (WX u)) r) = st.tbl.put u:=by
  funext r
  by_cases hr:r ∈ Zy u
  ·simp only [hr,if_true,ZF.put]
   obtain ⟨y,hy⟩:=ZdB (Q7.1 hr)
   have:=YO ok (Q7.1 hr) y (Qn hy)
   rw [hy]; subst this; rfl
  ·simp only [hr,if_false,ZF.put]
   rw [Zdz (fun hm => hr (Q7.2 hm))]
 simp only at hG
 rw [e] at hG
 refine ⟨lim1,hG,hE,⟨fun r t xs hm => hsl r t xs (Kz.2 ⟨hm,rfl⟩),fun r x hm hx => ?_⟩,ZfU (XY ok) (fun r hr r' hr' b hb hb' => h.inj r r' b (hgl r hr) (hgl r' hr') hb hb'),fun b hb => ?_⟩
 ·have:=hgS r (Q7.2 hm)
  exact (hR.res r x (by simp only; rw [this,hx])).1
 ·obtain ⟨r,hr,hrb⟩:=List.mem_filterMap.1 hb
  refine ⟨h.own r b (hgl r hr) hrb,YN h (hgl r hr) hrb,fun r' hl hb' => ?_⟩
  have hne:r' ∉ Zy u:=by
   intro hm
   have:(st.tbl.put u) r' = .gone:=by rw [← e]; simp [hm]
   rw [this] at hl; cases hl
  have hl0:Zw (st.tbl r') = true:=by
   cases hl1:Zm u r' with
   | none => simpa [ZF.put,hl1] using hl
   | some z =>
    rcases g _ (Qn hl1) with ⟨h3,h4⟩ | ⟨t,xs,sh,_,h4⟩
    ·exact h4
    ·simp only at h4; rw [h4]; rfl
  have:=h.inj r r' b (hgl r hr) hl0 hrb hb'
  subst this
  exact hne hr
theorem RelW.adopt (h:RelW G σ lim st tmps w) {n:Nat} {v:Value} (hn:st.tbl n = .fresh ∨ (st.tbl n = .gone ∧ σ n = v)) {y:Res} (hk:Ze st.tbl (ZL n y))
  (hy:(∀ r,st.tbl r ≠ .fresh → (if r = n then v else σ r) = σ r) → RR (fun r => if r = n then v else σ r) w lim n y)
  (hb:∀ b,blk v = some b → (G.w0.heap.size ≤ b ∨ b ∈ G.lent) ∧ ∀ r,Zw (st.tbl r) = true → blk (σ r) ≠ some b) :
  RelW G (fun r => if r = n then v else σ r) lim ⟨st.env,st.tbl.put [(n,.live y)]⟩ tmps w:=by
 have hσ:∀ r,st.tbl r ≠ .fresh → (if r = n then v else σ r) = σ r:=by
  grind
 have hnf:∀ r,Zm [(n,RS.live y)] r ≠ some .fresh:=by grind [Zm]
 have hl:∀ s z,Zm [(n,RS.live y)] s = some (.live z) → s = n ∧ z = y:=by
  intro s z hs
  rw [Zb] at hs
  grind [Zm]
 refine h.noput (v:=.dead) (x:=undef) (Upd.dead (Ext.refl _ _) h.lz ⟨rfl,rfl,rfl⟩ hσ (fun _ _ _ _ _ => ⟨rfl,rfl⟩) ?_ ?_ ?_ (fun _ _ _ => rfl) (fun _ _ _ => rfl) hnf (by simp [RA]) (by simp [Za,Ze]))
 ·intro s z hs
  obtain ⟨rfl,rfl⟩:=hl s z hs
  exact ⟨hy hσ,hk.put hnf⟩
 ·intro r1 r2 z b hs hl2 hb1 hb2
  obtain ⟨rfl,rfl⟩:=hl r1 z hs
  simp at hb1
  rw [Zf] at hl2
  grind
 grind
structure PutR (G:Glob) (σ:QM) (lim:Nat → Nat) (st:St) (tmps:Array Value) (w:World) (n m:Nat) (ups:Qh) (bs:List Nat) (σ':QM):Prop where
 rel:RelW G σ' lim ⟨st.env,st.tbl.put ups⟩ tmps w
 out:∀ r,(r < n ∨ m ≤ r) → Zm ups r = none
 old:∀ r,st.tbl r ≠ .fresh → σ' r = σ r
 lv:∀ r b,Zw (st.tbl.put ups r) = true → blk (σ' r) = some b → (Zw (st.tbl r) = true ∧ blk (σ r) = some b) ∨ b ∈ bs
 le:n ≤ m
def FB (G:Glob) (σ:QM) (st:St) (bs:List Nat):Prop:=bs.Nodup ∧ ∀ b ∈ bs,(G.w0.heap.size ≤ b ∨ b ∈ G.lent) ∧ ∀ r,Zw (st.tbl r) = true → blk (σ r) ≠ some b
theorem ZcL {t:Ty} {x:t.den} {v:Value} (h:XN w lim t x v):RA σ w lim (Zgq t x) v:=by
 obtain ⟨cs,h1,h2⟩:=h
 have hall:=QF h1
 unfold Zgq
 rcases h2 with ⟨h2,rfl⟩ | ⟨h2,rfl⟩
 ·simp only [h2,cond_true,RA]
  refine ⟨cs,rfl,ZB.2 (Zv.map_left (Zv.mono (fun p c hp => by simpa [RA] using hp) hall))⟩
 ·simp only [h2,cond_false]
  match hc:cellsOf t x,hall with
  | [p],hall => simp only [RA]; exact hall.1
theorem ZcK {t:Ty} {x:t.den}:Za (Zgq t x) = []:=by
 unfold Zgq
 cases t.isAgg
 ·simp only [cond_false]
  split <;> rfl
 ·simp only [cond_true,Za]; exact Kw _
mutual
theorem ZdO:(x:RV) → (n:Nat) → n ≤ (put n x).2.2
 | .view _ _,n => by simp [put]
 | .own _ _ _,n => by simp [put]
 | .box cs,n => by simp only [put]; have:=QR cs (n + 1); omega
 | .agg cs,n => by simp only [put]; exact QR cs n
 | .tup cs,n => by simp only [put]; exact QR cs n
 | .fn _,n => by simp [put]
 | .ns _ _,n => by simp [put]
 | .vp _ _,n => by simp [put]
 | .bld _ _,n => by simp [put]
 | .clo _ cs,n => by simp only [put]; exact QR cs n
theorem QR:(xs:List RV) → (n:Nat) → n ≤ (Zu n xs).2.2
 | [],n => by simp [Zu]
 | x :: xs,n => by simp only [Zu]; have:=ZdO x n; have:=QR xs (put n x).2.2; omega
end
mutual
theorem KD:(x:RV) → (n:Nat) → ∀ r,Zm (put n x).2.1 r ≠ some .fresh
 | .view _ _,n,r => by simp [put,Zm]
 | .own _ _ _,n,r => by simp only [put,Zb]; split <;> simp [Zm]
 | .box cs,n,r => by simp only [put,Zb]; split <;> simp [Qr cs (n + 1) r]
 | .agg cs,n,r => by simp only [put]; exact Qr cs n r
 | .tup cs,n,r => by simp only [put]; exact Qr cs n r
 | .fn _,n,r => by simp [put,Zm]
 | .ns _ _,n,r => by simp [put,Zm]
 | .vp _ _,n,r => by simp [put,Zm]
 | .bld _ _,n,r => by simp only [put,Zb]; split <;> (try split) <;> simp [Zm]
 | .clo _ cs,n,r => by simp only [put]; exact Qr cs n r
theorem Qr:(xs:List RV) → (n:Nat) → ∀ r,Zm (Zu n xs).2.1 r ≠ some .fresh
 | [],n,r => by simp [Zu,Zm]
 | x :: xs,n,r => by
  simp only [Zu]
  have h1:=KD x n r
  have h2:=Qr xs (put n x).2.2 r
  revert h2
  generalize (Zu (put n x).2.2 xs).2.1 = V
  intro h2
  induction V with
  | nil => exact h1
  | cons p V ih => obtain ⟨i,z⟩:=p; rw [J2,Zb]; rw [Zb] at h2; split at h2 <;> simp_all
end
theorem Znz {T:ZF} {n:Nat} {x x' y:RS}:((T.put [(n + 1,y)]).put [(n,x')]).put [(n,x)] = T.put [(n,x),(n + 1,y)]:=by
 funext r
 simp only [Zf,ZF.put,Zb]
 by_cases h1:n = r
 ·simp [h1]
 ·by_cases h2:n + 1 = r
  ·simp [h1,h2,Zm]
  ·simp [h1,h2,Zm]
theorem Zoc {n b:Nat} {T:TypeId} {x:Value} (h3:Znr x (.pointer (some ⟨b,0,none⟩))) (hs:σ n = .pointer (some ⟨b,0,none⟩)) (ht:Z8 w b = some T):RA σ w lim (.me n T) x:=by
 simp only [RA]
 rcases h3 with rfl | rfl
 ·simp_all
 simp_all
theorem Zmu {n:Nat} {T:TypeId}:∀ r ∈ Za (.me n T),r = n:=by
 intro r hr
 simpa [Za] using hr
theorem ZjE {n:Nat} {xs:List Int} {b:Nat} {x y:Value} {U:TypeId} {bs1:List Nat} (h:RelW G σ lim st tmps w) (h2:w.heap[b]? = some (.cells #[x,y] U (0,0)))
  (h3:Znr x (.pointer (some ⟨b,0,none⟩))) (h4:Zh4 w lim (.int .u8) false xs y bs1) (h5:lim b = 0) (hf:∀ j,n ≤ j → j < (put n (.bld U xs)).2.2 → st.tbl j = .fresh) (hb:FB G σ st (b :: bs1)) :
  ∃ σ',PutR G σ lim st tmps w n (put n (.bld U xs)).2.2 (put n (.bld U xs)).2.1 (b :: bs1) σ' ∧ RA σ' w lim (put n (.bld U xs)).1 (.pointer (some ⟨b,0,none⟩)) ∧ Ze (st.tbl.put (put n (.bld U xs)).2.1) (Za (put n (.bld U xs)).1):=by
 simp only [put] at hf ⊢
 obtain ⟨hbn,hbm⟩:=hb
 rw [J4] at hbn
 have hn:=hf n (Jj _) (by omega)
 have hn1:=hf (n + 1) (by omega) (by omega)
 have hmem:∀ b',blk y = some b' → b' ∈ bs1:=by
  intro b' hbv
  rcases h4.2 with ⟨_,rfl,rfl⟩ | ⟨c,off,cap,vs,T,fz,rfl,_,_,_,_,_,_,rfl⟩
  ·simp [blk] at hbv
  ·simp [blk] at hbv; subst hbv; simp
 have hval:RA (fun r => if r = n + 1 then y else σ r) w lim (.own (n + 1)) y:=by
  simp only [RA]
  rcases h4.2 with ⟨_,rfl,_⟩ | ⟨c,off,cap,vs,T,fz,rfl,_⟩
  ·exact ⟨by simp,_,_,_,rfl⟩
  ·exact ⟨by simp,_,_,_,rfl⟩
 have R1:=h.adopt (n:=n + 1) (v:=y) (.inl hn1) (y:=.arr (.int .u8) xs false) (by intro r hr; cases hr) (fun hσ => by
  simp only [RR]
  refine ⟨h4.1,?_⟩
  rcases h4.2 with ⟨e1,rfl,_⟩ | ⟨c,off,cap,vs,T,fz,rfl,e2,e3,e4,e5,e6,e7,_⟩
  ·exact .inl ⟨e1,by simp⟩
  ·exact .inr ⟨c,off,cap,vs,T,fz,by simp,e2,e3,e4,e5,e6,e7⟩) (fun b' hbv => hbm b' (Jo _ (hmem b' hbv)))
 have hnf:(st.tbl.put [(n + 1,.live (.arr (.int .u8) xs false))]) n = .fresh:=by rw [Zf,if_neg (by omega)]; exact hn
 have hk1:Ze (st.tbl.put [(n + 1,.live (.arr (.int .u8) xs false))]) (Za (.own (n + 1))):=Qa (y:=.arr (.int .u8) xs false) (by rw [ZT]; simp)
 have R2:=R1.adopt (n:=n) (v:=.pointer (some ⟨b,0,none⟩)) (.inl hnf) (y:=.box [.dead,.own (n + 1)]) (by
   grind [ZL,Zd,Za]) (fun hσ => by
  simp_all [RR,ZA,and_true,RA]) (fun b' hb' => by
   simp [blk] at hb'; subst hb'
   refine ⟨(hbm b (Jm ..)).1,fun r hl hbr => ?_⟩
   simp only at hl
   rw [Zf] at hl
   grind)
 simp only at R2
 have hr2:((st.tbl.put [(n + 1,.live (.arr (.int .u8) xs false))]).put [(n,.live (.box [.dead,.own (n + 1)]))]) n = .live (.box [.dead,.own (n + 1)]):=by rw [Zf]; simp
 obtain ⟨q1,q2⟩:=R2.res n _ hr2
 have R3:=R2.reword (r:=n) (y:=.box [AV.me n U,.own (n + 1)]) hr2 (by
   intro r hr
   simp only [ZL,Zd,Vh,Jt] at hr
   rcases hr with hr | hr
   ·rw [Zmu r hr]; simp only; rw [hr2]; simp
   ·exact q2 r (by grind [ZL,Zd,Za])) (by
   simp only [RR] at q1 ⊢
   obtain ⟨b',vs,T,e1,e2,e3,e4⟩:=q1
   have hbb:b' = b:=by simp at e1; exact e1.symm
   subst hbb
   rw [h2] at e2
   obtain ⟨rfl,rfl⟩ : #[x,y] = vs ∧ U = T:=by simpa using e2
   simp only [ZA,and_true] at e3
   refine ⟨b',#[x,y],U,by simp,h2,?_,e4⟩
   simp only [ZA,and_true]
   exact ⟨Zoc h3 (by simp) (by simp [Z8,h2]),e3.2⟩)
 simp only at R3
 rw [Znz] at R3
 refine ⟨_,⟨R3,fun r hr => ?_,fun r hr => ?_,fun r b' hl hbr => ?_,by omega⟩,?_,?_⟩
 ·rw [Zb,if_neg (by omega),Zb,if_neg (by omega)]; rfl
 ·grind
 ·by_cases e1:r = n
  ·grind [blk]
  ·by_cases e2:r = n + 1
   ·simp_all
   ·simp only [e1,e2,if_false] at hbr
    have:(st.tbl.put [(n,.live (.box [AV.me n U,.own (n + 1)])),(n + 1,.live (.arr (.int .u8) xs false))]) r = st.tbl r:=by
     simp only [ZF.put,Zb]; rw [if_neg (fun e => e1 e.symm),if_neg (fun e => e2 e.symm)]; rfl
    simp_all
 ·grind [RA]
 ·intro r hr; grind [Za,ZF.put,Zb]
mutual
theorem ZbM:(x:RV) → (n:Nat) → {σ:QM} → {st:St} → {v:Value} → {bs:List Nat} → RelW G σ lim st tmps w → TT w lim x v bs → (∀ j,n ≤ j → j < (put n x).2.2 → st.tbl j = .fresh) → FB G σ st bs →
  ∃ σ',PutR G σ lim st tmps w n (put n x).2.2 (put n x).2.1 bs σ' ∧ RA σ' w lim (put n x).1 v ∧ Ze (st.tbl.put (put n x).2.1) (Za (put n x).1)
 | .view t x,n,σ,st,v,bs,h,ht,hf,hb => by
  simp only [TT] at ht
  simp only [put]
  refine ⟨σ,⟨by rw [ZS]; exact h,fun _ _ => rfl,fun _ _ => rfl,fun r b hl hb => .inl ⟨by rwa [ZS] at hl,hb⟩,Jj _⟩,ZcL ht.1,by rw [ZcK]; exact Zh⟩
 | .own t sh xs,n,σ,st,v,bs,h,ht,hf,hb => by
  simp only [TT,Zh4] at ht
  simp only [put] at hf ⊢
  have hn:=hf n (Jj _) (VC _)
  have hval:RA (fun r => if r = n then v else σ r) w lim (.own n) v:=by
   simp only [RA]
   rcases ht.2 with ⟨_,rfl,_⟩ | ⟨b,off,cap,vs,T,fz,rfl,_⟩
   ·exact ⟨by simp,_,_,_,rfl⟩
   ·exact ⟨by simp,_,_,_,rfl⟩
  have hmem:∀ b,blk v = some b → b ∈ bs:=by
   intro b hbv
   rcases ht.2 with ⟨_,rfl,rfl⟩ | ⟨b',off,cap,vs,T,fz,rfl,_,_,_,_,_,_,rfl⟩
   ·simp [blk] at hbv
   ·simp [blk] at hbv; subst hbv; simp
  have hA:=h.adopt (n:=n) (v:=v) (.inl hn) (y:=.arr t xs sh) (by intro r hr; cases hr) (fun hσ => by
   simp only [RR]
   refine ⟨ht.1,?_⟩
   rcases ht.2 with ⟨h1,rfl,_⟩ | ⟨b,off,cap,vs,T,fz,rfl,h2,h3,h4,h5,h6,h7,_⟩
   ·exact .inl ⟨h1,by simp⟩
   ·exact .inr ⟨b,off,cap,vs,T,fz,by simp,h2,h3,h4,h5,h6,h7⟩) (fun b hbv => hb.2 b (hmem b hbv))
  refine ⟨_,⟨hA,fun r hr => ?_,fun r hr => ?_,fun r b hl hbr => ?_,Nat.le_succ _⟩,hval,Qa (y:=.arr t xs sh) (by rw [ZT]; simp)⟩
  ·rw [Zb,if_neg (by omega)]; rfl
  ·rw [if_neg]; intro e; subst e; exact hr hn
  ·by_cases e:r = n
   ·subst e; simp only [if_true] at hbr; exact .inr (hmem b hbr)
   ·rw [Zf,if_neg (Ne.symm e)] at hl
    simp only [e,if_false] at hbr
    exact .inl ⟨hl,hbr⟩
 | .box cs,n,σ,st,v,bs,h,ht,hf,hb => by
  simp only [TT] at ht
  obtain ⟨b,vs,U,bs1,rfl,h2,h3,h4,rfl⟩:=ht
  simp only [put] at hf ⊢
  obtain ⟨hbn,hbm⟩:=hb
  rw [J4] at hbn
  obtain ⟨σ1,hP,hA,hK⟩:=Q0 cs (n + 1) h h3 (fun j h5 h6 => hf j (by omega) h6) ⟨hbn.2,fun b' hb' => hbm b' (Jo _ hb')⟩
  have hle:=hP.le
  have hn:=hf n (Jj _) (by omega)
  have hn1:(st.tbl.put (Zu (n + 1) cs).2.1) n = .fresh:=by simp [ZF.put,hP.out n (.inl (VC _)),hn]
  have hB:=hP.rel.adopt (n:=n) (v:=.pointer (some ⟨b,0,none⟩)) (.inl hn1) (y:=.box (Zu (n + 1) cs).1) hK (fun hσ => by
   simp only [RR]
   exact ⟨b,vs,U,by simp,h2,ZA.mono (Ext.refl _ _) hσ _ _ hK hA,h4⟩) (fun b' hb' => by
    simp [blk] at hb'; subst hb'
    refine ⟨(hbm b (Jm ..)).1,fun r hl hbr => ?_⟩
    rcases hP.lv r b hl hbr with ⟨h5,h6⟩ | h5
    ·exact (hbm b (Jm ..)).2 r h5 h6
    ·exact hbn.1 h5)
  refine ⟨_,⟨by rw [WU]; exact hB,fun r hr => ?_,fun r hr => ?_,fun r b' hl hbr => ?_,by omega⟩,?_,?_⟩
  ·rw [Zb,if_neg (by omega)]; exact hP.out r (by omega)
  ·rw [if_neg (by intro e; subst e; exact hr hn)]; exact hP.old r hr
  ·by_cases e:r = n
   ·subst e; simp [blk] at hbr; subst hbr; exact .inr (Jm ..)
   ·rw [ZT,if_neg (Ne.symm e)] at hl
    simp only [e,if_false] at hbr
    rcases hP.lv r b' hl hbr with h5 | h5
    ·exact .inl h5
    ·exact .inr (Jo _ h5)
  ·simp only [RA]; exact ⟨b,by simp,rfl⟩
  ·intro r hr; simp [Za] at hr; subst hr; rw [ZT]; simp
 | .agg cs,n,σ,st,v,bs,h,ht,hf,hb => by
  simp only [TT] at ht
  obtain ⟨vs,rfl,h3⟩:=ht
  simp only [put] at hf ⊢
  obtain ⟨σ1,hP,hA,hK⟩:=Q0 cs n h h3 hf hb
  exact ⟨σ1,hP,by simp only [RA]; exact ⟨vs,rfl,hA⟩,by simpa [Za] using hK⟩
 | .tup cs,n,σ,st,v,bs,h,ht,hf,hb => by
  simp only [TT] at ht
  obtain ⟨vs,rfl,h3⟩:=ht
  simp only [put] at hf ⊢
  obtain ⟨σ1,hP,hA,hK⟩:=Q0 cs n h h3 hf hb
  exact ⟨σ1,hP,by simp only [RA]; exact ⟨vs,rfl,hA⟩,by simpa [Za] using hK⟩
 | .fn f,n,σ,st,v,bs,h,ht,hf,hb => by
  simp only [TT] at ht
  simp only [put]
  exact ⟨σ,⟨by rw [ZS]; exact h,fun _ _ => rfl,fun _ _ => rfl,fun r b hl hb => .inl ⟨by rwa [ZS] at hl,hb⟩,Jj _⟩,by simp only [RA]; exact ht.1,Zh⟩
 | .ns t xs,n,σ,st,v,bs,h,ht,hf,hb => by
  simp only [TT] at ht
  simp only [put]
  exact ⟨σ,⟨by rw [ZS]; exact h,fun _ _ => rfl,fun _ _ => rfl,fun r b hl hb => .inl ⟨by rwa [ZS] at hl,hb⟩,Jj _⟩,by simp only [RA]; exact ht.1,Zh⟩
 | .vp t xs,n,σ,st,v,bs,h,ht,hf,hb => by
  simp only [TT] at ht
  simp only [put]
  exact ⟨σ,⟨by rw [ZS]; exact h,fun _ _ => rfl,fun _ _ => rfl,fun r b hl hb => .inl ⟨by rwa [ZS] at hl,hb⟩,Jj _⟩,by simp only [RA]; exact ht.1,Zh⟩
 | .clo f cs,n,σ,st,v,bs,h,ht,hf,hb => by
  simp only [TT] at ht
  obtain ⟨vs,rfl,h3⟩:=ht
  simp only [put] at hf ⊢
  obtain ⟨σ1,hP,hA,hK⟩:=Q0 cs n h h3 hf hb
  exact ⟨σ1,hP,by simp only [RA]; exact ⟨vs,rfl,hA⟩,by simpa [Za] using hK⟩
 | .bld m xs,n,σ,st,v,bs,h,ht,hf,hb => by
  simp only [TT] at ht
  obtain ⟨b,x,y,bs1,rfl,h2,h3,h4,h5,rfl⟩:=ht
  exact ZjE h h2 h3 h4 h5 hf hb
theorem Q0:(xs:List RV) → (n:Nat) → {σ:QM} → {st:St} → {vs:List Value} → {bs:List Nat} → RelW G σ lim st tmps w → KL w lim xs vs bs → (∀ j,n ≤ j → j < (Zu n xs).2.2 → st.tbl j = .fresh) → FB G σ st bs →
  ∃ σ',PutR G σ lim st tmps w n (Zu n xs).2.2 (Zu n xs).2.1 bs σ' ∧ ZA σ' w lim (Zu n xs).1 vs ∧ Ze (st.tbl.put (Zu n xs).2.1) (Zd (Zu n xs).1)
 | [],n,σ,st,vs,bs,h,ht,hf,hb => by
  match vs,ht with
  | [],_ =>
   simp only [Zu]
   exact ⟨σ,⟨by rw [ZS]; exact h,fun _ _ => rfl,fun _ _ => rfl,fun r b hl hb => .inl ⟨by rwa [ZS] at hl,hb⟩,Jj _⟩,by simp [ZA],Zh⟩
 | x :: xs,n,σ,st,vs,bs,h,ht,hf,hb => by
  match vs,ht with
  | v :: vs,ht =>
   simp only [KL] at ht
   obtain ⟨b1,b2,rfl,h1,h2⟩:=ht
   simp only [Zu] at hf ⊢
   obtain ⟨hbn,hbm⟩:=hb
   rw [List.nodup_append] at hbn
   have hle2:(put n x).2.2 ≤ (Zu (put n x).2.2 xs).2.2:=QR xs _
   obtain ⟨σ1,hP,hA,hK⟩:=ZbM x n h h1 (fun j h5 h6 => hf j h5 (by omega)) ⟨hbn.1,fun b hb => hbm b (JH _ hb)⟩
   have hle1:=hP.le
   obtain ⟨σ2,hQ,hB,hL⟩:=Q0 xs (put n x).2.2 (st:=⟨st.env,st.tbl.put (put n x).2.1⟩) hP.rel h2
    (fun j h5 h6 => by simp only [ZF.put]; rw [hP.out j (.inr h5)]; exact hf j (by omega) h6)
    ⟨hbn.2.1,fun b hb => ⟨(hbm b (JB _ hb)).1,fun r hl hbr => by
     rcases hP.lv r b hl hbr with ⟨h5,h6⟩ | h5
     ·exact (hbm b (JB _ hb)).2 r h5 h6
     ·exact hbn.2.2 b h5 b hb rfl⟩⟩
   have hkeep:Ze ((st.tbl.put (put n x).2.1).put (Zu (put n x).2.2 xs).2.1) (Za (put n x).1):=by
    intro r hr hfr
    have h5:=hK r hr
    simp only [ZF.put] at hfr h5
    cases hl:Zm (Zu (put n x).2.2 xs).2.1 r with
    | none => rw [hl] at hfr; exact h5 hfr
    | some z =>
     rw [hl] at hfr; simp only at hfr; subst hfr
     exact Qr xs _ r hl
   refine ⟨σ2,⟨by rw [ZP]; exact hQ.rel,fun r hr => ?_,fun r hr => ?_,fun r b hl hbr => ?_,by omega⟩,?_,?_⟩
   ·have h5:=hP.out r (by omega)
    have h6:=hQ.out r (by omega)
    clear hf hL hB hQ hP hA hK hkeep
    revert h6
    generalize (Zu (put n x).2.2 xs).2.1 = V
    intro h6
    induction V with
    | nil => exact h5
    | cons p V ih => obtain ⟨i,z⟩:=p; rw [J2,Zb]; rw [Zb] at h6; split at h6 <;> simp_all
   ·have h5:(st.tbl.put (put n x).2.1) r ≠ .fresh:=by
     intro hfr
     simp only [ZF.put] at hfr
     cases hl:Zm (put n x).2.1 r with
     | none => rw [hl] at hfr; exact hr hfr
     | some z => rw [hl] at hfr; simp only at hfr; subst hfr; exact KD x _ r hl
    exact (hQ.old r h5).trans (hP.old r hr)
   ·rw [ZP] at hl
    rcases hQ.lv r b hl hbr with ⟨h5,h6⟩ | h5
    ·rcases hP.lv r b h5 h6 with h7 | h7
     ·exact .inl h7
     ·exact .inr (JH _ h7)
    ·exact .inr (JB _ h5)
   ·simp only [ZA]
    exact ⟨RA.mono (T:=st.tbl.put (put n x).2.1) (Ext.refl _ _) hQ.old _ _ hK hA,hB⟩
   ·intro r hr
    simp only [Zd,Jt] at hr
    rw [ZP]
    rcases hr with hr | hr
    ·exact hkeep r hr
    ·exact hL r hr
end
end Go.Sh
