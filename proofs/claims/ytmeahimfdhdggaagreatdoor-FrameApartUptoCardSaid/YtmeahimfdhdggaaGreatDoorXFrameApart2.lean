/-
  What the row needs, part 2.
-/
import Derived.Test.YtmeahimfdhdggaaGreatDoorXFrameApart1
import Derived.Lib.SliceRun
import Derived.Laws.StructEq
import Derived.Laws.CopyRow
import Derived.Laws.Append
import Derived.Laws.AppendOwn
import Derived.Laws.BytesString
import Derived.Lib.ConvBytes
set_option linter.unusedSimpArgs false
set_option linter.unusedVariables false
set_option linter.unusedSectionVars false
open Array renaming ext'→JI,range→JW,toList_map→JX,length_toList→J5,toArray_toList→J6,toList_setIfInBounds→Vk
open Bool renaming and_eq_true→Jh,false_eq_true→JJ,not_eq_true'→J7
open Go.Builtin renaming append_→Jf,firstCells→Ji,zeroCells→Jl,lenOf→Jq,copy_→JB,len_→JC,nextslicecap→JD
open ByteArray renaming ext→Vl
open Go.Instr renaming fill→Jw,sliceAt→JK,sureAddr→JL,index→JY,loadAt→JZ,alloc→J8,build→J9,field→Va,fieldAt→Vb,indexAt→Vc,sliceBounds→Vd,storeAt→Ve,buildSlice→Vm,makeSlice→Vn,sliceBound→Vo
open Int renaming eq_ofNat_of_zero_le→Vp
open Go.IntKind renaming i64→Jx
open List renaming replicate→Jd,mem_cons_self→Jm,mem_cons_of_mem→Jn,getElem?_drop→Jo,ext_getElem?→Jr,mem_append→Js,append_assoc→Ju,getElem?_take→Jy,length_take→Jz,mem_append_right→JA,drop_drop→JE,length_cons→JF,mem_append_left→JG,drop_left→JM,eq_nil_of_length_eq_zero→JN,getElem?_append→JO,length_append→JP,length_set→JQ,map_cons→JR,mem_of_mem_drop→JS,mem_of_mem_take→JT,toList_toArray→JU,cons→J0,cons_append→J1,flatten_cons→J2,nodup_cons→J3,all_eq_true→Vf,append_nil→Vg,getElem?_map→Vh,length_drop→Vi,take_left→Vj,flatten_append→Vq,flatten_nil→Vr,getElem?_append_right→Vs,getElem?_cons→Vu,getElem?_set→Vv,mem_of_getElem?→Vw,mem_singleton→Vx,of_mem_zip→Vy,range'_succ→Vz,size_toArray→VA
open Nat renaming add_mul→Jg,le_refl→Jj,mul_le_mul_right→Jk,one_mul→Jp,le_of_ble_eq_true→Jt,beq→Ja,add_zero→JH,add_assoc→JV,mul_le_mul→J4,lt_succ_self→VB
open Option renaming isSome_iff_exists→VC,map_some→VD
open Go.Value renaming int→Jv
namespace Go.Sh
open Go
variable [Gl]
theorem Qh (b o j:Nat):(⟨b,o,none⟩:Addr).add j = ⟨b,o + j,none⟩:=by
 unfold Addr.add; split <;> simp_all
theorem Zb6 {P:Program} {t:TypeId} {d:TypeDesc} (h:P.underlying t = some d):∃ i,P.info? t = some i:=by
 unfold Program.underlying at h
 grind
theorem QO {P:Program} {t:TypeId} {d:TypeDesc} (h:P.underlying t = some d) (w:World):(sizeOf t).run P w = .ok (P.cellsOf t) w:=by
 obtain ⟨i,hi⟩:=Zb6 h
 simp [sizeOf,typeInfo,hi,Program.cellsOf]
theorem YA {P:Program} {t:TypeId} {d:TypeDesc} (h:P.underlying t = some d) (w:World):(isAgg t).run P w = .ok (Zaw d) w:=by
 unfold isAgg
 rw [Sem.run_bind,run_underlying h w]
 cases d <;> simp [Zaw]
theorem Y6 {P:Program} {T:TypeId} {d:TypeDesc} (h:P.underlying T = some d) (ha:Zaw d = true) {w:World} {b off:Nat} {cs:List Value}
  (hl:cs.length = P.cellsOf T) (hc:∀ j v,cs[j]? = some v → w.cell? ⟨b,off + j,none⟩ = some v):(loadVar T ⟨b,off,none⟩).run P w = .ok (.agg cs.toArray) w:=by
 have:=run_loadCells_list (P:=P) w ⟨b,off,none⟩ cs (fun j v hj => by rw [Qh]; exact hc j v hj)
 simp_all [loadVar,YA h,ha,QO h,this]
theorem XJ {P:Program} {T:TypeId} {d:TypeDesc} (h:P.underlying T = some d) (ha:Zaw d = false) {w:World} {b off:Nat} {v:Value}
  (hc:w.cell? ⟨b,off,none⟩ = some v):(loadVar T ⟨b,off,none⟩).run P w = .ok v w:=by
 simp [loadVar,YA h,ha,hc]
theorem Ys {cs:List AV} {a:AV} (h:a ∈ cs) {r:Nat} (hr:r ∈ Zb a):r ∈ Zh cs:=by
 induction cs with
 | nil => cases h
 | cons x l ih =>
  grind [Zh]
theorem Yu {cs:List AV} {r:Nat} (h:r ∈ Zh cs):∃ a ∈ cs,r ∈ Zb a:=by
 induction cs with
 | nil => simp [Zh] at h
 | cons x l ih =>
  grind [Zh]
theorem Zi.sub {T:Z3} {cs ds:List AV} (h:∀ a ∈ ds,a ∈ cs) (k:Zi T (Zh cs)):Zi T (Zh ds):=by
 intro r hr
 obtain ⟨a,ha,hr⟩:=Yu hr
 exact k r (Ys (h a ha) hr)
theorem Zi.mem {T:Z3} {cs:List AV} (k:Zi T (Zh cs)) {a:AV} (h:a ∈ cs):Zi T (Zb a):=fun r hr => k r (Ys h hr)
theorem ZcW (ps:List PV):Zh (ps.map .val) = []:=by
 induction ps with
 | nil => rfl
 | cons p l ih => simp [Zh,Zb,ih]
section
variable {C:Ctx} {σ:WM} {w:World} {lim:Nat → Nat} {tbl:Z3}
theorem Zmn {cs:List AV} {b off:Nat} (h:∀ j a,cs[j]? = some a → ∃ v,w.cell? ⟨b,off + j,none⟩ = some v ∧ RA σ w lim a v) :
  ∃ vs,ZX σ w lim cs vs ∧ ∀ j v,vs[j]? = some v → w.cell? ⟨b,off + j,none⟩ = some v:=by
 induction cs generalizing off with
 | nil => exact ⟨[],by simp [ZX],by simp⟩
 | cons a l ih =>
  obtain ⟨v,h1,h2⟩:=h 0 a rfl
  obtain ⟨vs,h3,h4⟩:=ih (off:=off + 1) (fun j x hx => by
   have:=h (j + 1) x (by simpa using hx)
   grind)
  refine ⟨v :: vs,by simp [ZX,h2,h3],fun j u hu => ?_⟩
  grind
theorem ZgA {T:TypeId} {cs:List AV} {l l':List Nat} {e:Eff} (hm:(cut C T cs).run tbl l = some (e,l')) {b off:Nat}
  (hc:∀ j a,cs[j]? = some a → ∃ v,w.cell? ⟨b,off + j,none⟩ = some v ∧ RA σ w lim a v) (hk:Zi tbl (Zh cs)) :
  ∃ x,(loadVar T ⟨b,off,none⟩).run C.P w = .ok x w ∧ RA σ w lim e.val x ∧ Zi tbl (Zb e.val) ∧ e.ups = []:=by
 unfold cut at hm
 cases hd:C.P.underlying T with
 | none => simp [hd,M.run] at hm
 | some d =>
  simp only [hd] at hm
  cases ha:Zaw d with
  | true =>
   simp only [ha,cond_true] at hm
   ·obtain ⟨hl,hm⟩:=M.run_guard hm
    obtain ⟨rfl,_⟩:=M.run_ret hm
    have hl':=ZS hl
    obtain ⟨vs,h1,h2⟩:=Zmn (σ:=σ) (lim:=lim) (cs:=cs.take (C.P.cellsOf T)) (b:=b) (off:=off) (fun j a ha => hc j a (by
     grind))
    have h3:=(ZY.1 h1).length
    refine ⟨_,Y6 hd ha (by rw [← h3,hl']) h2,by simp only [RA]; exact ⟨vs,rfl,h1⟩,?_,rfl⟩
    simp only [Zb]
    exact hk.sub fun a ha => JT ha
  | false =>
   simp only [ha,cond_false] at hm
   cases cs with
   | nil => simp [M.run] at hm
   | cons a l2 =>
    simp only at hm
    obtain ⟨rfl,_⟩:=M.run_ret hm
    obtain ⟨v,h1,h2⟩:=hc 0 a rfl
    exact ⟨v,XJ hd ha (by simpa using h1),h2,hk.mem (Jm ..),rfl⟩
theorem Zte {ps:List PV} {v:Value} (h:RA σ w lim (.sp ps) v):∃ b off,v = .pointer (some ⟨b,off,none⟩) ∧
  ∀ j a,(ps.map AV.val)[j]? = some a → ∃ c,w.cell? ⟨b,off + j,none⟩ = some c ∧ RA σ w lim a c:=by
 simp only [RA] at h
 obtain ⟨b,off,hv,h⟩:=h
 refine ⟨b,off,hv,fun j a ha => ?_⟩
 rw [Vh] at ha
 cases hp:ps[j]? with
 | none => simp [hp] at ha
 | some p =>
  simp [hp] at ha; grind [RA]
theorem XW {r k:Nat} {cs:List AV} {v:Value} (ha:RA σ w lim (.bx r k) v) (hr:RR σ w lim r (.box cs)) :
  ∃ b vs T,σ r = .pointer (some ⟨b,0,none⟩) ∧ v = .pointer (some ⟨b,k,none⟩) ∧ w.heap[b]? = some (.cells vs T (0,0)) ∧ ZX σ w lim cs vs.toList ∧ lim b = 0:=by
 grind [RA,RR]
theorem QQ {b:Nat} {vs:Array Value} {T:TypeId} {fz:Nat × Nat} (h:w.heap[b]? = some (.cells vs T fz)) (o:Nat):w.cell? ⟨b,o,none⟩ = vs.toList[o]? := by
 simp [World.cell?,h]
theorem Zlz {T:TypeId} {a:AV} {v:Value} {l l':List Nat} {e:Eff} (hm:(ZiK C T a).run tbl l = some (e,l')) (ha:RA σ w lim a v)
  (hres:∀ r x,tbl r = .live x → RR σ w lim r x ∧ Zi tbl (Qb r x)) :
  ∃ x,(JZ T v).run C.P w = .ok x w ∧ RA σ w lim e.val x ∧ Zi tbl (Zb e.val) ∧ e.ups = []:=by
 unfold ZiK at hm
 split at hm
 ·rename_i r k
  simp only [M.run] at hm
  cases hr:tbl r with
  | fresh => simp [hr,M.run] at hm
  | gone => simp [hr,M.run] at hm
  | live y =>
   cases y with
   | arr => simp [hr,M.run] at hm
   | nest => simp [hr,M.run] at hm
   | box cs =>
    simp only [hr] at hm
    obtain ⟨h1,h2⟩:=hres r _ hr
    obtain ⟨b,vs,U,_,rfl,h4,h5,_⟩:=XW ha h1
    have:=ZgA (σ:=σ) (lim:=lim) hm (b:=b) (off:=k) (fun j a hj => by
     rw [Jo] at hj
     obtain ⟨c,hc,hr⟩:=(ZY.1 h5).get hj
     exact ⟨c,by rw [QQ h4]; exact hc,hr⟩) (h2.sub fun a ha => JS ha)
    simpa [JZ,JL] using this
 ·rename_i ps
  obtain ⟨b,off,rfl,h⟩:=Zte ha
  have:=ZgA (σ:=σ) (lim:=lim) hm (b:=b) (off:=off) h (by intro r hr; rw [ZcW] at hr; cases hr)
  simpa [JZ,JL] using this
 ·rename_i r t i k
  simp only [M.run] at hm
  cases hr:tbl r with
  | fresh => simp [hr,M.run] at hm
  | gone => simp [hr,M.run] at hm
  | live y =>
   cases y with
   | box => simp [hr,M.run] at hm
   | nest => simp [hr,M.run] at hm
   | arr t' xs sh =>
    simp only [hr] at hm
    split at hm
    ·rename_i ht
     subst ht
     obtain ⟨hi,hm⟩:=M.run_need hm
     have hi:=of_decide_eq_true hi
     obtain ⟨h1,_⟩:=hres r _ hr
     simp only [RR] at h1
     simp only [RA] at ha
     obtain ⟨b,off,len,cap,h3,rfl⟩:=ha
     rcases h1.2 with ⟨h4,h5⟩ | ⟨b',off',cap',vs,U,fz,h4,h5,h6,h7,h8,h9,h10⟩
     ·rw [h5] at h3; simp at h3
     ·rw [h4] at h3
      obtain ⟨⟨rfl,rfl⟩,rfl,rfl⟩:(b' = b ∧ off' = off) ∧ xs.length = len ∧ cap' = cap:=by simpa using h3
      have hx:=h9 i hi
      have hlen:=Rt.length hx
      have hall:=WE hx
      have hxi:xs.getD i t'.dflt = xs[i]:=by simp_all
      replace hm:M.run tbl (cut C T (((cellsOf t' xs[i]).drop k).map .val)) (r :: l) = some (e,l'):=by rw [← hxi]; exact hm
      have:=ZgA (σ:=σ) (lim:=lim) hm (b:=b') (off:=off' + i * t'.size + k) (fun j a hj => by
       rw [Vh,Jo] at hj
       cases hp:(cellsOf t' xs[i])[k + j]? with
       | none => simp [hp] at hj
       | some p =>
        simp [hp] at hj; subst hj
        obtain ⟨c,hc,hr⟩:=hall.get hp
        refine ⟨c,?_,by simpa [RA] using hr⟩
        rw [QQ h6]
        grind) (by intro r hr; rw [ZcW] at hr; cases hr)
      simpa [JZ,JL] using this
    ·simp [M.run] at hm
 ·simp [M.run] at hm
theorem YZ {α:Type} {P:Program} {s:Sem α} {a:α} (h:XK P s = some a) (w:World):s.run P w = .ok a w:=by
 induction s generalizing w with
 | pure x => simp [XK] at h; subst h; rfl
 | program k ih => exact ih P h w
 | _ => simp [XK] at h
theorem ZlI {a:AV} {v:Value} {l l':List Nat} {e:Eff} (hm:(Zcf a).run tbl l = some (e,l')) (ha:RA σ w lim a v) :
  (∃ p,v = .pointer (some p)) ∧ e.val = a ∧ e.ups = []:=by
 unfold Zcf at hm
 split at hm
 ·obtain ⟨rfl,_⟩:=M.run_ret hm
  grind [RA]
 ·obtain ⟨rfl,_⟩:=M.run_ret hm
  grind [RA]
 ·obtain ⟨rfl,_⟩:=M.run_ret hm
  grind [RA]
 ·obtain ⟨rfl,_⟩:=M.run_ret hm
  simp only [RA] at ha; obtain ⟨a,n,m,rfl,_⟩:=ha; exact ⟨⟨_,rfl⟩,rfl,rfl⟩
 ·exact (M.run_fail hm).elim
theorem ZiG {T:TypeId} {f:Nat} {a:AV} {v:Value} {l l':List Nat} {e:Eff} (hm:(Zbz C T f a).run tbl l = some (e,l')) (ha:RA σ w lim a v) (hk:Zi tbl (Zb a)) :
  ∃ x,(Vb T v f).run C.P w = .ok x w ∧ RA σ w lim e.val x ∧ Zi tbl (Zb e.val) ∧ e.ups = []:=by
 unfold Zbz ZdQ at hm
 cases hu:C.P.underlying T with
 | none => simp [hu,M.run] at hm
 | some d =>
  cases d with
  | struct fs =>
   simp only [hu] at hm
   cases hf:fs[f]? with
   | none => simp [hf,M.run] at hm
   | some fd =>
    simp only [hf] at hm
    cases hz:Ja (C.P.cellsOf fd.type) 0 with
    | true => simp [hz,M.run] at hm
    | false =>
     simp only [hz,cond_false] at hm
     have hz':C.P.cellsOf fd.type ≠ 0:=fun h => by rw [h] at hz; simp at hz
     obtain ⟨i,hi⟩:∃ i,C.P.info? fd.type = some i:=by
      cases h:C.P.info? fd.type with
      | none => simp [Program.cellsOf,h] at hz'
      | some i => exact ⟨i,rfl⟩
     have hsz:i.size ≠ 0:=by simpa [Program.cellsOf,hi] using hz'
     have run:∀ b o,(Vb T (.pointer (some ⟨b,o,none⟩)) f).run C.P w = .ok (.pointer (some ⟨b,o + fd.offset,none⟩)) w:=by
      simp_all [Vb,run_underlying hu,hf,JL,fieldPlace,sizeOf,typeInfo,hi,hsz,Qh]
     split at hm
     ·obtain ⟨rfl,_⟩:=M.run_ret hm
      grind [RA,Zb]
     ·obtain ⟨rfl,_⟩:=M.run_ret hm
      grind [RA,JV,Zb]
     ·obtain ⟨rfl,_⟩:=M.run_ret hm
      grind [RA,Zb]
     ·exact (M.run_fail hm).elim
  | _ => simp [hu,M.run] at hm
theorem QF {P:Program} {T e:TypeId} {t:Ty} (h:WN P T = some (e,t)):P.underlying T = some (.slice e) ∧ Zqv P depth e = some t ∧ P.cellsOf e = t.size:=by
 unfold WN at h
 split at h
 ·rename_i e' hu
  cases ht:Zqv P depth e' with
  | none => simp [ht] at h
  | some ty =>
   simp only [ht] at h
   cases hb:Ja (P.cellsOf e') ty.size with
   | false => simp [hb] at h
   | true => simp_all
 ·simp at h
theorem WR {P:Program} {n:Nat} {e:TypeId} {t:Ty} (h:Zqv P n e = some t):∃ d,P.underlying e = some d:=by
 cases n with
 | zero => simp [Zqv] at h
 | succ n =>
  simp only [Zqv] at h
  grind
theorem YY {P:Program} {T e:TypeId} {t:Ty} (he:WN P T = some (e,t)) {b off len cap:Nat} {k:IntKind} {i:Int} (h0:0 ≤ i) (h1:i < len) (w:World) :
  (Vc T (.slice (some ⟨b,off,none⟩) len cap) (.int k i)).run P w = .ok (.pointer (some ⟨b,off + i.toNat * t.size,none⟩)) w:=by
 obtain ⟨hu,ht,hs⟩:=QF he
 obtain ⟨d,hd⟩:=WR ht
 simp [Vc,asIntOf,run_underlying hu,h0,h1,QO hd,Qh,hs]
theorem ZiH {T:TypeId} {a i:AV} {v vi:Value} {l l':List Nat} {e:Eff} (hm:(ZbA C T a i).run tbl l = some (e,l')) (ha:RA σ w lim a v) (hi:RA σ w lim i vi)
  (hk:Zi tbl (Zb a)) (hres:∀ r x,tbl r = .live x → RR σ w lim r x ∧ Zi tbl (Qb r x)) :
  ∃ x,(Vc T v vi).run C.P w = .ok x w ∧ RA σ w lim e.val x ∧ Zi tbl (Zb e.val) ∧ e.ups = []:=by
 unfold ZbA at hm
 split at hm
 ·rename_i kk n
  simp only [RA,RP] at hi; subst hi
  cases he:WN C.P T with
  | none => simp [he,M.run] at hm
  | some p =>
   obtain ⟨ee,t⟩:=p
   simp only [he] at hm
   split at hm
   ·rename_i r
    simp only [M.run] at hm
    cases hr:tbl r with
    | fresh => simp [hr,M.run] at hm
    | gone => simp [hr,M.run] at hm
    | live y =>
     cases y with
     | box => simp [hr,M.run] at hm
     | nest t' xss o =>
      simp only [hr] at hm
      split at hm
      ·rename_i ht
       subst ht
       obtain ⟨hn,hm⟩:=M.run_need hm
       obtain ⟨h0,h1⟩:=of_decide_eq_true hn
       obtain ⟨rfl,_⟩:=M.run_ret hm
       obtain ⟨h2,_⟩:=hres r _ hr
       simp only [RR] at h2
       simp only [RA] at ha; obtain ⟨rfl,_⟩:=ha
       obtain ⟨_,b',off',cap',vs,U,fz,h4,_⟩:=h2
       refine ⟨_,by rw [h4]; exact YY he h0 h1 w,?_,by grind [Zb],rfl⟩
       grind [RA,Ty.size]
      ·simp [M.run] at hm
     | arr t' xs sh =>
      simp only [hr] at hm
      split at hm
      ·rename_i ht
       subst ht
       obtain ⟨hn,hm⟩:=M.run_need hm
       obtain ⟨h0,h1⟩:=of_decide_eq_true hn
       obtain ⟨rfl,_⟩:=M.run_ret hm
       obtain ⟨h2,_⟩:=hres r _ hr
       simp only [RR] at h2
       simp only [RA] at ha; obtain ⟨rfl,_⟩:=ha
       rcases h2.2 with ⟨h4,h5⟩ | ⟨b',off',cap',vs,U,fz,h4,h5,h6,h7,h8,h9,h10⟩
       ·subst h4; simp at h1; omega
       ·rw [h4]
        refine ⟨_,YY he h0 (by exact_mod_cast h1) w,?_,by simpa [Zb] using hk,rfl⟩
        grind [RA]
      ·simp [M.run] at hm
   ·rename_i r u i0 j0
    simp only [M.run] at hm
    cases hr:tbl r with
    | fresh => simp [hr,M.run] at hm
    | gone => simp [hr,M.run] at hm
    | live y =>
     cases y with
     | box => simp [hr,M.run] at hm
     | nest => simp [hr,M.run] at hm
     | arr t' xs sh =>
      simp only [hr] at hm
      split at hm
      ·rename_i ht
       subst ht
       split at hm
       ·rename_i ht
        subst ht
        obtain ⟨hn,hm⟩:=M.run_need hm
        obtain ⟨c1,c2,c3,c4⟩:=of_decide_eq_true hn
        obtain ⟨rfl,_⟩:=M.run_ret hm
        obtain ⟨h2,_⟩:=hres r _ hr
        simp only [RR] at h2
        simp only [RA] at ha
        obtain ⟨A,len,cap,hs,rfl⟩:=ha
        rcases h2.2 with ⟨h4,h5⟩ | ⟨b',off',cap',vs,U,fz,h4,h5,h6,h7,h8,h9,h10⟩
        ·subst h4; simp at c2; omega
        ·rw [h4] at hs
         obtain ⟨rfl,rfl,rfl⟩:some ⟨b',off',none⟩ = A ∧ xs.length = len ∧ cap' = cap:=by simpa using hs
         have hci:¬ (cap' = i0):=by omega
         simp only [hci,if_false,VD,Qh]
         refine ⟨_,YY he c3 (by omega) w,?_,by grind [Zb,Vx],by first | rfl | trivial⟩
         grind [RA]
       ·simp [M.run] at hm
      ·simp [M.run] at hm
   ·rename_i t' xs
    split at hm
    ·rename_i ht
     subst ht
     obtain ⟨hn,hm⟩:=M.run_need hm
     obtain ⟨h0,h1⟩:=of_decide_eq_true hn
     obtain ⟨rfl,_⟩:=M.run_ret hm
     simp only [RA,RP,Rt] at ha
     obtain ⟨A,len,cap,hv,h2,h3,h4⟩:=ha
     obtain rfl:v = .slice A len cap:=by simpa using hv
     rcases h4 with h4 | ⟨b,off,rfl,h4⟩
     ·subst h4; simp at h1; omega
     ·have hlt:n.toNat < xs.length:=by omega
      refine ⟨_,YY he h0 (by rw [← h2]; exact_mod_cast h1) w,?_,by intro r hr; simp [Zb] at hr,rfl⟩
      have hx:(xs.getD n.toNat t'.dflt) = xs[n.toNat]:=by simp_all
      show RA σ w lim (.sp (cellsOf t' (xs.getD n.toNat t'.dflt))) _
      rw [hx]
      simp only [RA]
      refine ⟨b,off + n.toNat * t'.size,rfl,fun j p hp => ?_⟩
      obtain ⟨c,hc,hcell⟩:=h4 n.toNat hlt
      obtain ⟨u,hu,hr⟩:=(WE hc).get hp
      simp_all
    ·simp [M.run] at hm
   ·simp [M.run] at hm
 ·simp [M.run] at hm
theorem Zxn {s:ByteArray} {i:Nat} (h:i < s.size):s[i]? = some (s.data.toList.getD i 0):=by
 have h':i < s.data.toList.length:=by simpa using h
 have h2:i < s.data.size:=h
 simp [List.getD,getElem?_pos,h]
 rfl
theorem Ke : {cs:List AV} → {vs:List Value} → {k:IntKind} → {ns:List Int} → ZcX cs = some (k,ns) → ZX σ w lim cs vs → vs = ns.map (.int k)
 | [],vs,k,ns,h,hv => by simp [ZcX] at h
 | [a],vs,k,ns,h,hv => by
  unfold ZcX at h
  split at h
  ·rename_i k0 n0 he
   cases h
   cases he
   match vs,hv with
   | [v],hv => simp_all [ZX,RA,RP,and_true]
  ·simp_all
  ·cases h
 | a :: b :: cs,vs,k,ns,h,hv => by
  unfold ZcX at h
  split at h
  ·rename_i he; cases he
  ·rename_i k0 n0 l he he2
   cases he2
   split at h
   ·rename_i k1 ns1 h1
    split at h
    ·rename_i hk
     cases h
     subst hk
     match vs,hv with
     | v :: vs,hv =>
      simp only [ZX] at hv
      have h2:=hv.1
      simp only [RA,RP] at h2
      subst h2
      rw [Ke h1 hv.2]
      rfl
    ·cases h
   ·cases h
  ·cases h
theorem Zin : {cs:List AV} → {vs:List Value} → {k:FloatKind} → {ns:List Nat} → Znu cs = some (k,ns) → ZX σ w lim cs vs → vs = ns.map (.float k)
 | [],vs,k,ns,h,hv => by simp [Znu] at h
 | [a],vs,k,ns,h,hv => by
  unfold Znu at h
  split at h
  ·rename_i k0 n0 he
   cases h
   cases he
   match vs,hv with
   | [v],hv => simp_all [ZX,RA,RP,and_true]
  ·simp_all
  ·cases h
 | a :: b :: cs,vs,k,ns,h,hv => by
  unfold Znu at h
  split at h
  ·rename_i he; cases he
  ·rename_i k0 n0 l he he2
   cases he2
   split at h
   ·rename_i k1 ns1 h1
    split at h
    ·rename_i hk
     cases h
     subst hk
     match vs,hv with
     | v :: vs,hv =>
      simp only [ZX] at hv
      have h2:=hv.1
      simp only [RA,RP] at h2
      subst h2
      rw [Zin h1 hv.2]
      rfl
    ·cases h
   ·cases h
  ·cases h
theorem Zse {T:TypeId} {f:Nat} {a:AV} {v:Value} {l l':List Nat} {e:Eff} (hm:(ZjH C T f a).run tbl l = some (e,l')) (ha:RA σ w lim a v) (hk:Zi tbl (Zb a)) :
  ∃ x,(Va T v f).run C.P w = .ok x w ∧ RA σ w lim e.val x ∧ Zi tbl (Zb e.val) ∧ e.ups = []:=by
 unfold ZjH at hm
 split at hm
 ·rename_i cs
  simp only [RA] at ha
  obtain ⟨vs,rfl,hvs⟩:=ha
  have hall:=ZY.1 hvs
  unfold ZdQ at hm
  cases hu:C.P.underlying T with
  | none => simp [hu,M.run] at hm
  | some dT =>
   cases dT with
   | struct fs =>
    simp only [hu] at hm
    cases hf:fs[f]? with
    | none => simp [hf,M.run] at hm
    | some fd =>
     simp only [hf] at hm
     cases hd:C.P.underlying fd.type with
     | none => simp [hd,M.run] at hm
     | some d =>
      simp only [hd] at hm
      have hlen:=hall.length
      cases hag:Zaw d with
      | true =>
       simp only [hag,cond_true] at hm
       obtain ⟨hg,hm⟩:=M.run_guard hm
       obtain ⟨rfl,_⟩:=M.run_ret hm
       have hg:=Jt hg
       refine ⟨.agg ((vs.drop fd.offset).take (C.P.cellsOf fd.type)).toArray,?_,by simp only [RA]; exact ⟨_,rfl,ZY.2 (ZN.take _ (ZN.drop _ hall))⟩,?_,rfl⟩
       ·simp [Va,run_underlying hu,hf,asAgg,part,YA hd,hag,QO hd]
       ·simp only [Zb]
        exact hk.sub fun a ha => JS (JT ha)
      | false =>
       simp only [hag,cond_false] at hm
       cases hc:cs[fd.offset]? with
       | none => simp [hc,M.run] at hm
       | some a =>
        simp only [hc] at hm
        obtain ⟨rfl,_⟩:=M.run_ret hm
        obtain ⟨v,hv,hr⟩:=hall.get hc
        refine ⟨v,?_,hr,hk.mem (Vw hc),rfl⟩
        simp [Va,run_underlying hu,hf,asAgg,part,YA hd,hag,hv]
   | _ => simp [hu,M.run] at hm
 ·exact (M.run_fail hm).elim
theorem Zsl {T:TypeId} {a i:AV} {v vi:Value} {l l':List Nat} {e:Eff} (hm:(ZjI C T a i).run tbl l = some (e,l')) (ha:RA σ w lim a v) (hi:RA σ w lim i vi) :
  ∃ x,(JY T v vi).run C.P w = .ok x w ∧ RA σ w lim e.val x ∧ Zi tbl (Zb e.val) ∧ e.ups = []:=by
 unfold ZjI at hm
 split at hm
 ·rename_i cs k n
  simp only [RA,RP] at ha hi; subst hi
  obtain ⟨vs,rfl,hvs⟩:=ha
  split at hm
  ·rename_i len e' hu
   cases hd:C.P.underlying e' with
   | none => simp [hd,M.run] at hm
   | some d =>
    simp only [hd] at hm
    obtain ⟨hg,hm⟩:=M.run_guard hm
    simp only [Jh,J7] at hg
    obtain ⟨⟨g1,g2⟩,g3⟩:=hg
    have g2:=ZS g2
    have g3:=ZS g3
    have hlen:=(ZY.1 hvs).length
    have fin:∀ (u:Value),vs[n.toNat]? = some u → 0 ≤ n → n < len → (JY T (.agg vs.toArray) (.int k n)).run C.P w = .ok u w:=by
     intro u hv h0 h1
     simp [JY,asIntOf,run_underlying hu,h0,h1,QO hd,g2,part,YA hd,g1,hv]
    split at hm
    ·rename_i k' ns hns
     obtain ⟨hn,hm⟩:=M.run_need hm
     obtain ⟨h0,h1⟩:=of_decide_eq_true hn
     obtain ⟨rfl,_⟩:=M.run_ret hm
     have hv:=Ke hns hvs
     have hl:ns.length = len:=by rw [← g3,hlen,hv]; simp
     have hlt:n.toNat < ns.length:=by omega
     refine ⟨.int k' (ns.getD n.toNat 0),fin _ ?_ h0 h1,by simp only [RA,RP],by intro r hr; simp [Zb] at hr,rfl⟩
     simp_all
    ·split at hm
     ·rename_i k' ns hns
      obtain ⟨hn,hm⟩:=M.run_need hm
      obtain ⟨h0,h1⟩:=of_decide_eq_true hn
      obtain ⟨rfl,_⟩:=M.run_ret hm
      have hv:=Zin hns hvs
      have hl:ns.length = len:=by rw [← g3,hlen,hv]; simp
      have hlt:n.toNat < ns.length:=by omega
      refine ⟨.float k' (ns.getD n.toNat 0),fin _ ?_ h0 h1,by simp only [RA,RP],by intro r hr; simp [Zb] at hr,rfl⟩
      simp_all
     ·simp [M.run] at hm
  ·simp [M.run] at hm
 ·rename_i s k n
  simp only [RA,RP] at ha hi; subst ha; subst hi
  split at hm
  ·rename_i hu
   obtain ⟨hn,hm⟩:=M.run_need hm
   obtain ⟨h0,h1⟩:=of_decide_eq_true hn
   obtain ⟨rfl,_⟩:=M.run_ret hm
   have hlt:n.toNat < s.size:=by omega
   refine ⟨.int .u8 (bt s n),?_,by simp only [RA,RP],by intro r hr; simp [Zb] at hr,rfl⟩
   simp [JY,asIntOf,run_underlying hu,h0,Zxn hlt,bt]
  ·simp [M.run] at hm
 ·simp [M.run] at hm
theorem Zmu {i:Nat} {a:AV} {v:Value} {l l':List Nat} {e:Eff} (hm:(Zeu i a).run tbl l = some (e,l')) (ha:RA σ w lim a v) (hk:Zi tbl (Zb a)) :
  ∃ x,(Instr.extract v i).run C.P w = .ok x w ∧ RA σ w lim e.val x ∧ Zi tbl (Zb e.val) ∧ e.ups = []:=by
 unfold Zeu at hm
 split at hm
 ·rename_i vs
  cases hv:vs[i]? with
  | none => simp [hv,M.run] at hm
  | some a =>
   simp only [hv] at hm
   obtain ⟨rfl,_⟩:=M.run_ret hm
   simp only [RA] at ha
   obtain ⟨xs,rfl,h⟩:=ha
   obtain ⟨c,hc,hr⟩:=(ZY.1 h).get hv
   exact ⟨c,by simp [Instr.extract,hc],hr,by simp only [Zb] at hk; exact hk.mem (Vw hv),rfl⟩
 ·simp [M.run] at hm
theorem ZuE {c a b:AV} {vc va vb:Value} {l l':List Nat} {e:Eff} (hm:(Zoc c a b).run tbl l = some (e,l')) (hc:RA σ w lim c vc) (ha:RA σ w lim a va) (hb:RA σ w lim b vb)
  (ka:Zi tbl (Zb a)) (kb:Zi tbl (Zb b)) :
  ∃ t x,vc = .bool t ∧ x = (if t then va else vb) ∧ RA σ w lim e.val x ∧ Zi tbl (Zb e.val) ∧ e.ups = []:=by
 unfold Zoc at hm
 grind [RA,RP,M.run]
theorem ZF {v:Value}:RA σ w lim (.val (.v v)) v:=by simp only [RA,RP]
theorem Zo {T:Z3}:Zi T []:=by intro r hr; cases hr
theorem Zec {P:Program} {op:BinOp} {T:TypeId} {x y:Operand} {a b:Value} (h:plain a = true) (w:World):(eqGuard op T x y a b).run P w = .ok () w:=by
 cases op <;> first | rfl | (cases a <;> first | (simp [plain] at h; done) | rfl)
theorem ZuF {s:Sem Value} {l l':List Nat} {e:Eff} (hm:(Zdl C s).run tbl l = some (e,l')) :
  ∃ v,s.run C.P w = .ok v w ∧ RA σ w lim e.val v ∧ Zi tbl (Zb e.val) ∧ e.ups = []:=by
 unfold Zdl at hm
 cases hs:XK C.P s with
 | none => simp [hs,M.run] at hm
 | some v =>
  simp only [hs] at hm
  obtain ⟨_,hm⟩:=M.run_guard hm
  obtain ⟨rfl,_⟩:=M.run_ret hm
  exact ⟨v,YZ hs w,ZF,Zo,rfl⟩
theorem Ka {x y:Value} {f:IntKind → Int → IntKind → Int → M Eff} {g:M Eff} {l l':List Nat} {e:Eff} (hm:(Zgv x y f g).run tbl l = some (e,l')) :
  (∃ k a k' b,x = .int k a ∧ y = .int k' b ∧ (f k a k' b).run tbl l = some (e,l')) ∨ g.run tbl l = some (e,l'):=by
 unfold Zgv at hm
 grind
theorem Zof {x y:Value} {f:ByteArray → ByteArray → M Eff} {g:M Eff} {l l':List Nat} {e:Eff} (hm:(Ztm x y f g).run tbl l = some (e,l')) :
  (∃ a b,x = .string a ∧ y = .string b ∧ (f a b).run tbl l = some (e,l')) ∨ g.run tbl l = some (e,l'):=by
 unfold Ztm at hm
 grind
theorem Zxe {op:BinOp} {T:TypeId} {x y:Value} {xo yo:Operand} {l l':List Nat} {e:Eff} (hm:(Ztg C op T x y).run tbl l = some (e,l')) :
  ∃ v,(do eqGuard op T xo yo x y; binOp op T x y:Sem Value).run C.P w = .ok v w ∧ RA σ w lim e.val v ∧ Zi tbl (Zb e.val) ∧ e.ups = []:=by
 unfold Ztg at hm
 obtain ⟨hp,hm⟩:=M.run_guard hm
 simp only [Jh] at hp
 obtain ⟨hp1,hp2⟩:=hp
 simp only [Sem.run_bind,Zec hp1,Result.andThen_ok]
 have gen:∀ {s:Sem Value},(Zdl C s).run tbl l = some (e,l') → ∃ v,s.run C.P w = .ok v w ∧ RA σ w lim e.val v ∧ Zi tbl (Zb e.val) ∧ e.ups = []:=fun h => ZuF h
 cases op with
 | quo =>
  rcases Ka hm with ⟨k,a,k',b,rfl,rfl,h2⟩ | hm
  ·obtain ⟨hk,h3⟩:=M.run_guard h2
   obtain rfl:=of_decide_eq_true hk
   obtain ⟨hn,h4⟩:=M.run_need h3
   have hn:=of_decide_eq_true hn
   obtain ⟨rfl,_⟩:=M.run_ret h4
   exact ⟨_,by simp [binOp,Op.intDiv,hn],ZF,Zo,rfl⟩
  ·exact gen hm
 | rem =>
  rcases Ka hm with ⟨k,a,k',b,rfl,rfl,h2⟩ | hm
  ·obtain ⟨hk,h3⟩:=M.run_guard h2
   obtain rfl:=of_decide_eq_true hk
   obtain ⟨hn,h4⟩:=M.run_need h3
   have hn:=of_decide_eq_true hn
   obtain ⟨rfl,_⟩:=M.run_ret h4
   exact ⟨_,by simp [binOp,Op.intDiv,hn],ZF,Zo,rfl⟩
  ·exact (M.run_fail hm).elim
 | shl =>
  rcases Ka hm with ⟨k,a,k',b,rfl,rfl,hm⟩ | hm
  ·obtain ⟨hn,hm⟩:=M.run_need hm
   have hn:=of_decide_eq_true hn
   obtain ⟨rfl,_⟩:=M.run_ret hm
   exact ⟨_,by simp only [binOp,Op.shift]; simp_all <;> omega,ZF,Zo,rfl⟩
  ·exact (M.run_fail hm).elim
 | shr =>
  rcases Ka hm with ⟨k,a,k',b,rfl,rfl,hm⟩ | hm
  ·obtain ⟨hn,hm⟩:=M.run_need hm
   have hn:=of_decide_eq_true hn
   obtain ⟨rfl,_⟩:=M.run_ret hm
   exact ⟨_,by simp only [binOp,Op.shift]; simp_all <;> omega,ZF,Zo,rfl⟩
  ·exact (M.run_fail hm).elim
 | add =>
  rcases Zof hm with ⟨a,b,rfl,rfl,hm⟩ | hm
  ·obtain ⟨hn,hm⟩:=M.run_need hm
   have hn:=of_decide_eq_true hn
   obtain ⟨rfl,_⟩:=M.run_ret hm
   refine ⟨_,?_,ZF,Zo,rfl⟩
   have:¬ (((a.size + b.size:Nat):Int) > Jx.max):=by
    simp_all <;> omega
   simp_all [binOp,Op.stringOp]
  ·exact gen hm
 | _ => exact gen hm
theorem ZIy {P:Program} {T el:TypeId} (hu:P.underlying T = some (.pointer el)) {a:Addr} (d:Nat) (w:World) :
  (Op.equalIn (d + 1) T (.pointer (some a)) (.pointer none)).run P w = .ok false w:=by
 simp [Op.equalIn,run_underlying hu]
def Vt (w:World) (lim:Nat → Nat) (t:Ty) (x:t.den) (v:Value):Prop := ∃ cs,Rt w lim t x cs ∧ ((t.isAgg = true ∧ v = .agg cs.toArray) ∨ (t.isAgg = false ∧ cs = [v]))
theorem Zz5 {P:Program} {n:Nat} {T:TypeId} {t:Ty} (h:eqT P n T t = true):∃ d,P.underlying T = some d ∧ Zaw d = t.isAgg:=by
 cases n with
 | zero => simp [eqT] at h
 | succ n =>
  unfold eqT at h
  split at h
  ·rename_i hu; refine ⟨_,hu,?_⟩; cases t <;> simp at h <;> rfl
  ·rename_i hu; refine ⟨_,hu,?_⟩; cases t <;> simp at h <;> rfl
  ·rename_i hu; refine ⟨_,hu,?_⟩; cases t <;> simp at h <;> rfl
  ·rename_i hu; refine ⟨_,hu,?_⟩; simp only [Jh] at h; rw [h.1.1.1]; rfl
  ·cases h
theorem ZsL {P:Program} {T:TypeId} {t:Ty} {d:TypeDesc} (hu:P.underlying T = some d) (hd:Zaw d = t.isAgg) (hc:P.cellsOf T = t.size) {off:Nat} {xs:Array Value} {x:t.den} (hr:Rt w lim t x ((xs.toList.drop off).take t.size)) (hs:t.isAgg = false → t.size = 1) :
  ∃ v,(part T xs off).run P w = .ok v w ∧ Vt w lim t x v:=by
 cases ha:t.isAgg with
 | true =>
  refine ⟨.agg (xs.extract off (off + t.size)),by simp [part,YA hu,hd,ha,QO hu,hc],⟨_,hr,.inl ⟨ha,?_⟩⟩⟩
  congr 1
  grind
 | false =>
  have h1:=hs ha
  have hl:=Rt.length hr
  rw [h1] at hl hr
  match hcs:(xs.toList.drop off).take 1,hl with
  | [v],_ =>
   rw [hcs] at hr
   have hv:xs[off]? = some v:=by
    have:((xs.toList.drop off).take 1)[0]? = some v:=by rw [hcs]; rfl
    grind
   exact ⟨v,by simp [part,YA hu,hd,ha,hv],⟨_,hr,.inr ⟨ha,rfl⟩⟩⟩
theorem Zck {P:Program} {n dd:Nat} (ih:∀ (T:TypeId) (t:Ty) (x y:t.den) (v v':Value),eqT P n T t = true → Vt w lim t x v → Vt w lim t y v' → (Op.equalIn dd T v v').run P w = .ok (t.eqb x y) w) {xs ys:Array Value} :
  ∀ (l:List Field) (t:Ty) (off:Nat) (x y:t.den),eqF P (eqT P n) off l t = true → Rt w lim t x (xs.toList.drop off) → Rt w lim t y (ys.toList.drop off) →
   (Op.eqFields dd xs ys l).run P w = .ok (t.eqb x y) w
 | [],t,off,x,y,h,hx,hy => by
  match t,h with
  | .unit,h => rfl
 | f :: l,t,off,x,y,h,hx,hy => by
  match t,h with
  | .pair a b,h =>
   simp only [eqF,Jh] at h
   obtain ⟨⟨⟨⟨h1,h0⟩,h2⟩,h3⟩,h4⟩:=h
   have hn:f.name ≠ "_" := by simpa using h0
   obtain ⟨d,hu,hd⟩:=Zz5 h2
   have hs:a.isAgg = false → a.size = 1:=by intro h; cases a <;> first | rfl | (simp [Ty.isAgg] at h)
   simp only [Rt] at hx hy
   obtain ⟨c,d1,e1,e2,e3⟩:=hx
   obtain ⟨c',d1',e1',e2',e3'⟩:=hy
   have l1:=Rt.length e2
   have l2:=Rt.length e2'
   have q1:(xs.toList.drop off).take a.size = c:=by rw [e1,← l1,Vj]
   have q2:(ys.toList.drop off).take a.size = c':=by rw [e1',← l2,Vj]
   have q3:xs.toList.drop (off + a.size) = d1:=by rw [← JE,e1,← l1,JM]
   have q4:ys.toList.drop (off + a.size) = d1':=by rw [← JE,e1',← l2,JM]
   obtain ⟨v,r1,r2⟩:=ZsL (w:=w) (lim:=lim) hu hd (ZS h3) (off:=off) (xs:=xs) (x:=x.1) (by rw [q1]; exact e2) hs
   obtain ⟨v',r1',r2'⟩:=ZsL (w:=w) (lim:=lim) hu hd (ZS h3) (off:=off) (xs:=ys) (x:=y.1) (by rw [q2]; exact e2') hs
   have r3:=ih f.type a x.1 y.1 v v' h2 r2 r2'
   have r4:=Zck ih l b (off + a.size) x.2 y.2 h4 (by rw [q3]; exact e3) (by rw [q4]; exact e3')
   skip
   simp only [Op.eqFields,hn,ne_eq,not_false_eq_true,if_true,Sem.run_bind,ZS h1,r1,r1',r3,Result.andThen_ok,Ty.eqb]
   cases a.eqb x.1 y.1 with
   | true => simpa using r4
   | false => simp
theorem ZqV {P:Program}:∀ (n d:Nat) (T:TypeId) (t:Ty) (x y:t.den) (v v':Value),eqT P n T t = true → Vt w lim t x v → Vt w lim t y v' → (Op.equalIn (d + n) T v v').run P w = .ok (t.eqb x y) w
 | 0,_,_,_,_,_,_,_,h,_,_ => by simp [eqT] at h
 | n + 1,d,T,t,x,y,v,v',h,hx,hy => by
  obtain ⟨cs,hx1,hx2⟩:=hx
  obtain ⟨cs',hy1,hy2⟩:=hy
  unfold eqT at h
  split at h
  ·rename_i hu
   cases t <;> simp at h
   simp only [Rt] at hx1 hy1
   subst hx1; subst hy1
   simp only [Ty.isAgg,JJ,false_and,true_and,false_or,J0.injEq,and_true] at hx2 hy2
   subst hx2; subst hy2
   exact run_equalIn_bool w (d + n) T _ _ hu
  ·rename_i k hu
   cases t <;> simp at h
   subst h
   simp only [Rt] at hx1 hy1
   subst hx1; subst hy1
   simp only [Ty.isAgg,JJ,false_and,true_and,false_or,J0.injEq,and_true] at hx2 hy2
   subst hx2; subst hy2
   have:=run_equalIn_int w (d + n) T k k x y hu
   grind [Ty.eqb]
  ·rename_i hu
   cases t <;> simp at h
   simp only [Rt] at hx1 hy1
   subst hx1; subst hy1
   simp only [Ty.isAgg,JJ,false_and,true_and,false_or,J0.injEq,and_true] at hx2 hy2
   subst hx2; subst hy2
   have:=run_equalIn_string w (d + n) T x y hu
   rw [show d + (n + 1) = (d + n) + 1 from rfl,this,← beq_toListBytes]
   simp only [Ty.eqb]
   congr 1
   rw [Bool.eq_iff_iff]
   simp only [decide_eq_true_eq]
   rw [beq_toListBytes,ByteArray.toList_eq,ByteArray.toList_eq]
   simp only [beq_iff_eq]
   constructor
   ·intro e; exact Vl (Array.toList_inj.1 e)
   ·intro e; rw [e]
  ·rename_i fs hu
   simp only [Jh,J7] at h
   obtain ⟨⟨⟨ha,hst⟩,hsz⟩,hF⟩:=h
   rcases hx2 with ⟨_,rfl⟩ | ⟨hb,_⟩
   ·rcases hy2 with ⟨_,rfl⟩ | ⟨hb,_⟩
    ·have hf:P.underlying T = some (.struct (P.fieldsOf T)):=by simp [Program.fieldsOf,hu]
     have he:(P.fieldsOf T) = fs:=by simp [Program.fieldsOf,hu]
     rw [show d + (n + 1) = (d + n) + 1 from rfl,run_equalIn_struct w (d + n) T _ _ hf hst,he]
     exact Zck (fun T t x y v v' => ZqV n d T t x y v v') fs.toList t 0 x y hF (by simpa using hx1) (by simpa using hy1)
    ·rw [ha] at hb; cases hb
   ·rw [ha] at hb; cases hb
  ·cases h
theorem ZuG:∀ {cs:List AV} {ps:List PV} {vs:List Value},pvs cs = some ps → ZX σ w lim cs vs → ZN (RP w lim) ps vs
 | [],ps,vs,h,hr => by
  simp only [pvs,Option.some.injEq] at h; subst h
  cases vs with
  | nil => trivial
  | cons => simp [ZX] at hr
 | c :: cs,ps,vs,h,hr => by
  cases c with
  | val p =>
   simp only [pvs] at h
   split at h
   ·rename_i ps' hp
    cases h
    match vs,hr with
    | v :: vs,hr =>
     simp only [ZX,RA] at hr
     exact ⟨hr.1,ZuG hp hr.2⟩
   ·cases h
  | _ => simp [pvs] at h
theorem ZmY {T:TypeId} {cs ds:List AV} {xs ys:List Value} {neg:Bool} {l l':List Nat} {e:Eff} (hm:(Zn9 C T cs ds neg).run tbl l = some (e,l')) (ha:ZX σ w lim cs xs) (hb:ZX σ w lim ds ys) :
  C.P.eqGuardType C.P.depth T = false ∧ ∃ b,(Op.equalIn 10000 T (.agg xs.toArray) (.agg ys.toArray)).run C.P w = .ok b w ∧ e = ⟨.val (.v (.bool (bif neg then !b else b))),[]⟩:=by
 unfold Zn9 at hm
 split at hm
 ·rename_i t ht
  obtain ⟨hg,hm⟩:=M.run_guard hm
  simp only [Jh,J7] at hg
  obtain ⟨⟨h1,h2⟩,h3⟩:=hg
  split at hm
  ·rename_i ps qs hps hqs
   split at hm
   ·rename_i x y hx hy
    obtain ⟨rfl,_⟩:=M.run_ret hm
    have k1:=Zbl hx (ZuG hps ha)
    have k2:=Zbl hy (ZuG hqs hb)
    exact ⟨h3,_,ZqV depth 9988 T t x y _ _ h2 ⟨_,k1,.inl ⟨h1,rfl⟩⟩ ⟨_,k2,.inl ⟨h1,rfl⟩⟩,rfl⟩
   ·exact (M.run_fail hm).elim
  ·exact (M.run_fail hm).elim
 ·exact (M.run_fail hm).elim
theorem ZC3 {op:BinOp} {T:TypeId} {x y:Value} {xo yo:Operand} {m:M Eff} (hf:ZzK op x y = some m) {l l':List Nat} {e:Eff} (hm:m.run tbl l = some (e,l')) :
  ∃ v,(do eqGuard op T xo yo x y; binOp op T x y:Sem Value).run C.P w = .ok v w ∧ RA σ w lim e.val v ∧ Zi tbl (Zb e.val) ∧ e.ups = []:=by
 unfold ZzK at hf
 split at hf
 ·rename_i k a k' b
  have key:∀ op,(op = .add ∨ op = .sub ∨ op = .mul ∨ op = .quo) → (bif decide (k = k') then M.opt (floatBits op k a b) fun r => M.ret (⟨.val (.v (.float k r)),[]⟩:Eff) else M.fail).run tbl l = some (e,l') →
    ∃ v,(do eqGuard op T xo yo (.float k a) (.float k' b); binOp op T (.float k a) (.float k' b):Sem Value).run C.P w = .ok v w ∧ RA σ w lim e.val v ∧ Zi tbl (Zb e.val) ∧ e.ups = []:=by
   intro op hop h
   obtain ⟨hk,h1⟩:=M.run_guard h
   obtain rfl:=of_decide_eq_true hk
   obtain ⟨r,hr,h2⟩:=M.run_opt h1
   obtain ⟨rfl,_⟩:=M.run_ret h2
   have:=run_float_arith (P:=C.P) w op T k a b r hr
   refine ⟨.float k r,?_,ZF,Zo,rfl⟩
   grind [eqGuard]
  grind
 ·rename_i a b c d
  split at hf
  ·cases hf
   obtain ⟨r,hr,h⟩:=M.run_opt hm
   obtain ⟨rfl,_⟩:=M.run_ret h
   have:=run_complex_mul (P:=C.P) w T a b c d r.1 r.2 hr
   exact ⟨.complex .f64 r.1 r.2,by simpa [eqGuard] using this,ZF,Zo,rfl⟩
  ·cases hf
 ·cases hf
theorem ZsK {P:Program} {T e:TypeId} (h:P.underlying T = some (.slice e)) (a:Option Addr) (l c:Nat) (w:World):(Op.equal T (.slice a l c) (.slice none 0 0)).run P w = .ok a.isNone w:=by
 have:=Lib.run_equalIn_slice_nil (P:=P) w 9999 T e a l c 0 0 h
 simp [Op.equal,Op.maxDepth,this]
theorem Wy {a:AV} {v:Value} (h:RA σ w lim a v):RA σ w lim (Yy a) v:=by
 cases a <;> first | exact h | grind [RA,Yy,RP]
theorem ZlR (a:AV):Zb (Yy a) = Zb a:=by cases a <;> rfl
theorem Ztp {op:BinOp} {T:TypeId} {a b:AV} {x y:Value} {xo yo:Operand} {l l':List Nat} {e:Eff} (hm:(Zn7 C op T a b).run tbl l = some (e,l'))
  (ha:RA σ w lim a x) (hb:RA σ w lim b y) :
  ∃ v,(do eqGuard op T xo yo x y; binOp op T x y:Sem Value).run C.P w = .ok v w ∧ RA σ w lim e.val v ∧ Zi tbl (Zb e.val) ∧ e.ups = []:=by
 unfold Zn7 at hm
 split at hm
 ·rename_i cs ds
  simp only [RA] at ha hb
  obtain ⟨xs,rfl,ha⟩:=ha
  obtain ⟨ys,rfl,hb⟩:=hb
  split at hm
  ·obtain ⟨hg,b,h1,rfl⟩:=ZmY hm ha hb
   exact ⟨.bool b,by simp [run_eqGuard_agg,hg,run_eql_struct,h1],ZF,Zo,rfl⟩
  ·obtain ⟨hg,b,h1,rfl⟩:=ZmY hm ha hb
   exact ⟨.bool (!b),by simp [run_eqGuard_agg,hg,run_neq_struct,h1],ZF,Zo,rfl⟩
  ·exact (M.run_fail hm).elim
 ·simp only [RA,RP] at ha hb; subst ha; subst hb
  split at hm
  ·rename_i m hfl
   exact ZC3 hfl hm
  ·exact Zxe hm
 ·rename_i r k y'
  simp only [RA,RP] at ha hb; subst hb
  obtain ⟨bb,_,rfl⟩:=ha
  obtain ⟨hn,hm2⟩:=M.run_guard hm
  clear hm
  simp only [Jh] at hn
  obtain ⟨h1,h2⟩:=hn
  have hy:y = .pointer none:=by unfold Zsn at h1; split at h1 <;> simp_all
  clear h1
  subst hy
  cases hu:C.P.underlying T with
  | none => simp [hu] at h2
  | some d =>
   cases d with
   | pointer el =>
    have hq:∀ w,(Op.equal T (.pointer (some ⟨bb,k,none⟩)) (.pointer none)).run C.P w = .ok false w:=fun w => ZIy hu 9999 w
    cases op with
    | eql =>
     obtain ⟨rfl,_⟩:=M.run_ret hm2
     exact ⟨.bool false,by simp [eqGuard,binOp,hq],ZF,Zo,rfl⟩
    | neq =>
     obtain ⟨rfl,_⟩:=M.run_ret hm2
     exact ⟨.bool true,by simp [eqGuard,binOp,hq],ZF,Zo,rfl⟩
    | _ => exact (M.run_fail hm2).elim
   | _ => simp [hu] at h2
 ·rename_i t xs y'
  simp only [RA,RP] at ha hb; subst hb
  obtain ⟨ha,hnil⟩:=ha
  obtain ⟨hn,hm2⟩:=M.run_guard hm
  clear hm
  simp only [Jh] at hn
  obtain ⟨h1,h2⟩:=hn
  have:=YR h1; subst this
  clear h1
  obtain ⟨A,l,c,rfl,hA⟩:∃ A l c,x = .slice A l c ∧ A.isNone = xs.isEmpty:=by
   grind [Rt]
  cases hu:C.P.underlying T with
  | none => simp [hu] at h2
  | some d =>
   cases d with
   | slice el =>
    have hq:=ZsK (P:=C.P) hu A l c w
    cases op with
    | eql =>
     obtain ⟨rfl,_⟩:=M.run_ret hm2
     exact ⟨.bool A.isNone,by simp [eqGuard,binOp,hq],by rw [hA]; exact ZF,Zo,rfl⟩
    | neq =>
     obtain ⟨rfl,_⟩:=M.run_ret hm2
     exact ⟨.bool (!A.isNone),by simp [eqGuard,binOp,hq],by rw [hA]; exact ZF,Zo,rfl⟩
    | _ => exact (M.run_fail hm2).elim
   | _ => simp [hu] at h2
 ·simp [M.run] at hm
theorem ZD5 {op:UnOp} {a:AV} {x:Value} {l l':List Nat} {e:Eff} (hm:(ZzL C op a).run tbl l = some (e,l')) (ha:RA σ w lim a x) :
  ∃ v,(Op.unary op x).run C.P w = .ok v w ∧ RA σ w lim e.val v ∧ Zi tbl (Zb e.val) ∧ e.ups = []:=by
 unfold ZzL at hm
 split at hm
 ·simp only [RA,RP] at ha; subst ha
  split at hm
  ·rename_i v hs
   obtain ⟨_,hm⟩:=M.run_guard hm
   obtain ⟨rfl,_⟩:=M.run_ret hm
   exact ⟨v,YZ hs w,ZF,Zo,rfl⟩
  ·simp [M.run] at hm
 ·simp [M.run] at hm
def Row (w:World) (lim:Nat → Nat) (t:Ty) (xs:List t.den) (v:Value):Prop :=
 ∃ A cap,v = .slice A xs.length cap ∧ xs.length ≤ cap ∧ (xs = [] ∨ ∃ b off,A = some ⟨b,off,none⟩ ∧ ∀ i (h:i < xs.length),∃ c,Rt w lim t xs[i] c ∧
  ∀ j u,c[j]? = some u → w.cell? ⟨b,off + i * t.size + j,none⟩ = some u)
theorem Zbk {t:Ty} {xs:List t.den} {v:Value} (h:Rt w lim (.sl t) xs [v]):Row w lim t xs v:=by
 simp only [Rt] at h
 obtain ⟨A,len,cap,hv,h2,h3,h4⟩:=h
 obtain rfl:v = .slice A len cap:=by simpa using hv
 refine ⟨A,cap,by rw [h2],by rw [h2]; exact h3,?_⟩
 grind
theorem ZeS {r:Nat} {t:Ty} {xs:List t.den} {sh:Bool} (h:RR σ w lim r (.arr t xs sh)):Row w lim t xs (σ r):=by
 simp only [RR] at h
 rcases h.2 with ⟨h4,h5⟩ | ⟨b,off,cap,vs,U,fz,h4,h5,h6,h7,h8,h9,h10⟩
 ·subst h4; exact ⟨none,0,h5,Jj _,.inl rfl⟩
 ·refine ⟨_,cap,h4,h5,.inr ⟨b,off,rfl,fun i hi => ⟨_,h9 i hi,fun j u hj => ?_⟩⟩⟩
  rw [QQ h6]
  grind
theorem ZbP {t:Ty} {a:AV} {v:Value} {l l':List Nat} {xs:List t.den} (hm:(ZlW t a).run tbl l = some (xs,l')) (ha:RA σ w lim a v)
  (hres:∀ r x,tbl r = .live x → RR σ w lim r x ∧ Zi tbl (Qb r x)):Row w lim t xs v:=by
 unfold ZlW at hm
 split at hm
 ·rename_i r
  simp only [M.run] at hm
  cases hr:tbl r with
  | fresh => simp [hr,M.run] at hm
  | gone => simp [hr,M.run] at hm
  | live y =>
   cases y with
   | box => simp [hr,M.run] at hm
   | nest => simp [hr,M.run] at hm
   | arr t' ys sh =>
    simp only [hr] at hm
    split at hm
    ·rename_i ht
     subst ht
     obtain ⟨rfl,_⟩:=M.run_ret hm
     simp only [RA] at ha; obtain ⟨rfl,_⟩:=ha
     exact ZeS (hres r _ hr).1
    ·simp [M.run] at hm
 ·have:=M.run_ofOpt hm
  simp only [RA] at ha
  exact Zbk (Zqi this ha)
 ·simp [M.run] at hm
theorem Zbj {t:Ty} {xs:List t.den} {v:Value} (h:Row w lim t xs v):∃ A cap,v = .slice A xs.length cap ∧ xs.length ≤ cap ∧
  ∃ css:List (List Value),ZN (Rt w lim t) xs css ∧ (xs = [] ∨ ∃ b off,A = some ⟨b,off,none⟩ ∧ ∀ j u,css.flatten[j]? = some u → w.cell? ⟨b,off + j,none⟩ = some u):=by
 obtain ⟨A,cap,hv,hc,h⟩:=h
 refine ⟨A,cap,hv,hc,?_⟩
 rcases h with h | ⟨b,off,hA,h⟩
 ·subst h; exact ⟨[],trivial,.inl rfl⟩
 ·suffices H:∀ (xs:List t.den) (off:Nat),(∀ i (h:i < xs.length),∃ c,Rt w lim t xs[i] c ∧ ∀ j u,c[j]? = some u → w.cell? ⟨b,off + i * t.size + j,none⟩ = some u) →
    ∃ css:List (List Value),ZN (Rt w lim t) xs css ∧ ∀ j u,css.flatten[j]? = some u → w.cell? ⟨b,off + j,none⟩ = some u by
   obtain ⟨css,h1,h2⟩:=H xs off h
   grind
  intro xs
  induction xs with
  | nil => intro off _; exact ⟨[],trivial,by simp⟩
  | cons x xs ih =>
   intro off h
   obtain ⟨c,h1,h2⟩:=h 0 (by simp)
   obtain ⟨css,h3,h4⟩:=ih (off + t.size) (fun i hi => by
    obtain ⟨c,h5,h6⟩:=h (i + 1) (by simpa using hi)
    grind)
   refine ⟨c :: css,⟨h1,h3⟩,fun j u hj => ?_⟩
   have hl:=Rt.length h1
   grind
theorem Qe {t:Ty} {xs:List t.den} {css:List (List Value)} (h:ZN (Rt w lim t) xs css):css.flatten.length = xs.length * t.size:=by
 induction xs generalizing css with
 | nil => match css,h with | [],_ => simp
 | cons x xs ih => match css,h with
  | c :: css,h => simp [ih h.2,Rt.length h.1,Jg]; omega
theorem Zqj {k:IntKind} {xs:List Int} {css:List (List Value)} (h:ZN (Rt w lim (.int k)) xs css):css.flatten = xs.map (Jv k):=by
 induction xs generalizing css with
 | nil => match css,h with | [],_ => rfl
 | cons x xs ih => match css,h with
  | c :: css,h =>
   have h1:=h.1
   grind [Rt,ih h.2]
theorem Ztx (l:List Int) (acc:ByteArray):(l.foldl (fun r n => r.push (UInt8.ofNat n.toNat)) acc) = ⟨acc.data ++ (l.map fun n => UInt8.ofNat n.toNat).toArray⟩:=by
 induction l generalizing acc with
 | nil => simp
 | cons a l ih => simp_all
theorem Zev {P:Program} {e:TypeId} (h:Zb1 P e = true):P.underlying e = some (.int .u8) ∧ P.cellsOf e = 1:=by
 unfold Zb1 at h
 split at h
 ·rename_i hu; exact ⟨hu,ZS h⟩
 ·cases h
theorem KN {src dst e:TypeId} {v:Value} {xs:List Int} (hs:C.P.underlying src = some (.slice e)) (hd:C.P.underlying dst = some .string) (hb:Zb1 C.P e = true)
  (hr:Row w lim (.int .u8) xs v):(convert src dst v).run C.P w = .ok (.string (bytesOf xs)) w:=by
 obtain ⟨hu,_⟩:=Zev hb
 obtain ⟨A,cap,rfl,hc,css,h1,h2⟩:=Zbj hr
 rw [run_convert_bytes_string w src dst e A _ _ hs hu hd]
 rcases h2 with h2 | ⟨b,off,rfl,h2⟩
 ·subst h2
  cases A with
  | none => simp [Conv.bytesToString,bytesOf]; rfl
  | some a =>
   rfl
 ·have hl:=Qe h1
  rw [Zqj h1] at h2 hl
  have:=run_loadCells_list (P:=C.P) w ⟨b,off,none⟩ (xs.map (Jv .u8)) (fun j v hj => by rw [Qh]; exact h2 j v hj)
  rw [List.length_map] at this
  rw [run_bytesToString w _ _ _ xs this,Ztx]
  congr 2
  apply Vl
  simp [bytesOf]
theorem Zmt {base:Nat} {src dst:TypeId} {a:AV} {v:Value} {l l':List Nat} {e:Eff} (hm:(Zet C base src dst a).run tbl l = some (e,l')) (ha:RA σ w lim a v)
  (hres:∀ r x,tbl r = .live x → RR σ w lim r x ∧ Zi tbl (Qb r x)) :
  (∃ x,(convert src dst v).run C.P w = .ok x w ∧ RA σ w lim e.val x ∧ Zi tbl (Zb e.val) ∧ e.ups = []) ∨
  (∃ el s,C.P.underlying src = some .string ∧ C.P.underlying dst = some (.slice el) ∧ Zb1 C.P el = true ∧ Ja el ZFK = true ∧ v = .string s ∧ s.size < 1099511627776 ∧ tbl base = .fresh ∧
   e = ⟨.own base,[(base,.live (.arr (.int .u8) (WJ s) false))]⟩) ∨
  (∃ r t xs sh el el',src = dst ∧ C.P.underlying src = some (.slice el') ∧ C.P.underlying dst = some (.slice el) ∧ Zb1 C.P el = true ∧ v = σ r ∧ (∃ A l c,v = .slice A l c) ∧ tbl r = .live (.arr t xs sh) ∧ 1 ≤ xs.length ∧
   e = ⟨.own r,[(r,.live (.arr t xs sh))]⟩):=by
 unfold Zet at hm
 split at hm
 ·rename_i el' el hs hd
  split at hm
  ·rename_i r
   obtain ⟨hb,hm⟩:=M.run_guard hm
   simp only [Jh] at hb
   simp only [M.run] at hm
   split at hm
   ·rename_i t xs sh hr
    obtain ⟨hx,hm⟩:=M.run_guard hm
    obtain ⟨rfl,_⟩:=M.run_ret hm
    simp only [RA] at ha
    exact .inr (.inr ⟨r,t,xs,sh,el,el',ZS hb.1,hs,hd,hb.2,ha.1,ha.2,hr,Jt hx,rfl⟩)
   ·simp [M.run] at hm
  ·simp [M.run] at hm
 ·rename_i el hs hd
  obtain ⟨hb,hm⟩:=M.run_guard hm
  obtain ⟨xs,l1,h1,h2⟩:=M.run_bind_some hm
  obtain ⟨rfl,_⟩:=M.run_ret h2
  exact .inl ⟨_,KN hs hd hb (ZbP h1 ha hres),ZF,Zo,rfl⟩
 ·rename_i el hs hd
  split at hm
  ·rename_i s
   simp only [RA,RP] at ha; subst ha
   obtain ⟨hb,hm⟩:=M.run_guard hm
   simp only [Jh] at hb
   obtain ⟨hn,hm⟩:=M.run_need hm
   have hn:=of_decide_eq_true hn
   simp only [QJ,M.run] at hm
   cases hf:tbl base with
   | fresh =>
    simp only [hf,M.run] at hm
    grind
   | gone => simp [hf,M.run] at hm
   | live y => simp [hf,M.run] at hm
  ·simp [M.run] at hm
 ·rename_i fk ik hs hd
  split at hm
  ·rename_i s b
   simp only [RA,RP] at ha; subst ha
   obtain ⟨n,hn,hm⟩:=M.run_opt hm
   obtain ⟨rfl,_⟩:=M.run_ret hm
   exact .inl ⟨_,run_convert_float_int (P:=C.P) w src dst s ik b n (by rw [hs]; rfl) hd hn,ZF,Zo,rfl⟩
  ·simp [M.run] at hm
 ·split at hm
  ·simp only [RA,RP] at ha; subst ha
   split at hm
   ·rename_i v hs
    obtain ⟨_,hm⟩:=M.run_guard hm
    obtain ⟨rfl,_⟩:=M.run_ret hm
    exact .inl ⟨v,YZ hs w,ZF,Zo,rfl⟩
   ·simp [M.run] at hm
  ·simp [M.run] at hm
 ·simp [M.run] at hm
theorem Zza {base:Nat} {ats:Array TypeId} {ty:TypeId} {a:AV} {v:Value} {l l':List Nat} {e:Eff} (hm:(WD C base .len ats [a]).run tbl l = some (e,l')) (ha:RA σ w lim a v)
  (hres:∀ r x,tbl r = .live x → RR σ w lim r x ∧ Zi tbl (Qb r x)) :
  ∃ x,(JC ats ty #[v]).run C.P w = .ok x w ∧ RA σ w lim e.val x ∧ Zi tbl (Zb e.val) ∧ e.ups = []:=by
 simp only [WD] at hm
 split at hm
 ·rename_i T hT
  split at hm
  ·rename_i s hu
   simp only [RA,RP] at ha; subst ha
   obtain ⟨rfl,_⟩:=M.run_ret hm
   exact ⟨_,by simp [JC,hT,run_underlying hu,goInt],ZF,Zo,rfl⟩
  ·rename_i r hu
   simp only [M.run] at hm
   cases hr:tbl r with
   | fresh => simp [hr,M.run] at hm
   | gone => simp [hr,M.run] at hm
   | live y =>
    cases y with
    | box => simp [hr,M.run] at hm
    | nest t' xss o =>
     simp only [hr] at hm
     obtain ⟨rfl,_⟩:=M.run_ret hm
     simp only [RA] at ha; obtain ⟨rfl,_⟩:=ha
     have h2:=(hres r _ hr).1
     simp only [RR] at h2
     obtain ⟨_,b',off',cap',vs,U,fz,h4,_⟩:=h2
     rw [h4]
     exact ⟨_,by simp [JC,hT,run_underlying hu,goInt],ZF,Zo,rfl⟩
    | arr t' xs sh =>
     simp only [hr] at hm
     obtain ⟨rfl,_⟩:=M.run_ret hm
     simp only [RA] at ha; obtain ⟨rfl,_⟩:=ha
     obtain ⟨A,cap,hv,_⟩:=ZeS (hres r _ hr).1
     rw [hv]
     exact ⟨_,by simp [JC,hT,run_underlying hu,goInt],ZF,Zo,rfl⟩
  ·rename_i t' xs hu
   obtain ⟨rfl,_⟩:=M.run_ret hm
   simp only [RA,RP] at ha
   obtain ⟨A,cap,hv,_⟩:=Zbk ha
   subst hv
   exact ⟨_,by simp [JC,hT,run_underlying hu,goInt],ZF,Zo,rfl⟩
  ·rename_i x hu
   obtain ⟨hb,hm⟩:=M.run_guard hm
   obtain ⟨rfl,_⟩:=M.run_ret hm
   simp only [RA,RP] at ha; subst ha
   have:=YR hb; subst this
   exact ⟨_,by simp [JC,hT,run_underlying hu,goInt],ZF,Zo,rfl⟩
  ·simp [M.run] at hm
 ·simp [M.run] at hm
theorem Zdn {v:Value} (h:v.oneCell' = true):v.cells = #[v]:=by
 cases v <;> first | rfl | (simp [Value.oneCell'] at h)
theorem Zbm {t:Ty} {xs:List t.den} {v:Value} (h:Rt w lim (.sl t) xs [v]):v.oneCell' = true:=by
 simp only [Rt] at h; obtain ⟨A,len,cap,hv,_⟩:=h
 obtain rfl:v = .slice A len cap:=by simpa using hv
 rfl
theorem Zew {a:AV} {v:Value} {cs:List AV} (hcs:a.cells? = some cs) (hv:RA σ w lim a v):∃ ws:List Value,v.cells = ws.toArray ∧ ZX σ w lim cs ws ∧ ((∀ l,a ≠ .agg l) → ws = [v] ∧ cs = [a] ∧ v.oneCell' = true):=by
 have one:v.oneCell' = true → cs = [a] → ∃ ws:List Value,v.cells = ws.toArray ∧ ZX σ w lim cs ws ∧ ((∀ l,a ≠ .agg l) → ws = [v] ∧ cs = [a] ∧ v.oneCell' = true):=by
  intro h1 h2
  subst h2
  exact ⟨[v],by rw [Zdn h1],by simp [ZX,hv],fun _ => ⟨rfl,rfl,h1⟩⟩
 cases a with
 | agg l =>
  simp [AV.cells?] at hcs; subst hcs
  simp only [RA] at hv; obtain ⟨ws,rfl,hw⟩:=hv
  exact ⟨ws,rfl,hw,fun h => absurd rfl (h l)⟩
 | dead => simp [AV.cells?] at hcs
 | tup => simp [AV.cells?] at hcs
 | clo f l =>
  simp [AV.cells?] at hcs; subst hcs
  simp only [RA] at hv
  obtain ⟨us,rfl,hw⟩:=hv
  exact one rfl rfl
 | val p =>
  cases p with
  | v x =>
   simp only [AV.cells?] at hcs
   cases hx:x.oneCell' with
   | false => simp [hx] at hcs
   | true =>
    simp_all [hx,RA,RP]
  | sl t xs =>
   simp [AV.cells?] at hcs
   simp only [RA,RP] at hv
   exact one (Zbm hv) hcs.symm
 | own r => simp [AV.cells?] at hcs; simp only [RA] at hv; obtain ⟨_,A,l,c,rfl⟩:=hv; exact one rfl hcs.symm
 | bx r k => simp [AV.cells?] at hcs; simp only [RA] at hv; obtain ⟨b,_,rfl⟩:=hv; exact one rfl hcs.symm
 | el r t i k => simp [AV.cells?] at hcs; simp only [RA] at hv; obtain ⟨b,off,len,cap,_,rfl⟩:=hv; exact one rfl hcs.symm
 | sub r t i j => simp [AV.cells?] at hcs; simp only [RA] at hv; obtain ⟨A,len,cap,_,rfl⟩:=hv; exact one rfl hcs.symm
 | sp ps => simp [AV.cells?] at hcs; simp only [RA] at hv; obtain ⟨b,off,rfl,_⟩:=hv; exact one rfl hcs.symm
 | fn f => simp [AV.cells?] at hcs; simp only [RA] at hv; subst hv; exact one rfl hcs.symm
 | ns t xs => simp [AV.cells?] at hcs; simp only [RA] at hv; exact one (Zbm hv.1) hcs.symm
 | vp t xs => simp [AV.cells?] at hcs; simp only [RA] at hv; obtain ⟨a,n,m,rfl,_⟩:=hv; exact one rfl hcs.symm
 | me r T => simp [AV.cells?] at hcs; simp only [RA] at hv; obtain ⟨p,rfl,_⟩:=hv; exact one rfl hcs.symm
theorem Znw (l:List Value):∀ (n:Nat) (cs:Array Value) (off:Nat),off + n + l.length ≤ cs.size →
  (l.zipIdx n).foldl (fun cs (c,j) => cs.setIfInBounds (off + j) c) cs = (cs.toList.take (off + n) ++ l ++ cs.toList.drop (off + n + l.length)).toArray:=by
 induction l with
 | nil => intro n cs off _; simp
 | cons x l ih =>
  intro n cs off h
  simp only [JF] at h
  simp only [List.zipIdx_cons,List.foldl_cons]
  rw [ih (n + 1) _ off (by simp; omega)]
  apply JI
  simp only [Vk]
  apply Jr
  intro i
  simp only [JO,Jy,Jo,Jz,JP,JQ,J5,JF,Vv,Vu]
  grind
theorem ZcS {place:Nat → Option (Nat × Nat)}:∀ (ps:List (Nat × AV)) (qs:List (Nat × Value)) (cells:List AV) (vs:List Value) {out:List AV},
  ZcQ place cells ps = some out → ZN (fun p q => p.1 = q.1 ∧ RA σ w lim p.2 q.2) ps qs → ZX σ w lim cells vs →
  ∃ us:List Value,Jw place vs.toArray qs = some us.toArray ∧ ZX σ w lim out us
 | [],[],cells,vs,out,h,_,hc => by
  grind [ZcQ,Jw]
 | (i,a) :: ps,(j,v) :: qs,cells,vs,out,h,hk,hc => by
  obtain ⟨⟨rfl,hv⟩,hk⟩:=hk
  simp only [ZcQ] at h
  cases hp:place i with
  | none => simp [hp] at h
  | some q =>
   obtain ⟨off,size⟩:=q
   cases hcs:a.cells? with
   | none => simp [hp,hcs] at h
   | some cs =>
    simp only [hp,hcs] at h
    cases hb:(Ja cs.length size && Nat.ble (off + size) cells.length) with
    | false => simp [hb] at h
    | true =>
     simp only [hb,cond_true] at h
     simp only [Jh] at hb
     have h1:=ZS hb.1
     have h2:off + size ≤ cells.length:=Jt hb.2
     obtain ⟨ws,hw1,hw2,_⟩:=Zew hcs hv
     have hl:=(ZY.1 hw2).length
     have hlc:=(ZY.1 hc).length
     have hnew:ZX σ w lim (cells.take off ++ cs ++ cells.drop (off + size)) (vs.take off ++ ws ++ vs.drop (off + size)) :=
      ZY.2 (ZN.append (ZN.append (ZN.take off (ZY.1 hc)) (ZY.1 hw2)) (ZN.drop _ (ZY.1 hc)))
     obtain ⟨us,h3,h4⟩:=ZcS ps qs _ _ h hk hnew
     refine ⟨us,?_,h4⟩
     simp only [Jw,hp,hw1]
     rw [if_neg (by simp; omega)]
     rw [← h3]
     congr 1
     have:=Znw ws 0 vs.toArray off (by simp; omega)
     simp_all
 | [],_ :: _,_,_,_,_,h,_ => h.elim
 | _ :: _,[],_,_,_,_,h,_ => h.elim
theorem Zgb (l:List Value):ZX σ w lim (l.map fun v => .val (.v v)) l:=by
 induction l with
 | nil => simp [ZX]
 | cons v l ih => simp [ZX,ih,RA,RP]
theorem Zlt (l:List Value):Zh (l.map fun v => AV.val (.v v)) = []:=by
 induction l with
 | nil => rfl
 | cons v l ih => simp [Zh,Zb,ih]
theorem Xa {P:Program} {T:TypeId} {zs:List Value} (h:zeroCells P T = some zs) (w:World):∃ z,(zeroValue T).run P w = .ok z w ∧ z.cells.toList = zs:=by
 unfold zeroCells at h
 cases hi:P.info? T with
 | none => simp [hi] at h
 | some i =>
  simp only [hi] at h
  cases hz:i.zero with
  | none => simp [hz] at h
  | some z => simp_all [hz,zeroValue,typeInfo,hi]
theorem ZcR {T:Z3} {place:Nat → Option (Nat × Nat)}:∀ (ps:List (Nat × AV)) (cells:List AV) {out:List AV},ZcQ place cells ps = some out →
  Zi T (Zh cells) → (∀ p ∈ ps,Zi T (Zb p.2)) → Zi T (Zh out)
 | [],cells,out,h,k,_ => by simp [ZcQ] at h; subst h; exact k
 | (i,a) :: ps,cells,out,h,k,kp => by
  simp only [ZcQ] at h
  cases hp:place i with
  | none => simp [hp] at h
  | some q =>
   obtain ⟨off,size⟩:=q
   cases hcs:a.cells? with
   | none => simp [hp,hcs] at h
   | some cs =>
    simp only [hp,hcs] at h
    cases hb:(Ja cs.length size && Nat.ble (off + size) cells.length) with
    | false => simp [hb] at h
    | true =>
     simp only [hb,cond_true] at h
     refine ZcR ps _ h ?_ (fun p hp => kp p (Jn _ hp))
     have kc:Zi T (Zh cs):=by
      have ka:=kp (i,a) (Jm ..)
      simp only at ka
      unfold AV.cells? at hcs
      split at hcs
      ·grind [Zb]
      ·simp at hcs
      ·simp at hcs
      ·rename_i x
       cases hx:x.oneCell' with
       | false => simp [hx] at hcs
       | true => simp [hx] at hcs; grind [Zh,Zb]
      grind [Zh]
     intro r hr
     obtain ⟨x,hx,hr⟩:=Yu hr
     simp only [Ju,Js] at hx
     rcases hx with hx | hx | hx
     ·exact (k.mem (JT hx)) r hr
     ·exact (kc.mem hx) r hr
     ·exact (k.mem (JS hx)) r hr
theorem ZeW {P:Program}:∀ (fs:List Field) (w:World),(∀ f ∈ fs,∃ i,P.info? f.type = some i) →
  (fs.mapM fun f => do pure (f.offset,← sizeOf f.type):Sem (List (Nat × Nat))).run P w = .ok (fs.map fun f => (f.offset,P.cellsOf f.type)) w
 | [],w,_ => by simp
 | f :: fs,w,h => by
  obtain ⟨i,hi⟩:=h f (by simp)
  have ih:=ZeW fs w (fun g hg => h g (by simp [hg]))
  simp_all [List.mapM_cons,Sem.run_bind,sizeOf,typeInfo,run_program,Result.andThen_ok,hi,Sem.run_pure,JR,Program.cellsOf]
end
end Go.Sh
namespace Go.Sh
open Go
variable [Gl]
variable {C:Ctx} {G:Glob} {σ:WM} {w:World} {lim:Nat → Nat} {st:St} {tmps:Array Value}
theorem Zg (i:Nat) (x:RS) (u:Q3) (r:Nat):Zu ((i,x) :: u) r = if i = r then some x else Zu u r:=by
 by_cases h:i = r
 ·subst h; simp [Zu]
 ·simp [Zu,Zp h,h]
theorem Qo (T:Z3):T.put [] = T:=rfl
theorem Ql (T:Z3) (u v:Q3):T.put (u ++ v) = (T.put v).put u:=by
 funext r
 induction u with
 | nil => rfl
 | cons p u ih =>
  obtain ⟨i,x⟩:=p
  simp only [Z3.put,J1,Zg] at ih ⊢
  grind
theorem Yf (T:Z3) (p:Nat × RS) (u:Q3):T.put (p :: u) = (T.put u).put [p]:=Ql T [p] u
theorem Qv (T:Z3) (i:Nat) (x:RS) (u:Q3) (r:Nat):T.put ((i,x) :: u) r = if i = r then x else T.put u r:=by
 simp only [Z3.put,Zg]
 by_cases h:i = r <;> simp [h]
theorem Zj (T:Z3) (i:Nat) (x:RS) (r:Nat):T.put [(i,x)] r = if i = r then x else T r:=by
 rw [Qv]; rfl
theorem RelW.noput {G:Glob} {σ σ':WM} {lim lim':Nat → Nat} {st:St} {tmps:Array Value} {w w':World} {ups:Q3} {v:AV} {x:Value}
  (h:RelW G σ lim st tmps w) (u:Upd G σ lim st w σ' lim' w' v x ups):RelW G σ' lim' ⟨st.env,st.tbl.put ups⟩ tmps w' :=
 RelW.step (a:=⟨tmps,[]⟩) h u none (by simp)
theorem Upd.dead {v:AV} {x:Value} {σ':WM} {lim':Nat → Nat} {w':World} {ups:Q3}
  (ext:Ext w lim w' lim') (lz:∀ b,w'.heap.size ≤ b → lim' b = 0) (same:w'.os = w.os ∧ w'.tape = w.tape ∧ w'.output = w.output)
  (sig:∀ r,st.tbl r ≠ .fresh → σ' r = σ r)
  (rest:∀ r,ZO (st.tbl r) = true → Zu ups r = none → ∀ b,blk (σ r) = some b → w'.heap[b]? = w.heap[b]? ∧ lim' b = lim b)
  (new:∀ r y,Zu ups r = some (.live y) → RR σ' w' lim' r y ∧ Zi (st.tbl.put ups) (Qb r y))
  (inj:∀ r r' y b,Zu ups r = some (.live y) → ZO (st.tbl.put ups r') = true → blk (σ' r) = some b → blk (σ' r') = some b → r' = r)
  (own:∀ r y b,Zu ups r = some (.live y) → blk (σ' r) = some b → (G.w0.heap.size ≤ b ∨ b ∈ G.lent))
  (keep:∀ b,b < G.w0.heap.size → b ∉ G.lent → w'.heap[b]? = w.heap[b]?) (limk:∀ b,b < G.w0.heap.size → b ∉ G.lent → lim' b = lim b)
  (nofresh:∀ r,Zu ups r ≠ some .fresh) (val:RA σ' w' lim' v x) (known:Zi (st.tbl.put ups) (Zb v)):Upd G σ lim st w σ' lim' w' v x ups :=
 ⟨ext,lz,same,sig,rest,new,inj,own,keep,limk,nofresh,val,known⟩
theorem RelW.show_one (h:RelW G σ lim st tmps w) {r:Nat} {t:Ty} {xs:List t.den} {sh:Bool} (hr:st.tbl r = .live (.arr t xs sh)) :
  ∃ lim',RelW G σ lim' ⟨st.env,st.tbl.put [(r,.live (.arr t xs true))]⟩ tmps w ∧ Ext w lim w lim' ∧ RP w lim' (.sl t xs) (σ r):=by
 obtain ⟨hR,_⟩:=h.res r _ hr
 have hlr:ZO (st.tbl r) = true:=by rw [hr]; rfl
 simp only [RR] at hR
 obtain ⟨hsz,hR⟩:=hR
 rcases hR with ⟨h4,h5⟩ | ⟨b,off,cap,vs,U,fz,h4,h5,h6,h7,h8,h9,h10⟩
 ·subst h4
  refine ⟨lim,h.noput (v:=.dead) (x:=undef) (σ':=σ) (lim':=lim) (w':=w) (Upd.dead (Ext.refl _ _) h.lz ⟨rfl,rfl,rfl⟩ (fun _ _ => rfl) (fun _ _ _ _ _ => ⟨rfl,rfl⟩) ?_ ?_ ?_ (fun _ _ _ => rfl) (fun _ _ _ => rfl) ?_ (by simp [RA]) (by simp [Zb,Zi])),Ext.refl _ _,?_⟩
  ·intro r' y hl
   rw [Zg] at hl
   grind [RR,Qb,Zi,Zu]
  ·intro r1 r2 y b hl _ hb
   rw [Zg] at hl
   grind [blk,Zu]
  ·intro r1 y b hl hb
   rw [Zg] at hl
   grind [blk,Zu]
  ·grind [Zu]
  grind [RP,Rt]
 ·have hbr:blk (σ r) = some b:=by rw [h4]; rfl
  have hbs:b < w.heap.size:=(Array.getElem?_eq_some_iff.1 h6).1
  have hle:lim b ≤ off + xs.length * t.size:=by cases sh <;> simp at h10 <;> omega
  refine ⟨fun x => if x = b then off + xs.length * t.size else lim x,?_⟩
  have hE:Ext w lim w (fun x => if x = b then off + xs.length * t.size else lim x):=⟨Jj _,fun _ _ _ => rfl,fun x o ho => by
   grind,fun _ _ h => h,fun x o ho hf => by
   by_cases hx:x = b
   ·subst hx
    simp only [if_true] at ho
    have:=Jk t.size h5
    rw [ZdS h6 (h8.free o (by omega))] at hf; cases hf
   ·simp only [hx,if_false] at ho; exact ⟨ho,hf⟩⟩
  have other:∀ r',ZO (st.tbl r') = true → r' ≠ r → ∀ b',blk (σ r') = some b' → b' ≠ b:=by
   intro r' hl hne b' hb e
   subst e
   exact hne (h.inj r' r b' hl hlr hb hbr)
  refine ⟨h.noput (v:=.dead) (x:=undef) (σ':=σ) (w':=w) (Upd.dead hE ?_ ⟨rfl,rfl,rfl⟩ (fun _ _ => rfl) ?_ ?_ ?_ ?_ (fun _ _ _ => rfl) (fun x hx hxl => by
   have:x ≠ b:=by
    intro e; subst e
    rcases h.own r x hlr hbr with h1 | h1
    ·omega
    ·exact hxl h1
   simp [this]) ?_ (by simp [RA]) (by simp [Zb,Zi])),hE,?_⟩
  ·intro x hx
   have:x ≠ b:=by omega
   simp [this]; exact h.lz x hx
  ·intro r' hl hn b' hb
   rw [Zg] at hn
   grind
  ·intro r' y hl
   rw [Zg] at hl
   split at hl
   ·rename_i e; subst e
    simp at hl; subst hl
    refine ⟨?_,by simp [Qb,Zi]⟩
    simp only [RR]
    exact ⟨hsz,.inr ⟨b,off,cap,vs,U,fz,h4,h5,h6,h7,h8,fun i hi => (h9 i hi).mono hE,by simp⟩⟩
   ·simp [Zu] at hl
  ·intro r1 r2 y b' hl hl2 hb1 hb2
   rw [Zg] at hl
   split at hl
   ·rename_i e; subst e
    rw [Zj] at hl2
    grind
   ·simp [Zu] at hl
  ·intro r1 y b' hl hb
   rw [Zg] at hl
   split at hl
   ·rename_i e; subst e; exact h.own r b' hlr hb
   ·simp [Zu] at hl
  ·grind [Zu]
  ·simp only [RP,Rt]
   refine ⟨_,_,cap,by rw [h4],rfl,h5,.inr ⟨b,off,rfl,fun i hi => ⟨_,(h9 i hi).mono hE,fun j u hj => ?_⟩⟩⟩
   rw [Jy,Jo] at hj
   split at hj
   ·rename_i hjt
    refine ⟨by rw [QQ h6]; exact hj,?_⟩
    simp
    have:(i + 1) * t.size ≤ xs.length * t.size:=Jk _ hi
    rw [Jg] at this
    omega
   ·simp at hj
def XT (T:Z3) (u:Q3):Prop := ∀ p ∈ u,∃ (t:Ty) (xs:List t.den) (sh:Bool),p.2 = .live (.arr t xs true) ∧ T p.1 = .live (.arr t xs sh)
theorem XT.at {T:Z3} : {u:Q3} → (hu:XT T u) → {r:Nat} → {t:Ty} → {xs:List t.den} → {sh:Bool} → T r = .live (.arr t xs sh) → ∃ sh',T.put u r = .live (.arr t xs sh')
 | [],_,r,t,xs,sh,h => ⟨sh,h⟩
 | (i,x) :: u,hu,r,t,xs,sh,h => by
  rw [Qv]
  split
  ·rename_i e; subst e
   obtain ⟨t',ys,s',h1,h2⟩:=hu (i,x) (Jm ..)
   simp_all
  ·exact XT.at (fun p hp => hu p (Jn _ hp)) h
theorem RelW.shows:(u:Q3) → (h:RelW G σ lim st tmps w) → XT st.tbl u →
  ∃ lim',RelW G σ lim' ⟨st.env,st.tbl.put u⟩ tmps w ∧ Ext w lim w lim' ∧ ∀ r (t:Ty) (xs:List t.den),(r,RS.live (.arr t xs true)) ∈ u → RP w lim' (.sl t xs) (σ r)
 | [],h,_ => ⟨lim,h,Ext.refl _ _,by simp⟩
 | (i,x) :: u,h,hu => by
  obtain ⟨lim1,h1,e1,r1⟩:=RelW.shows u h (fun p hp => hu p (Jn _ hp))
  obtain ⟨t,xs,sh,hx,hT⟩:=hu (i,x) (Jm ..)
  simp only at hx hT; subst hx
  obtain ⟨sh',hT'⟩:=XT.at (fun p hp => hu p (Jn _ hp)) hT
  obtain ⟨lim2,h2,e2,r2⟩:=RelW.show_one h1 (st:=⟨st.env,st.tbl.put u⟩) hT'
  refine ⟨lim2,by rw [Yf]; exact h2,e1.trans e2,fun r t' xs' hm => ?_⟩
  cases hm with
  | head => exact r2
  | tail _ hm => exact (r1 r t' xs' hm).mono e2
theorem XT.append {T:Z3} {u v:Q3} (h:XT T u) (k:XT T v):XT T (u ++ v):=by
 intro p hp
 rcases Js.1 hp with hp | hp
 ·exact h p hp
 ·exact k p hp
theorem ZDQ {t : Ty} {xs : List t.den} {A : Option Addr} {cap : Nat} (h6 : xs = [] ∨ ∃ b off, A = some ⟨b, off, none⟩ ∧ ∀ i (h : i < xs.length), ∃ c, Rt w lim t xs[i] c ∧
        ∀ j v, c[j]? = some v → w.cell? ⟨b, off + i * t.size + j, none⟩ = some v ∧ off + i * t.size + j < lim b) (h5 : xs.length ≤ cap) {l h : Nat} (h1 : l ≤ h) (h2 : h ≤ xs.length) {sz : Nat} (hs : sz = t.size) :
    Rt w lim (.sl t) ((xs.take h).drop l) [.slice (if cap = l then A else A.map (·.add (l * sz))) (h - l) (cap - l)] := by
  subst hs
  simp only [Rt]
  refine ⟨_, _, _, rfl, by simp; omega, by omega, ?_⟩
  by_cases he : l = h
  · left; subst he; simp
  · right
    rcases h6 with h6 | ⟨b, off, rfl, h6⟩
    · subst h6; simp at h2; omega
    · refine ⟨b, off + l * t.size, by rw [if_neg (by omega)]; simp [Qh], fun i hi => ?_⟩
      have hi' : l + i < h := by simp at hi; omega
      obtain ⟨c, hc, hcell⟩ := h6 (l + i) (by omega)
      grind
theorem Zh5 {a:AV} {l l':List Nat} {p:PV} {u:Q3} (hm:(ZD2 a).run st.tbl l = some ((p,u),l')) :
  XT st.tbl u ∧ ∀ (w:World) (lim:Nat → Nat) (v:Value),RA σ w lim a v → ∀ lim',Ext w lim w lim' → (∀ r (t:Ty) (xs:List t.den),(r,RS.live (.arr t xs true)) ∈ u → RP w lim' (.sl t xs) (σ r)) → RP w lim' p v:=by
 unfold ZD2 at hm
 split at hm
 ·obtain ⟨h,_⟩:=M.run_ret hm
  cases h
  refine ⟨(by intro p hp; cases hp),fun w lim v ha lim' e _ => ?_⟩
  simp only [RA] at ha; exact ha.mono e
 ·obtain ⟨h,_⟩:=M.run_ret hm
  cases h
  refine ⟨(by intro p hp; cases hp),fun w lim v ha lim' e _ => ?_⟩
  simp only [RA] at ha; simp only [RP]; exact ha.1.mono e
 ·rename_i r
  simp only [M.run] at hm
  cases hr:st.tbl r with
  | fresh => simp [hr,M.run] at hm
  | gone => simp [hr,M.run] at hm
  | live y =>
   cases y with
   | box => simp [hr,M.run] at hm
   | nest => simp [hr,M.run] at hm
   | arr t xs sh =>
    simp only [hr] at hm
    obtain ⟨h,_⟩:=M.run_ret hm
    cases h
    refine ⟨by intro q hq; simp_all,fun w lim v ha lim' e k => ?_⟩
    grind [RA]
 ·rename_i r t i j
  simp only [M.run] at hm
  cases hr:st.tbl r with
  | fresh => simp [hr,M.run] at hm
  | gone => simp [hr,M.run] at hm
  | live y =>
   cases y with
   | box => simp [hr,M.run] at hm
   | nest => simp [hr,M.run] at hm
   | arr t' xs sh =>
    simp only [hr] at hm
    split at hm
    ·rename_i ht
     subst ht
     obtain ⟨hc,hm2⟩:=M.run_need hm
     obtain ⟨c1,c2⟩:=of_decide_eq_true hc
     obtain ⟨h,_⟩:=M.run_ret hm2
     cases h
     refine ⟨by intro q hq; simp_all,fun w lim v ha lim' e k => ?_⟩
     have h1:=k r t' xs (by simp)
     simp only [RA] at ha
     obtain ⟨A,len,cap,hs,rfl⟩:=ha
     rw [hs] at h1
     simp only [RP,Rt] at h1
     obtain ⟨A',len',cap',hv,h4,h5,h6⟩:=h1
     obtain ⟨rfl,rfl,rfl⟩:A = A' ∧ len = len' ∧ cap = cap':=by simpa using hv
     subst h4
     simp only [RP]
     exact ZDQ h6 h5 c1 c2 rfl
    ·simp [M.run] at hm
 ·simp [M.run] at hm
theorem Ze1 : {as:List AV} → {l l':List Nat} → {ps:List PV} → {u:Q3} → (Zs0 as).run st.tbl l = some ((ps,u),l') →
  XT st.tbl u ∧ ∀ (w:World) (lim:Nat → Nat) (vs:List Value),ZX σ w lim as vs → ∀ lim',Ext w lim w lim' → (∀ r (t:Ty) (xs:List t.den),(r,RS.live (.arr t xs true)) ∈ u → RP w lim' (.sl t xs) (σ r)) → ZN (RP w lim') ps vs
 | [],l,l',ps,u,hm => by
  obtain ⟨h,_⟩:=M.run_ret hm
  cases h
  exact ⟨(by intro p hp; cases hp),fun w lim vs h lim' _ _ => by match vs,h with | [],_ => trivial⟩
 | a :: as,l,l',ps,u,hm => by
  simp only [Zs0] at hm
  obtain ⟨⟨p,u1⟩,l1,h1,h2⟩:=M.run_bind_some hm
  obtain ⟨⟨qs,u2⟩,l2,h3,h4⟩:=M.run_bind_some h2
  obtain ⟨h,_⟩:=M.run_ret h4
  cases h
  obtain ⟨s1,k1⟩:=Zh5 (σ:=σ) h1
  obtain ⟨s2,k2⟩:=Ze1 (as:=as) h3
  refine ⟨s1.append s2,fun w lim vs h lim' e k => ?_⟩
  match vs,h with
  | v :: vs,h =>
   simp only [ZX] at h
   exact ⟨k1 w lim v h.1 lim' e (fun r t xs hm => k r t xs (JG _ hm)),k2 w lim vs h.2 lim' e (fun r t xs hm => k r t xs (JA _ hm))⟩
theorem Zme {t:Ty} {a:AV} {l l':List Nat} {x:t.den} {u:Q3} (hm:(Zw6 t a).run st.tbl l = some ((x,u),l')) :
  XT st.tbl u ∧ ∀ (w:World) (lim:Nat → Nat) (v:Value),RA σ w lim a v → ∀ lim',Ext w lim w lim' → (∀ r (t:Ty) (xs:List t.den),(r,RS.live (.arr t xs true)) ∈ u → RP w lim' (.sl t xs) (σ r)) →
   ∃ cs,Rt w lim' t x cs ∧ v.cells = cs.toArray ∧ ((t.isAgg = true ∧ v = .agg cs.toArray) ∨ (t.isAgg = false ∧ cs = [v])):=by
 unfold Zw6 at hm
 split at hm
 ·rename_i cs
  obtain ⟨hg,hm⟩:=M.run_guard hm
  obtain ⟨⟨ps,u1⟩,l1,h1,h2⟩:=M.run_bind_some hm
  simp only at h2
  cases ho:KG t ps with
  | none => simp [ho,M.run] at h2
  | some y =>
   simp only [ho] at h2
   obtain ⟨h,_⟩:=M.run_ret h2
   cases h
   obtain ⟨s1,k1⟩:=Ze1 (σ:=σ) h1
   refine ⟨s1,fun w lim v ha lim' e k => ?_⟩
   simp only [RA] at ha
   obtain ⟨vs,rfl,hv⟩:=ha
   exact ⟨vs,Zbl ho (k1 w lim vs hv lim' e k),rfl,.inl ⟨hg,rfl⟩⟩
 ·rename_i a hna
  cases hag:t.isAgg with
  | true => simp [hag,M.run] at hm
  | false =>
   simp only [hag,cond_false] at hm
   obtain ⟨⟨p,u1⟩,l1,h1,h2⟩:=M.run_bind_some hm
   simp only at h2
   cases ho:KG t [p] with
   | none => simp [ho,M.run] at h2
   | some y =>
    simp only [ho] at h2
    obtain ⟨h,_⟩:=M.run_ret h2
    cases h
    obtain ⟨s1,k1⟩:=Zh5 (σ:=σ) h1
    refine ⟨s1,fun w lim v ha lim' e k => ?_⟩
    have hp:=k1 w lim v ha lim' e k
    have hrt:=Zbl (w:=w) (lim:=lim') (cs:=[v]) ho ⟨hp,trivial⟩
    refine ⟨[v],hrt,?_,.inr ⟨rfl,rfl⟩⟩
    have:v.oneCell' = true:=by
     cases t <;> simp only [Ty.isAgg] at hag <;> first | contradiction | skip
     all_goals first
      | (simp only [Rt] at hrt; obtain rfl:=List.singleton_inj.1 hrt; rfl)
      | (exact Zbm hrt)
      | grind [Rt]
    rw [Zdn this]
theorem ZmV {t:Ty} : {as:List AV} → {l l':List Nat} → {xs:List t.den} → {u:Q3} → (dens t as).run st.tbl l = some ((xs,u),l') →
  XT st.tbl u ∧ ∀ (w:World) (lim:Nat → Nat) (vs:List Value),ZX σ w lim as vs → ∀ lim',Ext w lim w lim' → (∀ r (t:Ty) (xs:List t.den),(r,RS.live (.arr t xs true)) ∈ u → RP w lim' (.sl t xs) (σ r)) →
   ZN (fun x v => ∃ cs,Rt w lim' t x cs ∧ v.cells = cs.toArray) xs vs
 | [],l,l',xs,u,hm => by
  obtain ⟨h,_⟩:=M.run_ret hm
  cases h
  exact ⟨(by intro p hp; cases hp),fun w lim vs h lim' _ _ => by match vs,h with | [],_ => trivial⟩
 | a :: as,l,l',xs,u,hm => by
  simp only [dens] at hm
  obtain ⟨⟨x,u1⟩,l1,h1,h2⟩:=M.run_bind_some hm
  obtain ⟨⟨ys,u2⟩,l2,h3,h4⟩:=M.run_bind_some h2
  obtain ⟨h,_⟩:=M.run_ret h4
  cases h
  obtain ⟨s1,k1⟩:=Zme (σ:=σ) h1
  obtain ⟨s2,k2⟩:=ZmV (as:=as) h3
  refine ⟨s1.append s2,fun w lim vs h lim' e k => ?_⟩
  match vs,h with
  | v :: vs,h =>
   simp only [ZX] at h
   obtain ⟨cs,h5,h6,_⟩:=k1 w lim v h.1 lim' e (fun r t xs hm => k r t xs (JG _ hm))
   exact ⟨⟨cs,h5,h6⟩,k2 w lim vs h.2 lim' e (fun r t xs hm => k r t xs (JA _ hm))⟩
theorem Below.heap_alloc' (w:World) (o:Obj) (k:Nat) (h:k < w.heap.size):(w.alloc o).heap[k]? = w.heap[k]? := heap_alloc_old w o k h
theorem Zci {T:Z3} {a:AV} {cs:List AV} (hcs:a.cells? = some cs) (ka:Zi T (Zb a)):Zi T (Zh cs):=by
 unfold AV.cells? at hcs
 split at hcs
 ·grind [Zb]
 ·simp at hcs
 ·simp at hcs
 ·rename_i x
  cases hx:x.oneCell' with
  | false => simp [hx] at hcs
  | true => simp [hx] at hcs; grind [Zh,Zb]
 grind [Zh]
theorem RelW.newblk (h:RelW G σ lim st tmps w) {w':World} (hs:w'.heap.size = w.heap.size + 1) (hold:∀ k,k < w.heap.size → w'.heap[k]? = w.heap[k]?)
  (hsame:w'.os = w.os ∧ w'.tape = w.tape ∧ w'.output = w.output) {n:Nat} (hn:st.tbl n = .fresh) {y:Res} {x:Value} (hx:blk x = some w.heap.size)
  (hy:Ext w lim w' lim → (∀ r,st.tbl r ≠ .fresh → (if r = n then x else σ r) = σ r) → RR (fun r => if r = n then x else σ r) w' lim n y) (hk:Zi st.tbl (Qb n y)) :
  RelW G (fun r => if r = n then x else σ r) lim ⟨st.env,st.tbl.put [(n,.live y)]⟩ tmps w' ∧ Ext w lim w' lim:=by
 have hE:Ext w lim w' lim:=⟨by omega,fun b o ho => by
  have hb:b < w.heap.size:=by
   rcases Nat.lt_or_ge b w.heap.size with h' | h'
   ·exact h'
   ·rw [h.lz b h'] at ho; omega
  simp [World.cell?,hold b hb],fun _ _ ho => ho,fun b T hT => by
  have hb:b < w.heap.size:=by
   rcases Nat.lt_or_ge b w.heap.size with h' | h'
   ·exact h'
   ·simp [Q0,Array.getElem?_eq_none h'] at hT
  simpa [Q0,hold b hb] using hT,NF.keep h.lz hold⟩
 have hσ:∀ r,st.tbl r ≠ .fresh → (if r = n then x else σ r) = σ r:=by
  grind
 have hnf:∀ r,Zu [(n,RS.live y)] r ≠ some .fresh:=by grind [Zu]
 have old:∀ r b,ZO (st.tbl r) = true → blk (σ r) = some b → b < w.heap.size:=by
  intro r b hl hb
  cases hr:st.tbl r with
  | live z =>
   obtain ⟨h1,_⟩:=h.res r z hr
   cases z with
   | box cs =>
    grind [RR,blk]
   | arr t xs sh =>
    grind [RR,blk]
   | nest t xss o =>
    grind [RR,blk]
  | fresh => rw [hr] at hl; simp [ZO] at hl
  | gone => rw [hr] at hl; simp [ZO] at hl
 refine ⟨h.noput (v:=.dead) (x:=undef) (Upd.dead hE ?_ hsame hσ ?_ ?_ ?_ ?_ ?_ (fun _ _ _ => rfl) hnf (by simp [RA]) (by simp [Zb,Zi])),hE⟩
 ·intro b hb; exact h.lz b (by omega)
 ·grind
 ·intro r z hl
  rw [Zg] at hl
  split at hl
  ·rename_i e; subst e
   simp at hl; subst hl
   exact ⟨hy hE hσ,hk.put hnf⟩
  ·simp [Zu] at hl
 ·intro r1 r2 z b hl hl2 hb1 hb2
  rw [Zg] at hl
  split at hl
  ·rename_i e; subst e
   simp [hx] at hb1; subst hb1
   rw [Zj] at hl2
   grind
  ·simp [Zu] at hl
 ·intro r1 z b hl hb
  rw [Zg] at hl
  split at hl
  ·rename_i e; subst e
   simp [hx] at hb; subst hb
   exact .inl h.ext.size
  ·simp [Zu] at hl
 ·intro b hb _
  exact hold b (Nat.lt_of_lt_of_le hb h.ext.size)
def QW (C:Ctx) (G:Glob) (st:St) (tmps:Array Value) (w:World) (s:Sem Value) (e:Eff):Prop :=
 ∃ x w' σ' lim',s.run C.P w = .ok x w' ∧ RelW G σ' lim' ⟨st.env,st.tbl.put e.ups⟩ tmps w' ∧ RA σ' w' lim' e.val x ∧ Zi (st.tbl.put e.ups) (Zb e.val)
theorem QW.quiet (h:RelW G σ lim st tmps w) {s:Sem Value} {e:Eff} (hr:∃ x,s.run C.P w = .ok x w ∧ RA σ w lim e.val x ∧ Zi st.tbl (Zb e.val) ∧ e.ups = []):QW C G st tmps w s e:=by
 obtain ⟨x,h1,h2,h3,h4⟩:=hr
 exact ⟨x,w,σ,lim,h1,by rw [h4]; exact h,h2,by rw [h4]; exact h3⟩
theorem Zaq {α:Type} {tbl:Z3} {n:Nat} {k:M α} {l l':List Nat} {x:α} (hm:(QJ n 1 k).run tbl l = some (x,l')):tbl n = .fresh ∧ ∃ l2,k.run tbl l2 = some (x,l'):=by
 simp only [QJ,M.run] at hm
 cases hf:tbl n with
 | fresh => grind
 | gone => simp [hf,M.run] at hm
 | live y => simp [hf,M.run] at hm
theorem Zvb (h:RelW G σ lim st tmps w) {n:Nat} (hn:st.tbl n = .fresh) {T:TypeId} {cs:List AV} {vs:List Value} (hc:ZX σ w lim cs vs) (hk:Zi st.tbl (Zh cs)) :
  RelW G (fun r => if r = n then .pointer (some ⟨w.heap.size,0,none⟩) else σ r) lim ⟨st.env,st.tbl.put [(n,.live (.box cs))]⟩ tmps (w.alloc (.cells vs.toArray T)) ∧
  Ext w lim (w.alloc (.cells vs.toArray T)) lim:=by
 refine h.newblk (by simp) (fun k hk => Below.heap_alloc' w _ k hk) ⟨rfl,rfl,rfl⟩ hn rfl (fun hE hσ => ?_) hk
 simp only [RR]
 refine ⟨w.heap.size,vs.toArray,T,by simp,heap_alloc_new w _,?_,h.lz _ (Jj _)⟩
 exact ZX.mono hE hσ _ _ hk hc
theorem RelW.reword (h:RelW G σ lim st tmps w) {r:Nat} {x y:Res} (hr:st.tbl r = .live x) (hk:Zi st.tbl (Qb r y)) (hy:RR σ w lim r y):RelW G σ lim ⟨st.env,st.tbl.put [(r,.live y)]⟩ tmps w:=by
 have hlr:ZO (st.tbl r) = true:=by rw [hr]; rfl
 have hnf:∀ s,Zu [(r,RS.live y)] s ≠ some .fresh:=by grind [Zu]
 have hl:∀ s z,Zu [(r,RS.live y)] s = some (.live z) → s = r ∧ z = y:=by
  intro s z hs
  rw [Zg] at hs
  grind [Zu]
 refine h.noput (v:=.dead) (x:=undef) (Upd.dead (Ext.refl _ _) h.lz ⟨rfl,rfl,rfl⟩ (fun _ _ => rfl) (fun _ _ _ _ _ => ⟨rfl,rfl⟩) ?_ ?_ ?_ (fun _ _ _ => rfl) (fun _ _ _ => rfl) hnf (by simp [RA]) (by simp [Zb,Zi]))
 ·intro s z hs
  obtain ⟨rfl,rfl⟩:=hl s z hs
  exact ⟨hy,hk.put hnf⟩
 ·intro r1 r2 z b hs hl2 hb1 hb2
  obtain ⟨rfl,rfl⟩:=hl r1 z hs
  rw [Zj] at hl2
  split at hl2
  ·rename_i e; exact e.symm
  ·exact h.inj r2 r1 b hl2 hlr hb2 hb1
 ·intro s z b hs hb
  obtain ⟨rfl,rfl⟩:=hl s z hs
  exact h.own s b hlr hb
theorem ZDD {T:Z3} {n:Nat} {x y:RS}:(T.put [(n,x)]).put [(n,y)] = T.put [(n,y)]:=by
 funext r
 simp only [Z3.put,Zg]
 grind
theorem Ztl (h:RelW G σ lim st tmps w) {base:Nat} {T:TypeId} {l l':List Nat} {e:Eff} (hm:(ZjF C base T).run st.tbl l = some (e,l')) :
  QW C G st tmps w (J8 T true (.tuple #[])) e:=by
 unfold ZjF at hm
 cases hz:zeroCells C.P T with
 | none => simp [hz,M.run] at hm
 | some zs =>
  simp only [hz] at hm
  obtain ⟨hf,l2,hm⟩:=Zaq hm
  obtain ⟨rfl,_⟩:=M.run_ret hm
  obtain ⟨z,hz1,hz2⟩:=Xa hz w
  obtain ⟨h1,h2⟩:=Zvb h hf (T:=T) (Zgb zs) (by intro r hr; rw [Zlt] at hr; cases hr)
  cases hg:((C.live 0).any (Ja T) && ZhJ zs) with
  | false =>
   have e0:Kr C base T zs = zs.map fun v => .val (.v v):=by simp only [Kr,hg,cond_false]
   rw [e0]
   refine ⟨_,_,_,_,?_,h1,by simp only [RA]; exact ⟨w.heap.size,by simp,rfl⟩,?_⟩
   ·simp [J8,hz1,newVar,newRow,← hz2]
   ·intro r hr; grind [Zb,Zj]
  | true =>
   have e0:Kr C base T zs = .me base T :: (zs.drop 1).map fun v => .val (.v v):=by simp only [Kr,hg,cond_true]
   rw [e0]
   simp only [Jh] at hg
   obtain ⟨x,rfl⟩:∃ x,zs = [.pointer none,x]:=by
    have:=hg.2
    unfold ZhJ at this
    grind
   have hr1:(st.tbl.put [(base,.live (.box (List.map (fun v => AV.val (.v v)) [.pointer none,x])))]) base = .live (.box (List.map (fun v => AV.val (.v v)) [.pointer none,x])):=by simp [Zj]
   obtain ⟨q1,q2⟩:=h1.res base _ hr1
   have h3:=h1.reword (r:=base) (y:=.box [.me base T,.val (.v x)]) hr1 (by
     intro r hr
     grind [Qb,Zh,Zb]) (by
     simp only [RR] at q1 ⊢
     obtain ⟨b,vs,U,e1,e2,e3,e4⟩:=q1
     refine ⟨b,vs,U,e1,e2,?_,e4⟩
     have hb:b = w.heap.size:=by simp at e1; exact e1.symm
     have hU:U = T:=by
      subst hb
      have e5:(w.alloc (Obj.cells [Value.pointer none,x].toArray T)).heap[w.heap.size]? = some (Obj.cells [Value.pointer none,x].toArray T):=heap_alloc_new w _
      simp_all
     match hvs:vs.toList,e3 with
     | [v0,v1],e3 =>
      simp_all [JR,List.map_nil,ZX,RA,RP,and_true,Q0,e2,hU])
   simp only at h3
   rw [ZDD] at h3
   refine ⟨_,_,_,_,?_,h3,by simp only [RA]; exact ⟨w.heap.size,by simp,rfl⟩,?_⟩
   ·simp [J8,hz1,newVar,newRow,← hz2]
   ·intro r hr; grind [Zb,Zj]
theorem ZzX (h:RelW G σ lim st tmps w) {base:Nat} {T:TypeId} {a:AV} {v:Value} {l l':List Nat} {e:Eff} (hm:(Zth base a).run st.tbl l = some (e,l'))
  (ha:RA σ w lim a v) (hk:Zi st.tbl (Zb a)):QW C G st tmps w (Instr.box T v) e:=by
 unfold Zth at hm
 cases hc:a.cells? with
 | none => simp [hc,M.run] at hm
 | some cs =>
  simp only [hc] at hm
  obtain ⟨hf,l2,hm⟩:=Zaq hm
  obtain ⟨rfl,_⟩:=M.run_ret hm
  obtain ⟨ws,h1,h2,_⟩:=Zew hc ha
  obtain ⟨h3,h4⟩:=Zvb h hf (T:=T) h2 (Zci hc hk)
  refine ⟨_,_,_,_,?_,h3,by simp only [RA]; exact ⟨w.heap.size,by simp,rfl⟩,?_⟩
  ·simp [Instr.box,newVar,newRow,h1]
  ·intro r hr; grind [Zb,Zj]
theorem Zjy {t:Ty} {rest:List Value} : {xs:List t.den} → {css:List (List Value)} → ZN (Rt w lim t) xs css → ∀ i (h:i < xs.length),
  Rt w lim t xs[i] (((css.flatten ++ rest).drop (i * t.size)).take t.size)
 | x :: xs,c :: css,h,0,_ => by
  have hl:=Rt.length h.1
  simp only [List.getElem_cons_zero,Nat.zero_mul,List.drop_zero,J2,Ju]
  rw [List.take_append_of_le_length (by omega),List.take_of_length_le (by omega)]
  exact h.1
 | x :: xs,c :: css,h,i + 1,hi => by
  have hl:=Rt.length h.1
  simp only [List.getElem_cons_succ,J2,Ju]
  rw [Jg,Jp,Nat.add_comm,← JE,← hl,JM,hl]
  exact Zjy h.2 i (by simpa using hi)
 | [],_,_,i,hi => by simp at hi
 | _ :: _,[],h,_,_ => h.elim
theorem Ze7 (h:RelW G σ lim st tmps w) {n:Nat} (hn:st.tbl n = .fresh) {t:Ty} {xs:List t.den} {vs:Array Value} {T:TypeId} {fz:Nat × Nat} {w':World} {cap:Nat} (sh:Bool)
  (hs:w'.heap.size = w.heap.size + 1) (hold:∀ k,k < w.heap.size → w'.heap[k]? = w.heap[k]?) (hnew:w'.heap[w.heap.size]? = some (.cells vs T fz))
  (hsame:w'.os = w.os ∧ w'.tape = w.tape ∧ w'.output = w.output) (hsz:0 < t.size) (hc:xs.length ≤ cap) (hcap:cap * t.size ≤ vs.size)
  (hfz:Fit t T vs.size fz) {css:List (List Value)} (hx:ZN (Rt w lim t) xs css) {rest:List Value} (hv:vs.toList = css.flatten ++ rest) :
  RelW G (fun r => if r = n then .slice (some ⟨w.heap.size,0,none⟩) xs.length cap else σ r) lim ⟨st.env,st.tbl.put [(n,.live (.arr t xs sh))]⟩ tmps w' ∧ Ext w lim w' lim:=by
 refine h.newblk hs hold hsame hn rfl (fun hE hσ => ?_) (by intro r hr; cases hr)
 simp only [RR]
 refine ⟨hsz,.inr ⟨w.heap.size,0,cap,vs,T,fz,by simp,hc,hnew,by omega,hfz,fun i hi => ?_,by have:=h.lz _ (Jj w.heap.size); cases sh <;> simp [this]⟩⟩
 rw [Nat.zero_add,hv]
 exact (Zjy hx i hi).mono hE
theorem XA {n:Nat} {σ':WM} {w':World} {lim':Nat → Nat} {x:Value} {A:Option Addr} {len cap:Nat} (hx:x = .slice A len cap) (hs:σ' n = x):RA σ' w' lim' (.own n) x:=by
 grind [RA]
theorem QV {T:Z3} {n:Nat} {y:Res} (h:T n = .live y):Zi T (Zb (.own n)):=by
 intro r hr; grind [Zb]
theorem Zml {ρ:Operand → Value}:(L:List (Nat × Operand)) → (as:List AV) → ZX σ w lim as (L.map fun p => ρ p.2) →
  ZN (fun (p:Nat × AV) (q:Nat × Value) => p.1 = q.1 ∧ RA σ w lim p.2 q.2) ((L.map (·.1)).zip as) (L.map fun p => (p.1,ρ p.2))
 | [],[],_ => trivial
 | p :: L,a :: as,ha => by
  simp only [JR,ZX] at ha
  exact ⟨⟨rfl,ha.1⟩,Zml L as ha.2⟩
 | [],_ :: _,h => by simp [ZX] at h
 | _ :: _,[],h => by simp [ZX] at h
theorem Ztu (h:RelW G σ lim st tmps w) {T:TypeId} {ps:Array (Nat × Operand)} {as:List AV} {ρ:Operand → Value} {l l':List Nat} {e:Eff}
  (hm:(ZjG C T (ps.toList.map (·.1)) as).run st.tbl l = some (e,l')) (ha:ZX σ w lim as (ps.toList.map fun p => ρ p.2)) (hk:∀ a ∈ as,Zi st.tbl (Zb a)) :
  QW C G st tmps w (J9 T (ps.map fun (i,x) => (i,ρ x))) e:=by
 unfold ZjG ZdQ at hm
 cases hz:zeroCells C.P T with
 | none => simp [hz,M.run] at hm
 | some zs =>
  cases hu:C.P.underlying T with
  | none => simp [hz,hu,M.run] at hm
  | some d =>
   cases d with
   | struct fs =>
    simp only [hz,hu] at hm
    obtain ⟨hg,hm⟩:=M.run_guard hm
    cases hf:ZcQ (Zqa C fs) (zs.map fun v => .val (.v v)) ((ps.toList.map (·.1)).zip as) with
    | none => simp [hf,M.run] at hm
    | some cs =>
     simp only [hf] at hm
     obtain ⟨rfl,_⟩:=M.run_ret hm
     obtain ⟨z,hz1,hz2⟩:=Xa hz w
     have hall:=Zml ps.toList as ha
     obtain ⟨us,h1,h2⟩:=ZcS _ _ _ _ hf hall (Zgb zs)
     refine QW.quiet h ⟨.agg us.toArray,?_,by simp only [RA]; exact ⟨us,rfl,h2⟩,?_,rfl⟩
     ·have hpl:=ZeW (P:=C.P) fs.toList w (fun f hf => by
       have:=Vf.1 hg f hf
       exact VC.1 this)
      have hplace:(fun i => (fs.toList.map fun f => (f.offset,C.P.cellsOf f.type))[i]?) = Zqa C fs:=by
       grind [Zqa]
      have hzs:zs.toArray = z.cells:=by rw [← hz2]
      simp_all [J9,Sem.run_bind,hz1,Result.andThen_ok,run_underlying hu,bind_pure_comp,Array.mapM_eq_mapM_toList,Sem.run_map,List.getElem?_toArray,hplace,JX]
     ·simp only [Zb]
      refine ZcR _ _ hf (by intro r hr; rw [Zlt] at hr; cases hr) (fun p hp => ?_)
      exact hk p.2 (Vy hp).2
   | array n ee =>
    simp only [hz,hu] at hm
    obtain ⟨hg,hm⟩:=M.run_guard hm
    obtain ⟨i,hi⟩:=VC.1 hg
    cases hf:ZcQ (fun i => some (i * C.P.cellsOf ee,C.P.cellsOf ee)) (zs.map fun v => .val (.v v)) ((ps.toList.map (·.1)).zip as) with
    | none => simp [hf,M.run] at hm
    | some cs =>
     simp only [hf] at hm
     obtain ⟨rfl,_⟩:=M.run_ret hm
     obtain ⟨z,hz1,hz2⟩:=Xa hz w
     have hall:=Zml ps.toList as ha
     obtain ⟨us,h1,h2⟩:=ZcS _ _ _ _ hf hall (Zgb zs)
     refine QW.quiet h ⟨.agg us.toArray,?_,by simp only [RA]; exact ⟨us,rfl,h2⟩,?_,rfl⟩
     ·have hzs:zs.toArray = z.cells:=by rw [← hz2]
      simp_all [Program.cellsOf,hi,J9,Sem.run_bind,hz1,Result.andThen_ok,run_underlying hu,sizeOf,typeInfo,run_program,Sem.run_pure,JX]
     ·simp only [Zb]
      refine ZcR _ _ hf (by intro r hr; rw [Zlt] at hr; cases hr) (fun p hp => ?_)
      exact hk p.2 (Vy hp).2
   | _ => simp [hz,hu,M.run] at hm
theorem Yo {P:Program} {T e:TypeId} {t:Ty} (he:WN P T = some (e,t)):∃ i,P.info? e = some i ∧ i.size = t.size ∧ P.bytesOf e = i.bytes:=by
 obtain ⟨hu,ht,hs⟩:=QF he
 obtain ⟨d,hd⟩:=WR ht
 obtain ⟨i,hi⟩:=Zb6 hd
 simp_all [Program.cellsOf,hi,Program.bytesOf]
theorem Zsf {sz:Nat}:∀ (css:List (List Value)) (qs:List (Nat × Value)) (k:Nat) (pre rest:List Value),
  (∀ c ∈ css,c.length = sz) → pre.length = k * sz → rest.length = css.length * sz → qs.map (·.1) = List.range' k css.length → ZN (fun c (q:Nat × Value) => q.2.cells = c.toArray) css qs →
  Jw (fun i => some (i * sz,sz)) (pre ++ rest).toArray qs = some (pre ++ css.flatten).toArray
 | [],[],k,pre,rest,_,_,hr,_,_ => by
  simp_all [Jw]
 | c :: css,(i,v) :: qs,k,pre,rest,hc,hp,hr,hi,hq => by
  simp only [JR,JF,Vz,J0.injEq] at hi
  obtain ⟨rfl,hi⟩:=hi
  have hcl:=hc c (Jm ..)
  have hv:=hq.1
  simp only at hv
  have hrl:sz ≤ rest.length:=by rw [hr,JF,Jg]; omega
  simp only [Jw,hv]
  rw [if_neg (by simp [hcl,hp]; omega)]
  have:=Znw c 0 (pre ++ rest).toArray (i * sz) (by simp [hp]; omega)
  simp only [JH] at this
  rw [show (Array.foldl (fun cs x => cs.setIfInBounds (i * sz + x.2) x.1) (pre ++ rest).toArray c.toArray.zipIdx) = (List.foldl (fun cs x => cs.setIfInBounds (i * sz + x.2) x.1) (pre ++ rest).toArray c.zipIdx) by
   simp_all]
  rw [this]
  have e1:((pre ++ rest).take (i * sz) ++ c ++ (pre ++ rest).drop (i * sz + c.length)) = (pre ++ c) ++ rest.drop sz:=by
   rw [← hp,Vj,hcl,← JE,JM]
  rw [e1]
  have ih:=Zsf css qs (i + 1) (pre ++ c) (rest.drop sz) (fun c' h' => hc c' (Jn _ h')) (by simp [hp,hcl,Jg])
   (by simp [hr,Jg]) hi hq.2
  rw [ih]
  simp
 | [],_ :: _,_,_,_,_,_,_,hi,_ => by simp at hi
 | _ :: _,[],_,_,_,_,_,_,hi,_ => by simp [Vz] at hi
theorem Zzg (o:Nat):¬ (((0:Nat),(0:Nat)).1 ≤ o ∧ o < ((0:Nat),(0:Nat)).2):=by simp
theorem Wc : {u:Q3} → {r:Nat} → {z:RS} → Zu u r = some z → (r,z) ∈ u
 | [],_,_,h => by simp [Zu] at h
 | (a,b) :: u,r,z,h => by
  rw [Zg] at h
  split at h
  ·simp_all
  ·exact Jn _ (Wc h)
theorem XT.fresh {T:Z3} {u:Q3} (s:XT T u) {n:Nat} (hf:T n = .fresh):T.put u n = .fresh:=by
 cases hl:Zu u n with
 | none => simp [Z3.put,hl,hf]
 | some z =>
  obtain ⟨t',ys,sh,_,h4⟩:=s _ (Wc hl)
  simp_all
theorem Zkh {t:Ty} {ρ:Operand → Value}:(L:List (Nat × Operand)) → (xs:List t.den) → ZN (fun x v => ∃ cs,Rt w lim t x cs ∧ v.cells = cs.toArray) xs (L.map fun p => ρ p.2) →
  ∃ css:List (List Value),ZN (Rt w lim t) xs css ∧ ZN (fun c (q:Nat × Value) => q.2.cells = c.toArray) css (L.map fun p => (p.1,ρ p.2))
 | [],[],_ => ⟨[],trivial,trivial⟩
 | p :: L,x :: xs,hd => by
  simp only [JR] at hd
  obtain ⟨⟨c,e1,e2⟩,hd⟩:=hd
  obtain ⟨css,e3,e4⟩:=Zkh L xs hd
  exact ⟨c :: css,⟨e1,e3⟩,⟨e2,e4⟩⟩
 | [],_ :: _,h => h.elim
 | _ :: _,[],h => h.elim
theorem ZwY {t:Ty} : {xs:List t.den} → {css:List (List Value)} → ZN (Rt w lim t) xs css → ∀ c ∈ css,c.length = t.size
 | [],[],_,_,h => by cases h
 | _ :: _,c :: css,k,c',h => by
  cases h with
  | head => exact Rt.length k.1
  | tail _ h => exact ZwY k.2 c' h
 | [],_ :: _,k,_,_ => k.elim
 | _ :: _,[],k,_,_ => k.elim
theorem ZiE (h:RelW G σ lim st tmps w) {base:Nat} {T:TypeId} {len:Nat} {ps:Array (Nat × Operand)} {as:List AV} {ρ:Operand → Value} {l l':List Nat} {e:Eff}
  (hm:(Zak C base T len (ps.toList.map (·.1)) as).run st.tbl l = some (e,l')) (ha:ZX σ w lim as (ps.toList.map fun p => ρ p.2)) :
  QW C G st tmps w (Vm T len (ps.map fun (i,x) => (i,ρ x))) e:=by
 unfold Zak at hm
 cases he:WN C.P T with
 | none => simp [he,M.run] at hm
 | some q =>
  obtain ⟨ee,t⟩:=q
  simp only [he] at hm
  obtain ⟨hg,hm1⟩:=M.run_guard hm
  clear hm
  simp only [Jh,beq_iff_eq] at hg
  obtain ⟨⟨⟨g1,gz⟩,g2'⟩,g3'⟩:=hg
  have g2:=Jt g2'
  have gk:=(Yz g3').2
  have g3:=(Yz g3').1
  clear g2' g3'
  obtain ⟨⟨xs,u⟩,l1,h1,h2⟩:=M.run_bind_some hm1
  simp only at h2
  obtain ⟨hxl',h3⟩:=M.run_guard h2
  have hxl:=ZS hxl'
  obtain ⟨hf,l2,h4⟩:=Zaq h3
  obtain ⟨rfl,_⟩:=M.run_ret h4
  clear h2 h3 h4 hm1 hxl'
  obtain ⟨s1,k1⟩:=ZmV (σ:=σ) h1
  obtain ⟨lim1,hR,hE,hsh⟩:=RelW.shows u h s1
  obtain ⟨css,hcss,hcells⟩:=Zkh _ _ (k1 w lim _ ha lim1 hE hsh)
  have hcl:css.length = len:=by rw [← hcss.length,hxl]
  obtain ⟨i,hi,his,_⟩:=Yo he
  obtain ⟨hu,ht,hs⟩:=QF he
  have hflat:=Qe hcss
  obtain ⟨hN,hE2⟩:=Ze7 hR (st:=⟨st.env,st.tbl.put u⟩) (s1.fresh hf) (w':=w.alloc (.cells css.flatten.toArray ee)) (T:=ee) (vs:=css.flatten.toArray) (fz:=(0,0)) (cap:=xs.length) false
   (by simp) (fun k hk => heap_alloc_old w _ k hk) (heap_alloc_new w _) ⟨rfl,rfl,rfl⟩ g3 (Jj _) (by simp_all) ⟨fun o _ => Zzg o,gk,Jj _,by rw [VA,hflat]; exact Jk _ (by rw [hxl]; have:=Nat.mul_le_mul_left len g3; omega)⟩ hcss (rest:=[]) (by simp)
  refine ⟨.slice (some ⟨w.heap.size,0,none⟩) xs.length xs.length,_,_,_,?_,by rw [Yf]; exact hN,XA rfl (by simp),QV (y:=.arr t xs false) (by rw [Qv]; simp)⟩
  have hlen0:¬ (2 ^ 24 < len * i.size):=by rw [his]; omega
  have hfill:∀ zs:List Value,zs.length = len * t.size → Jw (fun j => some (j * t.size,t.size)) zs.toArray (ps.toList.map fun p => (p.1,ρ p.2)) = some css.flatten.toArray:=by
   intro zs hz
   have:=Zsf (sz:=t.size) css (ps.toList.map fun p => (p.1,ρ p.2)) 0 [] zs (ZwY hcss) (by simp) (by rw [hz,hcl])
    (by rw [List.map_map,hcl]; rw [show ((fun x:Nat × Value => x.1) ∘ fun p:Nat × Operand => (p.1,ρ p.2)) = (·.1) from rfl,g1,List.range_eq_range']) hcells
   simpa using this
  have hz0:∃ z,(zeroValue ee).run C.P w = .ok z w:=by
   cases hzz:zeroCells C.P ee with
   | none => simp [hzz] at gz
   | some zs => obtain ⟨z,hz,_⟩:=Xa hzz w; exact ⟨z,hz⟩
  obtain ⟨z,hz⟩:=hz0
  simp only [Vm,Sem.run_bind,run_underlying hu,Result.andThen_ok,sizeOf,typeInfo,run_program,hi,Sem.run_pure,Sem.run_ite,gt_iff_lt]
  rw [if_neg hlen0]
  simp only [his,JX]
  have e2:List.map (fun x => (x.1,ρ x.2)) ps.toList = ps.toList.map fun p => (p.1,ρ p.2):=rfl
  by_cases h0:len * t.size = 0
  ·have:len = 0:=by
    rcases Nat.mul_eq_zero.1 h0 with h | h
    ·exact h
    ·omega
   subst this
   have hx0:xs = []:=JN hxl
   have hc0:css = []:=JN hcl
   subst hx0; subst hc0
   have:=hfill [] (by simp)
   simp only [Vr] at this
   have hr0:∀ f:Nat → Value,Array.map f (JW 0) = [].toArray:=fun f => by simp
   simp only [hr0,Nat.zero_mul,if_true,Sem.run_pure,Result.andThen_ok,this]
   simp [newRow]
  simp_all [hz,Result.andThen_ok,J6,newRow,hxl]
theorem ZjE (z:List Value) (hz:0 < z.length):∀ n,(List.range (n * z.length)).map (fun x => z.toArray[x % z.length]!) = (Jd n z).flatten
 | 0 => by simp
 | n + 1 => by
  rw [Jg,Jp,List.range_add,List.map_append,ZjE z hz n,List.replicate_succ',Vq]
  congr 1
  simp only [List.map_map,J2,Vr,Vg]
  apply Jr
  intro i
  simp only [Vh]
  by_cases h:i < z.length
  ·simp_all [Nat.mod_eq_of_lt h,h]
  simp_all
theorem Zw0 {t:Ty} {zs:List Value} {z:t.den} (h:KG t (zs.map .v) = some z):Rt w lim t z zs:=by
 refine Zbl h ?_
 clear h
 induction zs with
 | nil => trivial
 | cons v l ih => exact ⟨rfl,ih⟩
theorem WZ {α β:Type} {R:α → β → Prop} {a:α} {b:β} (h:R a b):∀ n,ZN R (Jd n a) (Jd n b)
 | 0 => trivial
 | n + 1 => ⟨h,WZ h n⟩
theorem Q2 {n:Int} (h0:0 ≤ n) (h1:n < 4294967296):Jx.wrap n = n:=by
 simp [IntKind.wrap,IntKind.bits,IntKind.signed]; omega
theorem Zzb (h:RelW G σ lim st tmps w) {base:Nat} {T:TypeId} {a b:AV} {vl vc:Value} {l l':List Nat} {e:Eff}
  (hm:(Zoa C base T a b).run st.tbl l = some (e,l')) (ha:RA σ w lim a vl) (hb:RA σ w lim b vc):QW C G st tmps w (Vn T vl vc) e:=by
 unfold Zoa at hm
 split at hm
 ·rename_i ll cc
  simp only [RA,RP] at ha hb; subst ha; subst hb
  cases he:WN C.P T with
  | none => simp [he,M.run] at hm
  | some q =>
   obtain ⟨ee,t⟩:=q
   simp only [he] at hm
   obtain ⟨hg,hm1⟩:=M.run_guard hm
   simp only [Jh] at hg
   have g1:=Jt hg.1
   have gk:=(Yz hg.2).2
   have g2:=(Yz hg.2).1
   cases hz:zeroCells C.P ee with
   | none => simp [hz,M.run] at hm1
   | some zs =>
    simp only [hz] at hm1
    cases ho:KG t (zs.map .v) with
    | none => simp [ho,M.run] at hm1
    | some z =>
     simp only [ho] at hm1
     obtain ⟨hn,hm2⟩:=M.run_need hm1
     obtain ⟨h0,h1,h2⟩:=of_decide_eq_true hn
     obtain ⟨hf,l2,hm3⟩:=Zaq hm2
     obtain ⟨rfl,_⟩:=M.run_ret hm3
     obtain ⟨i,hi,his,hib⟩:=Yo he
     obtain ⟨hu,ht,hs⟩:=QF he
     obtain ⟨zv,hz1,hz2⟩:=Xa hz w
     have hrz:=Zw0 (w:=w) (lim:=lim) ho
     have hzl:=Rt.length hrz
     obtain ⟨L,rfl⟩:=Vp h0
     obtain ⟨N,rfl⟩:=Vp (show 0 ≤ cc by omega)
     have hLN:L ≤ N:=by omega
     have hcells:((JW (N * t.size)).map (fun x => zv.cells[x % zv.cells.size]!)).toList = (Jd L zs).flatten ++ (Jd (N - L) zs).flatten:=by
      have hsz:zv.cells.size = zs.length:=by rw [← hz2]; simp
      have:=ZjE zs (by omega) N
      rw [← Vq,List.replicate_append_replicate,show L + (N - L) = N by omega,← this,hzl]
      simp only [JX,Array.toList_range,hsz,hzl]
      rw [← hz2]
     obtain ⟨hN,hE2⟩:=Ze7 h hf (w':=w.alloc (.cells ((JW (N * t.size)).map (fun x => zv.cells[x % zv.cells.size]!)) ee)) (T:=ee) (fz:=(0,0)) (cap:=N) (xs:=Jd L z) false
      (by simp) (fun k hk => heap_alloc_old w _ k hk) (heap_alloc_new w _) ⟨rfl,rfl,rfl⟩ g2 (by simpa using hLN) (by simp) ⟨fun o _ => Zzg o,gk,Jj _,by simp only [Array.size_map,Array.size_range]; exact Jk _ (by omega)⟩ (WZ hrz L) hcells
     refine ⟨.slice (some ⟨w.heap.size,0,none⟩) L N,_,_,_,?_,hN,XA rfl (by simp),QV (y:=.arr t (Jd L z) false) (by rw [Qv]; simp)⟩
     have hmul:(i.bytes:Int) * (N:Int) ≤ 281474976710656:=by
      rw [← hib]
      have h3:C.P.bytesOf ee * N ≤ 65536 * 4294967295:=J4 g1 (by omega)
      omega
     have w1:Jx.wrap (L:Int) = L:=Q2 (by omega) (by omega)
     have w2:Jx.wrap (N:Int) = N:=Q2 (by omega) (by omega)
     have hc0:¬ ((N:Int) < 0):=by omega
     have hl0:¬ ((L:Int) < 0):=by omega
     have hlc:¬ ((N:Int) < (L:Int)):=by omega
     have hbig:¬ (281474976710656 < (i.bytes:Int) * (N:Int)):=by omega
     simp only [Vn,Sem.run_bind,run_underlying hu,Result.andThen_ok,asInt,asIntOf,Sem.run_pure,typeInfo,run_program,hi,w1,w2]
     simp only [Int.reducePow,decide_eq_true_eq,Bool.or_eq_true,hc0,hl0,hlc,hbig,gt_iff_lt,or_self,decide_false,JJ,if_false,Sem.run_bind,run_askRoom,Result.andThen_ok,sizeOf,typeInfo,run_program,hi,Sem.run_pure,Int.toNat_natCast,his,Sem.run_ite,hz1]
     by_cases hN0:N * t.size = 0
     ·have hr0:∀ f:Nat → Value,Array.map f (JW 0) = #[]:=fun f => by simp
      rw [if_pos hN0,hN0]
      simp only [hr0,Result.andThen_ok]
      simp [newRow]
     ·simp [hN0,newRow]
 ·simp [M.run] at hm
theorem ZwZ (s:ByteArray):ZN (Rt w lim (.int .u8)) (WJ s) ((WJ s).map fun n => [Jv .u8 n]):=by
 generalize WJ s = L
 induction L with
 | nil => trivial
 | cons n L ih => exact ⟨rfl,ih⟩
theorem Znt (L:List Int):(L.map fun n => [Jv .u8 n]).flatten = L.map (Jv .u8):=by
 induction L with
 | nil => rfl
 | cons n L ih => simp [ih]
theorem Zqu (h:RelW G σ lim st tmps w) {base:Nat} {src dst el:TypeId} {s:ByteArray} (hs:C.P.underlying src = some .string) (hd:C.P.underlying dst = some (.slice el))
  (hb:Zb1 C.P el = true) (hbk:Ja el ZFK = true) (hf:st.tbl base = .fresh) (_hsz:s.size < 1099511627776) :
  QW C G st tmps w (convert src dst (.string s)) ⟨.own base,[(base,.live (.arr (.int .u8) (WJ s) false))]⟩:=by
 obtain ⟨hu,_⟩:=Zev hb
 have hr:=Lib.run_convert_string_bytes (P:=C.P) w src dst el s hs hd hu
 have hge:=grownCap_ge w s.size 0 el
 have hnl:(WJ s).length = s.size:=by simp [WJ]
 obtain ⟨hN,hE2⟩:=Ze7 h hf (w':=Lib.bytesWorld w el s) (t:=.int .u8) (T:=el) (vs:=Lib.bytesCells w el s) (fz:=((Lib.bytesCells w el s).size,(Lib.bytesCells w el s).size + 1)) (cap:=grownCap w s.size 0 el) (xs:=WJ s) false
  (Lib.bytesWorld_size w el s) (fun k hk => Lib.bytesWorld_at_old w el s k hk) (Lib.bytesWorld_at_new w el s) ⟨by rfl,by rfl,by rfl⟩
  (by simp [Ty.size]) (by rw [hnl]; exact hge) (by simp [Ty.size,Lib.bytesCells]; omega) ⟨fun o ho => by simp only; omega,hbk,Nat.le_succ _,by have:=grownCap_le_maxLen w s.size 0 el (by simp only [maxLen]; omega); simp only [maxLen] at this; simp [Ty.size,Lib.bytesCells]; omega⟩ (ZwZ s) (rest:=(Array.replicate (grownCap w s.size 0 el - s.size) (Jv .u8 0)).toList)
  (by rw [Znt]; simp [Lib.bytesCells,WJ])
 rw [hnl] at hN
 exact ⟨_,_,_,_,hr,hN,XA rfl (by simp),QV (y:=.arr (.int .u8) (WJ s) false) (by rw [Qv]; simp)⟩
end Go.Sh
namespace Go.Sh
open Go
variable [Gl]
variable {C:Ctx} {G:Glob} {σ:WM} {w:World} {lim:Nat → Nat} {st:St} {tmps:Array Value}
theorem XV {o:Option AV} {d:Int} {k:Int → M Eff} {tbl:Z3} {l l':List Nat} {e:Eff} (hm:(Zch o d k).run tbl l = some (e,l')) :
  (o = none ∧ (k d).run tbl l = some (e,l')) ∨ ∃ kk n,o = some (.val (.v (.int kk n))) ∧ (k n).run tbl l = some (e,l'):=by
 unfold Zch at hm
 split at hm
 ·exact .inl ⟨rfl,hm⟩
 ·exact .inr ⟨_,_,rfl,hm⟩
 ·exact (M.run_fail hm).elim
def Zqy (σ:WM) (w:World) (lim:Nat → Nat):Option AV → Option Value → Prop
 | none,none => True
 | some a,some v => RA σ w lim a v
 | _,_ => False
theorem Zbn {P:Program} {kk:IntKind} {n:Int} {y:Nat} {code:BoundsCode} (h0:0 ≤ n) (h1:n ≤ y) (w:World):(Vo (.int kk n) y code).run P w = .ok n.toNat w:=by
 simp [Vo,asIntOf,h0,h1]
theorem ZeV {P:Program} {s:Bool} {len cap:Nat} {lo hi:Option AV} {vlo vhi:Option Value} {l h:Int} (hlo:Zqy σ w lim lo vlo) (hhi:Zqy σ w lim hi vhi)
  (el:lo = none ∧ l = 0 ∨ ∃ kk,lo = some (.val (.v (.int kk l)))) (eh:hi = none ∧ h = len ∨ ∃ kk,hi = some (.val (.v (.int kk h)))) (h0:0 ≤ l) (h1:l ≤ h) (h2:h ≤ len) (h3:len ≤ cap) (w:World) :
  (Vd s len cap vlo vhi none).run P w = .ok (l.toNat,h.toNat,cap) w:=by
 have e1:(vlo = none ∧ l = 0) ∨ ∃ kk,vlo = some (.int kk l):=by
  rcases el with ⟨rfl,e⟩ | ⟨kk,rfl⟩
  ·cases vlo with
   | none => exact .inl ⟨rfl,e⟩
   | some v => exact hlo.elim
  ·cases vlo with
   | none => exact hlo.elim
   | some v => grind [Zqy,RA,RP]
 have e2:(vhi = none ∧ h = len) ∨ ∃ kk,vhi = some (.int kk h):=by
  rcases eh with ⟨rfl,e⟩ | ⟨kk,rfl⟩
  ·cases vhi with
   | none => exact .inl ⟨rfl,e⟩
   | some v => exact hhi.elim
  ·cases vhi with
   | none => exact hhi.elim
   | some v => grind [Zqy,RA,RP]
 have hh:h ≤ cap:=by omega
 have hlh:l ≤ (h.toNat:Int):=by omega
 rcases e1 with ⟨rfl,rfl⟩ | ⟨kl,rfl⟩ <;> rcases e2 with ⟨rfl,rfl⟩ | ⟨kh,rfl⟩ <;> simp [Vd]
 ·rw [Zbn (by omega) hh]; simp
 ·rw [Zbn h0 (by omega)]; simp
 ·rw [Zbn (by omega) hh]; simp only [Result.andThen_ok]; rw [Zbn h0 hlh]; simp
theorem Zh3 {P:Program} {T el:TypeId} {d:TypeDesc} (hu:P.underlying T = some (.slice el)) (hd:P.underlying el = some d) {A:Option Addr} {n cap l h:Nat} {vlo vhi:Option Value} {w:World}
  (hb:(Vd true n cap vlo vhi none).run P w = .ok (l,h,cap) w) :
  (JK T (.slice A n cap) vlo vhi none).run P w = .ok (.slice (if cap = l then A else A.map (·.add (l * P.cellsOf el))) (h - l) (cap - l)) w:=by
 simp only [JK,Sem.run_bind,run_underlying hu,Result.andThen_ok,Instr.slice,hb,QO hd,Sem.run_pure]
theorem ZDV (h:RelW G σ lim st tmps w) {T:TypeId} {x:AV} {v:Value} {lo hi:Option AV} {vlo vhi:Option Value} {l l':List Nat} {e:Eff}
  (hm:(Ztj C T x lo hi).run st.tbl l = some (e,l')) (ha:RA σ w lim x v) (hlo:Zqy σ w lim lo vlo) (hhi:Zqy σ w lim hi vhi) :
  QW C G st tmps w (JK T v vlo vhi none) e:=by
 unfold Ztj at hm
 split at hm
 ·rename_i r ee t he
  simp only [M.run] at hm
  cases hr:st.tbl r with
  | fresh => simp [hr,M.run] at hm
  | gone => simp [hr,M.run] at hm
  | live y =>
   cases y with
   | box => simp [hr,M.run] at hm
   | nest => simp [hr,M.run] at hm
   | arr t' xs sh =>
    simp only [hr] at hm
    split at hm
    ·rename_i ht
     subst ht
     obtain ⟨hue,ht,hs⟩:=QF he
     obtain ⟨d,hd⟩:=WR ht
     simp only [RA] at ha
     obtain ⟨rfl,_⟩:=ha
     obtain ⟨A,cap,hv,hc⟩:∃ A cap,σ r = .slice A xs.length cap ∧ xs.length ≤ cap:=by
      obtain ⟨hR,_⟩:=h.res r _ hr
      grind [RR]
     rcases XV hm with ⟨rfl,hm2⟩ | ⟨kh,hn,rfl,hm2⟩ <;> rcases XV hm2 with ⟨rfl,hm3⟩ | ⟨kl,ln,rfl,hm3⟩
     all_goals
      obtain ⟨hcc,hm4⟩:=M.run_need hm3
      obtain ⟨h0,h1,h3⟩:=of_decide_eq_true hcc
      obtain ⟨rfl,_⟩:=M.run_ret hm4
      have hb:=ZeV (P:=C.P) (s:=true) (len:=xs.length) (cap:=cap) hlo hhi (by simp_all) (by simp_all) h0 h1 h3 hc w
      refine QW.quiet h ⟨_,by rw [hv]; exact Zh3 hue hd hb,?_,?_,rfl⟩
      ·grind [RA]
      ·intro q hq; grind [Zb,Vx]
    ·simp [M.run] at hm
 ·exact (M.run_fail hm).elim
theorem ZbT (h:RelW G σ lim st tmps w) {T:TypeId} {x:AV} {v:Value} {lo hi:Option AV} {vlo vhi:Option Value} {l l':List Nat} {e:Eff}
  (hm:(Zav C T x lo hi).run st.tbl l = some (e,l')) (ha:RA σ w lim x v) (hlo:Zqy σ w lim lo vlo) (hhi:Zqy σ w lim hi vhi) :
  QW C G st tmps w (JK T v vlo vhi none) e:=by
 unfold Zav at hm
 cases hsub:ZDW C x with
 | true => rw [hsub] at hm; exact ZDV h hm ha hlo hhi
 | false =>
 rw [hsub] at hm
 simp only [cond_false] at hm
 split at hm
 ·rename_i hu
  split at hm
  ·rename_i s
   simp only [RA,RP] at ha; subst ha
   rcases XV hm with ⟨rfl,hm2⟩ | ⟨kh,hn,rfl,hm2⟩ <;> rcases XV hm2 with ⟨rfl,hm3⟩ | ⟨kl,ln,rfl,hm3⟩
   all_goals
    obtain ⟨hc,hm4⟩:=M.run_need hm3
    obtain ⟨h0,h1,h2⟩:=of_decide_eq_true hc
    obtain ⟨rfl,_⟩:=M.run_ret hm4
    refine QW.quiet h ⟨_,?_,ZF,Zo,rfl⟩
    simp only [JK,Sem.run_bind,run_underlying hu,Result.andThen_ok,Instr.slice,Option.isSome_none,JJ,if_false]
    rw [ZeV (s:=false) hlo hhi (by simp_all) (by simp_all) h0 h1 h2 (Jj _)]
    simp
  ·exact (M.run_fail hm).elim
 ·rename_i el hu
  cases he:WN C.P T with
  | none => simp [he,M.run] at hm
  | some q =>
   obtain ⟨ee,t⟩:=q
   simp only [he] at hm
   obtain ⟨⟨p,u⟩,l1,h1,h2⟩:=M.run_bind_some hm
   simp only at h2
   cases hp:PV.asSl t p with
   | none => simp [hp,M.run] at h2
   | some xs =>
    simp only [hp] at h2
    obtain ⟨s1,k1⟩:=Zh5 (σ:=σ) h1
    obtain ⟨lim1,hR,hE,hsh⟩:=RelW.shows u h s1
    have hrt:=Zqi hp (k1 w lim v ha lim1 hE hsh)
    obtain ⟨hue,ht,hs⟩:=QF he
    obtain ⟨d,hd⟩:=WR ht
    rcases XV h2 with ⟨rfl,hm2⟩ | ⟨kh,hn,rfl,hm2⟩ <;> rcases XV hm2 with ⟨rfl,hm3⟩ | ⟨kl,ln,rfl,hm3⟩
    all_goals
     obtain ⟨hc,hm4⟩:=M.run_need hm3
     obtain ⟨h0,h1,h3⟩:=of_decide_eq_true hc
     obtain ⟨rfl,_⟩:=M.run_ret hm4
     simp only [Rt] at hrt
     obtain ⟨A,len,cap,hv,h4,h5,h6⟩:=hrt
     obtain rfl:v = .slice A len cap:=by simpa using hv
     subst h4
     have hb:=ZeV (P:=C.P) (s:=true) (len:=xs.length) (cap:=cap) hlo hhi (by simp_all) (by simp_all) h0 h1 h3 h5 w
     refine ⟨_,w,σ,lim1,Zh3 hue hd hb,hR,?_,Zo⟩
     simp only [RA,RP]
     exact ZDQ h6 h5 (by omega) (by omega) hs
 ·exact (M.run_fail hm).elim
theorem QK {P:Program} (g o:Nat) (t:TypeId) (fz:Nat × Nat):∀ (vs:List Value) (i:Nat) (cur:Array Value) (w:World),w.heap[g]? = some (.cells cur t fz) → o + i + vs.length ≤ cur.size →
  (∀ x,x < cur.size → ¬ (fz.1 ≤ x ∧ x < fz.2)) → (∀ v ∈ vs,v.oneCell' = true) →
  (storeCells ⟨g,o,none⟩ vs i).run P w = .ok () (w.setRow g (cur.toList.take (o + i) ++ vs ++ cur.toList.drop (o + i + vs.length)).toArray)
 | [],i,cur,w,hg,_,_,_ => by
  simp only [storeCells,Vg,List.length_nil,JH,List.take_append_drop,J6]
  rw [setRow_self w g cur t fz hg]
  rfl
 | v :: rest,i,cur,w,hg,hl,hf,h1 => by
  have hi:o + i < cur.size:=by simp at hl; omega
  have hadd:(⟨g,o,none⟩:Addr).add i = ⟨g,o + i,none⟩:=Qh g o i
  have hcell:w.cell? ⟨g,o + i,none⟩ = some cur[o + i]:=by simp [World.cell?,hg,hi]
  have hfro:w.frozen? ⟨g,o + i,none⟩ = false:=by
   simp_all [World.frozen?,hg]
  have hst:(store ((⟨g,o,none⟩:Addr).add i) v).run P w = .ok () (w.setRow g (cur.setIfInBounds (o + i) v)):=by
   rw [hadd,run_store P w _ v _ (h1 v (by simp)),hcell]
   simp [hfro,setCell_eq_setRow w g (o + i) cur t fz v hg]
  have ih:=QK (P:=P) g o t fz rest (i + 1) (cur.setIfInBounds (o + i) v) (w.setRow g (cur.setIfInBounds (o + i) v)) (setRow_heap w g cur _ t _ hg) (by simp at hl ⊢; omega)
   (fun x hx => hf x (by simpa using hx)) (fun x hx => h1 x (by simp [hx]))
  simp only [storeCells,Sem.run_bind,hst,Result.andThen_ok,ih,setRow_setRow]
  congr 2
  apply JI
  simp only [Vk]
  apply Jr
  intro j
  simp only [JO,Jy,Jo,Jz,JP,JQ,J5,JF,Vv,Vu]
  grind
theorem RelW.write (h:RelW G σ lim st tmps w) {r:Nat} {x y:Res} (hr:st.tbl r = .live x) {b:Nat} (hb:blk (σ r) = some b) {vs cs:Array Value} {T:TypeId} {fz:Nat × Nat}
  (hg:w.heap[b]? = some (.cells vs T fz)) (hsame:∀ o,o < lim b → cs[o]? = vs[o]?) (hk:Zi st.tbl (Qb r y))
  (hy:Ext w lim (w.setRow b cs) lim → RR σ (w.setRow b cs) lim r y) :
  RelW G σ lim ⟨st.env,st.tbl.put [(r,.live y)]⟩ tmps (w.setRow b cs) ∧ Ext w lim (w.setRow b cs) lim:=by
 have hlr:ZO (st.tbl r) = true:=by rw [hr]; rfl
 have hE:Ext w lim (w.setRow b cs) lim:=⟨by simp,fun b' o ho => by
  by_cases e:b' = b
  ·subst e
   rw [cell_setRow_same w b' o vs cs T fz hg,hsame o ho]
   simp [World.cell?,hg]
  ·exact cell_setRow_other w b cs _ e,fun _ _ ho => ho,fun b' T' hT => by
  by_cases e:b' = b
  ·subst e
   simp_all [Q0,hg,setRow_heap w b' vs cs T fz hg]
  ·simpa [Q0,setRow_other w b b' cs e] using hT,NF.row hg (setRow_heap w b vs cs T fz hg) (fun c hc => setRow_other w b c cs hc)⟩
 refine ⟨h.noput (v:=.dead) (x:=undef) (Upd.dead hE ?_ ⟨rfl,rfl,rfl⟩ (fun _ _ => rfl) ?_ ?_ ?_ ?_ ?_ (fun _ _ _ => rfl) ?_ (by simp [RA]) (by simp [Zb,Zi])),hE⟩
 ·intro b' hb'; exact h.lz b' (by simpa using hb')
 ·intro r' hl hn b' hb'
  rw [Zg] at hn
  have hne:r' ≠ r:=by intro e; simp [e] at hn
  have:b' ≠ b:=by intro e; subst e; exact hne (h.inj r' r b' hl hlr hb' hb)
  exact ⟨setRow_other w b b' cs this,rfl⟩
 ·intro r' z hl
  rw [Zg] at hl
  split at hl
  ·rename_i e; subst e
   simp at hl; subst hl
   exact ⟨hy hE,hk.put (by grind [Zu])⟩
  ·simp [Zu] at hl
 ·intro r1 r2 z b' hl hl2 hb1 hb2
  rw [Zg] at hl
  split at hl
  ·rename_i e; subst e
   rw [Zj] at hl2
   split at hl2
   ·rename_i e; exact e.symm
   ·exact h.inj r2 r b' hl2 hlr hb2 hb1
  ·simp [Zu] at hl
 ·intro r1 z b' hl hb'
  rw [Zg] at hl
  split at hl
  ·rename_i e; subst e; exact h.own r b' hlr hb'
  ·simp [Zu] at hl
 ·intro b' hb' hl
  have:b' ≠ b:=by
   intro e; subst e
   rcases h.own r b' hlr hb with h1 | h1
   ·omega
   ·exact hl h1
  exact setRow_other w b b' cs this
 grind [Zu]
theorem ZFt {ws:List AV} {vs:List Value} (h:ws.all Zbe = true) (hv:ZX σ w lim ws vs):∀ v ∈ vs,v.oneCell' = true:=by
 induction ws generalizing vs with
 | nil => match vs,hv with | [],_ => simp
 | cons a ws ih =>
  match vs,hv with
  | v :: vs,hv =>
   simp only [List.all_cons,Jh] at h
   simp only [ZX] at hv
   intro u hu
   cases hu with
   | tail _ hu => exact ih h.2 hv.2 u hu
   | head =>
    have h1:=h.1
    have h2:=hv.1
    cases a with
    | val p =>
     cases p with
     | v x =>
      simp only [RA,RP] at h2; subst h2
      cases v <;> first | rfl | (simp [Zbe] at h1)
     | sl t xs => simp only [RA,RP] at h2; exact Zbm h2
    | own r => simp only [RA] at h2; obtain ⟨_,A,l,c,rfl⟩:=h2; rfl
    | bx r k => simp only [RA] at h2; obtain ⟨b,_,rfl⟩:=h2; rfl
    | el r t i k => simp only [RA] at h2; obtain ⟨b,off,len,cap,_,rfl⟩:=h2; rfl
    | sub r t i j => simp only [RA] at h2; obtain ⟨A,len,cap,_,rfl⟩:=h2; rfl
    | sp ps => simp only [RA] at h2; obtain ⟨b,off,rfl,_⟩:=h2; rfl
    | fn f => simp only [RA] at h2; subst h2; rfl
    | ns t xs => simp only [RA] at h2; exact Zbm h2.1
    | vp t xs => simp only [RA] at h2; obtain ⟨a,n,m,rfl,_⟩:=h2; rfl
    | me r T => simp only [RA] at h2; obtain ⟨p,rfl,_⟩:=h2; rfl
    | clo f l => simp only [RA] at h2; obtain ⟨vs,rfl,_⟩:=h2; rfl
    | agg l => simp [Zbe] at h1
    | tup l => simp [Zbe] at h1
    | dead => simp [Zbe] at h1
theorem ZjL {α β:Type} {R:α → β → Prop} {l:List α} {m:List β} {a:List α} {b:List β} (k:Nat) (h:ZN R l m) (k':ZN R a b):ZN R (Zbo l k a) (Zbo m k b):=by
 unfold Zbo
 have:=k'.length
 rw [this]
 exact ZN.append (ZN.append (ZN.take _ h) k') (ZN.drop _ h)
def ZzH (C:Ctx) (G:Glob) (st:St) (tmps:Array Value) (w:World) (s:Sem Unit) (e:Eff):Prop :=
 ∃ w' σ' lim',s.run C.P w = .ok () w' ∧ RelW G σ' lim' ⟨st.env,st.tbl.put e.ups⟩ tmps w' ∧ e.val = .tup []
theorem ZuS (h:RelW G σ lim st tmps w) {T:TypeId} {a x:AV} {va vx:Value} {l l':List Nat} {e:Eff} (hm:(ZjK C T a x).run st.tbl l = some (e,l'))
  (ha:RA σ w lim a va) (hx:RA σ w lim x vx) (kx:Zi st.tbl (Zb x)) (hT:∃ d,C.P.underlying T = some d):ZzH C G st tmps w (Ve T va vx) e:=by
 unfold ZjK at hm
 obtain ⟨d,hT⟩:=hT
 cases hc:x.cells? with
 | none => simp [hc,M.run] at hm
 | some ws =>
  simp only [hc] at hm
  obtain ⟨hg,hm1⟩:=M.run_guard hm
  simp only [Jh] at hg
  have hlen:=ZS hg.1
  obtain ⟨vs,h1,h2,_⟩:=Zew hc hx
  have hvl:=(ZY.1 h2).length
  have hone:=ZFt hg.2 h2
  have run:∀ (b o:Nat) (cur:Array Value) (U:TypeId) (fz:Nat × Nat),w.heap[b]? = some (.cells cur U fz) → (∀ x,x < cur.size → ¬ (fz.1 ≤ x ∧ x < fz.2)) → o + vs.length ≤ cur.size →
    (Ve T (.pointer (some ⟨b,o,none⟩)) vx).run C.P w = .ok () (w.setRow b (cur.toList.take o ++ vs ++ cur.toList.drop (o + vs.length)).toArray):=by
   intro b o cur U fz hb hfz hfit
   have:=QK (P:=C.P) b o U fz vs 0 cur w hb (by simpa using hfit) hfz hone
   simp_all [JH,Ve,JL,Sem.run_bind,Sem.run_pure,Result.andThen_ok,storeVar,QO hT,h1,← hlen,hvl]
  split at hm1
  ·rename_i r k
   simp only [M.run] at hm1
   cases hr:st.tbl r with
   | fresh => simp [hr,M.run] at hm1
   | gone => simp [hr,M.run] at hm1
   | live y =>
    cases y with
    | arr => simp [hr,M.run] at hm1
    | nest => simp [hr,M.run] at hm1
    | box cs =>
     simp only [hr] at hm1
     obtain ⟨hle,hm2⟩:=M.run_guard hm1
     have hle:=Jt hle
     obtain ⟨rfl,_⟩:=M.run_ret hm2
     obtain ⟨hR,hK⟩:=h.res r _ hr
     obtain ⟨b,cur,U,h3,rfl,h5,h6,h7⟩:=XW ha hR
     have hcl:=(ZY.1 h6).length
     have hrun:=run b k cur U (0,0) h5 (fun o _ => Zzg o) (by simp_all)
     obtain ⟨hW,hE⟩:=h.write hr (y:=.box (Zbo cs k ws)) (by rw [h3]; rfl) (cs:=(cur.toList.take k ++ vs ++ cur.toList.drop (k + vs.length)).toArray) h5 (fun o ho => by omega)
      (by
       intro r' hr'
       obtain ⟨a',ha',hr'⟩:=Yu hr'
       simp only [Zbo,Ju,Js] at ha'
       rcases ha' with ha' | ha' | ha'
       ·exact (hK.mem (JT ha')) r' hr'
       ·exact ((Zci hc kx).mem ha') r' hr'
       ·exact (hK.mem (JS ha')) r' hr')
      (fun hE => by
       simp only [RR]
       refine ⟨b,_,U,h3,setRow_heap w b cur _ U _ h5,?_,h7⟩
       have:=ZjL k (ZY.1 h6) (ZY.1 h2)
       have h8:=ZX.mono (T:=st.tbl) hE (fun _ _ => rfl) _ _ (by
        intro r' hr'
        obtain ⟨a',ha',hr'⟩:=Yu hr'
        simp only [Zbo,Ju,Js] at ha'
        rcases ha' with ha' | ha' | ha'
        ·exact (hK.mem (JT ha')) r' hr'
        ·exact ((Zci hc kx).mem ha') r' hr'
        ·exact (hK.mem (JS ha')) r' hr') (ZY.2 this)
       simpa [Zbo] using h8)
     exact ⟨_,_,_,hrun,hW,rfl⟩
  ·rename_i r t i k
   simp only [M.run] at hm1
   cases hr:st.tbl r with
   | fresh => simp [hr,M.run] at hm1
   | gone => simp [hr,M.run] at hm1
   | live y =>
    cases y with
    | box => simp [hr,M.run] at hm1
    | nest => simp [hr,M.run] at hm1
    | arr t' xs sh =>
     cases sh with
     | true => simp [hr,M.run] at hm1
     | false =>
      simp only [hr] at hm1
      split at hm1
      ·rename_i ht
       subst ht
       obtain ⟨⟨ps,u⟩,l1,h3,h4⟩:=M.run_bind_some hm1
       simp only at h4
       obtain ⟨hi,h5⟩:=M.run_need h4
       have hi:=of_decide_eq_true hi
       obtain ⟨hg2,h6⟩:=M.run_guard h5
       simp only [Jh] at hg2
       have hle:=Jt hg2.1
       have hxi:xs.getD i t'.dflt = xs[i]:=by simp_all
       cases ho:KG t' (Zbo (cellsOf t' (xs.getD i t'.dflt)) k ps) with
       | none => simp only [ho] at h6; exact (M.run_fail h6).elim
       | some y =>
        simp only [ho] at h6
        obtain ⟨rfl,_⟩:=M.run_ret h6
        rw [hxi] at ho
        obtain ⟨s1,k1⟩:=Ze1 (σ:=σ) h3
        obtain ⟨lim1,hR,hE,hsh⟩:=RelW.shows u h s1
        have hps:=k1 w lim _ h2 lim1 hE hsh
        have hru:Zu u r = none:=by
         cases hl:Zu u r with
         | none => rfl
         | some z =>
          have:=Vf.1 hg2.2 _ (Wc hl)
          simp [X7] at this
        have hr1:(st.tbl.put u) r = .live (.arr t' xs false):=by simp [Z3.put,hru,hr]
        obtain ⟨hRR,_⟩:=hR.res r _ hr1
        simp only [RR] at hRR
        simp only [RA] at ha
        obtain ⟨b,off,len,cap,e1,rfl⟩:=ha
        rcases hRR.2 with ⟨h8,h9⟩ | ⟨b',off',cap',cur,U,fz,g1,g2,g3,g4,g5,g6,g7⟩
        ·rw [h9] at e1; simp at e1
        ·rw [g1] at e1
         obtain ⟨⟨rfl,rfl⟩,rfl,rfl⟩:(b' = b ∧ off' = off) ∧ xs.length = len ∧ cap' = cap:=by simpa using e1
         have him:(i + 1) * t'.size ≤ xs.length * t'.size:=Jk _ hi
         have hxm:xs.length * t'.size ≤ cap' * t'.size:=Jk _ g2
         rw [Jg,Jp] at him
         have hrun:=run b' (off' + i * t'.size + k) cur U fz g3 g5.free (by omega)
         simp at g7
         have hold:=g6 i hi
         have holdl:=Rt.length hold
         have hnew:Rt w lim1 t' y (Zbo ((cur.toList.drop (off' + i * t'.size)).take t'.size) k vs):=Zbl ho (ZjL k (WE hold) hps)
         have hcl:cur.toList.length = cur.size:=by simp
         have hpart:(((cur.toList.take (off' + i * t'.size + k) ++ vs ++ cur.toList.drop (off' + i * t'.size + k + vs.length)).drop (off' + i * t'.size)).take t'.size) = Zbo ((cur.toList.drop (off' + i * t'.size)).take t'.size) k vs:=by
          unfold Zbo
          apply Jr
          intro j
          simp only [JO,Jy,Jo,Jz,JP,Vi]
          repeat' split
          all_goals first | rfl | omega | (congr 1; omega)
         have hother:∀ j,j < xs.length → j ≠ i → (((cur.toList.take (off' + i * t'.size + k) ++ vs ++ cur.toList.drop (off' + i * t'.size + k + vs.length)).drop (off' + j * t'.size)).take t'.size) = ((cur.toList.drop (off' + j * t'.size)).take t'.size):=by
          intro j hj hji
          have hsep:(j + 1) * t'.size ≤ i * t'.size ∨ (i + 1) * t'.size ≤ j * t'.size:=by
           rcases Nat.lt_or_gt_of_ne hji with h' | h'
           ·exact .inl (Jk _ h')
           ·exact .inr (Jk _ h')
          rw [Jg,Jp,Jg,Jp] at hsep
          apply Jr
          intro m
          simp only [JO,Jy,Jo,Jz,JP,Vi]
          repeat' split
          all_goals first | rfl | omega | (congr 1; omega)
         obtain ⟨hW,hE2⟩:=hR.write (st:=⟨st.env,st.tbl.put u⟩) hr1 (y:=.arr t' (xs.set i y) false) (b:=b') (by rw [g1]; rfl)
          (cs:=(cur.toList.take (off' + i * t'.size + k) ++ vs ++ cur.toList.drop (off' + i * t'.size + k + vs.length)).toArray) g3 (fun o ho => by omega) (by intro r' hr'; cases hr')
          (fun hE2 => by
           simp only [RR]
           refine ⟨hRR.1,.inr ⟨b',off',cap',_,U,fz,by rw [JQ]; exact g1,by rw [JQ]; exact g2,setRow_heap w b' cur _ U fz g3,by simp; omega,⟨fun o ho => g5.free o (by simp at ho; omega),g5.kind,g5.ord,by have:=g5.big; simp; omega⟩,fun j hj => ?_,by simp; exact g7⟩⟩
           simp only [JQ] at hj
           by_cases hji:j = i
           ·subst hji
            simp only [List.getElem_set_self]
            rw [hpart]
            exact hnew.mono hE2
           ·simp only [List.getElem_set_ne (Ne.symm hji)]
            rw [hother j hj hji]
            exact (g6 j hj).mono hE2)
         exact ⟨_,_,_,hrun,by rw [Yf]; exact hW,rfl⟩
      ·simp [M.run] at hm1
  ·exact (M.run_fail hm1).elim
theorem RelW.gone (h:RelW G σ lim st tmps w) {r:Nat} (hr:st.tbl r ≠ .fresh):RelW G σ lim ⟨st.env,st.tbl.put [(r,.gone)]⟩ tmps w:=by
 have hn:∀ r',Zu [(r,RS.gone)] r' ≠ some .fresh:=by grind [Zu]
 have hl':∀ r' y,Zu [(r,RS.gone)] r' = some (.live y) → False:=by
  grind [Zu]
 exact h.noput (v:=.dead) (x:=undef) (Upd.dead (Ext.refl _ _) h.lz ⟨rfl,rfl,rfl⟩ (fun _ _ => rfl) (fun _ _ _ _ _ => ⟨rfl,rfl⟩) (fun r' y hl => (hl' r' y hl).elim) (fun r' _ y _ hl => (hl' r' y hl).elim)
  (fun r' y _ hl => (hl' r' y hl).elim) (fun _ _ _ => rfl) (fun _ _ _ => rfl) hn (by simp [RA]) (by simp [Zb,Zi]))
set_option maxHeartbeats 1000000 in
theorem ZjN {P:Program} {T U e:TypeId} {dU:TypeDesc} {i:TypeInfo} (ht:P.underlying T = some (.slice e)) (hU:P.underlying U = some dU) (hz:dU = .string ∨ ∃ e',dU = .slice e')
  (hi:P.info? e = some i) {x:Value} {n:Nat} {news:List Value} {w:World} (hlen:(Jq x).run P w = .ok n w) (hfc:(Ji i.size n x).run P w = .ok news.toArray w)
  {b off sLen sCap:Nat} {cur:Array Value} {V:TypeId} {fz:Nat × Nat} (hg:w.heap[b]? = some (.cells cur V fz)) (hfz:∀ o,o < cur.size → ¬ (fz.1 ≤ o ∧ o < fz.2)) (hroom:sLen + n ≤ sCap)
  (hfit:off + sLen * i.size + news.length ≤ cur.size) (h1:∀ v ∈ news,v.oneCell' = true) (ty:TypeId) :
  (Jf #[T,U] ty #[.slice (some ⟨b,off,none⟩) sLen sCap,x]).run P w = .ok (.slice (some ⟨b,off,none⟩) (sLen + n) sCap)
   (w.setRow b (cur.toList.take (off + sLen * i.size) ++ news ++ cur.toList.drop (off + sLen * i.size + news.length)).toArray):=by
 have hst:=QK (P:=P) b (off + sLen * i.size) V fz news 0 cur w hg (by simpa using hfit) hfz h1
 simp only [JH] at hst
 rcases hz with rfl | ⟨e',rfl⟩
 all_goals simp [Jf,run_underlying ht,run_underlying hU,sizeOf,typeInfo,hi,hlen,hroom,hfc,Qh,hst]
set_option maxHeartbeats 1000000 in
theorem ZzO {P:Program} {T U e:TypeId} {dU:TypeDesc} {i:TypeInfo} (ht:P.underlying T = some (.slice e)) (hU:P.underlying U = some dU) (hz:dU = .string ∨ ∃ e',dU = .slice e')
  (hi:P.info? e = some i) {x:Value} {w:World} (hlen:(Jq x).run P w = .ok 0 w) (hfc:(Ji i.size 0 x).run P w = .ok #[] w) (ty:TypeId) :
  (Jf #[T,U] ty #[.slice none 0 0,x]).run P w = .ok (.slice none 0 0) w:=by
 rcases hz with rfl | ⟨e',rfl⟩
 all_goals simp [Jf,run_underlying ht,run_underlying hU,sizeOf,typeInfo,hi,hlen,hfc]
set_option maxHeartbeats 1000000 in
theorem ZjM {P:Program} {T U e:TypeId} {dU:TypeDesc} {i:TypeInfo} {z:Value} (ht:P.underlying T = some (.slice e)) (hU:P.underlying U = some dU) (hz:dU = .string ∨ ∃ e',dU = .slice e')
  (hi:P.info? e = some i) (hzero:i.zero = some z) {x:Value} {n:Nat} {news olds:List Value} {w:World} (hlen:(Jq x).run P w = .ok n w) (hfc:(Ji i.size n x).run P w.drew = .ok news.toArray w.drew)
  {A:Option Addr} {sLen sCap:Nat} (hold:(Ji i.size sLen (.slice A sLen sCap)).run P w.drew = .ok olds.toArray w.drew) (hgr:sCap < sLen + n) (h63:sLen + n < 4294967296)
  (h48:JD (sLen + n) sCap * i.bytes ≤ 281474976710656) (ty:TypeId) :
  (Jf #[T,U] ty #[.slice A sLen sCap,x]).run P w = .ok (.slice (some ⟨w.heap.size,0,none⟩) (sLen + n) (grownCap w (sLen + n) sCap e))
   (w.drew.alloc (.cells (olds.toArray ++ news.toArray ++ Jl z.cells (grownCap w (sLen + n) sCap e - (sLen + n))) e)):=by
 have hn:¬ (sLen + n ≤ sCap):=by omega
 have h63':¬ (9223372036854775807 < ((sLen:Int) + (n:Int))):=by omega
 have h48':¬ (281474976710656 < JD (sLen + n) sCap * i.bytes):=by omega
 rcases hz with rfl | ⟨e',rfl⟩
 all_goals
  simp [Jf,run_underlying ht,run_underlying hU,sizeOf,typeInfo,zeroValue,hi,hzero,hlen,hn,h63',h48',Question.forced,hfc,hold,newRow,grownCap]
  grind
set_option maxHeartbeats 1000000 in
theorem ZzE {P:Program} {T U e:TypeId} {k:IntKind} {i:TypeInfo} {z:Value} (ht:P.underlying T = some (.slice e)) (hU:P.underlying U = some (.int k))
  (hi:P.info? e = some i) (hzero:i.zero = some z) {n:Nat} {w:World} (hn:n < 4294967296) (hby:i.bytes ≤ 65536)
  {b off sLen sCap:Nat} {cur:Array Value} {V:TypeId} {fz:Nat × Nat} (hg:w.heap[b]? = some (.cells cur V fz)) (hfz:∀ o,o < cur.size → ¬ (fz.1 ≤ o ∧ o < fz.2)) (hroom:sLen + n ≤ sCap)
  {news:List Value} (hnews:news.toArray = if n * i.size = 0 then #[] else Jl z.cells n)
  (hfit:off + sLen * i.size + news.length ≤ cur.size) (h1:∀ v ∈ news,v.oneCell' = true) (ty:TypeId) :
  (Jf #[T,U] ty #[.slice (some ⟨b,off,none⟩) sLen sCap,.int .i64 n]).run P w = .ok (.slice (some ⟨b,off,none⟩) (sLen + n) sCap)
   (w.setRow b (cur.toList.take (off + sLen * i.size) ++ news ++ cur.toList.drop (off + sLen * i.size + news.length)).toArray):=by
 have hst:=QK (P:=P) b (off + sLen * i.size) V fz news 0 cur w hg (by simpa using hfit) hfz h1
 simp only [JH] at hst
 have w1:Jx.wrap (n:Int) = n:=Q2 (by omega) (by omega)
 have hbig:¬ (281474976710656 < (n:Int) * (i.bytes:Int)):=by
  have h3:n * i.bytes ≤ 4294967295 * 65536:=J4 (by omega) hby
  omega
 have hn0:¬ ((n:Int) < 0):=by omega
 by_cases h0:n * i.size = 0
 ·rw [if_pos h0] at hnews
  have:news = []:=by simpa using hnews
  subst this
  simp [Jf,run_underlying ht,run_underlying hU,sizeOf,typeInfo,zeroValue,hi,hzero,asInt,asIntOf,w1,hn0,hbig,hroom,h0,Qh,storeCells]
  have hr:=setRow_self w b cur V fz hg
  simp [hr]
 ·rw [if_neg h0] at hnews
  have hnews':(Jl z.cells n).toList = news:=by rw [← hnews]
  simp [Jf,run_underlying ht,run_underlying hU,sizeOf,typeInfo,zeroValue,hi,hzero,asInt,asIntOf,w1,hn0,hbig,hroom,h0,Qh,hnews',hst]
set_option maxHeartbeats 1000000 in
theorem ZzD {P:Program} {T U e:TypeId} {k:IntKind} {i:TypeInfo} {z:Value} (ht:P.underlying T = some (.slice e)) (hU:P.underlying U = some (.int k))
  (hi:P.info? e = some i) (hzero:i.zero = some z) {w:World} (ty:TypeId) :
  (Jf #[T,U] ty #[.slice none 0 0,.int .i64 0]).run P w = .ok (.slice none 0 0) w:=by
 have w1:Jx.wrap (0:Int) = 0:=Q2 (by omega) (by omega)
 simp [Jf,run_underlying ht,run_underlying hU,sizeOf,typeInfo,zeroValue,hi,hzero,asInt,asIntOf,w1]
set_option maxHeartbeats 1000000 in
theorem Zn5 {P:Program} {T U e:TypeId} {k:IntKind} {i:TypeInfo} {z:Value} (ht:P.underlying T = some (.slice e)) (hU:P.underlying U = some (.int k))
  (hi:P.info? e = some i) (hzero:i.zero = some z) {n:Nat} {olds news:List Value} {w:World} (hn:n < 4294967296) (hby:i.bytes ≤ 65536) (hs0:0 < i.size)
  {A:Option Addr} {sLen sCap:Nat} (hold:(Ji i.size sLen (.slice A sLen sCap)).run P w.drew = .ok olds.toArray w.drew) (hgr:sCap < sLen + n) (h63:sLen + n < 4294967296)
  (h48:JD (sLen + n) sCap * i.bytes ≤ 281474976710656) (hnews:news.toArray = Jl z.cells n) (ty:TypeId) :
  (Jf #[T,U] ty #[.slice A sLen sCap,.int .i64 n]).run P w = .ok (.slice (some ⟨w.heap.size,0,none⟩) (sLen + n) (grownCap w (sLen + n) sCap e))
   (w.drew.alloc (.cells (olds.toArray ++ news.toArray ++ Jl z.cells (grownCap w (sLen + n) sCap e - (sLen + n))) e)):=by
 have hroom:¬ (sLen + n ≤ sCap):=by omega
 have h63':¬ (9223372036854775807 < ((sLen:Int) + (n:Int))):=by omega
 have h48':¬ (281474976710656 < JD (sLen + n) sCap * i.bytes):=by omega
 have w1:Jx.wrap (n:Int) = n:=Q2 (by omega) (by omega)
 have hbig:¬ (281474976710656 < (n:Int) * (i.bytes:Int)):=by
  have h3:n * i.bytes ≤ 4294967295 * 65536:=J4 (by omega) hby
  omega
 have hn0:¬ ((n:Int) < 0):=by omega
 by_cases h0:n * i.size = 0
 ·have hnz:n = 0:=by
   rcases Nat.mul_eq_zero.1 h0 with h | h
   ·exact h
   ·omega
  subst hnz
  have:news = []:=by
   grind [Jl]
  subst this
  simp [Jf,run_underlying ht,run_underlying hU,sizeOf,typeInfo,zeroValue,hi,hzero,asInt,asIntOf,hbig,Question.forced,hold,newRow,grownCap]
  grind
 ·simp [Jf,run_underlying ht,run_underlying hU,sizeOf,typeInfo,zeroValue,hi,hzero,asInt,asIntOf,w1,hn0,hbig,hroom,h0,h63',h48',Question.forced,hold,newRow,grownCap]
  grind
theorem RelW.takeover (h:RelW G σ lim st tmps w) {r n:Nat} {x y:Res} (hr:st.tbl r = .live x) (hn:st.tbl n = .fresh) {b:Nat} (hb:blk (σ r) = some b) {vs cs:Array Value} {T:TypeId} {fz:Nat × Nat}
  (hg:w.heap[b]? = some (.cells vs T fz)) (hsame:∀ o,o < lim b → cs[o]? = vs[o]?) (hk:Zi st.tbl (Qb n y)) {v:Value} (hv:blk v = some b)
  (hy:Ext w lim (w.setRow b cs) lim → RR (fun s => if s = n then v else σ s) (w.setRow b cs) lim n y) :
  RelW G (fun s => if s = n then v else σ s) lim ⟨st.env,st.tbl.put [(n,.live y),(r,.gone)]⟩ tmps (w.setRow b cs):=by
 have hlr:ZO (st.tbl r) = true:=by rw [hr]; rfl
 have hnr:n ≠ r:=by grind
 have hE:Ext w lim (w.setRow b cs) lim:=⟨by simp,fun b' o ho => by
  by_cases e:b' = b
  ·subst e
   rw [cell_setRow_same w b' o vs cs T fz hg,hsame o ho]
   simp [World.cell?,hg]
  ·exact cell_setRow_other w b cs _ e,fun _ _ ho => ho,fun b' T' hT => by
  by_cases e:b' = b
  ·subst e
   simp_all [Q0,hg,setRow_heap w b' vs cs T fz hg]
  ·simpa [Q0,setRow_other w b b' cs e] using hT,NF.row hg (setRow_heap w b vs cs T fz hg) (fun c hc => setRow_other w b c cs hc)⟩
 have hσ:∀ s,st.tbl s ≠ .fresh → (if s = n then v else σ s) = σ s:=by
  grind
 have hnf:∀ s,Zu [(n,RS.live y),(r,RS.gone)] s ≠ some .fresh:=by grind [Zu]
 have hl:∀ s z,Zu [(n,RS.live y),(r,RS.gone)] s = some (.live z) → s = n ∧ z = y:=by
  intro s z hs
  rw [Zg,Zg] at hs
  grind [Zu]
 refine h.noput (v:=.dead) (x:=undef) (Upd.dead hE ?_ ⟨rfl,rfl,rfl⟩ hσ ?_ ?_ ?_ ?_ ?_ (fun _ _ _ => rfl) hnf (by simp [RA]) (by simp [Zb,Zi]))
 ·intro b' hb'; exact h.lz b' (by simpa using hb')
 ·intro r' hl' hno b' hb'
  have hne:r' ≠ r:=by
   intro e; subst e
   rw [Zg,Zg] at hno
   simp [hnr] at hno
  have:b' ≠ b:=by intro e; subst e; exact hne (h.inj r' r b' hl' hlr hb' hb)
  exact ⟨setRow_other w b b' cs this,rfl⟩
 ·intro s z hs
  obtain ⟨rfl,rfl⟩:=hl s z hs
  exact ⟨hy hE,hk.put hnf⟩
 ·intro r1 r2 z b' hs hl2 hb1 hb2
  obtain ⟨rfl,rfl⟩:=hl r1 z hs
  simp [hv] at hb1; subst hb1
  rw [Qv,Zj] at hl2
  split at hl2
  ·rename_i e; exact e.symm
  ·rename_i hne
   split at hl2
   ·simp [ZO] at hl2
   ·rename_i hne2
    have hne':¬ r2 = r1:=fun e => hne e.symm
    simp only [hne',if_false] at hb2
    exact absurd (h.inj r2 r b hl2 hlr hb2 hb) (fun e => hne2 e.symm)
 ·intro s z b' hs hb'
  obtain ⟨rfl,rfl⟩:=hl s z hs
  simp [hv] at hb'; subst hb'
  exact h.own r b hlr hb
 ·intro b' hb' hl'
  have:b' ≠ b:=by
   intro e; subst e
   rcases h.own r b' hlr hb with h1 | h1
   ·omega
   ·exact hl' h1
  exact setRow_other w b b' cs this
theorem RelW.nilname (h:RelW G σ lim st tmps w) {n:Nat} (hn:st.tbl n = .fresh) (t:Ty) (ht:0 < t.size) (sh:Bool) :
  RelW G (fun s => if s = n then .slice none 0 0 else σ s) lim ⟨st.env,st.tbl.put [(n,.live (.arr t [] sh))]⟩ tmps w:=by
 have hσ:∀ s,st.tbl s ≠ .fresh → (if s = n then Value.slice none 0 0 else σ s) = σ s:=by
  grind
 have hnf:∀ s,Zu [(n,RS.live (.arr t [] sh))] s ≠ some .fresh:=by grind [Zu]
 have hl:∀ s z,Zu [(n,RS.live (.arr t [] sh))] s = some (.live z) → s = n ∧ z = .arr t [] sh:=by
  intro s z hs
  rw [Zg] at hs
  grind [Zu]
 refine h.noput (v:=.dead) (x:=undef) (Upd.dead (Ext.refl _ _) h.lz ⟨rfl,rfl,rfl⟩ hσ (fun _ _ _ _ _ => ⟨rfl,rfl⟩) ?_ ?_ ?_ (fun _ _ _ => rfl) (fun _ _ _ => rfl) hnf (by simp [RA]) (by simp [Zb,Zi]))
 ·intro s z hs
  obtain ⟨rfl,rfl⟩:=hl s z hs
  exact ⟨by grind [RR],by intro r hr; cases hr⟩
 ·grind [blk]
 grind [blk]
theorem ZjC : {t:Ty} → {x:t.den} → {cs:List Value} → Rt w lim t x cs → ∀ v ∈ cs,v.oneCell' = true
 | .bool,_,_,h => by grind [Rt,Value.oneCell']
 | .int _,_,_,h => by grind [Rt,Value.oneCell']
 | .fl _,_,_,h => by grind [Rt,Value.oneCell']
 | .cx _,_,_,h => by grind [Rt,Value.oneCell']
 | .str,_,_,h => by grind [Rt,Value.oneCell']
 | .raw,_,_,h => by grind [Rt]
 | .sl _,_,_,h => by grind [Rt,Value.oneCell']
 | .unit,_,_,h => by simp only [Rt] at h; subst h; simp
 | .pair a b,_,_,h => by
  simp only [Rt] at h; obtain ⟨c,d,rfl,h1,h2⟩:=h
  intro v hv
  rcases Js.1 hv with hv | hv
  ·exact ZjC h1 v hv
  ·exact ZjC h2 v hv
theorem Za8 {t:Ty} : {xs:List t.den} → {css:List (List Value)} → ZN (Rt w lim t) xs css → ∀ v ∈ css.flatten,v.oneCell' = true
 | [],[],_ => by simp
 | _ :: _,c :: css,h => by
  intro v hv
  rw [J2] at hv
  rcases Js.1 hv with hv | hv
  ·exact ZjC h.1 v hv
  ·exact Za8 h.2 v hv
 | [],_ :: _,h => h.elim
 | _ :: _,[],h => h.elim
inductive More (C:Ctx) (w:World) (lim:Nat → Nat) (t:Ty) (z:t.den) (U:TypeId) (v:Value) (ys:List t.den) (css:List (List Value)):Prop
 | cells (dU:TypeDesc) (hU:C.P.underlying U = some dU) (hz:dU = .string ∨ ∃ e',dU = .slice e') (hx:ZN (Rt w lim t) ys css)
   (hlen:(Jq v).run C.P w = .ok ys.length w) (hfc:(Ji t.size ys.length v).run C.P w = .ok css.flatten.toArray w) (hfd:(Ji t.size ys.length v).run C.P w.drew = .ok css.flatten.toArray w.drew)
 | noughts (k:IntKind) (hU:C.P.underlying U = some (.int k)) (n:Nat) (hv:v = .int .i64 n) (hn:n < 2147483648) (hy:ys = Jd n z)
theorem ZnD {t:Ty} {z:t.den} {U:TypeId} {x:AV} {vx:Value} {k:List t.den → M Eff} {tbl:Z3} {l l':List Nat} {e:Eff} (hm:(ZiL C t z U x k).run tbl l = some (e,l'))
  (hx:RA σ w lim x vx) (hres:∀ r y,tbl r = .live y → RR σ w lim r y ∧ Zi tbl (Qb r y)) :
  ∃ ys css l2,(k ys).run tbl l2 = some (e,l') ∧ More C w lim t z U vx ys css:=by
 unfold ZiL at hm
 split at hm
 ·rename_i hU
  split at hm
  ·rename_i s
   simp only [RA,RP] at hx; subst hx
   split at hm
   ·rename_i ht
    subst ht
    have hn:(WJ s).length = s.size:=by simp [WJ]
    have hfc:∀ w':World,(Ji (Ty.int .u8).size (WJ s).length (.string s)).run C.P w' = .ok ((WJ s).map fun n => [Jv .u8 n]).flatten.toArray w':=by
     intro w'
     rw [Znt,hn]
     simp only [Ji,Sem.run_pure]
     congr 1
     apply JI
     have:(s.extract 0 s.size).data = s.data:=by
      simp
     simp [this,WJ]
    exact ⟨WJ s,(WJ s).map fun n => [Jv .u8 n],l,hm,.cells _ hU (.inl rfl) (ZwZ s) (by simp [Jq,hn]) (hfc w) (hfc w.drew)⟩
   ·simp [M.run] at hm
  ·exact (M.run_fail hm).elim
 ·rename_i kk hU
  split at hm
  ·rename_i n
   simp only [RA,RP] at hx; subst hx
   obtain ⟨hn,hm2⟩:=M.run_need hm
   obtain ⟨h0,h1⟩:=Zuw hn
   exact ⟨_,[],l,hm2,.noughts kk hU n.toNat (by rw [Int.toNat_of_nonneg h0]) (by omega) rfl⟩
  ·exact (M.run_fail hm).elim
 ·rename_i el hU
  obtain ⟨ys,l1,h1,h2⟩:=M.run_bind_some hm
  obtain ⟨A,cap,rfl,hc,css,h3,h4⟩:=Zbj (ZbP h1 hx hres)
  have hfl:=Qe h3
  have hfc:∀ w':World,w'.heap = w.heap → (Ji t.size ys.length (.slice A ys.length cap)).run C.P w' = .ok css.flatten.toArray w':=by
   intro w' hw
   have hcell:∀ a,w'.cell? a = w.cell? a:=fun a => by simp [World.cell?,hw]
   rcases h4 with h4 | ⟨b,off,rfl,h4⟩
   ·subst h4
    have:css = []:=by match css,h3 with | [],_ => rfl
    subst this
    cases A with
    | none => simp [Ji]
    | some a => simp [Ji,loadCells,loadCellsFrom]
   ·exact run_firstCells_some w' t.size ys.length _ _ _ css.flatten hfl (fun j u hj => by rw [Qh,hcell]; exact h4 j u hj)
  exact ⟨ys,css,l1,h2,.cells _ hU (.inr ⟨el,rfl⟩) h3 (by simp [Jq]) (hfc w rfl) (hfc w.drew rfl)⟩
 ·exact (M.run_fail hm).elim
theorem Zmk (z:Value) (n:Nat) (h:0 < z.cells.size):(Jl z.cells n).toList = (Jd n z.cells.toList).flatten:=by
 have:=ZjE z.cells.toList (by simpa using h) n
 simp_all [J5,J6,Jl]
theorem Zzh {b off:Nat} {vs:Array Value} {V:TypeId} {fz:Nat × Nat} (hg:w.heap[b]? = some (.cells vs V fz)) {t:Ty} {xs:List t.den} {cap:Nat}
  (hfit:off + xs.length * t.size ≤ vs.size) (w':World) (hw:w'.heap = w.heap) (P:Program) :
  (Ji t.size xs.length (.slice (some ⟨b,off,none⟩) xs.length cap)).run P w' = .ok ((vs.toList.drop off).take (xs.length * t.size)).toArray w':=by
 refine run_firstCells_some w' t.size xs.length _ _ _ _ (by simp; omega) (fun j u hj => ?_)
 rw [Qh]
 have hcell:w'.cell? ⟨b,off + j,none⟩ = w.cell? ⟨b,off + j,none⟩:=by simp [World.cell?,hw]
 rw [hcell,QQ hg]
 grind
theorem ZlO {t:Ty}:∀ (xs:List t.den) (l:List Value),l.length = xs.length * t.size → (∀ i (h:i < xs.length),Rt w lim t xs[i] ((l.drop (i * t.size)).take t.size)) →
  ∃ css:List (List Value),ZN (Rt w lim t) xs css ∧ css.flatten = l
 | [],l,hl,_ => ⟨[],trivial,by simp_all⟩
 | x :: xs,l,hl,h => by
  rw [JF,Jg,Jp] at hl
  obtain ⟨css,h1,h2⟩:=ZlO xs (l.drop t.size) (by simp; omega) (fun i hi => by
   have:=h (i + 1) (by simpa using hi)
   rw [Jg,Jp,Nat.add_comm (i * t.size),← JE] at this
   simpa using this)
  refine ⟨l.take t.size :: css,⟨by have:=h 0 (by simp); simpa using this,h1⟩,?_⟩
  simp_all
theorem Zlq (h:RelW G σ lim st tmps w) {n:Nat} (hn:st.tbl n = .fresh) {t:Ty} (ht:0 < t.size) {xs ys:List t.den} {css1 css2:List (List Value)} (h1:ZN (Rt w lim t) xs css1) (h2:ZN (Rt w lim t) ys css2)
  {e:TypeId} {z:Array Value} {cap m:Nat} (hz:z.size = t.size) (hc:xs.length + ys.length ≤ cap) (hm:m = cap - (xs.length + ys.length)) (hk:okB e t = true) (sh:Bool) (hcm:cap ≤ 9223372036854775807) {olds news:List Value} (e1:css1.flatten = olds) (e2:css2.flatten = news) :
  RelW G (fun r => if r = n then .slice (some ⟨w.heap.size,0,none⟩) (xs ++ ys).length cap else σ r) lim ⟨st.env,st.tbl.put [(n,.live (.arr t (xs ++ ys) sh))]⟩ tmps
   (w.drew.alloc (.cells (olds.toArray ++ news.toArray ++ Jl z m) e)):=by
 subst e1; subst e2; subst hm
 have hl1:=Qe h1
 have hl2:=Qe h2
 have hsz:(Jl z (cap - (xs.length + ys.length))).size = (cap - (xs.length + ys.length)) * t.size:=by rw [size_zeroCells,hz]
 have hmul:cap * t.size = xs.length * t.size + ys.length * t.size + (cap - (xs.length + ys.length)) * t.size:=by
  rw [← Jg,← Jg]; congr 1; omega
 exact (Ze7 h hn (w':=w.drew.alloc (.cells (css1.flatten.toArray ++ css2.flatten.toArray ++ Jl z (cap - (xs.length + ys.length))) e)) (T:=e) (fz:=(0,0)) (cap:=cap) (xs:=xs ++ ys) sh
  (by simp) (fun k hk => heap_alloc_old w.drew _ k hk) (heap_alloc_new w.drew _) ⟨rfl,rfl,rfl⟩ ht (by simpa using hc)
  (by simp_all) ⟨fun o _ => Zzg o,hk,Jj _,by simp only [Array.size_append,VA,hl1,hl2,hsz]; rw [JV,← JV,← hmul]; exact Jk _ hcm⟩ (ZN.append h1 h2)
  (rest:=(Jl z (cap - (xs.length + ys.length))).toList) (by simp)).1
theorem ZqU {α:Type} (p q:List α) (k:Nat):(p ++ q).drop (p.length + k) = q.drop k:=by rw [← JE,JM]
theorem ZuN (h:RelW G σ lim st tmps w) {r n:Nat} {t:Ty} {xs ys:List t.den} {sh:Bool} (hr:st.tbl r = .live (.arr t xs sh)) (hn:st.tbl n = .fresh)
  {b off cap:Nat} {vs:Array Value} {U:TypeId} {fz:Nat × Nat} (e1:σ r = .slice (some ⟨b,off,none⟩) xs.length cap) (e3:w.heap[b]? = some (.cells vs U fz)) (e4:off + cap * t.size ≤ vs.size)
  (e5:Fit t U vs.size fz) (e6:∀ i (h:i < xs.length),Rt w lim t xs[i] ((vs.toList.drop (off + i * t.size)).take t.size)) (e7:bif sh then lim b ≤ off + xs.length * t.size else lim b = 0)
  (ht:0 < t.size) {css2:List (List Value)} (h2:ZN (Rt w lim t) ys css2) (hroom:xs.length + ys.length ≤ cap) {news:List Value} (hnews:css2.flatten = news) :
  RelW G (fun s => if s = n then .slice (some ⟨b,off,none⟩) (xs ++ ys).length cap else σ s) lim ⟨st.env,st.tbl.put [(n,.live (.arr t (xs ++ ys) sh)),(r,.gone)]⟩ tmps
   (w.setRow b (vs.toList.take (off + xs.length * t.size) ++ news ++ vs.toList.drop (off + xs.length * t.size + news.length)).toArray):=by
 have hl2:=Qe h2
 rw [hnews] at hl2
 have hle:lim b ≤ off + xs.length * t.size:=by cases sh <;> simp at e7 <;> omega
 have hmul:(xs.length + ys.length) * t.size ≤ cap * t.size:=Jk _ hroom
 rw [Jg] at hmul
 have hvl:vs.toList.length = vs.size:=by simp
 have hns:(vs.toList.take (off + xs.length * t.size) ++ news ++ vs.toList.drop (off + xs.length * t.size + news.length)).toArray.size = vs.size:=by
  grind
 refine h.takeover hr hn (by rw [e1]; rfl) e3 (fun o ho => ?_) (by intro r' hr'; cases hr') rfl (fun hE => ?_)
 ·grind
 ·simp only [RR]
  refine ⟨ht,.inr ⟨b,off,cap,_,U,fz,by simp,by simpa using hroom,setRow_heap w b vs _ U fz e3,by rw [hns]; exact e4,⟨fun o ho => e5.free o (by rw [hns] at ho; exact ho),e5.kind,e5.ord,by rw [hns]; exact e5.big⟩,fun i hi => ?_,?_⟩⟩
  ·by_cases hix:i < xs.length
   ·rw [List.getElem_append_left hix]
    have him:(i + 1) * t.size ≤ xs.length * t.size:=Jk _ hix
    rw [Jg,Jp] at him
    have:(((vs.toList.take (off + xs.length * t.size) ++ news ++ vs.toList.drop (off + xs.length * t.size + news.length)).drop (off + i * t.size)).take t.size) = ((vs.toList.drop (off + i * t.size)).take t.size):=by
     apply Jr
     grind
    simp only [JU,this]
    exact (e6 i hix).mono hE
   ·have hiy:i - xs.length < ys.length:=by simp at hi; omega
    rw [List.getElem_append_right (by omega)]
    have hpre:(vs.toList.take (off + xs.length * t.size)).length = off + xs.length * t.size:=by simp; omega
    have hidx:off + i * t.size = (vs.toList.take (off + xs.length * t.size)).length + (i - xs.length) * t.size:=by
     rw [hpre,JV,← Jg]; congr 2; omega
    have hlist:(((vs.toList.take (off + xs.length * t.size) ++ news ++ vs.toList.drop (off + xs.length * t.size + news.length)).drop (off + i * t.size)).take t.size) =
      (((css2.flatten ++ vs.toList.drop (off + xs.length * t.size + news.length)).drop ((i - xs.length) * t.size)).take t.size):=by
     rw [Ju,hidx,ZqU,hnews]
    simp only [JU,hlist]
    exact (Zjy h2 _ hiy).mono hE
  ·cases sh
   ·simpa using e7
   ·simp; grind
theorem nil_append (h:RelW G σ lim st tmps w) {base:Nat} (hf:st.tbl base = .fresh) {t:Ty} (g2:1 ≤ t.size) {T U ee ty:TypeId} (gk:okB ee t = true) (hu:C.P.underlying T = some (.slice ee)) {i:TypeInfo} (hi:C.P.info? ee = some i)
  {zv:Value} (hzv:i.zero = some zv) (his:i.size = t.size) (hzcs:zv.cells.size = t.size) (hby:i.bytes ≤ 65536) (hbig:∀ a b:Nat,a < b → b < 2147483648 → JD b a * i.bytes ≤ 281474976710656)
  {z:t.den} {zs:List Value} (hrz:Rt w lim t z zs) (hzrow:∀ n,(Jl zv.cells n).toList = (Jd n zs).flatten) {vx:Value} {ys:List t.den} {css:List (List Value)}
  (hmore:More C w lim t z U vx ys css) (hn:ys.length < 2147483648) (sh:Bool) :
  QW C G st tmps w (Jf #[T,U] ty #[.slice none 0 0,vx]) ⟨.own base,(base,.live (.arr t ([] ++ ys) sh)) :: []⟩:=by
 have stay:ys = [] → (Jf #[T,U] ty #[.slice none 0 0,vx]).run C.P w = .ok (.slice none 0 0) w → QW C G st tmps w (Jf #[T,U] ty #[.slice none 0 0,vx]) ⟨.own base,(base,.live (.arr t ([] ++ ys) sh)) :: []⟩:=by
  intro hy hr
  subst hy
  exact ⟨_,_,_,_,hr,h.nilname hf t g2 sh,XA (len:=0) (cap:=0) rfl (by simp),QV (y:=.arr t [] sh) (by rw [Qv]; simp)⟩
 have grow:∀ (css2:List (List Value)) (news:List Value),ZN (Rt w lim t) ys css2 → css2.flatten = news →
   (Jf #[T,U] ty #[.slice none 0 0,vx]).run C.P w = .ok (.slice (some ⟨w.heap.size,0,none⟩) (0 + ys.length) (grownCap w (0 + ys.length) 0 ee))
   (w.drew.alloc (.cells (([]:List Value).toArray ++ news.toArray ++ Jl zv.cells (grownCap w (0 + ys.length) 0 ee - (0 + ys.length))) ee)) →
   QW C G st tmps w (Jf #[T,U] ty #[.slice none 0 0,vx]) ⟨.own base,(base,.live (.arr t ([] ++ ys) sh)) :: []⟩:=by
  intro css2 news h2 e2 hr
  have hge:=grownCap_ge w (0 + ys.length) 0 ee
  have:=Zlq h hf g2 (xs:=[]) (css1:=[]) (olds:=[]) trivial h2 (e:=ee) hzcs (cap:=grownCap w (0 + ys.length) 0 ee) (m:=grownCap w (0 + ys.length) 0 ee - (0 + ys.length)) (by simpa using hge) (by simp) gk sh (by have:=grownCap_le_maxLen w (0 + ys.length) 0 ee (by simp only [maxLen]; omega); simpa only [maxLen] using this) rfl e2
  exact ⟨_,_,_,_,hr,this,XA rfl (by simp),QV (y:=.arr t ([] ++ ys) sh) (by rw [Qv]; simp)⟩
 cases hmore with
 | cells dU hU hz hx hlen hfc hfd =>
  by_cases h0:ys.length = 0
  ·have hy:ys = []:=JN h0
   subst hy
   have:css = []:=by match css,hx with | [],_ => rfl
   subst this
   exact stay rfl (ZzO hu hU hz hi hlen (by rw [his]; exact hfc) ty)
  ·refine grow css _ hx rfl ?_
   exact ZjM hu hU hz hi hzv hlen (by rw [his]; exact hfd) (A:=none) (olds:=[]) (by simp [Ji]) (by omega) (by omega) (hbig _ _ (by omega) (by omega)) ty
 | noughts k hU n hv hnn hy =>
  subst hv
  have hyl:ys.length = n:=by rw [hy]; simp
  by_cases h0:n = 0
  ·subst h0
   exact stay (by rw [hy]; rfl) (ZzD hu hU hi hzv ty)
  ·refine grow (Jd n zs) _ (by rw [hy]; exact WZ hrz n) rfl ?_
   rw [hyl]
   exact Zn5 hu hU hi hzv (by omega) hby (by omega) (A:=none) (olds:=[]) (by simp [Ji]) (by omega) (by omega) (hbig _ _ (by omega) (by omega)) (by rw [← hzrow]) ty
theorem ZDB {vs:Array Value} {off n:Nat} (h:off + n ≤ vs.size):((vs.toList.drop off).take n).length = n:=by
 grind
set_option maxHeartbeats 2000000 in
theorem ZqE (h : RelW G σ lim st tmps w) {base : Nat} {ats : Array TypeId} {ty : TypeId} {s x : AV} {vs vx : Value} {l l' : List Nat} {e : Eff}
    (hm : (Zgs C base ats s x).run st.tbl l = some (e, l')) (hs : RA σ w lim s vs) (hx : RA σ w lim x vx) : QW C G st tmps w (Jf ats ty #[vs, vx]) e := by
  unfold Zgs at hm
  split at hm
  · rename_i T U hat
    obtain rfl : ats = #[T, U] := by apply JI; simpa using hat
    cases he : WN C.P T with
    | none => simp [he, M.run] at hm
    | some q =>
      obtain ⟨ee, t⟩ := q
      simp only [he] at hm
      obtain ⟨hg, hm1⟩ := M.run_guard hm
      clear hm
      simp only [Jh] at hg
      have g1 := Jt hg.1
      have gk := (Yz hg.2).2
      have g2 := (Yz hg.2).1
      cases hz : zeroCells C.P ee with
      | none => simp [hz, M.run] at hm1
      | some zs =>
        simp only [hz] at hm1
        cases ho : KG t (zs.map .v) with
        | none => simp [ho, M.run] at hm1
        | some z =>
          simp only [ho] at hm1
          obtain ⟨i, hi, his, hib⟩ := Yo he
          obtain ⟨hu, ht, hsz⟩ := QF he
          have hrz := Zw0 (w := w) (lim := lim) ho
          have hzl := Rt.length hrz
          obtain ⟨zv, hzv, hzc⟩ : ∃ zv, i.zero = some zv ∧ zv.cells.toList = zs := by
            unfold zeroCells at hz
            simp_all
          have hzcs : zv.cells.size = t.size := by rw [← hzl, ← hzc]; simp
          have hby : i.bytes ≤ 65536 := by rw [← hib]; exact g1
          have hbig : ∀ a b : Nat, a < b → b < 2147483648 → JD b a * i.bytes ≤ 281474976710656 := fun a b h1 h2 =>
            growslice_fits h1 (by have : b * i.bytes ≤ 2147483647 * 65536 := J4 (by omega) hby
                                  omega)
          have hzrow : ∀ n, (Jl zv.cells n).toList = (Jd n zs).flatten := fun n => by rw [Zmk zv n (by omega), hzc]
          split at hm1
          · rename_i r
            simp only [M.run] at hm1
            cases hr : st.tbl r with
            | fresh => simp [hr, M.run] at hm1
            | gone => simp [hr, M.run] at hm1
            | live y =>
              cases y with
              | box => simp [hr, M.run] at hm1
              | nest => simp [hr, M.run] at hm1
              | arr t' xs sh =>
                simp only [hr] at hm1
                split at hm1
                · rename_i htt
                  subst htt
                  obtain ⟨ys, css, l2, hk, hmore⟩ := ZnD hm1 hx h.res
                  simp only [Zu6] at hk
                  obtain ⟨hn, hk2⟩ := M.run_need hk
                  have hn := of_decide_eq_true hn
                  obtain ⟨hf, l3, hk3⟩ := Zaq hk2
                  obtain ⟨rfl, _⟩ := M.run_ret hk3
                  simp only [RA] at hs; obtain ⟨rfl, _⟩ := hs
                  have hnr : base ≠ r := by grind
                  have hG := h.gone (r := r) (by rw [hr]; simp)
                  have hfG : (st.tbl.put [(r, .gone)]) base = .fresh := by rw [Zj, if_neg (Ne.symm hnr)]; exact hf
                  have hRR := (h.res r _ hr).1
                  simp only [RR] at hRR
                  rcases hRR.2 with ⟨h8, h9⟩ | ⟨b, off, cap, vs, V, fz, e1, e2, e3, e4, e5, e6, e7⟩
                  · subst h8
                    rw [h9]
                    obtain ⟨x', w', s', m', r1, r2, r3, r4⟩ := nil_append (C := C) (ty := ty) hG hfG g2 gk hu hi hzv his hzcs hby hbig hrz hzrow hmore (by simpa using hn) sh
                    exact ⟨x', w', s', m', r1, by rw [Yf]; exact r2, r3, by rw [Yf]; exact r4⟩
                  · rw [e1]
                    have hxm : xs.length * t'.size ≤ cap * t'.size := Jk _ e2
                    have hfitx : off + xs.length * t'.size ≤ vs.size := Nat.le_trans (Nat.add_le_add_left hxm off) e4
                    have his' := his
                    have hzcs' := hzcs
                    obtain ⟨css1, c1, c2⟩ := ZlO (w := w) (lim := lim) (t := t') xs ((vs.toList.drop off).take (xs.length * t'.size)) (ZDB hfitx) (fun j hj => by
                      have him : (j + 1) * t'.size ≤ xs.length * t'.size := Jk _ hj
                      rw [Jg, Jp] at him
                      have := e6 j hj
                      have e : ((((vs.toList.drop off).take (xs.length * t'.size)).drop (j * t'.size)).take t'.size) = ((vs.toList.drop (off + j * t'.size)).take t'.size) := by
                        apply Jr
                        intro m
                        simp only [Jy, Jo]
                        grind
                      rw [e]; exact this)
                    have hold := Zzh e3 (t := t') (xs := xs) (cap := cap) (by omega) w.drew rfl C.P
                    by_cases hroom : xs.length + ys.length ≤ cap
                    · have fin : ∀ (css2 : List (List Value)) (news : List Value), ZN (Rt w lim t') ys css2 → css2.flatten = news →
                          (Jf #[T, U] ty #[.slice (some ⟨b, off, none⟩) xs.length cap, vx]).run C.P w = .ok (.slice (some ⟨b, off, none⟩) (xs.length + ys.length) cap)
                            (w.setRow b (vs.toList.take (off + xs.length * t'.size) ++ news ++ vs.toList.drop (off + xs.length * t'.size + news.length)).toArray) →
                          QW C G st tmps w (Jf #[T, U] ty #[.slice (some ⟨b, off, none⟩) xs.length cap, vx]) ⟨.own base, (base, .live (.arr t' (xs ++ ys) sh)) :: [(r, .gone)]⟩ := by
                        intro css2 news k1 k2 k3
                        have := ZuN h hr hf e1 e3 e4 e5 e6 e7 g2 k1 hroom k2
                        exact ⟨_, _, _, _, k3, this, XA rfl (by simp), QV (y := .arr t' (xs ++ ys) sh) (by rw [Qv]; simp)⟩
                      have hmulr : (xs.length + ys.length) * t'.size ≤ cap * t'.size := Jk _ hroom
                      rw [Jg] at hmulr
                      cases hmore with
                      | cells dU hU hzz hxx hlen hfc hfd =>
                        have hfl := Qe hxx
                        refine fin css _ hxx rfl ?_
                        have := ZjN (off := off) (sLen := xs.length) (sCap := cap) hu hU hzz hi hlen (by rw [his']; exact hfc) e3 e5.free hroom (by rw [his', hfl]; omega) (Za8 hxx) ty
                        simp_all
                      | noughts k hU n hv hnn hy =>
                        subst hv
                        have hyl : ys.length = n := by rw [hy]; simp
                        have hxx : ZN (Rt w lim t') ys (Jd n zs) := by rw [hy]; exact WZ hrz n
                        have hfl := Qe hxx
                        refine fin (Jd n zs) _ hxx rfl ?_
                        have := ZzE (z := zv) (n := n) (off := off) (sLen := xs.length) (sCap := cap) hu hU hi hzv (by omega) hby e3 e5.free (by rw [← hyl]; exact hroom) (news := (Jd n zs).flatten)
                          (by
                            rw [his']
                            by_cases h0 : n * t'.size = 0
                            · grind
                            · rw [if_neg h0, ← hzrow]) (by rw [his', hfl]; omega) (Za8 hxx) ty
                        simp_all
                    · have fin : ∀ (css2 : List (List Value)) (news : List Value), ZN (Rt w lim t') ys css2 → css2.flatten = news →
                          (Jf #[T, U] ty #[.slice (some ⟨b, off, none⟩) xs.length cap, vx]).run C.P w = .ok (.slice (some ⟨w.heap.size, 0, none⟩) (xs.length + ys.length) (grownCap w (xs.length + ys.length) cap ee))
                            (w.drew.alloc (.cells (((vs.toList.drop off).take (xs.length * t'.size)).toArray ++ news.toArray ++ Jl zv.cells (grownCap w (xs.length + ys.length) cap ee - (xs.length + ys.length))) ee)) →
                          QW C G st tmps w (Jf #[T, U] ty #[.slice (some ⟨b, off, none⟩) xs.length cap, vx]) ⟨.own base, (base, .live (.arr t' (xs ++ ys) sh)) :: [(r, .gone)]⟩ := by
                        intro css2 news k1 k2 k3
                        have hge := grownCap_ge w (xs.length + ys.length) cap ee
                        have := Zlq hG (st := ⟨st.env, st.tbl.put [(r, .gone)]⟩) hfG g2 c1 k1 (e := ee) hzcs' (cap := grownCap w (xs.length + ys.length) cap ee) hge rfl gk sh (by have := grownCap_le_maxLen w (xs.length + ys.length) cap ee (by simp only [maxLen]; omega); simpa only [maxLen] using this) c2 k2
                        exact ⟨_, _, _, _, k3, by rw [Yf]; exact this, XA rfl (by simp), QV (y := .arr t' (xs ++ ys) sh) (by rw [Qv]; simp)⟩
                      cases hmore with
                      | cells dU hU hzz hxx hlen hfc hfd =>
                        refine fin css _ hxx rfl ?_
                        exact ZjM hu hU hzz hi hzv hlen (by rw [his']; exact hfd) (by rw [his']; exact hold) (by omega) (by omega) (hbig _ _ (by omega) (by omega)) ty
                      | noughts k hU n hv hnn hy =>
                        subst hv
                        have hyl : ys.length = n := by rw [hy]; simp
                        refine fin (Jd n zs) _ (by rw [hy]; exact WZ hrz n) rfl ?_
                        rw [hyl]
                        exact Zn5 hu hU hi hzv (by omega) hby (by omega) (by rw [his']; exact hold) (by omega) (by omega) (hbig _ _ (by omega) (by omega)) (by rw [← hzrow]) ty
                · simp [M.run] at hm1
          · rename_i v
            obtain ⟨hnil, hm2⟩ := M.run_guard hm1
            have := YR hnil
            subst this
            simp only [RA, RP] at hs; subst hs
            obtain ⟨ys, css, l2, hk, hmore⟩ := ZnD hm2 hx h.res
            simp only [Zu6] at hk
            obtain ⟨hn, hk2⟩ := M.run_need hk
            have hn := of_decide_eq_true hn
            obtain ⟨hf, l3, hk3⟩ := Zaq hk2
            obtain ⟨rfl, _⟩ := M.run_ret hk3
            exact nil_append (C := C) (ty := ty) h hf g2 gk hu hi hzv his hzcs hby hbig hrz hzrow hmore (by simpa using hn) false
          · exact (M.run_fail hm1).elim
  · exact (M.run_fail hm).elim
theorem ZFD {t:Ty} {xs:List t.den} {A:Option Addr} {len cap:Nat} (h:Row w lim t xs (.slice A len cap)) {l j:Nat} (h1:l ≤ j) (h2:j ≤ xs.length) :
  Row w lim t ((xs.take j).drop l) (.slice (if cap = l then A else A.map (·.add (l * t.size))) (j - l) (cap - l)):=by
 obtain ⟨A',cap',hv,hc,h⟩:=h
 obtain ⟨rfl,rfl,rfl⟩:A = A' ∧ len = xs.length ∧ cap = cap':=by simpa using hv
 have hl:((xs.take j).drop l).length = j - l:=by simp_all
 refine ⟨_,_,by rw [hl],by rw [hl]; omega,?_⟩
 by_cases he:l = j
 ·left; subst he; simp
 ·right
  rcases h with h | ⟨b,off,rfl,h⟩
  ·subst h; simp at h2; omega
  ·refine ⟨b,off + l * t.size,by rw [if_neg (by omega)]; simp [Qh],fun i hi => ?_⟩
   have hi':l + i < j:=by simp at hi; omega
   obtain ⟨c,hc',hcell⟩:=h (l + i) (by omega)
   grind
theorem ZDM {t:Ty} {xs:List t.den} {A:Option Addr} {len cap:Nat} (h:Row w lim t xs (.slice A len cap)) {n:Nat} (hn:n ≤ xs.length):Row w lim t (xs.take n) (.slice A n cap):=by
 obtain ⟨A',cap',hv,hc,h⟩:=h
 obtain ⟨rfl,rfl,rfl⟩:A = A' ∧ len = xs.length ∧ cap = cap':=by simpa using hv
 have hl:(xs.take n).length = n:=by rw [Jz]; omega
 refine ⟨_,_,by rw [hl],by rw [hl]; omega,?_⟩
 rcases h with h | ⟨b,off,rfl,h⟩
 ·left; subst h; simp
 ·right
  refine ⟨b,off,rfl,fun i hi => ?_⟩
  simp_all
theorem Zff {t:Ty} {y:AV} {k:List t.den → M Eff} {v:Value} {tbl:Z3} {l l':List Nat} {e:Eff} (hm:(Zoo t y k).run tbl l = some (e,l')) (ha:RA σ w lim y v)
  (hres:∀ r x,tbl r = .live x → RR σ w lim r x ∧ Zi tbl (Qb r x)):∃ ys l2,(k ys).run tbl l2 = some (e,l') ∧ Row w lim t ys v:=by
 unfold Zoo at hm
 split at hm
 ·rename_i r u i j
  simp only [M.run] at hm
  cases hr:tbl r with
  | fresh => simp [hr,M.run] at hm
  | gone => simp [hr,M.run] at hm
  | live z =>
   cases z with
   | box => simp [hr,M.run] at hm
   | nest => simp [hr,M.run] at hm
   | arr t' ys sh =>
    simp only [hr] at hm
    split at hm
    ·rename_i ht
     subst ht
     split at hm
     ·rename_i ht
      subst ht
      obtain ⟨hc,hm2⟩:=M.run_need hm
      obtain ⟨h1,h2⟩:=of_decide_eq_true hc
      have hrow:=ZeS (hres r _ hr).1
      simp only [RA] at ha
      obtain ⟨A,len,cap,hs,rfl⟩:=ha
      rw [hs] at hrow
      exact ⟨_,_,hm2,ZFD hrow h1 h2⟩
     ·simp [M.run] at hm
    ·simp [M.run] at hm
 ·obtain ⟨ys,l1,h1,h2⟩:=M.run_bind_some hm
  exact ⟨ys,l1,h2,ZbP h1 ha hres⟩
theorem Zzu {t:Ty} {ys:List t.den} {v:Value} (h:Row w lim t ys v) {n:Nat} (hn:n ≤ ys.length) (P:Program):∃ css:List (List Value),ZN (Rt w lim t) (ys.take n) css ∧
  (Ji t.size n v).run P w = .ok css.flatten.toArray w ∧ (Jq v).run P w = .ok ys.length w:=by
 obtain ⟨A,cap,rfl,hc,h'⟩:=id h
 obtain ⟨A',cap',hv,hc,css,h3,h4⟩:=Zbj (ZDM h hn)
 have hl:(ys.take n).length = n:=by simp; omega
 obtain ⟨rfl,rfl⟩:A = A' ∧ cap = cap':=by simp at hv; exact ⟨hv.1,hv.2.2⟩
 have hfl:=Qe h3
 rw [hl] at hfl
 refine ⟨css,h3,?_,by simp [Jq]⟩
 rcases h4 with h4 | ⟨b,off,rfl,h4⟩
 ·rw [h4] at h3
  have:css = []:=by match css,h3 with | [],_ => rfl
  subst this
  have hn0:n = 0:=by rw [h4] at hl; simpa using hl.symm
  subst hn0
  cases A with
  | none => simp [Ji]
  | some a => simp [Ji,loadCells,loadCellsFrom]
 ·exact run_firstCells_some w t.size n _ _ _ css.flatten hfl (fun j u hj => by rw [Qh]; exact h4 j u hj)
theorem ZqR {P:Program} {T U ee ty:TypeId} {t:Ty} (he:WN P T = some (ee,t)) {A:Option Addr} {dl dc m n:Nat} {vy:Value} {cells:List Value} {w w':World}
  (hlen:(Jq vy).run P w = .ok m w) (hn:n = min m dl) (hfc:(Ji t.size n vy).run P w = .ok cells.toArray w)
  (hst:(match A with | some a => storeCells a cells 0 | none => pure ():Sem Unit).run P w = .ok () w') :
  (JB #[T,U] ty #[.slice A dl dc,vy]).run P w = .ok (.int .i64 n) w':=by
 obtain ⟨hue,ht,hs⟩:=QF he
 obtain ⟨d,hd⟩:=WR ht
 have h2:=QO hd w
 rw [hs] at h2
 subst hn
 cases A with
 | none =>
  simp_all [Sem.run_pure,JB,run_underlying hue,hlen,h2,hfc,goInt]
 | some a =>
  simp_all [JB,run_underlying hue,hlen,h2,hfc,goInt,hst]
theorem ZmT (h:RelW G σ lim st tmps w) {r:Nat} {t:Ty} {xs:List t.den} (hr:st.tbl r = .live (.arr t xs false)) {i j:Nat} (hij:i ≤ j) (hj:j ≤ xs.length) {T U ee ty:TypeId} (he:WN C.P T = some (ee,t))
  {vx vy:Value} {A:Option Addr} {len cap:Nat} (hσ:σ r = .slice A len cap) (hvx:∃ dc,vx = .slice (if cap = i then A else A.map (·.add (i * t.size))) (j - i) dc) {ys:List t.den} (hy:Row w lim t ys vy) :
  QW C G st tmps w (JB #[T,U] ty #[vx,vy]) ⟨.val (.v (.int .i64 ((min ys.length (j - i):Nat):Int))),[(r,.live (.arr t (xs.take i ++ ys.take (j - i) ++ xs.drop (i + min ys.length (j - i))) false))]⟩:=by
 obtain ⟨dc,rfl⟩:=hvx
 generalize hn:min ys.length (j - i) = n
 have hny:n ≤ ys.length:=by omega
 obtain ⟨css,hcss,hfc,hlen⟩:=Zzu hy hny C.P
 have hty:ys.take (j - i) = ys.take n:=by
  grind
 rw [hty]
 have hl:(ys.take n).length = n:=by simp; omega
 have hfl:=Qe hcss
 rw [hl] at hfl
 obtain ⟨hR,_⟩:=h.res r _ hr
 have hR0:=hR
 simp only [RR] at hR
 obtain ⟨hsz,hR⟩:=hR
 have quiet:n = 0 → css.flatten = [] → QW C G st tmps w (JB #[T,U] ty #[.slice (if cap = i then A else A.map (·.add (i * t.size))) (j - i) dc,vy]) ⟨.val (.v (.int .i64 (n:Int))),[(r,.live (.arr t (xs.take i ++ ys.take n ++ xs.drop (i + n)) false))]⟩:=by
  intro h0 hf
  refine ⟨_,w,σ,lim,ZqR (U:=U) (ty:=ty) (dc:=dc) he hlen hn.symm hfc (w':=w) ?_,?_,ZF,Zo⟩
  ·rw [hf]
   split <;> simp [storeCells]
  ·have e:xs.take i ++ ys.take n ++ xs.drop (i + n) = xs:=by rw [h0]; simp
   rw [e]
   exact h.reword hr (by intro q hq; cases hq) hR0
 rcases hR with ⟨e1,e2⟩ | ⟨b,off,cap',vs,V,fz,e1,e2,e3,e4,e5,e6,e7⟩
 ·have h0:n = 0:=by rw [e1] at hj; simp at hj; omega
  exact quiet h0 (JN (by rw [hfl,h0]; simp))
 ·by_cases h0:n = 0
  ·exact quiet h0 (JN (by rw [hfl,h0]; simp))
  ·rw [e1] at hσ
   obtain ⟨rfl,rfl,rfl⟩:some ⟨b,off,none⟩ = A ∧ xs.length = len ∧ cap' = cap:=by simpa using hσ
   have hci:¬ (cap' = i):=by omega
   have hmul:(i + n) * t.size ≤ cap' * t.size:=Jk _ (by omega)
   rw [Jg] at hmul
   have hvl:vs.toList.length = vs.size:=by simp
   have hst:=QK (P:=C.P) b (off + i * t.size) V fz css.flatten 0 vs w e3 (by rw [hfl]; omega) e5.free (Za8 hcss)
   simp only [JH,hfl] at hst
   have hns:(vs.toList.take (off + i * t.size) ++ css.flatten ++ vs.toList.drop (off + i * t.size + n * t.size)).toArray.size = vs.size:=by
    grind
   simp only [cond_false] at e7
   have hW:=h.write hr (y:=.arr t (xs.take i ++ ys.take n ++ xs.drop (i + n)) false) (by rw [e1]; rfl) e3 (cs:=(vs.toList.take (off + i * t.size) ++ css.flatten ++ vs.toList.drop (off + i * t.size + n * t.size)).toArray)
    (fun o ho => by omega) (by intro q hq; cases hq) (fun hE => by
     simp only [RR]
     have hlen':(xs.take i ++ ys.take n ++ xs.drop (i + n)).length = xs.length:=by grind
     refine ⟨hsz,.inr ⟨b,off,cap',_,V,fz,by rw [hlen']; exact e1,by rw [hlen']; exact e2,setRow_heap w b vs _ V fz e3,by rw [hns]; exact e4,⟨fun o ho => e5.free o (by rw [hns] at ho; exact ho),e5.kind,e5.ord,by rw [hns]; exact e5.big⟩,fun p hp => ?_,by simpa using e7⟩⟩
     rw [hlen'] at hp
     by_cases hp1:p < i
     ·have him:(p + 1) * t.size ≤ i * t.size:=Jk _ hp1
      rw [Jg,Jp] at him
      have e:(((vs.toList.take (off + i * t.size) ++ css.flatten ++ vs.toList.drop (off + i * t.size + n * t.size)).drop (off + p * t.size)).take t.size) = ((vs.toList.drop (off + p * t.size)).take t.size):=by
       apply Jr
       grind
      simp only [JU,e]
      have e':(xs.take i ++ ys.take n ++ xs.drop (i + n))[p]'(by rw [hlen']; exact hp) = xs[p]:=by
       grind
      rw [e']
      exact (e6 p hp).mono hE
     ·by_cases hp2:p < i + n
      ·have hpre:(vs.toList.take (off + i * t.size)).length = off + i * t.size:=by simp; omega
       have hidx:off + p * t.size = (vs.toList.take (off + i * t.size)).length + (p - i) * t.size:=by
        rw [hpre,JV,← Jg]; congr 2; omega
       have hlist:(((vs.toList.take (off + i * t.size) ++ css.flatten ++ vs.toList.drop (off + i * t.size + n * t.size)).drop (off + p * t.size)).take t.size) =
         (((css.flatten ++ vs.toList.drop (off + i * t.size + n * t.size)).drop ((p - i) * t.size)).take t.size):=by
        rw [Ju,hidx,ZqU]
       simp only [JU,hlist]
       have e':(xs.take i ++ ys.take n ++ xs.drop (i + n))[p]'(by rw [hlen']; exact hp) = (ys.take n)[p - i]'(by rw [hl]; omega):=by
        grind
       rw [e']
       exact (Zjy hcss _ (by rw [hl]; omega)).mono hE
      ·have him:(i + n) * t.size ≤ p * t.size:=Jk _ (by omega)
       rw [Jg] at him
       have e:(((vs.toList.take (off + i * t.size) ++ css.flatten ++ vs.toList.drop (off + i * t.size + n * t.size)).drop (off + p * t.size)).take t.size) = ((vs.toList.drop (off + p * t.size)).take t.size):=by
        apply Jr
        intro m
        simp only [JO,Jy,Jo,Jz,JP,Vi,hfl]
        grind
       simp only [JU,e]
       have e'':(xs.take i ++ ys.take n ++ xs.drop (i + n))[p]? = xs[p]? := by
        rw [Ju,Vs (by simp; omega),Vs (by simp; omega),Jo]
        simp only [Jz]
        congr 1
        omega
       have e':(xs.take i ++ ys.take n ++ xs.drop (i + n))[p]'(by rw [hlen']; exact hp) = xs[p]:=by
        simp_all
       rw [e']
       exact (e6 p hp).mono hE)
   refine ⟨_,_,σ,lim,ZqR (U:=U) (ty:=ty) (dc:=dc) he hlen hn.symm hfc ?_,hW.1,ZF,Zo⟩
   simp_all [hci,if_false,VD,Qh]
theorem Zxq (h:RelW G σ lim st tmps w) {ats:Array TypeId} {ty:TypeId} {x y:AV} {vx vy:Value} {l l':List Nat} {e:Eff}
  (hm:(Zn8 C ats x y).run st.tbl l = some (e,l')) (hx:RA σ w lim x vx) (hy:RA σ w lim y vy):QW C G st tmps w (JB ats ty #[vx,vy]) e:=by
 unfold Zn8 at hm
 split at hm
 ·rename_i T U hat
  obtain rfl:ats = #[T,U]:=by apply JI; simpa using hat
  cases he:WN C.P T with
  | none => simp [he,M.run] at hm
  | some q =>
   obtain ⟨ee,t⟩:=q
   simp only [he] at hm
   split at hm
   ·rename_i r
    simp only [M.run] at hm
    split at hm
    ·rename_i t' xs hr
     split at hm
     ·rename_i ht
      subst ht
      simp only [Zfe] at hm
      obtain ⟨ys,l2,hk,hrow⟩:=Zff hm hy h.res
      obtain ⟨rfl,_⟩:=M.run_ret hk
      simp only [RA] at hx
      obtain ⟨rfl,_⟩:=hx
      obtain ⟨A,cap,hv⟩:∃ A cap,σ r = .slice A xs.length cap:=by
       obtain ⟨hR,_⟩:=h.res r _ hr
       grind [RR]
      refine ZmT h hr (Nat.zero_le _) (Jj _) he hv ⟨cap,?_⟩ hrow
      simp_all [Addr.add]
     ·simp [M.run] at hm
    ·exact (M.run_fail hm).elim
   ·rename_i r u i j
    simp only [M.run] at hm
    split at hm
    ·rename_i t' xs hr
     split at hm
     ·rename_i ht
      subst ht
      split at hm
      ·rename_i ht
       subst ht
       obtain ⟨hc,hm2⟩:=M.run_need hm
       obtain ⟨h1,h2⟩:=of_decide_eq_true hc
       simp only [Zfe] at hm2
       obtain ⟨ys,l2,hk,hrow⟩:=Zff hm2 hy h.res
       obtain ⟨rfl,_⟩:=M.run_ret hk
       simp only [RA] at hx
       obtain ⟨A,len,cap,hs,rfl⟩:=hx
       exact ZmT h hr h1 h2 he hs ⟨_,rfl⟩ hrow
      ·simp [M.run] at hm
     ·simp [M.run] at hm
    ·exact (M.run_fail hm).elim
   ·exact (M.run_fail hm).elim
 ·exact (M.run_fail hm).elim
end Go.Sh
namespace Go.Sh
open Go
variable [Gl]
variable {C:Ctx} {G:Glob} {σ:WM} {w:World} {lim:Nat → Nat} {st:St} {tmps:Array Value}
def Zdi (w:World) (lim:Nat → Nat) (t:Ty) (x:t.den) (v:Value):Prop :=
 ∃ cs,Rt w lim t x cs ∧ ((t.isAgg = true ∧ v = .agg cs.toArray) ∨ (t.isAgg = false ∧ cs = [v]))
def ZuC (w:World) (lim:Nat → Nat) (t:Ty) (sh:Bool) (xs:List t.den) (v:Value) (bs:List Nat):Prop :=
 0 < t.size ∧ ((xs = [] ∧ v = .slice none 0 0 ∧ bs = []) ∨ ∃ b off cap vs T fz,v = .slice (some ⟨b,off,none⟩) xs.length cap ∧ xs.length ≤ cap ∧
   w.heap[b]? = some (.cells vs T fz) ∧ off + cap * t.size ≤ vs.size ∧ Fit t T vs.size fz ∧
   (∀ i (h:i < xs.length),Rt w lim t xs[i] ((vs.toList.drop (off + i * t.size)).take t.size)) ∧ (bif sh then lim b ≤ off + xs.length * t.size else lim b = 0) ∧ bs = [b])
def ZFm (x v:Value):Prop:=x = .pointer none ∨ x = v
mutual
def TT (w:World) (lim:Nat → Nat):RV → Value → List Nat → Prop
 | .view t x,v,bs => Zdi w lim t x v ∧ bs = []
 | .own t sh xs,v,bs => ZuC w lim t sh xs v bs
 | .box cs,v,bs => ∃ b vs U bs1,v = .pointer (some ⟨b,0,none⟩) ∧ w.heap[b]? = some (.cells vs U (0,0)) ∧ TTs w lim cs vs.toList bs1 ∧ lim b = 0 ∧ bs = b :: bs1
 | .agg cs,v,bs => ∃ vs:List Value,v = .agg vs.toArray ∧ TTs w lim cs vs bs
 | .tup cs,v,bs => ∃ vs:List Value,v = .tuple vs.toArray ∧ TTs w lim cs vs bs
 | .fn f,v,bs => v = .func (.func f) #[] #[] ∧ bs = []
 | .ns t xs,v,bs => (Rt w lim (.sl t) xs [v] ∧ (xs = [] → v = .slice none 0 0)) ∧ bs = []
 | .vp t xs,v,bs => (∃ a n m,v = .pointer (some a) ∧ Rt w lim (.sl t) xs [.slice (some a) n m]) ∧ bs = []
 | .clo f cs,v,bs => ∃ vs:List Value,v = .func (.func f) #[] vs.toArray ∧ TTs w lim cs vs bs
 | .bld T xs,v,bs => ∃ b x y bs1,v = .pointer (some ⟨b,0,none⟩) ∧ w.heap[b]? = some (.cells #[x,y] T (0,0)) ∧ ZFm x v ∧ ZuC w lim (.int .u8) false xs y bs1 ∧ lim b = 0 ∧ bs = b :: bs1
def TTs (w:World) (lim:Nat → Nat):List RV → List Value → List Nat → Prop
 | [],[],bs => bs = []
 | x :: l,v :: m,bs => ∃ b1 b2,bs = b1 ++ b2 ∧ TT w lim x v b1 ∧ TTs w lim l m b2
 | _,_,_ => False
end
def Wn:RS → Bool
 | .gone => true
 | _ => false
def ZU:Q3 → List Nat
 | [] => []
 | (r,x) :: u => if Wn x then r :: ZU u else ZU u
def Yi:Q3 → Q3
 | [] => []
 | (r,x) :: u => if Wn x then Yi u else (r,x) :: Yi u
theorem Ya (u v:Q3):ZU (u ++ v) = ZU u ++ ZU v:=by
 induction u with
 | nil => rfl
 | cons p u ih => obtain ⟨r,x⟩:=p; simp only [J1,ZU]; split <;> simp [ih]
theorem Xg {u:Q3} {r:Nat}:r ∈ ZU u ↔ (r,RS.gone) ∈ u:=by
 induction u with
 | nil => simp [ZU]
 | cons p u ih =>
  obtain ⟨s,x⟩:=p
  simp only [ZU]
  cases x <;> simp [Wn,ih]
theorem Zc0 {u:Q3} {p:Nat × RS}:p ∈ Yi u ↔ p ∈ u ∧ Wn p.2 = false:=by
 induction u with
 | nil => simp [Yi]
 | cons q u ih =>
  obtain ⟨s,x⟩:=q
  simp only [Yi]
  grind
def ZiD (T:Z3) (u:Q3):Prop := ∀ p ∈ u,(p.2 = .gone ∧ ZO (T p.1) = true) ∨ ∃ (t:Ty) (xs:List t.den) (sh:Bool),p.2 = .live (.arr t xs true) ∧ T p.1 = .live (.arr t xs sh)
theorem ZiD.append {T:Z3} {u v:Q3} (h:ZiD T u) (k:ZiD T v):ZiD T (u ++ v):=by
 intro p hp
 rcases Js.1 hp with hp | hp
 ·exact h p hp
 ·exact k p hp
theorem XT.good {T:Z3} {u:Q3} (h:XT T u):ZiD T u:=fun p hp => .inr (h p hp)
theorem XT.nogones {T:Z3} {u:Q3} (h:XT T u):ZU u = []:=by
 induction u with
 | nil => rfl
 | cons p u ih =>
  obtain ⟨r,x⟩:=p
  obtain ⟨t,xs,sh,hx,_⟩:=h (r,x) (Jm ..)
  simp only at hx; subst hx
  simp only [ZU,Wn]
  exact ih fun q hq => h q (Jn _ hq)
structure Shown (σ:WM) (w:World) (lim':Nat → Nat) (T:Z3) (u:Q3):Prop where
 sl:∀ r (t:Ty) (xs:List t.den),(r,RS.live (.arr t xs true)) ∈ u → RP w lim' (.sl t xs) (σ r)
 rr:∀ r x,(r,RS.gone) ∈ u → T r = .live x → RR σ w lim' r x
theorem Shown.left {σ:WM} {w:World} {lim':Nat → Nat} {T:Z3} {u v:Q3} (h:Shown σ w lim' T (u ++ v)):Shown σ w lim' T u :=
 ⟨fun r t xs hm => h.sl r t xs (JG _ hm),fun r x hm => h.rr r x (JG _ hm)⟩
theorem Shown.right {σ:WM} {w:World} {lim':Nat → Nat} {T:Z3} {u v:Q3} (h:Shown σ w lim' T (u ++ v)):Shown σ w lim' T v :=
 ⟨fun r t xs hm => h.sl r t xs (JA _ hm),fun r x hm => h.rr r x (JA _ hm)⟩
def Qy (σ:WM) (l:List Nat):List Nat:=l.filterMap fun r => blk (σ r)
theorem Zan (σ:WM) (a b:List Nat):Qy σ (a ++ b) = Qy σ a ++ Qy σ b:=by simp [Qy]
theorem Zen (t:Ty) (sh:Bool) (a:AV) {l l':List Nat} {x:RV} {u:Q3} (hm:(take (.own t sh) a).run st.tbl l = some ((x,u),l')) :
  ZiD st.tbl u ∧ ∀ (v:Value),RA σ w lim a v → (∀ r y,st.tbl r = .live y → RR σ w lim r y) → ∀ lim',Ext w lim w lim' → Shown σ w lim' st.tbl u → TT w lim' x v (Qy σ (ZU u)):=by
 cases a with
 | own r =>
  simp only [take,M.run] at hm
  cases hr:st.tbl r with
  | fresh => simp [hr,M.run] at hm
  | gone => simp [hr,M.run] at hm
  | live y =>
   cases y with
   | box => simp [hr,M.run] at hm
   | nest => simp [hr,M.run] at hm
   | arr t' xs s =>
    simp only [hr] at hm
    split at hm
    ·rename_i ht
     subst ht
     obtain ⟨hg,hm2⟩:=M.run_guard hm
     obtain ⟨h,_⟩:=M.run_ret hm2
     cases h
     refine ⟨by intro p hp; simp at hp; subst hp; exact .inl ⟨rfl,by rw [hr]; rfl⟩,fun v ha _ lim' e shn => ?_⟩
     have hR:=shn.rr r _ (by simp) hr
     simp only [RA] at ha; obtain ⟨rfl,_⟩:=ha
     simp only [TT,ZuC]
     simp only [RR] at hR
     refine ⟨hR.1,?_⟩
     rcases hR.2 with ⟨e1,e2⟩ | ⟨b,off,cap,vs,U,fz,e1,e2,e3,e4,e5,e6,e7⟩
     ·simp_all [ZU,Wn,Qy,e2,blk]
     ·refine .inr ⟨b,off,cap,vs,U,fz,e1,e2,e3,e4,e5,e6,?_,by simp [ZU,Wn,Qy,e1,blk]⟩
      grind
    ·simp [M.run] at hm
 | val p =>
  cases p with
  | v y =>
   simp only [take] at hm
   obtain ⟨hg,hm2⟩:=M.run_guard hm
   simp only [Jh] at hg
   obtain ⟨h,_⟩:=M.run_ret hm2
   cases h
   have:=YR hg.1
   subst this
   refine ⟨(by intro p hp; cases hp),fun v ha _ lim' e shn => ?_⟩
   simp only [RA,RP] at ha; subst ha
   simp only [TT,ZuC]
   exact ⟨Jt hg.2,.inl ⟨trivial,trivial,rfl⟩⟩
  | sl => simp [take,M.run] at hm
 | _ => simp [take,M.run] at hm
theorem Zqt {t:Ty} {a:AV} {T:Z3} {l l':List Nat} {xs:List t.den} {u:Q3} (hm:(ZbV t a).run T l = some ((xs,u),l')):(take (.own t false) a).run T l = some ((.own t false xs,u),l'):=by
 cases a with
 | own r =>
  simp only [ZbV,take,M.run] at hm ⊢
  cases hr:T r with
  | fresh => simp [hr,M.run] at hm
  | gone => simp [hr,M.run] at hm
  | live y =>
   cases y with
   | box => simp [hr,M.run] at hm
   | nest => simp [hr,M.run] at hm
   | arr t' ys s =>
    simp only [hr] at hm ⊢
    split at hm
    ·rename_i ht
     subst ht
     rw [dif_pos rfl]
     obtain ⟨hg,hm2⟩:=M.run_guard hm
     obtain ⟨h,h2⟩:=M.run_ret hm2
     cases h
     simp [hg,M.run,h2]
    ·simp [M.run] at hm
 | val p =>
  cases p with
  | v y =>
   simp only [ZbV,take] at hm ⊢
   obtain ⟨hg,hm2⟩:=M.run_guard hm
   obtain ⟨h,h2⟩:=M.run_ret hm2
   cases h
   simp [hg,M.run,h2]
  | sl => simp [ZbV,M.run] at hm
 | _ => simp [ZbV,M.run] at hm
theorem ZFo {r:Nat} {T:TypeId} {c:AV} {x:Value} (h:ZFn r T c = true) (hx:RA σ w lim c x) {b:Nat} (hr:σ r = .pointer (some ⟨b,0,none⟩)):ZFm x (.pointer (some ⟨b,0,none⟩)) ∧ Q0 w b = some T:=by
 unfold ZFn at h
 split at h
 ·rename_i q U
  simp only [Jh] at h
  obtain ⟨h1,h2⟩:=h
  obtain rfl:=ZS h1
  obtain rfl:=ZS h2
  simp only [RA] at hx
  obtain ⟨p,rfl,e,b',e1,e2⟩:=hx
  rw [hr] at e1
  obtain rfl:b = b':=by simpa using e1
  refine ⟨?_,e2⟩
  rcases e with rfl | e
  ·exact .inl rfl
  ·rw [e,hr]; exact .inr rfl
 ·cases h
theorem ZsZ (ks:List Kd) (a:AV):take (.ref ks) a = take (.box ks) a:=by
 cases a with
 | bx r k => cases k <;> rfl
 | _ => rfl
theorem ZDY (T:TypeId) (a:AV):take (.use T) a = take (.bld T) a:=by
 cases a with
 | bx r k => cases k <;> rfl
 | _ => rfl
theorem ZsX (t:Ty) (a:AV) {l l':List Nat} {x:RV} {u:Q3} (hm:(ZuZ t a).run st.tbl l = some ((x,u),l')) :
  ZiD st.tbl u ∧ ∀ (v:Value),RA σ w lim a v → (∀ r y,st.tbl r = .live y → RR σ w lim r y) → ∀ lim',Ext w lim w lim' → Shown σ w lim' st.tbl u → TT w lim' x v (Qy σ (ZU u)):=by
 unfold ZuZ at hm
 split at hm
 ·rename_i t' xs
  split at hm
  ·rename_i ht
   subst ht
   obtain ⟨h,_⟩:=M.run_ret hm
   cases h
   refine ⟨(by intro p hp; cases hp),fun v ha _ lim' e _ => ?_⟩
   simp only [RA] at ha
   simp only [TT]
   exact ⟨⟨ha.1.mono e,ha.2⟩,rfl⟩
  ·simp [M.run] at hm
 ·rename_i y
  obtain ⟨hg,hm2⟩:=M.run_guard hm
  obtain ⟨h,_⟩:=M.run_ret hm2
  cases h
  refine ⟨(by intro p hp; cases hp),fun v ha _ lim' e _ => ?_⟩
  simp only [RA,RP] at ha
  have:=YR hg
  subst this
  subst ha
  simp only [TT,Rt]
  exact ⟨⟨⟨none,0,0,rfl,rfl,Jj _,.inl trivial⟩,fun _ => trivial⟩,rfl⟩
 ·rename_i r
  simp only [M.run] at hm
  cases hr:st.tbl r with
  | fresh => simp [hr,M.run] at hm
  | gone => simp [hr,M.run] at hm
  | live y =>
   cases y with
   | box => simp [hr,M.run] at hm
   | nest => simp [hr,M.run] at hm
   | arr t' xs s =>
    simp only [hr] at hm
    split at hm
    ·rename_i ht
     subst ht
     obtain ⟨hc,hm2⟩:=M.run_need hm
     have hc:=of_decide_eq_true hc
     obtain ⟨h,_⟩:=M.run_ret hm2
     cases h
     refine ⟨by intro p hp; simp_all,fun v ha _ lim' e shn => ?_⟩
     have:=shn.sl r t' xs (by simp)
     grind [RA,RP,TT,ZU,Wn,Qy]
    ·simp [M.run] at hm
 ·simp [M.run] at hm
theorem ZsY (t:Ty) (a:AV) {l l':List Nat} {x:RV} {u:Q3} (hm:(Zu0 t a).run st.tbl l = some ((x,u),l')) :
  ZiD st.tbl u ∧ ∀ (v:Value),RA σ w lim a v → (∀ r y,st.tbl r = .live y → RR σ w lim r y) → ∀ lim',Ext w lim w lim' → Shown σ w lim' st.tbl u → TT w lim' x v (Qy σ (ZU u)):=by
 unfold Zu0 at hm
 split at hm
 ·rename_i t' xs
  split at hm
  ·rename_i ht
   subst ht
   obtain ⟨h,_⟩:=M.run_ret hm
   cases h
   refine ⟨(by intro p hp; cases hp),fun v ha _ lim' e _ => ?_⟩
   simp only [RA] at ha
   obtain ⟨a,n,m,h1,h2⟩:=ha
   simp only [TT]
   exact ⟨⟨a,n,m,h1,h2.mono e⟩,rfl⟩
  ·simp [M.run] at hm
 ·rename_i r u'
  split at hm
  ·simp only [M.run] at hm
   cases hr:st.tbl r with
   | fresh => simp [hr,M.run] at hm
   | gone => simp [hr,M.run] at hm
   | live y =>
    cases y with
    | box => simp [hr,M.run] at hm
    | nest => simp [hr,M.run] at hm
    | arr t' xs s =>
     simp only [hr] at hm
     split at hm
     ·rename_i ht
      subst ht
      obtain ⟨hc,hm2⟩:=M.run_need hm
      obtain ⟨h,_⟩:=M.run_ret hm2
      cases h
      refine ⟨by intro p hp; simp at hp; subst hp; exact .inr ⟨t',xs,s,rfl,hr⟩,fun v ha _ lim' e shn => ?_⟩
      have:=shn.sl r t' xs (by simp)
      simp only [RA] at ha; obtain ⟨b,off,len,cap,hs,rfl⟩:=ha
      simp only [RP] at this
      rw [hs] at this
      simp only [TT]
      exact ⟨⟨⟨b,off,none⟩,len,cap,by simp,this⟩,by simp [ZU,Wn,Qy]⟩
     ·simp [M.run] at hm
  ·simp [M.run] at hm
 ·simp [M.run] at hm
theorem Zel (T:TypeId) (a:AV) {l l':List Nat} {x:RV} {u:Q3} (hm:(take (.bld T) a).run st.tbl l = some ((x,u),l')) :
  ZiD st.tbl u ∧ ∀ (v:Value),RA σ w lim a v → (∀ r y,st.tbl r = .live y → RR σ w lim r y) → ∀ lim',Ext w lim w lim' → Shown σ w lim' st.tbl u → TT w lim' x v (Qy σ (ZU u)):=by
 cases a with
 | bx r k =>
  cases k with
  | succ k => simp [take,M.run] at hm
  | zero =>
   simp only [take,M.run] at hm
   cases hr:st.tbl r with
   | fresh => simp [hr,M.run] at hm
   | gone => simp [hr,M.run] at hm
   | live y =>
    cases y with
    | arr => simp [hr,M.run] at hm
    | nest => simp [hr,M.run] at hm
    | box cs =>
     match cs,hr with
     | [c0,c1],hr =>
      simp only [hr] at hm
      obtain ⟨hg,hm2⟩:=M.run_guard hm
      obtain ⟨⟨ys,u1⟩,l1,h1,h2⟩:=M.run_bind_some hm2
      obtain ⟨h,_⟩:=M.run_ret h2
      cases h
      obtain ⟨s1,k1⟩:=Zen (σ:=σ) (w:=w) (lim:=lim) _ _ c1 (Zqt h1)
      refine ⟨by
       intro p hp
       cases hp with
       | head => exact .inl ⟨rfl,by rw [hr]; rfl⟩
       | tail _ hp => exact s1 p hp,fun v ha hres lim' e shn => ?_⟩
      have hR:=hres r _ hr
      have hR':=shn.rr r _ (Jm ..) hr
      obtain ⟨b,vs,U,e1,rfl,e3,e4,_⟩:=XW ha hR
      simp only [RR] at hR'
      obtain ⟨b',vs',U',f1,_,_,f4⟩:=hR'
      rw [e1] at f1
      obtain rfl:b = b':=by simpa using f1
      obtain ⟨vl⟩:=vs
      match vl,e4,e3 with
      | [x,y],e4,e3 =>
       simp only [ZX,and_true] at e4
       simp only [TT]
       have:=k1 y e4.2 hres lim' e (Shown.right (u:=[(r,.gone)]) shn)
       simp only [TT] at this
       obtain ⟨m1,m2⟩:=ZFo (w:=w) (lim:=lim) hg e4.1 e1
       simp only [Q0,e3,Option.some.injEq] at m2
       subst m2
       exact ⟨b,x,y,_,rfl,e3,m1,this,f4,by simp [ZU,Wn,Qy,e1,blk]⟩
     | [],hr => simp [hr,M.run] at hm
     | [_],hr => simp [hr,M.run] at hm
     | _ :: _ :: _ :: _,hr => simp [hr,M.run] at hm
 | _ => simp [take,M.run] at hm
mutual
theorem ZnY:(k:Kd) → (a:AV) → {l l':List Nat} → {x:RV} → {u:Q3} → (take k a).run st.tbl l = some ((x,u),l') →
  ZiD st.tbl u ∧ ∀ (v:Value),RA σ w lim a v → (∀ r y,st.tbl r = .live y → RR σ w lim r y) → ∀ lim',Ext w lim w lim' → Shown σ w lim' st.tbl u → TT w lim' x v (Qy σ (ZU u))
 | .view t,a,l,l',x,u,hm => by
  simp only [take] at hm
  obtain ⟨⟨y,u1⟩,l1,h1,h2⟩:=M.run_bind_some hm
  obtain ⟨h,_⟩:=M.run_ret h2
  cases h
  obtain ⟨s1,k1⟩:=Zme (σ:=σ) h1
  refine ⟨s1.good,fun v ha _ lim' e sh => ?_⟩
  obtain ⟨cs,h3,_,h4⟩:=k1 w lim v ha lim' e sh.sl
  simp only [TT]
  exact ⟨⟨cs,h3,h4⟩,by rw [s1.nogones]; rfl⟩
 | .own t sh,a,l,l',x,u,hm => Zen t sh a hm
 | .box ks,a,l,l',x,u,hm => by
  cases a with
  | bx r k =>
   cases k with
   | succ k => simp [take,M.run] at hm
   | zero =>
    simp only [take,M.run] at hm
    cases hr:st.tbl r with
    | fresh => simp [hr,M.run] at hm
    | gone => simp [hr,M.run] at hm
    | live y =>
     cases y with
     | arr => simp [hr,M.run] at hm
     | nest => simp [hr,M.run] at hm
     | box cs =>
      simp only [hr] at hm
      obtain ⟨⟨ys,u1⟩,l1,h1,h2⟩:=M.run_bind_some hm
      obtain ⟨h,_⟩:=M.run_ret h2
      cases h
      obtain ⟨s1,k1⟩:=WK ks cs h1
      refine ⟨by
       intro p hp
       cases hp with
       | head => exact .inl ⟨rfl,by rw [hr]; rfl⟩
       | tail _ hp => exact s1 p hp,fun v ha hres lim' e shn => ?_⟩
      have hR:=hres r _ hr
      have hR':=shn.rr r _ (Jm ..) hr
      obtain ⟨b,vs,U,e1,rfl,e3,e4,_⟩:=XW ha hR
      simp only [RR] at hR'
      obtain ⟨b',vs',U',f1,_,_,f4⟩:=hR'
      rw [e1] at f1
      obtain rfl:b = b':=by simpa using f1
      simp only [TT]
      exact ⟨b,vs,U,_,rfl,e3,k1 vs.toList e4 hres lim' e (Shown.right (u:=[(r,.gone)]) shn),f4,by simp [ZU,Wn,Qy,e1,blk]⟩
  | _ => simp [take,M.run] at hm
 | .ref ks,a,l,l',x,u,hm => by
  rw [ZsZ] at hm
  cases a with
  | bx r k =>
   cases k with
   | succ k => simp [take,M.run] at hm
   | zero =>
    simp only [take,M.run] at hm
    cases hr:st.tbl r with
    | fresh => simp [hr,M.run] at hm
    | gone => simp [hr,M.run] at hm
    | live y =>
     cases y with
     | arr => simp [hr,M.run] at hm
     | nest => simp [hr,M.run] at hm
     | box cs =>
      simp only [hr] at hm
      obtain ⟨⟨ys,u1⟩,l1,h1,h2⟩:=M.run_bind_some hm
      obtain ⟨h,_⟩:=M.run_ret h2
      cases h
      obtain ⟨s1,k1⟩:=WK ks cs h1
      refine ⟨by
       intro p hp
       cases hp with
       | head => exact .inl ⟨rfl,by rw [hr]; rfl⟩
       | tail _ hp => exact s1 p hp,fun v ha hres lim' e shn => ?_⟩
      have hR:=hres r _ hr
      have hR':=shn.rr r _ (Jm ..) hr
      obtain ⟨b,vs,U,e1,rfl,e3,e4,_⟩:=XW ha hR
      simp only [RR] at hR'
      obtain ⟨b',vs',U',f1,_,_,f4⟩:=hR'
      rw [e1] at f1
      obtain rfl:b = b':=by simpa using f1
      simp only [TT]
      exact ⟨b,vs,U,_,rfl,e3,k1 vs.toList e4 hres lim' e (Shown.right (u:=[(r,.gone)]) shn),f4,by simp [ZU,Wn,Qy,e1,blk]⟩
  | _ => simp [take,M.run] at hm
 | .agg ks,a,l,l',x,u,hm => by
  cases a with
  | agg cs =>
   simp only [take] at hm
   obtain ⟨⟨ys,u1⟩,l1,h1,h2⟩:=M.run_bind_some hm
   obtain ⟨h,_⟩:=M.run_ret h2
   cases h
   obtain ⟨s1,k1⟩:=WK ks cs h1
   refine ⟨s1,fun v ha hres lim' e shn => ?_⟩
   simp only [RA] at ha; obtain ⟨vs,rfl,h3⟩:=ha
   simp only [TT]
   exact ⟨vs,rfl,k1 vs h3 hres lim' e shn⟩
  | _ => simp [take,M.run] at hm
 | .tup ks,a,l,l',x,u,hm => by
  cases a with
  | tup cs =>
   simp only [take] at hm
   obtain ⟨⟨ys,u1⟩,l1,h1,h2⟩:=M.run_bind_some hm
   obtain ⟨h,_⟩:=M.run_ret h2
   cases h
   obtain ⟨s1,k1⟩:=WK ks cs h1
   refine ⟨s1,fun v ha hres lim' e shn => ?_⟩
   simp only [RA] at ha; obtain ⟨vs,rfl,h3⟩:=ha
   simp only [TT]
   exact ⟨vs,rfl,k1 vs h3 hres lim' e shn⟩
  | _ => simp [take,M.run] at hm
 | .fn f,a,l,l',x,u,hm => by
  cases a with
  | fn g =>
   simp only [take] at hm
   obtain ⟨hg,hm2⟩:=M.run_guard hm
   obtain ⟨h,_⟩:=M.run_ret hm2
   cases h
   obtain rfl:=ZS hg
   refine ⟨(by intro p hp; cases hp),fun v ha _ lim' e shn => ?_⟩
   simp only [RA] at ha
   simp only [TT]
   exact ⟨ha,rfl⟩
  | _ => simp [take,M.run] at hm
 | .ns t,a,l,l',x,u,hm => ZsX t a (by simpa only [take] using hm)
 | .vp t,a,l,l',x,u,hm => ZsY t a (by simpa only [take] using hm)
 | .clo f ks,a,l,l',x,u,hm => by
  cases a with
  | clo g cs =>
   simp only [take] at hm
   obtain ⟨hg,hm⟩:=M.run_guard hm
   obtain ⟨⟨ys,u1⟩,l1,h1,h2⟩:=M.run_bind_some hm
   obtain ⟨h,_⟩:=M.run_ret h2
   cases h
   obtain rfl:=ZS hg
   obtain ⟨s1,k1⟩:=WK ks cs h1
   refine ⟨s1,fun v ha hres lim' e shn => ?_⟩
   simp only [RA] at ha; obtain ⟨vs,rfl,h3⟩:=ha
   simp only [TT]
   exact ⟨vs,rfl,k1 vs h3 hres lim' e shn⟩
  | _ => simp [take,M.run] at hm
 | .bld T,a,l,l',x,u,hm => Zel T a hm
 | .use T,a,l,l',x,u,hm => Zel T a (by rw [← ZDY]; exact hm)
theorem WK:(ks:List Kd) → (as:List AV) → {l l':List Nat} → {xs:List RV} → {u:Q3} → (takes ks as).run st.tbl l = some ((xs,u),l') →
  ZiD st.tbl u ∧ ∀ (vs:List Value),ZX σ w lim as vs → (∀ r y,st.tbl r = .live y → RR σ w lim r y) → ∀ lim',Ext w lim w lim' → Shown σ w lim' st.tbl u → TTs w lim' xs vs (Qy σ (ZU u))
 | [],[],l,l',xs,u,hm => by
  obtain ⟨h,_⟩:=M.run_ret hm
  cases h
  refine ⟨(by intro p hp; cases hp),fun vs h _ lim' _ _ => ?_⟩
  match vs,h with | [],_ => simp [TTs,ZU,Qy]
 | k :: ks,a :: as,l,l',xs,u,hm => by
  simp only [takes] at hm
  obtain ⟨⟨x,u1⟩,l1,h1,h2⟩:=M.run_bind_some hm
  obtain ⟨⟨ys,u2⟩,l2,h3,h4⟩:=M.run_bind_some h2
  obtain ⟨h,_⟩:=M.run_ret h4
  cases h
  obtain ⟨s1,k1⟩:=ZnY k a h1
  obtain ⟨s2,k2⟩:=WK ks as h3
  refine ⟨s1.append s2,fun vs h hres lim' e shn => ?_⟩
  match vs,h with
  | v :: vs,h =>
   simp only [ZX] at h
   simp only [TTs]
   exact ⟨_,_,by rw [Ya,Zan],k1 v h.1 hres lim' e shn.left,k2 vs h.2 hres lim' e shn.right⟩
 | [],_ :: _,l,l',xs,u,hm => by simp [takes,M.run] at hm
 | _ :: _,[],l,l',xs,u,hm => by simp [takes,M.run] at hm
end
theorem ZlK {i:Nat} {x:RS} {u:Q3} (h:Zeh ((i,x) :: u) = true):(∀ p ∈ u,p.1 = i → ZjA x p.2 = true) ∧ Zeh u = true:=by
 simp only [Zeh,Jh,Vf] at h
 refine ⟨fun p hp e => ?_,h.2⟩
 have:=h.1 p hp
 simp_all
theorem Zf1 {x:RS}:ZjA x .gone = false:=by
 cases x with
 | live y => cases y with
  | arr t xs s => cases s <;> rfl
  | box cs => rfl
  | nest t xss o => rfl
 | _ => rfl
theorem Zmx {x:RS}:ZjA .gone x = false:=rfl
theorem ZbN : {u:Q3} → Zeh u = true → {r:Nat} → (r,RS.gone) ∈ u → ∀ y,(r,y) ∈ u → y = .gone
 | (i,x) :: u,h,r,hg,y,hy => by
  obtain ⟨h1,h2⟩:=ZlK h
  cases hg with
  | head =>
   cases hy with
   | head => rfl
   | tail _ hy => have:=h1 _ hy rfl; rw [Zmx] at this; cases this
  | tail _ hg =>
   cases hy with
   | head => have:=h1 _ hg rfl; rw [Zf1] at this; cases this
   | tail _ hy => exact ZbN h2 hg y hy
 | [],_,_,hg,_,_ => by cases hg
theorem Zac : {u:Q3} → Zeh u = true → (ZU u).Nodup
 | [],_ => by simp [ZU]
 | (i,x) :: u,h => by
  obtain ⟨h1,h2⟩:=ZlK h
  simp only [ZU]
  cases hx:Wn x with
  | false => simpa using Zac h2
  | true =>
   simp only [if_true,J3]
   refine ⟨fun hm => ?_,Zac h2⟩
   have:=h1 _ (Xg.1 hm) rfl
   rw [Zf1] at this; cases this
theorem ZlC : {u:Q3} → {r:Nat} → {z:RS} → (r,z) ∈ u → ∃ y,Zu u r = some y
 | (i,x) :: u,r,z,h => by
  rw [Zg]
  by_cases e:i = r
  ·exact ⟨x,by simp [e]⟩
  ·simp only [e,if_false]
   cases h with
   | head => exact absurd rfl e
   | tail _ h => exact ZlC h
theorem ZwV {T:Z3} {u:Q3} {r:Nat} (h:∀ y,(r,y) ∉ u):T.put u r = T r:=by
 simp only [Z3.put]
 cases hl:Zu u r with
 | none => rfl
 | some y => exact absurd (Wc hl) (h y)
theorem ZlA : {u:Q3} → {r:Nat} → (r,RS.gone) ∉ u → Zu u r = Zu (Yi u) r
 | [],_,_ => rfl
 | (i,x) :: u,r,h => by
  have ih:=ZlA (u:=u) (r:=r) (fun hm => h (Jn _ hm))
  simp only [Yi]
  cases hx:Wn x with
  | true =>
   have:x = .gone:=by cases x <;> simp [Wn] at hx ⊢
   subst this
   have hir:i ≠ r:=fun e => h (by rw [e]; exact Jm ..)
   simp [Zg,hir,ih]
  | false => simp [Zg,ih]
theorem RelW.gonesAll:(gs:List Nat) → {st:St} → RelW G σ lim st tmps w → (∀ r ∈ gs,st.tbl r ≠ .fresh) → RelW G σ lim ⟨st.env,fun r => if r ∈ gs then .gone else st.tbl r⟩ tmps w
 | [],st,h,_ => by simpa using h
 | g :: gs,st,h,hf => by
  have h1:=h.gone (hf g (Jm ..))
  have h2:=RelW.gonesAll gs (st:=⟨st.env,st.tbl.put [(g,.gone)]⟩) h1 (fun r hr => by
   grind [Zj])
  have e:(fun r => if r ∈ gs then RS.gone else st.tbl.put [(g,.gone)] r) = (fun r => if r ∈ g :: gs then RS.gone else st.tbl r):=by
   funext r
   simp only [Zj,List.mem_cons]
   grind
  simp_all
theorem Zp5 {l:List Nat} (hn:l.Nodup) (hi:∀ r ∈ l,∀ r' ∈ l,∀ b,blk (σ r) = some b → blk (σ r') = some b → r = r'):(Qy σ l).Nodup:=by
 induction l with
 | nil => simp [Qy]
 | cons a l ih =>
  grind [Qy,J3]
theorem ZbM (h:RelW G σ lim st tmps w) {r b:Nat} (hl:ZO (st.tbl r) = true) (hb:blk (σ r) = some b):b < w.heap.size:=by
 cases hr:st.tbl r with
 | live z =>
  obtain ⟨h1,_⟩:=h.res r z hr
  cases z with
  | box cs =>
   grind [RR,blk]
  | arr t xs sh =>
   grind [RR,blk]
  | nest t xss o =>
   grind [RR,blk]
 | fresh => rw [hr] at hl; simp [ZO] at hl
 | gone => rw [hr] at hl; simp [ZO] at hl
theorem RelW.takes (h:RelW G σ lim st tmps w) {u:Q3} (g:ZiD st.tbl u) (ok:Zeh u = true) :
  ∃ lim',RelW G σ lim' ⟨st.env,st.tbl.put u⟩ tmps w ∧ Ext w lim w lim' ∧ Shown σ w lim' st.tbl u ∧ (Qy σ (ZU u)).Nodup ∧
   ∀ b ∈ Qy σ (ZU u),(G.w0.heap.size ≤ b ∨ b ∈ G.lent) ∧ b < w.heap.size ∧ ∀ r,ZO (st.tbl.put u r) = true → blk (σ r) ≠ some b:=by
 have hsS:XT st.tbl (Yi u):=by
  intro p hp
  obtain ⟨h1,h2⟩:=Zc0.1 hp
  rcases g p h1 with ⟨h3,_⟩ | h3
  ·rw [h3] at h2; cases h2
  ·exact h3
 obtain ⟨lim1,hR,hE,hsl⟩:=RelW.shows (Yi u) h hsS
 have hgl:∀ r ∈ ZU u,ZO (st.tbl r) = true:=by
  intro r hr
  rcases g _ (Xg.1 hr) with ⟨_,h3⟩ | ⟨t,xs,sh,h3,_⟩
  ·exact h3
  ·simp only at h3; cases h3
 have hgS:∀ r ∈ ZU u,(st.tbl.put (Yi u)) r = st.tbl r:=by
  intro r hr
  refine ZwV fun y hy => ?_
  obtain ⟨h1,h2⟩:=Zc0.1 hy
  have:=ZbN ok (Xg.1 hr) y h1
  subst this; simp [Wn] at h2
 have hG:=RelW.gonesAll (ZU u) hR (fun r hr => by
  simp only; rw [hgS r hr]; intro e; have:=hgl r hr; rw [e] at this; cases this)
 have e:(fun r => if r ∈ ZU u then RS.gone else (st.tbl.put (Yi u)) r) = st.tbl.put u:=by
  funext r
  by_cases hr:r ∈ ZU u
  ·simp only [hr,if_true,Z3.put]
   obtain ⟨y,hy⟩:=ZlC (Xg.1 hr)
   have:=ZbN ok (Xg.1 hr) y (Wc hy)
   rw [hy]; subst this; rfl
  ·simp only [hr,if_false,Z3.put]
   rw [ZlA (fun hm => hr (Xg.2 hm))]
 simp only at hG
 rw [e] at hG
 refine ⟨lim1,hG,hE,⟨fun r t xs hm => hsl r t xs (Zc0.2 ⟨hm,rfl⟩),fun r x hm hx => ?_⟩,Zp5 (Zac ok) (fun r hr r' hr' b hb hb' => h.inj r r' b (hgl r hr) (hgl r' hr') hb hb'),fun b hb => ?_⟩
 ·have:=hgS r (Xg.2 hm)
  exact (hR.res r x (by simp only; rw [this,hx])).1
 ·obtain ⟨r,hr,hrb⟩:=List.mem_filterMap.1 hb
  refine ⟨h.own r b (hgl r hr) hrb,ZbM h (hgl r hr) hrb,fun r' hl hb' => ?_⟩
  have hne:r' ∉ ZU u:=by
   intro hm
   have:(st.tbl.put u) r' = .gone:=by rw [← e]; simp [hm]
   rw [this] at hl; cases hl
  have hl0:ZO (st.tbl r') = true:=by
   cases hl1:Zu u r' with
   | none => simpa [Z3.put,hl1] using hl
   | some z =>
    rcases g _ (Wc hl1) with ⟨h3,h4⟩ | ⟨t,xs,sh,_,h4⟩
    ·exact h4
    ·simp only at h4; rw [h4]; rfl
  have:=h.inj r r' b (hgl r hr) hl0 hrb hb'
  subst this
  exact hne hr
theorem RelW.adopt (h:RelW G σ lim st tmps w) {n:Nat} {v:Value} (hn:st.tbl n = .fresh ∨ (st.tbl n = .gone ∧ σ n = v)) {y:Res} (hk:Zi st.tbl (Qb n y))
  (hy:(∀ r,st.tbl r ≠ .fresh → (if r = n then v else σ r) = σ r) → RR (fun r => if r = n then v else σ r) w lim n y)
  (hb:∀ b,blk v = some b → (G.w0.heap.size ≤ b ∨ b ∈ G.lent) ∧ ∀ r,ZO (st.tbl r) = true → blk (σ r) ≠ some b) :
  RelW G (fun r => if r = n then v else σ r) lim ⟨st.env,st.tbl.put [(n,.live y)]⟩ tmps w:=by
 have hσ:∀ r,st.tbl r ≠ .fresh → (if r = n then v else σ r) = σ r:=by
  grind
 have hnf:∀ r,Zu [(n,RS.live y)] r ≠ some .fresh:=by grind [Zu]
 have hl:∀ s z,Zu [(n,RS.live y)] s = some (.live z) → s = n ∧ z = y:=by
  intro s z hs
  rw [Zg] at hs
  grind [Zu]
 refine h.noput (v:=.dead) (x:=undef) (Upd.dead (Ext.refl _ _) h.lz ⟨rfl,rfl,rfl⟩ hσ (fun _ _ _ _ _ => ⟨rfl,rfl⟩) ?_ ?_ ?_ (fun _ _ _ => rfl) (fun _ _ _ => rfl) hnf (by simp [RA]) (by simp [Zb,Zi]))
 ·intro s z hs
  obtain ⟨rfl,rfl⟩:=hl s z hs
  exact ⟨hy hσ,hk.put hnf⟩
 ·intro r1 r2 z b hs hl2 hb1 hb2
  obtain ⟨rfl,rfl⟩:=hl r1 z hs
  simp at hb1
  rw [Zj] at hl2
  grind
 grind
structure PutR (G:Glob) (σ:WM) (lim:Nat → Nat) (st:St) (tmps:Array Value) (w:World) (n m:Nat) (ups:Q3) (bs:List Nat) (σ':WM):Prop where
 rel:RelW G σ' lim ⟨st.env,st.tbl.put ups⟩ tmps w
 out:∀ r,(r < n ∨ m ≤ r) → Zu ups r = none
 old:∀ r,st.tbl r ≠ .fresh → σ' r = σ r
 lv:∀ r b,ZO (st.tbl.put ups r) = true → blk (σ' r) = some b → (ZO (st.tbl r) = true ∧ blk (σ r) = some b) ∨ b ∈ bs
 le:n ≤ m
def FB (G:Glob) (σ:WM) (st:St) (bs:List Nat):Prop:=bs.Nodup ∧ ∀ b ∈ bs,(G.w0.heap.size ≤ b ∨ b ∈ G.lent) ∧ ∀ r,ZO (st.tbl r) = true → blk (σ r) ≠ some b
theorem ZjU {t:Ty} {x:t.den} {v:Value} (h:Zdi w lim t x v):RA σ w lim (ZqH t x) v:=by
 obtain ⟨cs,h1,h2⟩:=h
 have hall:=WE h1
 unfold ZqH
 rcases h2 with ⟨h2,rfl⟩ | ⟨h2,rfl⟩
 ·simp only [h2,cond_true,RA]
  refine ⟨cs,rfl,ZY.2 (ZN.map_left (ZN.mono (fun p c hp => by simpa [RA] using hp) hall))⟩
 ·simp only [h2,cond_false]
  match hc:cellsOf t x,hall with
  | [p],hall => simp only [RA]; exact hall.1
theorem ZjT {t:Ty} {x:t.den}:Zb (ZqH t x) = []:=by
 unfold ZqH
 cases t.isAgg
 ·simp only [cond_false]
  split <;> rfl
 ·simp only [cond_true,Zb]; exact ZcW _
mutual
theorem ZlV:(x:RV) → (n:Nat) → n ≤ (put n x).2.2
 | .view _ _,n => by simp [put]
 | .own _ _ _,n => by simp [put]
 | .box cs,n => by simp only [put]; have:=WU cs (n + 1); omega
 | .agg cs,n => by simp only [put]; exact WU cs n
 | .tup cs,n => by simp only [put]; exact WU cs n
 | .fn _,n => by simp [put]
 | .ns _ _,n => by simp [put]
 | .vp _ _,n => by simp [put]
 | .bld _ _,n => by simp [put]
 | .clo _ cs,n => by simp only [put]; exact WU cs n
theorem WU:(xs:List RV) → (n:Nat) → n ≤ (ZG n xs).2.2
 | [],n => by simp [ZG]
 | x :: xs,n => by simp only [ZG]; have:=ZlV x n; have:=WU xs (put n x).2.2; omega
end
mutual
theorem Zc9:(x:RV) → (n:Nat) → ∀ r,Zu (put n x).2.1 r ≠ some .fresh
 | .view _ _,n,r => by simp [put,Zu]
 | .own _ _ _,n,r => by simp only [put,Zg]; split <;> simp [Zu]
 | .box cs,n,r => by simp only [put,Zg]; split <;> simp [Wf cs (n + 1) r]
 | .agg cs,n,r => by simp only [put]; exact Wf cs n r
 | .tup cs,n,r => by simp only [put]; exact Wf cs n r
 | .fn _,n,r => by simp [put,Zu]
 | .ns _ _,n,r => by simp [put,Zu]
 | .vp _ _,n,r => by simp [put,Zu]
 | .bld _ _,n,r => by simp only [put,Zg]; split <;> (try split) <;> simp [Zu]
 | .clo _ cs,n,r => by simp only [put]; exact Wf cs n r
theorem Wf:(xs:List RV) → (n:Nat) → ∀ r,Zu (ZG n xs).2.1 r ≠ some .fresh
 | [],n,r => by simp [ZG,Zu]
 | x :: xs,n,r => by
  simp only [ZG]
  have h1:=Zc9 x n r
  have h2:=Wf xs (put n x).2.2 r
  revert h2
  generalize (ZG (put n x).2.2 xs).2.1 = V
  intro h2
  induction V with
  | nil => exact h1
  | cons p V ih => obtain ⟨i,z⟩:=p; rw [J1,Zg]; rw [Zg] at h2; split at h2 <;> simp_all
end
theorem ZFA {T:Z3} {n:Nat} {x x' y:RS}:((T.put [(n + 1,y)]).put [(n,x')]).put [(n,x)] = T.put [(n,x),(n + 1,y)]:=by
 funext r
 simp only [Zj,Z3.put,Zg]
 by_cases h1:n = r
 ·simp [h1]
 ·by_cases h2:n + 1 = r
  ·simp [h1,h2,Zu]
  ·simp [h1,h2,Zu]
theorem ZGG {n b:Nat} {T:TypeId} {x:Value} (h3:ZFm x (.pointer (some ⟨b,0,none⟩))) (hs:σ n = .pointer (some ⟨b,0,none⟩)) (ht:Q0 w b = some T):RA σ w lim (.me n T) x:=by
 simp only [RA]
 rcases h3 with rfl | rfl
 ·simp_all
 simp_all
theorem ZDq {n:Nat} {T:TypeId}:∀ r ∈ Zb (.me n T),r = n:=by
 intro r hr
 simpa [Zb] using hr
theorem Zxh {n:Nat} {xs:List Int} {b:Nat} {x y:Value} {U:TypeId} {bs1:List Nat} (h:RelW G σ lim st tmps w) (h2:w.heap[b]? = some (.cells #[x,y] U (0,0)))
  (h3:ZFm x (.pointer (some ⟨b,0,none⟩))) (h4:ZuC w lim (.int .u8) false xs y bs1) (h5:lim b = 0) (hf:∀ j,n ≤ j → j < (put n (.bld U xs)).2.2 → st.tbl j = .fresh) (hb:FB G σ st (b :: bs1)) :
  ∃ σ',PutR G σ lim st tmps w n (put n (.bld U xs)).2.2 (put n (.bld U xs)).2.1 (b :: bs1) σ' ∧ RA σ' w lim (put n (.bld U xs)).1 (.pointer (some ⟨b,0,none⟩)) ∧ Zi (st.tbl.put (put n (.bld U xs)).2.1) (Zb (put n (.bld U xs)).1):=by
 simp only [put] at hf ⊢
 obtain ⟨hbn,hbm⟩:=hb
 rw [J3] at hbn
 have hn:=hf n (Jj _) (by omega)
 have hn1:=hf (n + 1) (by omega) (by omega)
 have hmem:∀ b',blk y = some b' → b' ∈ bs1:=by
  intro b' hbv
  rcases h4.2 with ⟨_,rfl,rfl⟩ | ⟨c,off,cap,vs,T,fz,rfl,_,_,_,_,_,_,rfl⟩
  ·simp [blk] at hbv
  ·simp [blk] at hbv; subst hbv; simp
 have hval:RA (fun r => if r = n + 1 then y else σ r) w lim (.own (n + 1)) y:=by
  simp only [RA]
  rcases h4.2 with ⟨_,rfl,_⟩ | ⟨c,off,cap,vs,T,fz,rfl,_⟩
  ·exact ⟨by simp,_,_,_,rfl⟩
  ·exact ⟨by simp,_,_,_,rfl⟩
 have R1:=h.adopt (n:=n + 1) (v:=y) (.inl hn1) (y:=.arr (.int .u8) xs false) (by intro r hr; cases hr) (fun hσ => by
  simp only [RR]
  refine ⟨h4.1,?_⟩
  rcases h4.2 with ⟨e1,rfl,_⟩ | ⟨c,off,cap,vs,T,fz,rfl,e2,e3,e4,e5,e6,e7,_⟩
  ·exact .inl ⟨e1,by simp⟩
  ·exact .inr ⟨c,off,cap,vs,T,fz,by simp,e2,e3,e4,e5,e6,e7⟩) (fun b' hbv => hbm b' (Jn _ (hmem b' hbv)))
 have hnf:(st.tbl.put [(n + 1,.live (.arr (.int .u8) xs false))]) n = .fresh:=by rw [Zj,if_neg (by omega)]; exact hn
 have hk1:Zi (st.tbl.put [(n + 1,.live (.arr (.int .u8) xs false))]) (Zb (.own (n + 1))):=QV (y:=.arr (.int .u8) xs false) (by rw [Qv]; simp)
 have R2:=R1.adopt (n:=n) (v:=.pointer (some ⟨b,0,none⟩)) (.inl hnf) (y:=.box [.dead,.own (n + 1)]) (by
   grind [Qb,Zh,Zb]) (fun hσ => by
  simp_all [RR,ZX,and_true,RA]) (fun b' hb' => by
   simp [blk] at hb'; subst hb'
   refine ⟨(hbm b (Jm ..)).1,fun r hl hbr => ?_⟩
   simp only at hl
   rw [Zj] at hl
   grind)
 simp only at R2
 have hr2:((st.tbl.put [(n + 1,.live (.arr (.int .u8) xs false))]).put [(n,.live (.box [.dead,.own (n + 1)]))]) n = .live (.box [.dead,.own (n + 1)]):=by rw [Zj]; simp
 obtain ⟨q1,q2⟩:=R2.res n _ hr2
 have R3:=R2.reword (r:=n) (y:=.box [AV.me n U,.own (n + 1)]) hr2 (by
   intro r hr
   simp only [Qb,Zh,Vg,Js] at hr
   rcases hr with hr | hr
   ·rw [ZDq r hr]; simp only; rw [hr2]; simp
   ·exact q2 r (by grind [Qb,Zh,Zb])) (by
   simp only [RR] at q1 ⊢
   obtain ⟨b',vs,T,e1,e2,e3,e4⟩:=q1
   have hbb:b' = b:=by simp at e1; exact e1.symm
   subst hbb
   rw [h2] at e2
   obtain ⟨rfl,rfl⟩ : #[x,y] = vs ∧ U = T:=by simpa using e2
   simp only [ZX,and_true] at e3
   refine ⟨b',#[x,y],U,by simp,h2,?_,e4⟩
   simp only [ZX,and_true]
   exact ⟨ZGG h3 (by simp) (by simp [Q0,h2]),e3.2⟩)
 simp only at R3
 rw [ZFA] at R3
 refine ⟨_,⟨R3,fun r hr => ?_,fun r hr => ?_,fun r b' hl hbr => ?_,by omega⟩,?_,?_⟩
 ·rw [Zg,if_neg (by omega),Zg,if_neg (by omega)]; rfl
 ·grind
 ·by_cases e1:r = n
  ·grind [blk]
  ·by_cases e2:r = n + 1
   ·simp_all
   ·simp only [e1,e2,if_false] at hbr
    have:(st.tbl.put [(n,.live (.box [AV.me n U,.own (n + 1)])),(n + 1,.live (.arr (.int .u8) xs false))]) r = st.tbl r:=by
     simp only [Z3.put,Zg]; rw [if_neg (fun e => e1 e.symm),if_neg (fun e => e2 e.symm)]; rfl
    simp_all
 ·grind [RA]
 ·intro r hr; grind [Zb,Z3.put,Zg]
mutual
theorem ZhV:(x:RV) → (n:Nat) → {σ:WM} → {st:St} → {v:Value} → {bs:List Nat} → RelW G σ lim st tmps w → TT w lim x v bs → (∀ j,n ≤ j → j < (put n x).2.2 → st.tbl j = .fresh) → FB G σ st bs →
  ∃ σ',PutR G σ lim st tmps w n (put n x).2.2 (put n x).2.1 bs σ' ∧ RA σ' w lim (put n x).1 v ∧ Zi (st.tbl.put (put n x).2.1) (Zb (put n x).1)
 | .view t x,n,σ,st,v,bs,h,ht,hf,hb => by
  simp only [TT] at ht
  simp only [put]
  refine ⟨σ,⟨by rw [Qo]; exact h,fun _ _ => rfl,fun _ _ => rfl,fun r b hl hb => .inl ⟨by rwa [Qo] at hl,hb⟩,Jj _⟩,ZjU ht.1,by rw [ZjT]; exact Zo⟩
 | .own t sh xs,n,σ,st,v,bs,h,ht,hf,hb => by
  simp only [TT,ZuC] at ht
  simp only [put] at hf ⊢
  have hn:=hf n (Jj _) (VB _)
  have hval:RA (fun r => if r = n then v else σ r) w lim (.own n) v:=by
   simp only [RA]
   rcases ht.2 with ⟨_,rfl,_⟩ | ⟨b,off,cap,vs,T,fz,rfl,_⟩
   ·exact ⟨by simp,_,_,_,rfl⟩
   ·exact ⟨by simp,_,_,_,rfl⟩
  have hmem:∀ b,blk v = some b → b ∈ bs:=by
   intro b hbv
   rcases ht.2 with ⟨_,rfl,rfl⟩ | ⟨b',off,cap,vs,T,fz,rfl,_,_,_,_,_,_,rfl⟩
   ·simp [blk] at hbv
   ·simp [blk] at hbv; subst hbv; simp
  have hA:=h.adopt (n:=n) (v:=v) (.inl hn) (y:=.arr t xs sh) (by intro r hr; cases hr) (fun hσ => by
   simp only [RR]
   refine ⟨ht.1,?_⟩
   rcases ht.2 with ⟨h1,rfl,_⟩ | ⟨b,off,cap,vs,T,fz,rfl,h2,h3,h4,h5,h6,h7,_⟩
   ·exact .inl ⟨h1,by simp⟩
   ·exact .inr ⟨b,off,cap,vs,T,fz,by simp,h2,h3,h4,h5,h6,h7⟩) (fun b hbv => hb.2 b (hmem b hbv))
  refine ⟨_,⟨hA,fun r hr => ?_,fun r hr => ?_,fun r b hl hbr => ?_,Nat.le_succ _⟩,hval,QV (y:=.arr t xs sh) (by rw [Qv]; simp)⟩
  ·rw [Zg,if_neg (by omega)]; rfl
  ·rw [if_neg]; intro e; subst e; exact hr hn
  ·by_cases e:r = n
   ·subst e; simp only [if_true] at hbr; exact .inr (hmem b hbr)
   ·rw [Zj,if_neg (Ne.symm e)] at hl
    simp only [e,if_false] at hbr
    exact .inl ⟨hl,hbr⟩
 | .box cs,n,σ,st,v,bs,h,ht,hf,hb => by
  simp only [TT] at ht
  obtain ⟨b,vs,U,bs1,rfl,h2,h3,h4,rfl⟩:=ht
  simp only [put] at hf ⊢
  obtain ⟨hbn,hbm⟩:=hb
  rw [J3] at hbn
  obtain ⟨σ1,hP,hA,hK⟩:=W8 cs (n + 1) h h3 (fun j h5 h6 => hf j (by omega) h6) ⟨hbn.2,fun b' hb' => hbm b' (Jn _ hb')⟩
  have hle:=hP.le
  have hn:=hf n (Jj _) (by omega)
  have hn1:(st.tbl.put (ZG (n + 1) cs).2.1) n = .fresh:=by simp [Z3.put,hP.out n (.inl (VB _)),hn]
  have hB:=hP.rel.adopt (n:=n) (v:=.pointer (some ⟨b,0,none⟩)) (.inl hn1) (y:=.box (ZG (n + 1) cs).1) hK (fun hσ => by
   simp only [RR]
   exact ⟨b,vs,U,by simp,h2,ZX.mono (Ext.refl _ _) hσ _ _ hK hA,h4⟩) (fun b' hb' => by
    simp [blk] at hb'; subst hb'
    refine ⟨(hbm b (Jm ..)).1,fun r hl hbr => ?_⟩
    rcases hP.lv r b hl hbr with ⟨h5,h6⟩ | h5
    ·exact (hbm b (Jm ..)).2 r h5 h6
    ·exact hbn.1 h5)
  refine ⟨_,⟨by rw [Yf]; exact hB,fun r hr => ?_,fun r hr => ?_,fun r b' hl hbr => ?_,by omega⟩,?_,?_⟩
  ·rw [Zg,if_neg (by omega)]; exact hP.out r (by omega)
  ·rw [if_neg (by intro e; subst e; exact hr hn)]; exact hP.old r hr
  ·by_cases e:r = n
   ·subst e; simp [blk] at hbr; subst hbr; exact .inr (Jm ..)
   ·rw [Qv,if_neg (Ne.symm e)] at hl
    simp only [e,if_false] at hbr
    rcases hP.lv r b' hl hbr with h5 | h5
    ·exact .inl h5
    ·exact .inr (Jn _ h5)
  ·simp only [RA]; exact ⟨b,by simp,rfl⟩
  ·intro r hr; simp [Zb] at hr; subst hr; rw [Qv]; simp
 | .agg cs,n,σ,st,v,bs,h,ht,hf,hb => by
  simp only [TT] at ht
  obtain ⟨vs,rfl,h3⟩:=ht
  simp only [put] at hf ⊢
  obtain ⟨σ1,hP,hA,hK⟩:=W8 cs n h h3 hf hb
  exact ⟨σ1,hP,by simp only [RA]; exact ⟨vs,rfl,hA⟩,by simpa [Zb] using hK⟩
 | .tup cs,n,σ,st,v,bs,h,ht,hf,hb => by
  simp only [TT] at ht
  obtain ⟨vs,rfl,h3⟩:=ht
  simp only [put] at hf ⊢
  obtain ⟨σ1,hP,hA,hK⟩:=W8 cs n h h3 hf hb
  exact ⟨σ1,hP,by simp only [RA]; exact ⟨vs,rfl,hA⟩,by simpa [Zb] using hK⟩
 | .fn f,n,σ,st,v,bs,h,ht,hf,hb => by
  simp only [TT] at ht
  simp only [put]
  exact ⟨σ,⟨by rw [Qo]; exact h,fun _ _ => rfl,fun _ _ => rfl,fun r b hl hb => .inl ⟨by rwa [Qo] at hl,hb⟩,Jj _⟩,by simp only [RA]; exact ht.1,Zo⟩
 | .ns t xs,n,σ,st,v,bs,h,ht,hf,hb => by
  simp only [TT] at ht
  simp only [put]
  exact ⟨σ,⟨by rw [Qo]; exact h,fun _ _ => rfl,fun _ _ => rfl,fun r b hl hb => .inl ⟨by rwa [Qo] at hl,hb⟩,Jj _⟩,by simp only [RA]; exact ht.1,Zo⟩
 | .vp t xs,n,σ,st,v,bs,h,ht,hf,hb => by
  simp only [TT] at ht
  simp only [put]
  exact ⟨σ,⟨by rw [Qo]; exact h,fun _ _ => rfl,fun _ _ => rfl,fun r b hl hb => .inl ⟨by rwa [Qo] at hl,hb⟩,Jj _⟩,by simp only [RA]; exact ht.1,Zo⟩
 | .clo f cs,n,σ,st,v,bs,h,ht,hf,hb => by
  simp only [TT] at ht
  obtain ⟨vs,rfl,h3⟩:=ht
  simp only [put] at hf ⊢
  obtain ⟨σ1,hP,hA,hK⟩:=W8 cs n h h3 hf hb
  exact ⟨σ1,hP,by simp only [RA]; exact ⟨vs,rfl,hA⟩,by simpa [Zb] using hK⟩
 | .bld m xs,n,σ,st,v,bs,h,ht,hf,hb => by
  simp only [TT] at ht
  obtain ⟨b,x,y,bs1,rfl,h2,h3,h4,h5,rfl⟩:=ht
  exact Zxh h h2 h3 h4 h5 hf hb
theorem W8:(xs:List RV) → (n:Nat) → {σ:WM} → {st:St} → {vs:List Value} → {bs:List Nat} → RelW G σ lim st tmps w → TTs w lim xs vs bs → (∀ j,n ≤ j → j < (ZG n xs).2.2 → st.tbl j = .fresh) → FB G σ st bs →
  ∃ σ',PutR G σ lim st tmps w n (ZG n xs).2.2 (ZG n xs).2.1 bs σ' ∧ ZX σ' w lim (ZG n xs).1 vs ∧ Zi (st.tbl.put (ZG n xs).2.1) (Zh (ZG n xs).1)
 | [],n,σ,st,vs,bs,h,ht,hf,hb => by
  match vs,ht with
  | [],_ =>
   simp only [ZG]
   exact ⟨σ,⟨by rw [Qo]; exact h,fun _ _ => rfl,fun _ _ => rfl,fun r b hl hb => .inl ⟨by rwa [Qo] at hl,hb⟩,Jj _⟩,by simp [ZX],Zo⟩
 | x :: xs,n,σ,st,vs,bs,h,ht,hf,hb => by
  match vs,ht with
  | v :: vs,ht =>
   simp only [TTs] at ht
   obtain ⟨b1,b2,rfl,h1,h2⟩:=ht
   simp only [ZG] at hf ⊢
   obtain ⟨hbn,hbm⟩:=hb
   rw [List.nodup_append] at hbn
   have hle2:(put n x).2.2 ≤ (ZG (put n x).2.2 xs).2.2:=WU xs _
   obtain ⟨σ1,hP,hA,hK⟩:=ZhV x n h h1 (fun j h5 h6 => hf j h5 (by omega)) ⟨hbn.1,fun b hb => hbm b (JG _ hb)⟩
   have hle1:=hP.le
   obtain ⟨σ2,hQ,hB,hL⟩:=W8 xs (put n x).2.2 (st:=⟨st.env,st.tbl.put (put n x).2.1⟩) hP.rel h2
    (fun j h5 h6 => by simp only [Z3.put]; rw [hP.out j (.inr h5)]; exact hf j (by omega) h6)
    ⟨hbn.2.1,fun b hb => ⟨(hbm b (JA _ hb)).1,fun r hl hbr => by
     rcases hP.lv r b hl hbr with ⟨h5,h6⟩ | h5
     ·exact (hbm b (JA _ hb)).2 r h5 h6
     ·exact hbn.2.2 b h5 b hb rfl⟩⟩
   have hkeep:Zi ((st.tbl.put (put n x).2.1).put (ZG (put n x).2.2 xs).2.1) (Zb (put n x).1):=by
    intro r hr hfr
    have h5:=hK r hr
    simp only [Z3.put] at hfr h5
    cases hl:Zu (ZG (put n x).2.2 xs).2.1 r with
    | none => rw [hl] at hfr; exact h5 hfr
    | some z =>
     rw [hl] at hfr; simp only at hfr; subst hfr
     exact Wf xs _ r hl
   refine ⟨σ2,⟨by rw [Ql]; exact hQ.rel,fun r hr => ?_,fun r hr => ?_,fun r b hl hbr => ?_,by omega⟩,?_,?_⟩
   ·have h5:=hP.out r (by omega)
    have h6:=hQ.out r (by omega)
    clear hf hL hB hQ hP hA hK hkeep
    revert h6
    generalize (ZG (put n x).2.2 xs).2.1 = V
    intro h6
    induction V with
    | nil => exact h5
    | cons p V ih => obtain ⟨i,z⟩:=p; rw [J1,Zg]; rw [Zg] at h6; split at h6 <;> simp_all
   ·have h5:(st.tbl.put (put n x).2.1) r ≠ .fresh:=by
     intro hfr
     simp only [Z3.put] at hfr
     cases hl:Zu (put n x).2.1 r with
     | none => rw [hl] at hfr; exact hr hfr
     | some z => rw [hl] at hfr; simp only at hfr; subst hfr; exact Zc9 x _ r hl
    exact (hQ.old r h5).trans (hP.old r hr)
   ·rw [Ql] at hl
    rcases hQ.lv r b hl hbr with ⟨h5,h6⟩ | h5
    ·rcases hP.lv r b h5 h6 with h7 | h7
     ·exact .inl h7
     ·exact .inr (JG _ h7)
    ·exact .inr (JA _ h5)
   ·simp only [ZX]
    exact ⟨RA.mono (T:=st.tbl.put (put n x).2.1) (Ext.refl _ _) hQ.old _ _ hK hA,hB⟩
   ·intro r hr
    simp only [Zh,Js] at hr
    rw [Ql]
    rcases hr with hr | hr
    ·exact hkeep r hr
    ·exact hL r hr
end
end Go.Sh
