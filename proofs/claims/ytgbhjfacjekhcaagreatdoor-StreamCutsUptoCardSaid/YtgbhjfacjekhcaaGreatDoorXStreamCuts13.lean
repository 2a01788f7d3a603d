/-
  What the row needs, part 13.
-/
import Derived.Test.YtgbhjfacjekhcaaGreatDoorXStreamCuts12
set_option linter.unusedSimpArgs false
set_option linter.unusedVariables false
set_option linter.unusedSectionVars false
namespace Go.Sh
open Go Go.Proofs
def Zjh (n:Nat):List Int → List Bool → List (List Int) → List (List Int) × Int × List Bool
 | [],r,acc => (acc,0,r)
 | d :: ds,r,acc => if (QT n d.toNat r).2.1 ≠ 0 then ([],(QT n d.toNat r).2.1,(QT n d.toNat r).2.2) else Zjh n ds (QT n d.toNat r).2.2 (acc ++ [(QT n d.toNat r).1])
abbrev RdR:=(Int × List (List Int)) × Int × Int
def ZJr (c d r num:Int) (pos:Nat) (out:List (List Int)):RdR:=if Ym c d r num out ≠ 0 then ((0,[]),0,Ym c d r num out) else ((num,out),((pos / 8:Nat):Int),0)
def ZBn (c d r num:Int) (pos:Nat) (m:Int) (A B:List Int):RdR:=if (Q4 m A B).2 ≠ 0 then ((0,[]),0,(Q4 m A B).2) else ZJr c d r num pos [ZhT m A B,ZhU m A B]
def ZN3 (c d r:Int) (b:List Int) (mode num:Nat) (chs:List (List Int)) (rr:List Bool):RdR :=
 if (ZhS Zcj b 16 ((alS rr).2,(alS rr).1)).2 ≠ 0 then ((0,[]),0,(ZhS Zcj b 16 ((alS rr).2,(alS rr).1)).2)
 else if 1 < c then ZBn c d r num (ZV b (ZhS Zcj b 16 ((alS rr).2,(alS rr).1)).1) (if mode = 1 then 0 else mode) (chs.getD 0 []) (chs.getD 1 [])
 else ZJr c d r num (ZV b (ZhS Zcj b 16 ((alS rr).2,(alS rr).1)).1) chs
def ZCc (c d r:Int) (b:List Int) (h:HdT):RdR :=
 if h.2.2.2.2 ≠ 0 then ((0,[]),0,h.2.2.2.2)
 else if (Zjh h.2.2.1 (Qe c d h.1) h.2.2.2.1 []).2.1 ≠ 0 then ((0,[]),0,(Zjh h.2.2.1 (Qe c d h.1) h.2.2.2.1 []).2.1)
 else ZN3 c d r b h.1 h.2.1 (Zjh h.2.2.1 (Qe c d h.1) h.2.2.2.1 []).1 (Zjh h.2.2.1 (Qe c d h.1) h.2.2.2.1 []).2.2
def ZBq (c d r:Int) (b:List Int):RdR:=if Zei c d r = false then ((0,[]),0,2) else ZCc c d r b (ZbN c b (Qo b,0))
def ZvF (x:RdR):((Int × List (List Int) × Unit) × Int × Int × Unit) × Unit:=(((x.1.1,x.1.2,()),x.2.1,x.2.2,()),())
theorem ZBH {n d:Nat} {r:List Bool} (h:(QT n d r).2.1 = 0):(QT n d r).1.length ≤ 520 ∧ d ≤ 25 ∧ ∀ x ∈ (QT n d r).1,Xl x d = true:=by
 unfold QT at h ⊢
 split at h
 ·simp at h
 ·rename_i h1
  rw [if_neg h1]
  have h1:1 ≤ n ∧ n ≤ 512 ∧ 4 ≤ d ∧ d ≤ 25:=by simpa using h1
  have hz:=ZlW (d:=d) (s:=(r,0))
  generalize ZU d (r,0) = hd at h hz ⊢
  obtain ⟨kind,kk,s1⟩:=hd
  simp only at h hz ⊢
  split at h
  ·rename_i h2; exact absurd h h2
  ·rename_i h2
   rw [if_neg h2]
   obtain ⟨hkd,hkind⟩:=hz (by simpa using h2)
   have hl:=ZtQ (kind:=kind) (n:=n) (d:=d - kk) (s:=s1) hkind
   generalize WV kind n (d - kk) s1 = y at h hl ⊢
   split at h
   ·rename_i h3; exact absurd h h3
   ·rename_i h3
    rw [if_neg h3]
    split at h
    ·rename_i h4
     rw [if_pos h4]
     refine ⟨by simp; omega,by omega,fun x hx => ?_⟩
     obtain ⟨z,hz,rfl⟩:=List.mem_map.1 hx
     exact (ZGE hkd (by omega) (List.all_eq_true.1 h4 z hz)).1
    ·simp at h
theorem ZnM {x:Int} (h:YU x = true):Qm x:=by
 unfold YU at h
 rw [decide_eq_true_eq] at h
 exact h
abbrev ZWr:=((Int × List (List Int) × Unit) × Int × Int × Unit) × Unit
theorem ZFf (k:Nat) (hk:1000 < k) (c d r num:Int) (out:List (List Int)) {b:List Int} (hn:b.length < 268435456) (rr:List Bool) :
  ((ZhY k ((c,d,r,()),(num,out,()),())).bind fun y_3 => bif y_3.1 != (0:Int) then some (((((0:Int),[],()),0,y_3.1,()),()):ZWr) else (K0 k ((b,((ZV b rr:Nat):Int),()),())).bind fun y => some (((num,out,()),IntKind.i64.wrap (Int.tdiv y.1 (8:Int)),0,()),())) = some (ZvF (ZJr c d r num (ZV b rr) out)):=by
 refine (Zm (ZAn k c d r num out (by omega)) _).trans ?_
 unfold ZJr
 simp only
 rw [ZI]
 by_cases h:Ym c d r num out = 0
 ·rw [Zj (by simpa using h),if_neg (by simpa using h)]
  have e51:K0 k ((b,((ZV b rr:Nat):Int),()),()) = some (((ZV b rr:Nat):Int),KK b rr,()):=rfl
  refine (Zm e51 _).trans ?_
  have hp:ZV b rr ≤ 8 * b.length:=by unfold ZV; omega
  simp only
  rw [ZvY,Qi (n:=((ZV b rr / 8:Nat):Int)) (by omega)]
  rfl
 ·rw [Zc h,if_pos h]
  rfl
theorem ZAi (k:Nat) (hk:2000 < k) (c d r num:Int) {A B:List Int} {m:Int} (hm:Zlz m) (hA:A.length ≤ 520 ∧ ∀ x ∈ A,Qx x) (hB:B.length ≤ 520 ∧ ∀ x ∈ B,Qx x) {b:List Int} (hn:b.length < 268435456) (rr:List Bool) :
  ((Zr6 k (A,B,m,())).bind fun y_1 => bif y_1.1.2.1 != (0:Int) then some (((((0:Int),[],()),0,y_1.1.2.1,()),()):ZWr) else (Zr8 k (y_1.1.1,())).bind fun y_2 => bif y_2.1.2.2.1 != (0:Int) then some ((((0:Int),[],()),0,y_2.1.2.2.1,()),()) else (ZhY k ((c,d,r,()),(num,[y_2.1.1,y_2.1.2.1],()),())).bind fun y_3 => bif y_3.1 != (0:Int) then some ((((0:Int),[],()),0,y_3.1,()),()) else (K0 k ((b,((ZV b rr:Nat):Int),()),())).bind fun y => some (((num,[y_2.1.1,y_2.1.2.1],()),IntKind.i64.wrap (Int.tdiv y.1 (8:Int)),0,()),())) =
   some (ZvF (ZBn c d r num (ZV b rr) m A B)):=by
 refine (Zm (ZNu k hm (by omega) (by omega) hA.2 hB.2) _).trans ?_
 unfold ZBn
 have key:(Q4 m A B).2 = 0 → A.length = B.length ∧ (Q4 m A B).1 = ZfS (ZhT m A B) (ZhU m A B) ∧ ((ZhT m A B).zip (ZhU m A B)).all (fun x => YU x.1 && YU x.2) = true:=by
  unfold Q4
  split
  ·intro h; simp at h
  ·rename_i h1
   split
   ·rename_i h2; exact fun _ => ⟨by simpa using h1,rfl,h2⟩
   ·intro h; simp at h
 simp only
 rw [ZI]
 by_cases h:(Q4 m A B).2 = 0
 ·rw [Zj (by simpa using h),if_neg (by simpa using h)]
  obtain ⟨hl,e1,e2⟩:=key h
  have hLl:(ZhT m A B).length = A.length:=by unfold ZhT; rw [List.length_map,List.length_zip]; omega
  have hRl:(ZhU m A B).length = A.length:=by unfold ZhU; rw [List.length_map,List.length_zip]; omega
  generalize ZhT m A B = L at e1 e2 hLl ⊢
  generalize ZhU m A B = R at e1 e2 hRl ⊢
  have hsm:(∀ x ∈ L,Qm x) ∧ ∀ x ∈ R,Qm x:=by
   have hall:=List.all_eq_true.1 e2
   constructor
   ·intro x hx
    obtain ⟨i,hi,rfl⟩:=List.getElem_of_mem hx
    have:=hall ((L.zip R)[i]'(by rw [List.length_zip]; omega)) (List.getElem_mem _)
    rw [List.getElem_zip,Bool.and_eq_true] at this
    exact ZnM this.1
   ·intro x hx
    obtain ⟨i,hi,rfl⟩:=List.getElem_of_mem hx
    have:=hall ((L.zip R)[i]'(by rw [List.length_zip]; omega)) (List.getElem_mem _)
    rw [List.getElem_zip,Bool.and_eq_true] at this
    exact ZnM this.2
  have hpp:=ZBb (show L.length = R.length by omega) hsm.1 hsm.2
  rw [e1]
  have hjl:(ZfS L R).length ≤ 520:=by rw [hpp.hl]; omega
  refine (Zm (ZNv k hpp (by omega) (by omega)) _).trans ?_
  simp only
  rw [show ((0:Int) != 0) = false from rfl]
  simp only [cond_false]
  exact ZFf k (by omega) c d r num [L,R] hn rr
 ·rw [Zc h,if_pos h]
  rfl
theorem ZCy (c d m:Int):(Qe c d m).length ≤ 2 ∧ (c ≠ 1 → (Qe c d m).length = 2) ∧ ((1 ≤ d ∧ d ≤ 24) → ∀ x ∈ Qe c d m,1 ≤ x):=by
 unfold Qe
 split
 ·exact ⟨by simp,fun h => by omega,fun h x hx => by simp at hx; omega⟩
 ·split
  ·exact ⟨by simp,fun h => by simp,fun h x hx => by simp at hx; omega⟩
  ·split
   ·exact ⟨by simp,fun h => by simp,fun h x hx => by simp at hx; omega⟩
   ·exact ⟨by simp,fun h => by simp,fun h x hx => by simp at hx; omega⟩
theorem ZLQ (k:Nat) {b:List Int} (hb:ZW b = true) (hn:b.length < 268435456) (hk:8 * b.length + 50000 < k) {c d r:Int} (hc:c = 1 ∨ c = 2) {mode num n:Nat} (hm:Zeu c mode = true) (ds:List Int) (hd:∀ x ∈ ds,1 ≤ x) (hdl:ds.length ≤ 2) (hdl2:c ≠ 1 → ds.length = 2) (zz:Int) :
  ∀ (e j i:Nat) (rr:List Bool) (acc:List (List Int)),e < j → i + e = ds.length → acc.length = i → Zo b rr → (∀ l ∈ acc,l.length ≤ 520 ∧ ∀ x ∈ l,Qx x) →
  Zn (fun L1 => Ze5 k L1) j (((ds.length:Nat):Int),(i:Int),ds,(n:Int),(mode:Int),b,(0:Int),b,((ZV b rr:Nat):Int),zz,(num:Int),acc,c,d,r) =
   some (ZvF (if (Zjh n (ds.drop i) rr acc).2.1 ≠ 0 then ((0,[]),0,(Zjh n (ds.drop i) rr acc).2.1) else ZN3 c d r b mode num (Zjh n (ds.drop i) rr acc).1 (Zjh n (ds.drop i) rr acc).2.2)):=by
 intro e
 induction e with
 | zero =>
  intro j i rr acc hj hi ha hr hacc
  obtain ⟨j,rfl⟩:=ZC hj
  rw [Zg]
  simp only [Ze5]
  rw [Zj (by omega),List.drop_eq_nil_of_le (by omega)]
  show _ = some (ZvF (if (0:Int) ≠ 0 then _ else ZN3 c d r b mode num acc rr))
  rw [if_neg (by simp)]
  refine (Zm (ZNr k hb (by omega) hr (by omega)) _).trans ?_
  refine (Zm (ZCE k hb hn (by omega) (s:=((alS rr).2,(alS rr).1)) (ZJY hr) (w:=16) (by omega)) _).trans ?_
  unfold ZN3
  generalize ZhS Zcj b 16 ((alS rr).2,(alS rr).1) = s
  simp only
  rw [ZI]
  by_cases h:s.2 = 0
  ·rw [Zj (by simpa using h),if_neg (by simpa using h)]
   rcases hc with rfl | rfl
   ·rw [Zj (by omega),if_neg (by omega)]
    exact ZFf k (by omega) 1 d r num acc hn s.1
   ·rw [Zc (by omega),if_pos (by omega)]
    have hlen:acc.length = 2:=by have:=hdl2 (by omega); omega
    match acc,hlen,hacc with
    | [A,B],_,hacc =>
     have hA:=hacc A (by simp)
     have hB:=hacc B (by simp)
     have p1:(0:Int) ≤ 0 ∧ (0:Int) < Int.ofNat [A,B].length:=by simp
     have p2:0 < [A,B].length:=by simp
     have p3:(0:Int) ≤ 1 ∧ (1:Int) < Int.ofNat [A,B].length:=by simp
     have p4:1 < [A,B].length:=by simp
     have hmd:Zlz (if mode = 1 then 0 else (mode:Int)):=by
      unfold Zeu at hm
      rw [if_neg (by omega)] at hm
      simp only [Bool.or_eq_true,beq_iff_eq,Bool.and_eq_true,decide_eq_true_eq] at hm
      unfold Zlz
      split <;> omega
     rw [Zc p1,Zc p2,Zc p3,Zc p4,Zc p1,Zc p2,Zc p3,Zc p4,show ((mode:Int) == (1:Int)) = (mode == 1) from Wt _ 1]
     by_cases h1:mode = 1
     ·rw [show (mode == 1) = true from by simp [h1]]
      rw [if_pos h1] at hmd ⊢
      exact ZAi k (by omega) 2 d r num hmd hA hB hn s.1
     ·rw [show (mode == 1) = false from by simp [h1]]
      rw [if_neg h1] at hmd ⊢
      exact ZAi k (by omega) 2 d r num hmd hA hB hn s.1
  ·rw [Zc h,if_pos h]
   rfl
 | succ e ih =>
  intro j i rr acc hj hi ha hr hacc
  obtain ⟨j,rfl⟩:=ZC (show 0 < j by omega)
  rw [Zg]
  simp only [Ze5]
  have hil:i < ds.length:=by omega
  rw [Zc (by omega),Zc (by simp only [Qz]; omega),Xm,Q3 hil,List.drop_eq_getElem_cons hil]
  have hdi:=hd ds[i] (List.getElem_mem hil)
  have hde:ds[i] = ((ds[i].toNat:Nat):Int):=by omega
  have e46:=ZNo k hb hn hk hr n ds[i].toNat
  rw [← hde] at e46
  refine (Zm e46 _).trans ?_
  unfold Zjh
  have hok:=ZBH (n:=n) (d:=ds[i].toNat) (r:=rr)
  have hrr:=ZtN hr n ds[i].toNat
  generalize QT n ds[i].toNat rr = q at hok hrr ⊢
  simp only
  rw [ZI]
  by_cases h:q.2.1 = 0
  ·rw [Zj (by simpa using h),Zc (by simp only [List.length_singleton]; omega)]
   have e2:IntKind.i64.wrap ((i:Int) + 1) = ((i + 1:Nat):Int):=by rw [Qi (by omega)]; rfl
   rw [e2]
   obtain ⟨o1,o2,o3⟩:=hok h
   have:=ih j (i + 1) q.2.2 (acc ++ [q.1]) (by omega) (by omega) (by simp; omega) hrr (by
    intro l hl
    rcases List.mem_append.1 hl with hl | hl
    ·exact hacc l hl
    ·rw [List.mem_singleton.1 hl]
     refine ⟨o1,fun x hx => ?_⟩
     have:=o3 x hx
     unfold Xl at this
     unfold Qx
     split at this
     ·simp only [decide_eq_true_eq] at this; omega
     ·rw [decide_eq_true_eq,WC] at this
      have h24:2 ^ (ds[i].toNat - 1) ≤ 2 ^ 24:=Nat.pow_le_pow_right (by omega) (by omega)
      generalize 2 ^ (ds[i].toNat - 1) = Q at this h24
      omega)
   refine this.trans ?_
   simp only [if_neg (show ¬ q.2.1 ≠ 0 from fun hh => hh h)]
  ·rw [Zc h]
   simp only [if_pos h]
   rfl
theorem ZEi {c:Int} {b:List Int} {s:IS} (h:(ZbN c b s).2.2.2.2 = 0):Zeu c (ZbN c b s).1 = true:=by
 unfold ZbN Zyh ZOg ZOh Zyi at h ⊢
 generalize (hd3 (hd2 (hd1 s))).1 = kind at h ⊢
 generalize hd4 (hd3 (hd2 (hd1 s))).2 = s3 at h ⊢
 simp only at h ⊢
 have h0:(hd6 kind (ZlE b (hd4 (hd5 c s3).2)).2).2.2 = 0:=by
  unfold ZhS at h
  split at h
  ·rename_i h1; exact absurd h h1
  ·exact Zyg ((ZbQ (by decide)).1 h).1
 have h1:(ZlE b (hd4 (hd5 c s3).2)).2.2 = 0:=by
  unfold hd6 at h0
  split at h0
  ·rename_i hh; exact hh
  ·exact h0
 exact (ZA5 (Zst (ZvC h1))).2
theorem ZLR (k:Nat) (c d r:Int) {b:List Int} (hb:ZW b = true) (hn:b.length < 268435456) (hk:8 * b.length + 50000 < k):ZuE k ((c,d,r,()),b,()) = some (ZvF (ZBq c d r b)):=by
 show ZjL k (Zxa k) _ = _
 simp only [ZjL]
 rw [ZzH k c d r]
 simp only [Z1]
 unfold ZBq
 cases hs:Zei c d r with
 | false => rfl
 | true =>
  have hsh:=of_decide_eq_true hs
  simp only [if_true,Bool.true_eq_false,if_false]
  rw [show ((0:Int) != 0) = false from rfl]
  simp only [cond_false]
  have e44:Zr5 k (b,()) = some (inp b (Qo b,0) |>.2.1,()):=by
   show ZkX k _ = _
   simp only [ZkX]
   have:Zlc k (b,()) = some (b,()):=by show YN _ = _; unfold YN; rw [Zc (by simp only; omega)]
   rw [this]
   have hp:ZV b (Qo b) = 0:=by unfold ZV; rw [Qw]; omega
   simp only [Z1]
   show some ((b,((0:Nat):Int),()),()) = some ((b,((ZV b (Qo b):Nat):Int),()),())
   rw [hp]
  refine (Zm e44 _).trans ?_
  refine (Zm (ZNl k hb hn (by omega) (s:=(Qo b,0)) (ZBs b) c d r) _).trans ?_
  unfold ZCc
  have hmode:=ZEi (c:=c) (b:=b) (s:=(Qo b,0))
  have hrest:Zo b (ZbN c b (Qo b,0)).2.2.2.1:=by
   unfold ZbN Zyh ZOg ZOh Zyi
   exact ZJF (ZOf (ZvB (QE (QJ (QE (QJ (QE (QJ (QE (QJ (QE (QJ (QE (QJ (ZBs b) _) _ _) _) _ _) _) _ _) _) _ _) _) _ _) _) _ _)) _) _
  generalize ZbN c b (Qo b,0) = h at hmode hrest ⊢
  obtain ⟨mode,num,n,s⟩:=h
  simp only at hmode hrest ⊢
  rw [ZI]
  by_cases he:s.2 = 0
  ·rw [Zj (by simpa using he),if_neg (by simpa using he)]
   have hm:=hmode he
   have hc:c = 1 ∨ c = 2:=by omega
   have hcm:c = 1 ∧ (mode:Int) = 0 ∨ c = 2:=by
    rcases hc with rfl | rfl
    ·unfold Zeu at hm
     rw [if_pos rfl,beq_iff_eq] at hm
     exact .inl ⟨rfl,by omega⟩
    ·exact .inr rfl
   refine (Zm (ZAu k (c:=c) (d:=d) (r:=r) (m:=(mode:Int)) hcm (by omega)) _).trans ?_
   have hdl:=ZCy c d mode
   have:=ZLQ k hb hn hk (c:=c) (d:=d) (r:=r) hc (mode:=mode) (num:=num) (n:=n) hm (Qe c d mode) (hdl.2.2 (by omega)) hdl.1 hdl.2.1 0 (Qe c d mode).length k 0 s.1 [] (by omega) (by omega) rfl hrest (by simp)
   rw [List.drop_zero] at this
   simp only
   rw [he]
   exact this
  ·rw [Zc he,if_pos he]
   rfl
end Go.Sh
namespace Go.Sh
open Go Go.Proofs
def Sm (ch:List (List Int)):Prop:=ch.length ≤ 1048576 ∧ ∀ l ∈ ch,l.length ≤ 1048576
theorem ZKd:∀ (a b c d e f g h:Bool) (j:Fin 8),(a.toNat * 128 + b.toNat * 64 + c.toNat * 32 + d.toNat * 16 + e.toNat * 8 + f.toNat * 4 + g.toNat * 2 + h.toNat).testBit (7 - j.val) = [a,b,c,d,e,f,g,h].getD j.val false:=by decide +kernel
theorem ZGX (f:Nat → Bool) {j:Nat} (hj:j < 8):(Y9 f).testBit (7 - j) = f j:=by
 have:=ZKd (f 0) (f 1) (f 2) (f 3) (f 4) (f 5) (f 6) (f 7) ⟨j,hj⟩
 simp only at this
 unfold Y9
 rw [this]
 match j,hj with
 | 0,_ => rfl
 | 1,_ => rfl
 | 2,_ => rfl
 | 3,_ => rfl
 | 4,_ => rfl
 | 5,_ => rfl
 | 6,_ => rfl
 | 7,_ => rfl
theorem ZCk {B:List Bool} (h:B.length % 8 = 0):Qo (ZM B) = B:=by
 have hl:(ZM B).length = B.length / 8:=by rw [Qf]; omega
 apply List.ext_getElem
 ·rw [Qw,hl]; omega
 ·intro i h1 h2
  rw [Zl8 (by rw [hl]; omega),Yc,Int.toNat_natCast]
  unfold Wb
  rw [ZGX _ (Nat.mod_lt _ (by omega)),show 8 * (i / 8) + i % 8 = i by omega,Q3 h2]
theorem ZKf:∀ x:Fin 256,Y9 (fun j => x.val.testBit (7 - j)) = x.val:=by decide +kernel
theorem ZiR {b:List Int} (h:ZW b = true):ZM (Qo b) = b:=by
 apply List.ext_getElem
 ·rw [Qf,Qw]; omega
 ·intro i h1 h2
  obtain ⟨x,hx,hxe⟩:=ZaN h h2
  rw [Yc,hxe]
  have:Wb (Qo b) i = Y9 (fun j => x.testBit (7 - j)):=by
   have key:∀ j,j < 8 → (Qo b).getD (8 * i + j) false = x.testBit (7 - j):=by
    intro j hj
    rw [Q3 (by rw [Qw]; omega),Zl8 (by omega)]
    have:(8 * i + j) / 8 = i:=by omega
    simp only [this,hxe,Int.toNat_natCast]
    congr 1
    omega
   unfold Wb Y9
   simp only
   rw [key 0 (by omega),key 1 (by omega),key 2 (by omega),key 3 (by omega),key 4 (by omega),key 5 (by omega),key 6 (by omega),key 7 (by omega)]
  rw [this]
  have:=ZKf ⟨x,hx⟩
  simp only at this
  rw [this]
theorem ZEy (B:List Bool):(XU B).length % 8 = 0 ∧ (XU B).length = B.length + Zai B.length:=by
 unfold XU
 rw [List.length_append,List.length_replicate]
 unfold Zai
 omega
theorem ZCx (B:List Bool):(Yn B).length % 8 = 0 ∧ (Yn B).length = B.length + Zai B.length + 16:=by
 have:=ZEy B
 unfold Yn
 rw [List.length_append,Zk]
 omega
theorem Zwg (c a w:Nat):Zb c (a + w) = Zb (c / 2 ^ w) a ++ Zb c w:=by
 induction a with
 | zero => simp [Zb]
 | succ a ih =>
  rw [show a + 1 + w = (a + w) + 1 by omega]
  simp only [Zb,List.cons_append]
  rw [ih,Nat.testBit_div_two_pow]
end Go.Sh
namespace Go.Sh
open Go Go.Proofs
theorem ZBZ (c d r n:Int) (ch:List (List Int)):ZW (Y8 c d r n ch).1 = true:=by
 unfold Y8
 split
 ·exact Kv _
 ·rfl
theorem ZJM (c d r n:Int) (ch:List (List Int)):(Y8 c d r n ch).1.length ≤ 5000:=by
 unfold Y8
 split
 ·rename_i h
  obtain ⟨hs,hn,hc,hlen,hsg⟩:=ZaO h
  obtain ⟨hlay,_,_⟩:=ZEm h
  have h2:1 ≤ (ch.headD []).length ∧ (ch.headD []).length ≤ 512:=by
   have:0 < ch.length:=by omega
   match ch,this with
   | l :: _,_ => exact (hlen l (by simp)).2
  have h1:=ZpT hlay h2.1 h2.2 (by omega) (by omega)
  have h3:=ZbW (YX ch).2.toNat n.toNat (ch.headD []).length
  have h4:=ZtW n.toNat
  have h5:=ZfT (ch.headD []).length
  have h6:=ZCx (Qs (YX ch).2.toNat n.toNat (ch.headD []).length ++ Qh (YX ch).1 (Qe c d (YX ch).2))
  have h7:Zai (Qs (YX ch).2.toNat n.toNat (ch.headD []).length ++ Qh (YX ch).1 (Qe c d (YX ch).2)).length < 8:=by unfold Zai; omega
  simp only
  rw [Qf]
  rw [List.length_append] at h6 h7
  unfold Qs at h6 h7 ⊢
  rw [List.length_append,Zk] at h6 h7
  omega
 ·simp
end Go.Sh
namespace Go.Sh
open Go Go.Proofs
def QO (ch:List (List Int)) (size i:Nat):List (List Int):=ch.map fun c => (c.take ((i + 1) * size)).drop (i * size)
def Xo (n size:Nat):Nat:=(n + size - 1) / size
def Zyf (c d r:Int) (ch:List (List Int)) (size i:Nat):List Int:=(Y8 c d r (i:Int) (QO ch size i)).1
def Zn6 (c d r:Int) (ch:List (List Int)) (size:Nat):List (List Int):=(List.range (Xo (ch.getD 0 []).length size)).map (Zyf c d r ch size)
theorem ZaG {n size i:Nat} (hs:1 ≤ size):i < Xo n size ↔ i * size < n:=by
 unfold Xo
 rw [Nat.lt_div_iff_mul_lt (by omega)]
 omega
theorem Zc3 {n size:Nat} (hs:16 ≤ size) (hn:n ≤ 4096):Xo n size ≤ 256:=by
 rcases Nat.lt_or_ge 256 (Xo n size) with h | h
 ·have:=(ZaG (by omega)).1 h
  omega
 ·exact h
theorem ZWc {d:Int} {x:Int} (hd:4 ≤ d) (h:Zta d x = true):Xl x d.toNat = true:=by
 unfold Zta at h
 unfold Xl
 rw [if_neg (by omega)]
 have h:=of_decide_eq_true h
 rw [show d.toNat - 1 = (d - 1).toNat by omega]
 exact Xe h
theorem Znu {c d r:Int} {tags:List ByteArray} {ch:List (List Int)} (h0:chk c d r tags ch = 0) {size i:Nat} (hs:16 ≤ size ∧ size ≤ 512) (hi:i * size < (ch.getD 0 []).length):Ym c d r (i:Int) (QO ch size i) = 0:=by
 obtain ⟨hg,hshape,hsg,-,-⟩:=ZaP h0
 have hsh:=of_decide_eq_true hshape
 generalize (ch.getD 0 []).length = n at *
 have hlen:∀ x ∈ ch,((x.take ((i + 1) * size)).drop (i * size)).length = min size (n - i * size):=by
  intro x hx
  rw [List.length_drop,List.length_take,hg.len x hx,Nat.add_mul]; omega
 have hn4:=hg.n4
 have hi4:i ≤ 4096:=by
  have:i * 1 ≤ i * size:=Nat.mul_le_mul_left i (by omega)
  omega
 unfold Ym
 rw [if_neg (by rw [show Zei c d r = true from hshape]; simp),if_neg (by rw [show (QO ch size i).length = ch.length by simp [QO]]; have:=hg.cl; omega)]
 have hc1:=hg.c1.1
 have hhead:((QO ch size i).headD []).length = min size (n - i * size):=by
  match ch,hc1,hlen with
  | x :: l,_,hlen => exact hlen x (List.mem_cons_self ..)
 rw [hhead]
 have h1:(QO ch size i).all (ZiK (min size (n - i * size))) = true:=by
  rw [List.all_eq_true]
  intro y hy
  obtain ⟨x,hx,rfl⟩:=List.mem_map.1 hy
  exact Xe ⟨hlen x hx,by omega,by omega⟩
 have h2:(QO ch size i).all (fun l => l.all fun x => Xl x d.toNat) = true:=by
  rw [List.all_eq_true]
  intro y hy
  obtain ⟨x,hx,rfl⟩:=List.mem_map.1 hy
  rw [List.all_eq_true]
  intro z hz
  exact ZWc (by omega) (List.all_eq_true.1 (hsg x hx) z (List.mem_of_mem_take (List.mem_of_mem_drop hz)))
 rw [h1,h2]
 rfl
section prog
variable {k:Nat} {c d r:Int} {tags:List ByteArray} {ch:List (List Int)}
theorem ZDw (hk:100 ≤ k) {n size i:Nat} (hg:Good0 c d ch n) (hs:16 ≤ size ∧ size ≤ 512) (hi:i * size < n) :
  Zke k (((c,d,r,()),tags,ch,()),(i:Int),(size:Int),()) = some (((i:Int),QO ch size i,()),()):=by
 have hn4:=hg.n4
 have hc2:=hg.c1.2
 have hi4:i ≤ 4096:=by
  have:i * 1 ≤ i * size:=Nat.mul_le_mul_left i (by omega)
  omega
 have key:=QG (A:=Unit) (step:=fun L1 => Za3 k L1) (fun j _ => (Int.ofNat ch.length,Int.ofNat j,ch,(i:Int),(size:Int),(i:Int),(QO ch size i).take j,(0:Int))) ch (fun _ _ => some (((i:Int),QO ch size i,()),()))
  (fun L _ => by
   simp only [Za3]
   rw [Zj (QW _),List.take_of_length_le (by simp [QO])])
  (fun L j hj _ hL => by
   simp only [Za3]
   have hl:=hg.len _ (List.getElem_mem hj)
   have e1:IntKind.i64.wrap ((i:Int) * (size:Int)) = ((i * size:Nat):Int):=by rw [← Int.natCast_mul,ZJf (by omega)]
   have hq:(i + 1) * size ≤ 4096 + 512:=by rw [Nat.add_mul]; omega
   have e2:IntKind.i64.wrap (IntKind.i64.wrap ((i:Int) + 1) * (size:Int)) = (((i + 1) * size:Nat):Int):=by rw [ZPh (by omega),← Int.natCast_mul,ZJf (by omega)]
   rw [Zc (K7 hj),Zc (XW hj),ZK hj,hl,e1,e2]
   have hqq:(i + 1) * size = i * size + size:=by rw [Nat.add_mul]; omega
   have e3:(if Int.ofNat n < (((i + 1) * size:Nat):Int) then Int.ofNat n else (((i + 1) * size:Nat):Int)) = ((min n ((i + 1) * size):Nat):Int):=by
    simp only [Qz]
    split <;> omega
   rw [e3,Zc (by simp only [Qz]; omega)]
   simp only [Xm]
   have e4:List.drop (i * size) (List.take (min n ((i + 1) * size)) ch[j]) = (QO ch size i)[j]'(by simp [QO]; exact hj):=by
    simp only [QO,List.getElem_map]
    congr 1
    rcases Nat.le_total n ((i + 1) * size) with h | h
    ·rw [Nat.min_eq_left h,List.take_of_length_le (by omega),List.take_of_length_le (by omega)]
    ·rw [Nat.min_eq_right h]
   simp only [e4]
   rw [Zc (by rw [List.length_take]; simp; omega),Qk hj (by omega)]
   rw [show (QO ch size i).take j ++ [(QO ch size i)[j]'(by simp [QO]; exact hj)] = (QO ch size i).take (j + 1) from (List.take_succ_eq_append_getElem _).symm]
   exact hL ()) k 0 () (by omega) (by omega)
 exact key
theorem Zq2 (hk:16777216 ≤ k) (hS:Small tags ch) (s:Int):Zhp k (((c,d,r,()),tags,ch,()),s,()) =
  if chk c d r tags ch = 0 then (if 16 ≤ s ∧ s ≤ 512 then some ((Zn6 c d r ch s.toNat,0,()),()) else some (([],1,()),())) else some (([],chk c d r tags ch,()),()):=by
 show ZdL k _ _ = _
 simp only [ZdL]
 rw [ZqZ hk hS]
 simp only [Z1]
 by_cases h0:chk c d r tags ch = 0
 ·rw [if_pos h0,h0,ZI,Zj (by simp)]
  by_cases h1:s < 16
  ·rw [Zc h1,if_neg (by omega)]
  rw [Zj h1]
  by_cases h2:512 < s
  ·rw [Zc h2,if_neg (by omega)]
  rw [Zj h2,if_pos (by omega)]
  obtain ⟨size,rfl⟩:=Int.eq_ofNat_of_zero_le (show 0 ≤ s by omega)
  have hs:16 ≤ size ∧ size ≤ 512:=by omega
  obtain ⟨hg,-⟩:=ZaP h0
  have hn4:=hg.n4
  generalize hn:(ch.getD 0 []).length = n at hg hn4
  have hfr:=Zc3 hs.1 hn4
  have key:=Zw (A:=List (List Int)) (step:=fun L1 => ZaY k L1) (fun i a => (Int.ofNat i,(size:Int),c,d,r,tags,ch,a)) (List.range (Xo n size))
   (fun rest a => some ((a ++ rest.map (Zyf c d r ch size),0,()),())) (fun i a => a.length = i)
   (fun L a _ => by
    simp only [ZaY,List.length_range]
    rw [Yp,hn]
    simp only [Z1]
    have hge:n ≤ Xo n size * size:=by
     have:=(ZaG (n:=n) (i:=Xo n size) (by omega:1 ≤ size)).2
     rcases Nat.lt_or_ge (Xo n size * size) n with h | h
     ·exact absurd (this h) (Nat.lt_irrefl _)
     ·exact h
    have hle:Xo n size * size ≤ 256 * 512:=Nat.mul_le_mul hfr hs.2
    rw [show Int.ofNat (Xo n size) * (size:Int) = ((Xo n size * size:Nat):Int) by simp,ZJf (by omega),Zj (by simp only [Qz]; omega)]
    simp)
   (fun L i hi a hI hL => by
    rw [List.length_range] at hi
    have hlt:=(ZaG (by omega:1 ≤ size)).1 hi
    simp only [ZaY]
    rw [Yp,hn]
    simp only [Z1]
    rw [show Int.ofNat i * (size:Int) = ((i * size:Nat):Int) by simp,ZJf (by omega),Zc (by simp only [Qz]; omega)]
    rw [show Int.ofNat i = (i:Int) from rfl,ZDw (by omega) hg hs hlt]
    simp only [Z1]
    refine (Zm (ZLn k (by omega) c d r (i:Int) (QO ch size i)) _).trans ?_
    have hck:=Znu h0 (size:=size) (i:=i) hs (by rw [hn]; exact hlt)
    have he:(Y8 c d r (i:Int) (QO ch size i)).2 = 0:=by unfold Y8; rw [if_pos hck]
    simp only [he]
    rw [ZI,Zj (by simp),Zc (by simp; omega),show IntKind.i64.wrap ((i:Int) + 1) = Int.ofNat (i + 1) from Qk hi (by omega)]
    refine Eq.trans (hL (a ++ [Zyf c d r ch size i]) (by simp [hI])) ?_
    simp only [List.getElem_range,List.map_cons,List.append_assoc,List.singleton_append])
   k 0 [] rfl (by rw [List.length_range]; omega) (by omega)
  rw [List.drop_zero,List.nil_append] at key
  refine Eq.trans key ?_
  simp only [Xm,Zn6,hn]
 ·rw [if_neg h0,ZI,Zc h0]
end prog
end Go.Sh
namespace Go.Sh
open Go Go.Proofs
theorem ZmZ {α:Type} {l:List (List α)} {i:Nat} (hi:i < l.length):(l.take (i + 1)).flatten = (l.take i).flatten ++ l[i]:=by
 rw [List.take_succ_eq_append_getElem hi,List.flatten_append]; simp
theorem Zd8 {α:Type} {l:List (List α)} (i:Nat):(l.take i).flatten.length ≤ l.flatten.length:=by
 conv => rhs; rw [← List.take_append_drop i l,List.flatten_append,Wa]
 omega
section prog
variable {k:Nat} {c d r:Int} {tags:List ByteArray} {ch:List (List Int)}
theorem Zrq {ll:List (List Int)} (hk:ll.length < k) (hl:ll.length < 1000000) (hs:ll.flatten.length < 2000000000):Zhv k (ll,()) = some (ll.flatten,()):=by
 show ZdR k (Zkk k) _ = _
 simp only [ZdR]
 have key2:=QG (A:=Unit) (step:=fun L2 => Za5 k L2) (fun i _ => (Int.ofNat ll.length,Int.ofNat i,ll,(ll.take i).flatten)) ll (fun _ _ => some (ll.flatten,()))
  (fun L _ => by
   simp only [Za5]
   rw [Zj (QW _),List.take_length])
  (fun L i hi _ hL => by
   simp only [Za5]
   have h1:=ZmZ hi
   have h2:=Zd8 (l:=ll) (i + 1)
   rw [h1,Wa] at h2
   rw [Zc (K7 hi),Zc (XW hi),ZK hi,Zc (by omega),Qk hi (by omega),← h1]
   exact hL ()) k 0 () (by omega) (by omega)
 have key1:=QG (A:=Unit) (step:=fun L1 => Za4 k (Zkl k) L1) (fun i _ => (Int.ofNat ll.length,Int.ofNat i,ll,(((ll.take i).flatten.length:Nat):Int),ll)) ll (fun _ _ => some (ll.flatten,()))
  (fun L _ => by
   simp only [Za4]
   rw [Zj (QW _),List.take_length]
   have:Zpd k (Value.slice none 0 0,((ll.flatten.length:Nat):Int),()) = some ([],()):=by
    show ZA4 _ = _
    unfold ZA4
    simp only
    rw [ZOo (by omega) (by omega)]
    rfl
   rw [this]
   simp only [Z1]
   exact key2)
  (fun L i hi _ hL => by
   simp only [Za4]
   have h1:=ZmZ hi
   have h2:=Zd8 (l:=ll) (i + 1)
   rw [h1,Wa] at h2
   have e:IntKind.i64.wrap ((((ll.take i).flatten.length:Nat):Int) + Int.ofNat ll[i].length) = (((ll.take (i + 1)).flatten.length:Nat):Int):=by
    rw [h1,Wa,Qi (by simp only [Qz]; omega)]; simp
   rw [Zc (K7 hi),Zc (XW hi),ZK hi,e,Zj (by omega),Qk hi (by omega)]
   exact hL ()) k 0 () (by omega) (by omega)
 exact key1
def ZnQ (c d r:Int) (ch:List (List Int)) (size:Nat):List Nat:=(Zn6 c d r ch size).map List.length
theorem ZeN (c d r:Int) (ch:List (List Int)) (size:Nat):(Zn6 c d r ch size).length = Xo (ch.getD 0 []).length size:=by simp [Zn6]
theorem Zdr {c d r:Int} {ch:List (List Int)} {size:Nat}:∀ x ∈ Zn6 c d r ch size,x.length ≤ 5000:=by
 intro x hx
 obtain ⟨i,_,rfl⟩:=List.mem_map.1 hx
 exact ZJM _ _ _ _ _
theorem ZBd {c d r:Int} {ch:List (List Int)} {size n:Nat} (hs:16 ≤ size ∧ size ≤ 512) (hn:(ch.getD 0 []).length = n) (hn4:n ≤ 4096):Lens size n (ZnQ c d r ch size) where
 sz:=hs
 len:=by
  have:=Zc3 hs.1 hn4
  simp only [ZnQ,List.length_map,ZeN,hn]; omega
 small:=by
  intro x hx
  obtain ⟨y,hy,rfl⟩:=List.mem_map.1 hx
  have:=Zdr y hy
  omega
 in_:=by
  intro i hi
  simp only [ZnQ,List.length_map,ZeN,hn] at hi
  have:=(ZaG (by omega:1 ≤ size)).1 hi
  omega
theorem Zpm {α:Type} {B:Nat}:∀ {l:List (List α)},(∀ x ∈ l,x.length ≤ B) → l.flatten.length ≤ l.length * B
 | [],_ => by simp
 | x :: l,h => by
  have h1:=h x (List.mem_cons_self ..)
  have h2:=Zpm fun y hy => h y (List.mem_cons_of_mem _ hy)
  rw [List.flatten_cons,Wa,List.length_cons,Nat.add_mul]; omega
noncomputable def ZA6 (d r:Nat) (tags:List ByteArray) (ch:List (List Int)) (size:Nat) (lens:List Nat):List Int:=ZM (Zij d r tags ch size lens)
noncomputable def Zwq (c d r:Int) (tags:List ByteArray) (ch:List (List Int)) (size:Nat):List Int:=ZA6 d.toNat r.toNat tags ch size (ZnQ c d r ch size) ++ (Zn6 c d r ch size).flatten
theorem Zpz {d r:Nat} {tags:List ByteArray} {ch:List (List Int)} {size:Nat} {lens:List Nat} (hT:Tg tags) (hl:lens.length ≤ 300):(Zij d r tags ch size lens).length ≤ 60000:=by
 have hti:(ZGk ch.length d r size (ch.getD 0 []).length (ZBi lens) (ZBh lens)).length = 208:=by
  simp [ZGk,W5,YI,Zk,ZiM]
 have htt:(Zi5 size (ch.getD 0 []).length lens).length ≤ 144 * 300 + 32:=by
  unfold Zi5
  split
  ·rw [Wa,YI,ZBJ]; omega
  ·simp
 have htg:(ZBK tags).length ≤ tags.length * 128:=by
  unfold ZBK
  have:∀ (l:List ByteArray),(∀ t ∈ l,t.size ≤ 12) → (l.flatMap fun t => byB (leN t.size 4) ++ byB (Zh5 t)).length ≤ l.length * 128:=by
   intro l
   induction l with
   | nil => intro _; simp
   | cons x l ih =>
    intro h
    have h1:=h x (List.mem_cons_self ..)
    have h2:=ih fun t ht => h t (List.mem_cons_of_mem _ ht)
    rw [List.flatMap_cons,Wa,Wa,W5,W5,YY,Zm6,List.length_cons,Nat.add_mul]; omega
  exact this tags hT.2
 have h8:=hT.1
 unfold Zij ZaQ
 simp only [Wa,hti,W5,Zf9,YI,YY,Zn2,List.length_cons,List.length_nil]
 omega
theorem ZDl (hk:16777216 ≤ k) (hS:Small tags ch) (s:Int):Zhq k (((c,d,r,()),tags,ch,()),s,()) =
  if chk c d r tags ch = 0 then (if 16 ≤ s ∧ s ≤ 512 then some ((Zwq c d r tags ch s.toNat,0,()),()) else some (([],1,()),())) else some (([],chk c d r tags ch,()),()):=by
 show ZdM k (ZjX k) _ = _
 simp only [ZdM]
 rw [Zq2 hk hS]
 by_cases h0:¬ chk c d r tags ch = 0
 ·rw [if_neg h0,if_neg h0]
  simp only [Z1]
  rw [ZI,Zc h0]
 have h0:=Decidable.not_not.1 h0
 rw [if_pos h0,if_pos h0]
 by_cases hs:¬ (16 ≤ s ∧ s ≤ 512)
 ·rw [if_neg hs,if_neg hs]; rfl
 have hs:=Decidable.not_not.1 hs
 rw [if_pos hs,if_pos hs]
 simp only [Z1]
 rw [ZI,Zj (by simp)]
 obtain ⟨size,rfl⟩:=Int.eq_ofNat_of_zero_le (show 0 ≤ s by omega)
 have hs2:16 ≤ size ∧ size ≤ 512:=by omega
 obtain ⟨hg,hshape,-,htv,ht8⟩:=ZaP h0
 have hT:=Good0.tg htv ht8
 have hsh:=of_decide_eq_true hshape
 obtain ⟨dn,rfl⟩:=Int.eq_ofNat_of_zero_le (show 0 ≤ d by omega)
 obtain ⟨rn,rfl⟩:=Int.eq_ofNat_of_zero_le (show 0 ≤ r by omega)
 have hcl:=hg.cl
 subst hcl
 have hn4:=hg.n4
 have hLn:=ZBd (c:=(ch.length:Int)) (d:=(dn:Int)) (r:=(rn:Int)) hs2 rfl hn4
 simp only [Xm]
 generalize hC:Zn6 (ch.length:Int) (dn:Int) (rn:Int) ch size = C
 have hCl:C.length ≤ 256:=by rw [← hC,ZeN]; exact Zc3 hs2.1 hn4
 have hCs:∀ x ∈ C,x.length ≤ 5000:=by rw [← hC]; exact Zdr
 have hCf:=Zpm hCs
 have hlen:ZnQ (ch.length:Int) (dn:Int) (rn:Int) ch size = C.map List.length:=by unfold ZnQ; rw [hC]
 have key:=Zw (A:=List Nat) (step:=fun L1 => ZaZ k L1) (fun i a => (Int.ofNat C.length,Int.ofNat i,C,(size:Int),C,ZD a,(ch.length:Int),(dn:Int),(rn:Int),tags,ch)) C
  (fun rest a => some ((ZA6 dn rn tags ch size (a ++ rest.map List.length) ++ C.flatten,0,()),())) (fun i a => a = (C.take i).map List.length)
  (fun L a hI => by
   simp only [ZaZ]
   rw [List.take_length] at hI
   rw [Zj (QW _),hI,← hlen,ZDB hk h0 hS hLn]
   simp only [Z1]
   rw [Zrq (by omega) (by omega) (by omega)]
   simp only [Z1]
   have hal:=Zpz (d:=dn) (r:=rn) (ch:=ch) (size:=size) hT hLn.len
   have hpl:(ZM (Zij dn rn tags ch size (ZnQ (ch.length:Int) (dn:Int) (rn:Int) ch size))).length ≤ 10000:=by rw [Qf]; omega
   rw [Zrq (by simp; omega) (by simp) (by simp only [List.flatten_cons,List.flatten_nil,List.append_nil,Wa]; omega)]
   simp only [Z1,List.flatten_cons,List.flatten_nil,List.append_nil,List.map_nil,ZA6])
  (fun L i hi a hI hL => by
   simp only [ZaZ]
   have hal:a.length ≤ 256:=by rw [hI,List.length_map,List.length_take]; omega
   rw [Zc (K7 hi),Zc (XW hi),ZK hi,ZZ,Zc (by simp; omega),Qk hi (by omega)]
   rw [show ZD a ++ [Int.ofNat C[i].length] = ZD (a ++ [C[i].length]) by rw [XF]; rfl]
   refine Eq.trans (hL (a ++ [C[i].length]) (by rw [hI,List.take_succ_eq_append_getElem hi,List.map_append]; rfl)) ?_
   simp only [List.map_cons,List.append_assoc,List.singleton_append])
  k 0 [] (by simp) (by omega) (by omega)
 rw [List.drop_zero,List.nil_append,← hlen] at key
 refine Eq.trans key ?_
 unfold Zwq
 rw [hC]
 rfl
end prog
end Go.Sh
namespace Go.Sh
open Go Go.Proofs
theorem ZbT {A X:List Bool} (h:A.length % 8 = 0):ZM (A ++ X) = ZM A ++ ZM X:=by
 have hA:(ZM A).length = A.length / 8:=by rw [Qf]; omega
 apply List.ext_getElem
 ·rw [List.length_append,Qf,Qf,Qf,List.length_append]; omega
 ·intro i h1 h2
  rw [Yc]
  by_cases hi:i < (ZM A).length
  ·rw [List.getElem_append_left hi,Yc]
   congr 1
   unfold Wb Y9
   have:∀ j,j < 8 → (A ++ X).getD (8 * i + j) false = A.getD (8 * i + j) false:=by
    intro j hj
    simp only [List.getD_eq_getElem?_getD]
    rw [List.getElem?_append_left (by omega)]
   simp only []
   rw [this 0 (by omega),this 1 (by omega),this 2 (by omega),this 3 (by omega),this 4 (by omega),this 5 (by omega),this 6 (by omega),this 7 (by omega)]
  ·rw [List.getElem_append_right (by omega),Yc]
   congr 1
   unfold Wb Y9
   have:∀ j,j < 8 → (A ++ X).getD (8 * i + j) false = X.getD (8 * (i - (ZM A).length) + j) false:=by
    intro j hj
    simp only [List.getD_eq_getElem?_getD]
    rw [List.getElem?_append_right (by omega)]
    congr 2
    omega
   simp only []
   rw [this 0 (by omega),this 1 (by omega),this 2 (by omega),this 3 (by omega),this 4 (by omega),this 5 (by omega),this 6 (by omega),this 7 (by omega)]
end Go.Sh
namespace Go.Sh
open Go Go.Proofs
def SP (p A:List Bool):Prop:=p <+: A ∧ p.length < A.length
theorem SP.split {p A B:List Bool} (h:SP p (A ++ B)):SP p A ∨ ∃ q,p = A ++ q ∧ SP q B:=by
 obtain ⟨h1,h2⟩:=h
 by_cases hl:p.length < A.length
 ·exact .inl ⟨List.prefix_of_prefix_length_le h1 (List.prefix_append A B) (by omega),hl⟩
 ·right
  obtain ⟨t,ht⟩:=List.prefix_of_prefix_length_le (List.prefix_append A B) h1 (by omega)
  refine ⟨t,ht.symm,?_,?_⟩
  ·rw [← ht] at h1
   exact (List.prefix_append_right_inj A).1 h1
  ·rw [← ht] at h2
   rw [List.length_append,List.length_append] at h2
   omega
theorem SP.no {p:List Bool} (h:SP p []):False:=by have:=h.2; simp at this
structure Enc {α:Type} (f:List Bool → α × Int × List Bool) (v:α) (A:List Bool):Prop where
 ok:∀ r,f (A ++ r) = (v,0,r)
 tail:∀ p,SP p A → (f p).2.1 = 10
theorem K4 {n w:Nat} (h:n < 2 ^ w):Enc (ZT w) n (Zb n w) where
 ok:=fun r => by
  have hl:=Zk n w
  unfold ZT
  rw [if_pos (by rw [List.length_append]; omega),List.take_append_of_le_length (by omega),List.take_of_length_le (by omega),Zb4,Nat.mod_eq_of_lt h,List.drop_append,List.drop_eq_nil_of_le (by omega),List.nil_append,hl,Nat.sub_self,List.drop_zero]
 tail:=fun p hp => by
  have:=hp.2
  rw [Zk] at this
  unfold ZT
  rw [if_neg (by omega)]
theorem ZEH {n:Int} {w:Nat} (h:Xl n w = true):ZSK w (n % 2 ^ w).toNat = n:=by
 unfold Xl at h
 unfold ZSK
 by_cases h0:w = 0
 ·subst h0
  simp only [if_true,decide_eq_true_eq] at h
  subst h
  simp
 ·rw [if_neg h0,decide_eq_true_eq] at h
  have hpw:(2:Int) ^ w = 2 * 2 ^ (w - 1):=by rw [show w = (w - 1) + 1 by omega,Int.pow_succ,Nat.add_sub_cancel,Int.mul_comm]
  have hp:(0:Int) < 2 ^ (w - 1):=Int.pow_pos (by omega)
  have hpn:((2 ^ (w - 1):Nat):Int) = 2 ^ (w - 1):=by rw [WC]
  rw [hpw]
  by_cases hn:0 ≤ n
  ·have e:n % (2 * 2 ^ (w - 1)) = n:=Int.emod_eq_of_lt hn (by omega)
   rw [e,if_neg (by omega)]
   omega
  ·have e:n % (2 * 2 ^ (w - 1)) = n + 2 * 2 ^ (w - 1):=by
    rw [← Int.add_emod_right,Int.emod_eq_of_lt (by omega) (by omega)]
   rw [e,if_pos ⟨by omega,by omega⟩]
   omega
theorem Zvs {n:Int} {w:Nat} (h:Xl n w = true):Enc (WO w) n (WF n w) where
 ok:=fun r => by
  have hl:=ZaI n w
  unfold WO
  rw [if_pos (by rw [List.length_append]; omega),List.take_append_of_le_length (by omega),List.take_of_length_le (by omega),List.drop_append,List.drop_eq_nil_of_le (by omega),List.nil_append,hl,Nat.sub_self,List.drop_zero]
  have hlt:(n % 2 ^ w).toNat < 2 ^ w:=by
   have hp:(0:Int) < 2 ^ w:=Int.pow_pos (by omega)
   have h1:=Int.emod_nonneg n (show (2:Int) ^ w ≠ 0 by omega)
   have h2:=Int.emod_lt_of_pos n hp
   have h3:((2 ^ w:Nat):Int) = 2 ^ w:=by rw [WC]
   omega
  unfold WF
  rw [Zb4,Nat.mod_eq_of_lt hlt,ZEH h]
 tail:=fun p hp => by
  have:=hp.2
  rw [ZaI] at this
  unfold WO
  rw [if_neg (by omega)]
theorem ZBS:∀ (q n:Nat) (r:List Bool),Zgb n ((List.replicate q false ++ [true]) ++ r) = some (n + q,r)
 | 0,n,r => rfl
 | q + 1,n,r => by
  rw [List.replicate_succ]
  show Zgb (n + 1) ((List.replicate q false ++ [true]) ++ r) = _
  rw [ZBS q (n + 1) r]
  congr 2
  omega
theorem Ztm:∀ (p:List Bool) (n:Nat),(∀ x ∈ p,x = false) → Zgb n p = none
 | [],n,_ => rfl
 | x :: p,n,h => by
  have:=h x (List.mem_cons_self ..)
  subst this
  exact Ztm p (n + 1) fun y hy => h y (List.mem_cons_of_mem _ hy)
theorem ZlY (q:Nat):Enc unS q (List.replicate q false ++ [true]) where
 ok:=fun r => by
  unfold unS
  rw [ZBS q 0 r]
  simp
 tail:=fun p hp => by
  have hz:∀ x ∈ p,x = false:=by
   rcases hp.split with h | ⟨t,rfl,h⟩
   ·intro x hx
    exact List.eq_of_mem_replicate (h.1.subset hx)
   ·intro x hx
    have ht:t = []:=by have:=h.2; simp at this; exact this
    subst ht
    rw [List.append_nil] at hx
    exact List.eq_of_mem_replicate hx
  unfold unS
  rw [Ztm p 0 hz]
theorem ZEg {n:Int} (h:ZN n):Z2 n < 4294967295:=by
 unfold ZN at h
 unfold Z2
 split <;> omega
theorem ZOy {n:Int} (h:ZN n) (kk:Nat):Enc (Zbu kk) n (KH kk n) where
 ok:=fun r => by
  have h1:=(ZlY (Z2 n / 2 ^ kk)).ok (Zb (Z2 n % 2 ^ kk) kk ++ r)
  have h2:=(K4 (n:=Z2 n % 2 ^ kk) (w:=kk) (Nat.mod_lt _ (Nat.pow_pos (by omega)))).ok r
  unfold Zbu KH
  rw [List.append_assoc,h1]
  simp only
  rw [h2]
  simp only
  have e:Z2 n / 2 ^ kk * 2 ^ kk + Z2 n % 2 ^ kk = Z2 n:=by rw [Nat.mul_comm]; exact Nat.div_add_mod _ _
  have:=ZEg h
  rw [e,if_neg (by simp),if_neg (by simp),if_neg (by omega),ZBT h]
 tail:=fun p hp => by
  unfold KH at hp
  unfold Zbu
  rcases hp.split with h1 | ⟨q,rfl,h1⟩
  ·have:=(ZlY (Z2 n / 2 ^ kk)).tail p h1
   rw [if_pos (by rw [this]; decide)]
   exact this
  ·rw [(ZlY (Z2 n / 2 ^ kk)).ok q]
   have:=(K4 (n:=Z2 n % 2 ^ kk) (w:=kk) (Nat.mod_lt _ (Nat.pow_pos (by omega)))).tail q h1
   simp only
   rw [if_neg (by simp),if_pos (by rw [this]; decide)]
   exact this
theorem Zm3 {one:ZEW} {g:Int → List Bool}:∀ (xs acc:List Int),(∀ x ∈ xs,Enc one x (g x)) → Enc (fun r => Ya one xs.length r acc) (acc ++ xs) (xs.flatMap g)
 | [],acc,_ => ⟨fun r => by simp [Ya],fun p hp => (hp.no).elim⟩
 | x :: xs,acc,h => by
  have hx:=h x (List.mem_cons_self ..)
  have ih:=Zm3 xs (acc ++ [x]) fun y hy => h y (List.mem_cons_of_mem _ hy)
  constructor
  ·intro r
   have:=ih.ok r
   rw [List.flatMap_cons,List.append_assoc,List.length_cons]
   unfold Ya
   rw [hx.ok]
   simp only
   rw [if_neg (by simp),this,List.append_assoc]
   rfl
  ·intro p hp
   rw [List.flatMap_cons] at hp
   simp only [List.length_cons]
   unfold Ya
   rcases hp.split with h1 | ⟨q,rfl,h1⟩
   ·have:=hx.tail p h1
    rw [if_pos (by rw [this]; decide)]
    exact this
   ·rw [hx.ok q]
    simp only
    rw [if_neg (by simp)]
    exact ih.tail q h1
theorem ZJs {c:List Int} (hc:∀ x ∈ c,ZN x) {m:Nat} (hm:m = 0 ∨ m = 1) {y:Prt} (hy:Zad c m y):Enc (Yd m c.length) c (XB m (c,y)):=by
 obtain ⟨a,w,ha,ha2,hw,hw2⟩:=ZsQ (m:=(m:Int)) (by omega) hy
 have hA:=K4 (n:=a) (w:=4 + m) (by simpa using ha2)
 have hW:=K4 (n:=w) (w:=5) (by omega)
 have key:∃ B,XB m (c,y) = Zb a (4 + m) ++ B ∧ Enc (fun r => if a = Xr m then (if (ZT 5 r).2.1 ≠ 0 then (([]:List Int),(ZT 5 r).2.1,(ZT 5 r).2.2) else Ya (WO (ZT 5 r).1) c.length (ZT 5 r).2.2 []) else Ya (Zbu a) c.length r []) c B:=by
  unfold XB YZ
  simp only [ha,hw,Int.toNat_natCast]
  rcases hy with ⟨kk,hkk,hfar,rfl⟩ | ⟨hwid,rfl⟩
  ·simp only at ha
   obtain rfl:kk = a:=by omega
   have hne:¬ kk = Xr m:=by omega
   have hne2:¬ ((kk:Int) = ((Xr (m:Int):Nat):Int)):=by omega
   rw [if_neg hne2,if_neg hne2]
   refine ⟨_,rfl,?_⟩
   rw [List.nil_append]
   have:=Zm3 (one:=Zbu kk) (g:=KH kk) c [] fun x hx => ZOy (hc x hx) kk
   simp only [if_neg hne]
   exact this
  ·simp only at ha hw
   obtain rfl:Xr (m:Int) = a:=by omega
   obtain rfl:QP c = w:=by omega
   rw [if_pos rfl,if_pos rfl]
   refine ⟨_,rfl,?_⟩
   have hl:=Zm3 (one:=WO (QP c)) (g:=fun n => WF n (QP c)) c [] fun x hx => Zvs (Zv1 hc x hx)
   constructor
   ·intro r
    have h1:=hl.ok r
    simp only [if_true]
    rw [List.append_assoc,hW.ok]
    simp only
    rw [if_neg (by simp),h1]
    simp
   ·intro p hp
    simp only [if_true]
    rcases hp.split with h1 | ⟨q,rfl,h1⟩
    ·have:=hW.tail p h1
     rw [if_pos (by rw [this]; decide)]
     exact this
    ·rw [hW.ok q]
     simp only
     rw [if_neg (by simp)]
     exact hl.tail q h1
 obtain ⟨B,hB,hE⟩:=key
 rw [hB]
 constructor
 ·intro r
  have:=hE.ok r
  unfold Yd
  rw [List.append_assoc,hA.ok]
  simp only at this ⊢
  rw [if_neg (by simp)]
  exact this
 ·intro p hp
  unfold Yd
  rcases hp.split with h1 | ⟨q,rfl,h1⟩
  ·have:=hA.tail p h1
   rw [if_pos (by rw [this]; decide)]
   exact this
  ·have:=hE.tail q h1
   rw [hA.ok q]
   simp only at this ⊢
   rw [if_neg (by simp)]
   exact this
theorem Znv {m n o p:Nat} (hm:m = 0 ∨ m = 1):∀ (cs:List (List Int)) (ys:List Prt) (i:Nat) (acc:List Int),(∀ c ∈ cs,∀ x ∈ c,ZN x) → KB m cs ys → (∀ (j:Nat) (h:j < cs.length),cs[j].length = n / 2 ^ p - if i + j = 0 then o else 0) →
  Enc (fun r => Wl m n o p cs.length i r acc) (acc ++ cs.flatten) ((cs.zip ys).flatMap (XB m))
 | [],[],i,acc,_,_,_ => ⟨fun r => by simp [Wl],fun p hp => (hp.no).elim⟩
 | c :: cs,y :: ys,i,acc,hn,hok,hlen => by
  have hc:=ZJs (hn c (List.mem_cons_self ..)) hm hok.1
  have hl:=hlen 0 (by simp)
  simp only [List.getElem_cons_zero,Nat.add_zero] at hl
  have ih:=Znv (n:=n) (o:=o) (p:=p) hm cs ys (i + 1) (acc ++ c) (fun d hd => hn d (List.mem_cons_of_mem _ hd)) hok.2 (fun j hj => by
   have:=hlen (j + 1) (by simpa using hj)
   simp only [List.getElem_cons_succ] at this
   rw [this]
   congr 1
   split <;> split <;> omega)
  constructor
  ·intro r
   have:=ih.ok r
   rw [List.zip_cons_cons,List.flatMap_cons,List.append_assoc,List.length_cons]
   unfold Wl
   rw [← hl,hc.ok]
   simp only
   rw [if_neg (by simp),this,List.flatten_cons,List.append_assoc]
  ·intro q hq
   rw [List.zip_cons_cons,List.flatMap_cons] at hq
   simp only [List.length_cons]
   unfold Wl
   rw [← hl]
   rcases hq.split with h1 | ⟨t,rfl,h1⟩
   ·have:=hc.tail q h1
    rw [if_pos (by rw [this]; decide)]
    exact this
   ·rw [hc.ok t]
    simp only
    rw [if_neg (by simp)]
    exact ih.tail t h1
theorem ZnC {size:Nat}:∀ (d:Nat) (r:List Int),r.length = d * size → (Ke size d r).flatten = r ∧ ∀ c ∈ Ke size d r,c.length = size
 | 0,r,h => by
  have:r = []:=List.length_eq_zero_iff.1 (by omega)
  subst this
  simp [Ke]
 | d + 1,r,h => by
  have hs:(d + 1) * size = d * size + size:=by rw [Nat.add_mul,Nat.one_mul]
  obtain ⟨h1,h2⟩:=ZnC (size:=size) d (r.drop size) (by rw [List.length_drop]; omega)
  refine ⟨?_,?_⟩
  ·simp only [Ke,List.flatten_cons,h1,List.take_append_drop]
  ·intro c hc
   rcases List.mem_cons.1 hc with rfl | hc
   ·rw [List.length_take]; omega
   ·exact h2 c hc
theorem ZG4 {l:List Int} {o p:Nat} (hf:ZeB (l.length + o) o p = true):(Yo l o p).flatten = l ∧ ∀ (j:Nat) (h:j < (Yo l o p).length),(Yo l o p)[j].length = (l.length + o) / 2 ^ p - if 0 + j = 0 then o else 0:=by
 unfold ZeB at hf
 simp only [Bool.and_eq_true,decide_eq_true_eq] at hf
 obtain ⟨hm,ho⟩:=hf
 have h0:0 < 2 ^ p:=Nat.pow_pos (by omega)
 have hd:(l.length + o) / 2 ^ p ≤ l.length + o:=Nat.div_le_self _ _
 have hmul:2 ^ p * ((l.length + o) / 2 ^ p) = l.length + o:=by have:=Nat.div_add_mod (l.length + o) (2 ^ p); omega
 unfold Yo
 generalize (l.length + o) / 2 ^ p = size at ho hd hmul
 have e3:(2 ^ p - 1) * size = 2 ^ p * size - size:=by rw [Nat.sub_mul,Nat.one_mul]
 have hps:size ≤ 2 ^ p * size:=Nat.le_mul_of_pos_left _ h0
 obtain ⟨h1,h2⟩:=ZnC (size:=size) (2 ^ p - 1) (l.drop (size - o)) (by
  rw [List.length_drop,e3,hmul]
  omega)
 refine ⟨by rw [List.flatten_cons,h1,List.take_append_drop],?_⟩
 intro j hj
 match j,hj with
 | 0,_ =>
  simp only [List.getElem_cons_zero]
  rw [if_pos trivial,List.length_take]
  clear h1 h2 e3
  generalize 2 ^ p * size = M at hmul hps
  omega
 | j + 1,hj =>
  simp only [List.getElem_cons_succ]
  rw [if_neg (show ¬ 0 + (j + 1) = 0 by omega),Nat.sub_zero]
  exact h2 _ (List.getElem_mem _)
theorem ZJy {l:List Int} {o:Nat} (h:Yl l (o:Nat) = 0):Enc (Y4 (l.length + o) o) l (Xi l o):=by
 obtain ⟨h1,h2⟩:=Zf5.1 h
 have hl:=Kt h2
 obtain ⟨_,q,hg⟩:=Zap hl (o:=o) (by omega) (by omega)
 unfold Xi Zf1
 have hys:=hg.ys
 generalize WP l o = R at hg hys
 obtain ⟨m,p,sz,ys⟩:=R
 obtain ⟨hp,p4,hfit,hm,hparts⟩:=hg
 simp only at hp hm hys
 subst hp
 obtain ⟨mn,hmn⟩:∃ mn:Nat,m = (mn:Int):=⟨m.toNat,by omega⟩
 subst hmn
 simp only [Int.toNat_natCast]
 have hm':mn = 0 ∨ mn = 1:=by omega
 have hM:=K4 (n:=mn) (w:=2) (by omega)
 have hP:=K4 (n:=q) (w:=4) (by omega)
 obtain ⟨hflat,hlen⟩:=ZG4 hfit
 have hB:=Znv (n:=l.length + o) (o:=o) (p:=q) hm' (Yo l o q) ys 0 [] (fun c hc x hx => hl x (ZaR hc x hx)) hys hlen
 rw [List.nil_append,hflat,Zjo] at hB
 have hbb:Zb5 ((l.length + o:Nat):Int) ((o:Nat):Int) = true:=decide_eq_true (by omega)
 rw [List.append_assoc]
 constructor
 ·intro r
  have:=hB.ok r
  unfold Y4
  rw [if_neg (by rw [hbb]; simp),List.append_assoc,hM.ok,List.append_assoc]
  simp only
  rw [if_neg (by simp),if_neg (by omega),hP.ok]
  simp only
  rw [if_neg (by simp),if_neg (by rw [hfit]; simp),this]
 ·intro p hp
  unfold Y4
  rw [if_neg (by rw [hbb]; simp)]
  rcases hp.split with h3 | ⟨t,rfl,h3⟩
  ·have:=hM.tail p h3
   rw [if_pos (by rw [this]; decide)]
   exact this
  ·rw [hM.ok]
   simp only
   rw [if_neg (by simp),if_neg (by omega)]
   rcases h3.split with h4 | ⟨u,rfl,h4⟩
   ·have:=hP.tail t h4
    rw [if_pos (by rw [this]; decide)]
    exact this
   ·rw [hP.ok]
    simp only
    rw [if_neg (by simp),if_neg (by rw [hfit]; simp)]
    exact hB.tail u h4
end Go.Sh
namespace Go.Sh
open Go Go.Proofs
theorem Zc4 {w:Nat} {s:IS} (h:s.2 ≠ 0):gI w s = (0,s):=by unfold gI; rw [if_neg h]
theorem WZ {ok:Bool} {s:IS} {code:Int} (h:s.2 ≠ 0):mI ok s code = s:=by unfold mI; rw [if_neg (fun hh => h hh.1)]
theorem Zbi {w:Nat}:∀ (n:Nat) (s:IS) (acc:List Int),s.2 ≠ 0 → (XM w n s acc).2 = s
 | 0,s,acc,h => rfl
 | n + 1,s,acc,h => by
  unfold XM
  rw [if_neg h]
  exact Zbi n s _ h
theorem Zam {n w:Nat} (h:n < 2 ^ w) (r:List Bool):gI w (Zb n w ++ r,0) = (n,(r,0)):=by
 unfold gI
 rw [if_pos rfl,(K4 h).ok]
theorem ZhE {n w:Nat} (h:n < 2 ^ w) {p:List Bool} (hp:SP p (Zb n w)):(gI w (p,0)).2.2 = 10:=by
 unfold gI
 rw [if_pos rfl]
 exact (K4 h).tail p hp
structure EncI {α:Type} (f:IS → α × IS) (v:α) (A:List Bool):Prop where
 ok:∀ r,f (A ++ r,0) = (v,(r,0))
 tail:∀ p,SP p A → (f (p,0)).2.2 = 10
theorem Zc8 {w:Nat}:∀ (xs acc:List Int),(∀ x ∈ xs,Xl x w = true) → EncI (fun s => XM w xs.length s acc) (acc ++ xs) (xs.flatMap fun n => WF n w)
 | [],acc,_ => ⟨fun r => by simp [XM],fun p hp => (hp.no).elim⟩
 | x :: xs,acc,h => by
  have hx:=Zvs (h x (List.mem_cons_self ..))
  have ih:=Zc8 xs (acc ++ [x]) fun y hy => h y (List.mem_cons_of_mem _ hy)
  constructor
  ·intro r
   have:=ih.ok r
   rw [List.flatMap_cons,List.append_assoc,List.length_cons]
   unfold XM
   rw [if_pos rfl,hx.ok,this,List.append_assoc]
   rfl
  ·intro p hp
   rw [List.flatMap_cons] at hp
   simp only [List.length_cons]
   unfold XM
   rw [if_pos rfl]
   rcases hp.split with h1 | ⟨q,rfl,h1⟩
   ·have:=hx.tail p h1
    rw [Zbi _ _ _ (by simp only; rw [this]; decide)]
    exact this
   ·rw [hx.ok q]
    exact ih.tail q h1
theorem ZST {kind:Nat} (h:kind < 64):Zb kind 7 = Zb 0 1 ++ Zb kind 6:=by
 have:kind.testBit 6 = false:=Nat.testBit_lt_two_pow (by omega)
 show kind.testBit 6 :: Zb kind 6 = (0:Nat).testBit 0 :: Zb kind 6
 rw [this]
 rfl
theorem ZBE (r:List Bool):Zbq (Zb 0 1 ++ r,0) = (r,0):=by
 unfold Zbq
 rw [Zam (n:=0) (w:=1) (by omega)]
 rfl
theorem ZEL {p:List Bool} (hp:SP p (Zb 0 1)):(Zbq (p,0)).2 = 10:=by
 have h:=ZhE (n:=0) (w:=1) (by omega) hp
 unfold Zbq
 rw [WZ (by rw [h]; decide),h]
theorem ZBF {kind:Nat} (h:kind < 64) (hk:Zc6 kind = true) (r:List Bool):YK (Zb kind 6 ++ r,0) = (kind,(r,0)):=by
 unfold YK
 rw [Zam (w:=6) (by omega),hk,XO]
theorem ZBG {s:IS} (h:s.2 ≠ 0):(YK s).2 = s:=by
 unfold YK
 rw [Zc4 h]
 exact WZ h
theorem ZEM {kind:Nat} (h:kind < 64) {p:List Bool} (hp:SP p (Zb kind 6)):(YK (p,0)).2.2 = 10:=by
 have h:=ZhE (w:=6) (by omega) hp
 unfold YK
 simp only
 rw [WZ (by rw [h]; decide),h]
theorem Zn1 {kind d:Nat} {s:IS} (h:s.2 ≠ 0):(Zdh kind d s).2.2 = s:=by
 unfold Zdh
 rw [Zc4 h,if_neg (by simp)]
 exact WZ h
def Zps (kk:Nat):List Bool:=if 0 < kk then [true] ++ (List.replicate (kk - 1) false ++ [true]) else [false]
theorem ZOW {kind d kk:Nat} (h:kk < d) (r:List Bool):Zdh kind d (Zps kk ++ r,0) = (kind,kk,(r,0)):=by
 unfold Zdh Zps
 by_cases h0:0 < kk
 ·rw [if_pos h0]
  have e:=Zam (n:=1) (w:=1) (by omega) ((List.replicate (kk - 1) false ++ [true]) ++ r)
  rw [show Zb 1 1 = [true] from rfl] at e
  rw [List.append_assoc,e,if_pos ⟨rfl,rfl⟩]
  simp only
  rw [(ZlY (kk - 1)).ok r]
  simp only
  rw [show kk - 1 + 1 = kk by omega,decide_eq_true h,XO]
 ·rw [if_neg h0]
  have e:=Zam (n:=0) (w:=1) (by omega) r
  rw [show Zb 0 1 = [false] from rfl] at e
  obtain rfl:kk = 0:=by omega
  rw [e,if_neg (by simp)]
  simp only
  rw [decide_eq_true h,XO]
theorem ZEO {kind d kk:Nat} {p:List Bool} (hp:SP p (Zps kk)):(Zdh kind d (p,0)).2.2.2 = 10:=by
 unfold Zps at hp
 by_cases h0:0 < kk
 ·rw [if_pos h0] at hp
  rcases hp.split with h1 | ⟨q,rfl,h1⟩
  ·have h:=ZhE (n:=1) (w:=1) (by omega) (show SP p (Zb 1 1) from h1)
   unfold Zdh
   rw [if_neg (fun hh => by rw [h] at hh; exact absurd hh.2 (by decide))]
   simp only
   rw [WZ (by rw [h]; decide),h]
  ·have e:=Zam (n:=1) (w:=1) (by omega) q
   rw [show Zb 1 1 = [true] from rfl] at e
   have h:=(ZlY (kk - 1)).tail q h1
   unfold Zdh
   rw [e,if_pos ⟨rfl,rfl⟩]
   simp only
   rw [WZ (by simp only; rw [h]; decide)]
   exact h
 ·rw [if_neg h0] at hp
  have h:=ZhE (n:=0) (w:=1) (by omega) (show SP p (Zb 0 1) from hp)
  unfold Zdh
  rw [if_neg (fun hh => by rw [h] at hh; exact absurd hh.2 (by decide))]
  simp only
  rw [WZ (by rw [h]; decide),h]
theorem Zth {kind kk d:Nat} (h:kind < 64) (hk:Zc6 kind = true) (hd:kk < d) (r:List Bool):ZU d (X7 kind kk ++ r,0) = (kind,kk,(r,0)):=by
 unfold ZU X7
 rw [Int.toNat_natCast,ZST h,List.append_assoc,List.append_assoc,ZBE,ZBF h hk]
 exact ZOW hd r
theorem ZyO {kind kk d:Nat} (h:kind < 64) (hk:Zc6 kind = true) {p:List Bool} (hp:SP p (X7 kind kk)):(ZU d (p,0)).2.2.2 = 10:=by
 unfold X7 at hp
 rw [Int.toNat_natCast,ZST h,List.append_assoc] at hp
 unfold ZU
 rcases hp.split with h1 | ⟨q,rfl,h1⟩
 ·have e:=ZEL h1
  have e2:=ZBG (s:=Zbq (p,0)) (by rw [e]; decide)
  rw [e2,Zn1 (by rw [e]; decide),e]
 ·rw [ZBE]
  rcases h1.split with h2 | ⟨t,rfl,h2⟩
  ·have e:=ZEM h h2
   rw [Zn1 (by rw [e]; decide),e]
  ·rw [ZBF h hk]
   exact ZEO h2
theorem ZBr {c:List Int} {sh:Int} {s:List Int} (hs:s.any Qv = false):∀ (d i:Nat),i + d = s.length → ZlN c sh (Zs3 c sh s d i) (s.take i) = (s,0)
 | 0,i,h => by
  rw [List.take_of_length_le (by omega)]
  rfl
 | d + 1,i,h => by
  have hi:i < s.length:=by omega
  simp only [Zs3]
  unfold ZlN
  have e:Zs2 c sh s i + Zev c sh (s.take i) = s[i]:=by
   unfold Zs2
   rw [Q3 hi]
   omega
  have hw:Qv s[i] = false:=by
   rw [List.any_eq_false] at hs
   have:=hs s[i] (List.getElem_mem hi)
   simpa using this
  have ht:s.take i ++ [s[i]] = s.take (i + 1):=by rw [List.take_add_one,List.getElem?_eq_getElem hi]; rfl
  rw [e,hw,if_neg (by simp),ht]
  exact ZBr hs d (i + 1) (by omega)
theorem ZyG {c s:List Int} {sh:Int} (h:(QV c sh s).2 = 0):Zbj c sh = true ∧ c.length ≤ s.length ∧ s.any Qv = false ∧ (XV c sh s).any Qv = false:=by
 unfold QV at h
 split at h
 ·simp at h
 ·split at h
  ·simp at h
  ·split at h
   ·simp at h
   ·split at h
    ·simp at h
    ·rename_i h1 h2 h3 h4
     exact ⟨by simpa using h1,by omega,by simpa using h3,by simpa using h4⟩
theorem ZBt {c s:List Int} {sh:Int} (h:(QV c sh s).2 = 0):Zab c sh (s.take c.length) (XV c sh s) = (s,0):=by
 obtain ⟨h1,h2,h3,h4⟩:=ZyG h
 unfold Zab
 have ht:(s.take c.length).any Qv = false:=by
  rw [List.any_eq_false] at h3 ⊢
  exact fun x hx => h3 x (List.mem_of_mem_take hx)
 rw [if_neg (by rw [h1]; simp),if_neg (by rw [List.length_take]; omega),if_neg (by rw [ht]; simp),if_neg (by rw [h4]; simp)]
 exact ZBr h3 (s.length - c.length) c.length (by omega)
theorem ZtS {c s:List Int} {sh:Int} (h:(QV c sh s).2 = 0) (h1:1 ≤ s.length) (h2:s.length ≤ 512):EncI (Zci c sh c.length s.length (s.take c.length)) s (Xi (XV c sh s) c.length):=by
 obtain ⟨hl,h8,hr⟩:=KI h h1 h2
 obtain ⟨e1,_,_⟩:=Zf7 h
 rw [e1] at hl hr
 have hE:=ZJy hr
 rw [hl] at hE
 constructor
 ·intro r
  unfold Zci
  simp only
  rw [hE.ok r]
  simp only
  rw [if_neg (by simp),ZBt h]
 ·intro p hp
  unfold Zci
  simp only
  have:=hE.tail p hp
  rw [if_pos (by rw [this]; decide)]
  exact this
theorem Zjd {num:Bool} {c n:Nat} {w:List Int × IS} (h:w.2.2 ≠ 0):(Zbw num c n w).2 = w.2:=by
 unfold Zbw
 split
 ·have e1:Zaj w.2 = w.2:=by unfold Zaj; rw [Zc4 h]; exact WZ h
  have e2:(Wo w.2).2 = w.2:=by unfold Wo; rw [Zc4 h]; exact WZ h
  rw [e1,e2]
  have e3:=Zbi (w:=12) c w.2 [] h
  unfold Zeq
  rw [e3,if_pos h]
 ·first
  | rfl
  | rw [if_pos h]
theorem ZGU {s:List Int} {d:Nat} {x:Xq} (h1:1 ≤ s.length) (h2:s.length ≤ 512) (hs:∀ y ∈ s,Xl y d = true) (hx:ZeE s d x):∃ kind:Nat,x.1 = (kind:Int) ∧ kind < 64 ∧ Zc6 kind = true ∧ EncI (WV kind s.length d) s (XY s d x):=by
 unfold XY
 rcases hx with ⟨rfl,hall⟩ | rfl | ⟨o,ho,hos,hx⟩ | ⟨o,ho,hos,hx⟩
 ·refine ⟨0,rfl,by omega,rfl,?_⟩
  simp only
  rw [if_pos trivial]
  match s,h1,hall,hs with
  | a :: s',_,hall,hs =>
   have hE:=Zc8 (w:=d) [a] [] (fun y hy => hs y (by simp at hy; simp [hy]))
   have hrep:List.replicate (a :: s').length a = a :: s':=by
    symm
    rw [List.eq_replicate_iff]
    refine ⟨rfl,fun y hy => ?_⟩
    have:=List.all_eq_true.1 hall y hy
    simpa using this
   constructor
   ·intro r
    have:=hE.ok r
    show WV 0 _ _ _ = _
    unfold WV
    rw [if_pos rfl]
    simp only [List.length_singleton,List.nil_append] at this
    rw [show (a :: s').take 1 = [a] from rfl,this]
    simp only [List.headD_cons]
    rw [hrep]
   ·intro p hp
    have:=hE.tail p hp
    unfold WV
    rw [if_pos rfl]
    exact this
 ·refine ⟨1,rfl,by omega,rfl,?_⟩
  simp only
  rw [if_neg (by omega),if_pos trivial]
  have hE:=Zc8 (w:=d) s [] hs
  rw [List.nil_append] at hE
  constructor
  ·intro r
   unfold WV
   rw [if_neg (by omega),if_pos rfl]
   exact hE.ok r
  ·intro p hp
   unfold WV
   rw [if_neg (by omega),if_pos rfl]
   exact hE.tail p hp
 ·obtain ⟨e1,e2,e3,e4,e5,e6,e7,e8,e9,e10⟩:=YH h1 h2 hx
  refine ⟨8 + o,by rw [e1]; omega,by omega,by unfold Zc6; rw [decide_eq_true_eq]; omega,?_⟩
  rw [e1,e2,e3,e4,if_neg (by omega),if_neg (by omega),if_neg (by omega),List.nil_append]
  have hcl:=Zso o ho
  have hE:=Zc8 (w:=d) (s.take (Xz o).length) [] (fun y hy => hs y (List.mem_of_mem_take hy))
  have hZ:=ZtS e10 h1 h2
  have hlen:(s.take (Xz o).length).length = o:=by rw [List.length_take,hcl]; omega
  rw [List.nil_append,hlen] at hE
  rw [hcl] at hZ
  have shape:∀ r,WV (8 + o) s.length d (r,0) = Zbw false o s.length (XM d o (r,0) []):=by
   intro r
   unfold WV
   rw [if_neg (by omega),if_neg (by omega),if_neg (by omega),show 8 + o - 8 = o by omega]
   unfold ZhV
   rw [decide_eq_true hos,XO,if_neg (by simp)]
  constructor
  ·intro r
   have e:=hE.ok (Xi (XV (Xz o) 0 s) (Xz o).length ++ r)
   rw [shape,List.append_assoc,e]
   unfold Zbw
   rw [if_neg (by simp),if_neg (by simp),Nat.min_eq_right ho]
   rw [hcl]
   exact hZ.ok r
  ·intro p hp
   rw [shape]
   rcases hp.split with h3 | ⟨q,rfl,h3⟩
   ·have:=hE.tail p h3
    rw [Zjd (by rw [this]; decide)]
    exact this
   ·have e:=hE.ok q
    rw [e]
    unfold Zbw
    rw [if_neg (by simp),if_neg (by simp),Nat.min_eq_right ho]
    rw [hcl] at h3 ⊢
    exact hZ.tail q h3
 ·obtain ⟨e1,e2,e3,e4,e5,e6,e7,e8,e9,e10⟩:=YH h1 h2 hx
  obtain ⟨hsl,hsr⟩:=Zi1 s o ho
  refine ⟨31 + o,by rw [e1]; omega,by omega,by unfold Zc6; rw [decide_eq_true_eq]; omega,?_⟩
  rw [e1,e2,e3,e4,if_neg (by omega),if_neg (by omega),if_pos (by omega)]
  generalize Zb0 s o = c at hsl hsr e6 e7 e8 e9 e10
  have hE:=Zc8 (w:=d) (s.take c.length) [] (fun y hy => hs y (List.mem_of_mem_take hy))
  have hC:=Zc8 (w:=12) c [] (fun y hy => by
   have:=hsr y hy
   unfold Xl
   rw [if_neg (by omega),decide_eq_true_eq]
   omega)
  have hZ:=ZtS e10 h1 h2
  have hlen:(s.take c.length).length = o:=by rw [List.length_take,hsl]; omega
  rw [List.nil_append,hlen] at hE
  rw [List.nil_append,hsl] at hC
  rw [hsl] at hZ
  have e4':(4:Int).toNat = 4:=rfl
  rw [e4']
  have shape:∀ r,WV (31 + o) s.length d (r,0) = Zbw true o s.length (XM d o (r,0) []):=by
   intro r
   unfold WV
   rw [if_neg (by omega),if_neg (by omega),if_pos (by omega),show 31 + o - 31 = o by omega]
   unfold ZhV
   rw [decide_eq_true (show o ≤ s.length by omega),XO,if_neg (by simp)]
  have cA:∀ r,Zaj (Zb 11 4 ++ r,0) = (r,0):=by
   intro r
   unfold Zaj
   rw [Zam (n:=11) (w:=4) (by omega)]
   rfl
  have cB:∀ r,Wo (Zb 4 5 ++ r,0) = (4,(r,0)):=by
   intro r
   unfold Wo
   rw [Zam (n:=4) (w:=5) (by omega)]
   rfl
  have cAs:∀ s:IS,s.2 ≠ 0 → Zaj s = s:=fun s h => by unfold Zaj; rw [Zc4 h]; exact WZ h
  have cBs:∀ s:IS,s.2 ≠ 0 → (Wo s).2 = s:=fun s h => by unfold Wo; rw [Zc4 h]; exact WZ h
  constructor
  ·intro r
   have e:=hE.ok (Zb 11 4 ++ (Zb 4 5 ++ (c.flatMap (fun n => WF n 12) ++ (Xi (XV c 4 s) c.length ++ r))))
   rw [shape]
   have ha:((s.take c.length).flatMap (fun n => WF n d) ++ (Zb 11 4 ++ (Zb 4 5 ++ c.flatMap fun n => WF n 12) ++ Xi (XV c 4 s) c.length)) ++ r = (s.take c.length).flatMap (fun n => WF n d) ++ (Zb 11 4 ++ (Zb 4 5 ++ (c.flatMap (fun n => WF n 12) ++ (Xi (XV c 4 s) c.length ++ r)))):=by
    simp only [List.append_assoc]
   rw [ha,e]
   unfold Zbw
   rw [if_pos rfl]
   simp only
   rw [cA,cB]
   simp only
   rw [hC.ok]
   unfold Zeq
   rw [if_neg (by simp)]
   simp only
   have:=hZ.ok r
   rw [hsl]
   exact this
  ·intro p hp
   rw [shape]
   rcases hp.split with h3 | ⟨q,rfl,h3⟩
   ·have:=hE.tail p h3
    rw [Zjd (by rw [this]; decide)]
    exact this
   ·have e:=hE.ok q
    rw [e]
    unfold Zbw
    rw [if_pos rfl]
    simp only
    rw [List.append_assoc] at h3
    have fail:∀ t:IS,t.2 = 10 → (Zeq o s.length (s.take c.length) (Wo t).1 (XM 12 o (Wo t).2 [])).2.2 = 10:=by
     intro t ht
     have hne:t.2 ≠ 0:=by rw [ht]; decide
     rw [cBs t hne]
     have:=Zbi (w:=12) o t [] hne
     unfold Zeq
     rw [this,if_pos hne,ht]
    rcases h3.split with h4 | ⟨u,rfl,h4⟩
    ·refine fail _ ?_
     have:=ZhE (n:=11) (w:=4) (by omega) h4
     unfold Zaj
     rw [WZ (by rw [this]; decide),this]
    ·rw [cA]
     rw [List.append_assoc] at h4
     rcases h4.split with h5 | ⟨v,rfl,h5⟩
     ·have:=ZhE (n:=4) (w:=5) (by omega) h5
      have e5:(Wo (u,0)).2.2 = 10:=by
       unfold Wo
       simp only
       rw [WZ (by rw [this]; decide),this]
      have:=Zbi (w:=12) o (Wo (u,0)).2 [] (by rw [e5]; decide)
      unfold Zeq
      rw [this,if_pos (by rw [e5]; decide),e5]
     ·rw [cB]
      simp only
      rcases h5.split with h6 | ⟨z,rfl,h6⟩
      ·have:=hC.tail v h6
       unfold Zeq
       rw [if_pos (by rw [this]; decide)]
       exact this
      ·rw [hC.ok]
       unfold Zeq
       rw [if_neg (by simp)]
       simp only
       rw [hsl] at h6 ⊢
       exact hZ.tail z h6
theorem ZyP {s:List Int} {d:Nat} (h1:1 ≤ s.length) (h2:s.length ≤ 512) (hd:4 ≤ d ∧ d ≤ 25) (hs:∀ y ∈ s,Xl y d = true):Enc (QT s.length d) s (Wn s d):=by
 obtain ⟨x,_,hok,hsub,_,_⟩:=Zek s d h1 h2
 have hw:=Zdm (by omega) hs
 have hsg:=Zi2 (by omega) hs
 have hsl:=ZaJ s
 have hback:(Q2 s).map (fun x => x * 2 ^ ZJ s) = s:=by
  unfold Q2
  rw [List.map_map]
  conv => rhs; rw [← List.map_id s]
  apply List.map_congr_left
  intro y hy
  exact ZAX (Zi7 y hy)
 obtain ⟨kind,hk1,hk2,hk3,hB⟩:=ZGU (by omega) (by omega) hsg hok
 rw [hsub,hk1]
 rw [hsl] at hB
 have hr:¬ ¬ (1 ≤ s.length ∧ s.length ≤ 512 ∧ 4 ≤ d ∧ d ≤ 25):=fun h => h ⟨h1,h2,hd.1,hd.2⟩
 constructor
 ·intro r
  have e:=Zth hk2 hk3 hw (XY (Q2 s) (d - ZJ s) x ++ r)
  have e2:=hB.ok r
  unfold QT
  rw [if_neg hr,List.append_assoc,e]
  simp only
  rw [if_neg (by simp),e2]
  simp only
  rw [if_neg (by simp),if_pos (List.all_eq_true.2 hsg),hback]
 ·intro p hp
  unfold QT
  rw [if_neg hr]
  rcases hp.split with h3 | ⟨q,rfl,h3⟩
  ·have e:=ZyO (d:=d) hk2 hk3 h3
   rw [if_pos (by rw [e]; decide)]
   exact e
  ·have e:=Zth hk2 hk3 hw q
   have e2:=hB.tail q h3
   rw [e]
   simp only
   rw [if_neg (by simp),if_pos (by rw [e2]; decide)]
   exact e2
end Go.Sh
namespace Go.Sh
open Go Go.Proofs
theorem ZpZ:∀ (i n:Nat),XZ n (i + 1) = (128 + n / 64 ^ i % 64) :: XZ n i
 | 0,n => by simp [XZ]
 | i + 1,n => by
  rw [show XZ n (i + 1 + 1) = XZ (n / 64) (i + 1) ++ [128 + n % 64] from rfl,ZpZ i (n / 64),show XZ n (i + 1) = XZ (n / 64) i ++ [128 + n % 64] from rfl,Nat.div_div_eq_div_mul,← Nat.pow_succ']
  rfl
theorem ZKj (n i:Nat):n / 64 ^ (i + 1) * 64 + n / 64 ^ i % 64 = n / 64 ^ i:=by
 rw [Nat.pow_succ,← Nat.div_div_eq_div_mul]
 omega
theorem Zzh:∀ (i n:Nat) (t:List Int) (g:Nat),cgL i (Q9 (XZ n i) ++ t) (n / 64 ^ i) (n / 64 ^ i) = some (n,n)
 | 0,n,t,g => by simp [cgL,XZ,Q9]
 | i + 1,n,t,g => by
  have e:Q9 (XZ n (i + 1)) ++ t = ((128 + n / 64 ^ i % 64:Nat):Int) :: (Q9 (XZ n i) ++ t):=by rw [ZpZ]; rfl
  rw [e]
  have h:=Nat.mod_lt (n / 64 ^ i) (show 0 < 64 by omega)
  simp only [cgL,Int.toNat_natCast]
  rw [if_pos (by omega),show (128 + n / 64 ^ i % 64) % 64 = n / 64 ^ i % 64 by omega,ZKj]
  exact Zzh i n t g
theorem ZI4:∀ (k:Fin 8) (m:Fin 64),2 ≤ k.val → m.val < 2 ^ (7 - k.val) → Ku (Zd7 k.val m.val) = k.val ∧ Zd7 k.val m.val % 2 ^ (7 - k.val) = m.val:=by decide +kernel
theorem ZOm {n:Nat} (h2:128 ≤ n):2 ^ Yf (Zbt n - 1) ≤ n:=by
 obtain ⟨r2,r3,r4,r5,r6,r7⟩:=Zs8
 have r1:Yf 1 = 7:=rfl
 unfold Zbt
 rw [if_neg (by omega)]
 repeat' split
 all_goals simp only [Nat.reduceSub,r1,r2,r3,r4,r5,r6]
 all_goals omega
theorem ZJe {kk n:Nat} (h2:2 ≤ kk) (h7:kk ≤ 7) (hlt:n < 2 ^ Yf kk):n / 64 ^ (kk - 1) < 2 ^ (7 - kk):=by
 have h64:(64:Nat) = 2 ^ 6:=rfl
 rw [Nat.div_lt_iff_lt_mul (Nat.pow_pos (by omega))]
 refine Nat.lt_of_lt_of_le hlt ?_
 rw [h64,← Nat.pow_mul,← Nat.pow_add]
 refine Nat.pow_le_pow_right (by omega) ?_
 unfold Yf
 rw [if_neg (by omega)]
 omega
theorem ZG2 {n:Nat} (h:128 ≤ n):Qy n = Zd7 (Zbt n) (n / 64 ^ (Zbt n - 1)) :: XZ n (Zbt n - 1):=by
 unfold Qy
 rw [if_neg (by omega)]
theorem ZI9 {n:Nat} (h:n < 2 ^ 36) (t:List Int):ZeC (Q9 (Qy n) ++ t) = (n,(Qy n).length,0):=by
 by_cases h128:n < 128
 ·have e:Qy n = [n]:=by unfold Qy; rw [if_pos h128]
  rw [e]
  show ZeC ((n:Int) :: t) = _
  unfold ZeC
  simp only [Int.toNat_natCast]
  rw [if_pos (by unfold Ku; rw [if_pos h128])]
  rfl
 ·obtain ⟨h1,h2⟩:=Zvw h (by omega)
  have h7:=(Zyo n).2
  have hm:=ZJe h1 h7 h2
  have hm64:=ZiJ h1 h7 h2
  have hlow:=ZOm (n:=n) (by omega)
  rw [ZG2 (by omega)]
  generalize hk:Zbt n = k at *
  have hft:=ZI4 ⟨k,by omega⟩ ⟨n / 64 ^ (k - 1),hm64⟩ h1 hm
  simp only at hft
  show ZeC (((Zd7 k (n / 64 ^ (k - 1)):Nat):Int) :: (Q9 (XZ n (k - 1)) ++ t)) = _
  unfold ZeC
  simp only [Int.toNat_natCast]
  rw [hft.1,hft.2,if_neg (by omega),if_neg (by omega),if_neg (by omega),Zzh _ _ _ 0]
  simp only
  rw [if_neg (by omega),if_neg (by simp only [List.length_append,ZhH,Zgj]; omega)]
  simp only [List.length_cons,Zgj]
  congr 2
  omega
theorem ZGS {l:List Nat} (h:∀ x ∈ l,x < 256):Qo (Q9 l) = l.flatMap fun x => Zb x 8:=by
 unfold Qo Q9
 rw [List.flatMap_map]
 rfl
theorem ZCu {l:List Nat} (h:∀ x ∈ l,x < 256):ZW (Q9 l) = true:=by
 refine List.all_eq_true.2 fun x hx => ?_
 obtain ⟨y,hy,rfl⟩:=List.mem_map.1 hx
 have:=h y hy
 rw [Bool.and_eq_true,decide_eq_true_eq,decide_eq_true_eq]
 omega
theorem ZVV (r:List Bool):hd1 (Zb 32764 15 ++ r,0) = (r,0):=by
 unfold hd1
 rw [Zam (w:=15) (by omega)]
 rfl
theorem ZVW (r:List Bool):hd2 (Zb 0 1 ++ r,0) = (r,0):=by
 unfold hd2
 rw [Zam (w:=1) (by omega)]
 rfl
theorem ZVX {kd:Nat} (h:kd = 6 ∨ kd = 7) (r:List Bool):hd3 (Zb kd 4 ++ r,0) = (kd,(r,0)):=by
 unfold hd3
 rw [Zam (w:=4) (by omega)]
 rcases h with rfl | rfl <;> rfl
theorem ZOe (r:List Bool):hd4 (Zb 0 4 ++ r,0) = (r,0):=by
 unfold hd4
 rw [Zam (w:=4) (by omega)]
 rfl
theorem ZVY {c:Int} {m:Nat} (h:m < 16) (hm:Zeu c m = true) (r:List Bool):hd5 c (Zb m 4 ++ r,0) = (m,(r,0)):=by
 unfold hd5
 rw [Zam (w:=4) (by omega),hm,XO]
theorem ZBA:∀ (l:List Nat) (r:List Bool),(∀ x ∈ l,x < 256) → ZvT l.length (l.flatMap (fun x => Zb x 8) ++ r,0) = (r,0)
 | [],r,_ => rfl
 | x :: l,r,h => by
  rw [List.flatMap_cons,List.append_assoc,List.length_cons]
  unfold ZvT
  rw [Zam (h x (List.mem_cons_self ..))]
  exact ZBA l r fun y hy => h y (List.mem_cons_of_mem _ hy)
theorem ZJv {mode num N:Nat} (hm:mode < 16):Qr mode num N = Zb 32764 15 ++ (Zb 0 1 ++ (Zb (QI N) 4 ++ (Zb 0 4 ++ (Zb mode 4 ++ (Zb 0 4 ++ ((Qy num).flatMap (fun x => Zb x 8) ++ Zb (N - 1) (8 * (QI N - 5)))))))):=by
 have e1:Zb 16382 14 ++ Zb (QI N) 6 = Zb 32764 15 ++ (Zb 0 1 ++ Zb (QI N) 4):=by rcases ZfT N with h | h <;> rw [h] <;> decide
 have e2:Zb mode 8 = Zb 0 4 ++ Zb mode 4:=by
  have:=Zwg mode 4 4
  rw [show mode / 2 ^ 4 = 0 from Nat.div_eq_of_lt (by omega)] at this
  exact this
 unfold Qr
 rw [← List.append_assoc,e1,e2]
 simp only [List.append_assoc]
theorem ZTH (mode kd:Nat):(Zb 32764 15 ++ (Zb 0 1 ++ (Zb kd 4 ++ (Zb 0 4 ++ (Zb mode 4 ++ Zb 0 4))))).length = 32:=by simp only [List.length_append,Zk]
theorem ZOi {c:Int} {mode num N:Nat} (hm:mode < 16) (hmb:Zeu c mode = true) (hnum:num < 2 ^ 31) (h1:1 ≤ N) (h2:N ≤ 512) {Z:List Int} {r:List Bool} (hZ:ZW Z = true) (hB:Qo Z = Qs mode num N ++ r) :
  ZbN c Z (Qo Z,0) = (mode,num,N,(r,0)):=by
 have hk:=ZfT N
 have hclt:=Zzj (n:=num) (by omega)
 have hzl:8 * Z.length = (Qs mode num N).length + r.length:=by rw [← Qw,hB,List.length_append]
 have hpl:=ZbW mode num N
 have hhl:(Qs mode num N).length = (Qr mode num N).length + 8:=by unfold Qs; rw [List.length_append,Zk]
 have hpp:ZM (Qs mode num N ++ r) = Z:=by rw [← hB]; exact ZiR hZ
 have hp8:(Qr mode num N).length % 8 = 0:=by omega
 unfold ZbN
 have hB2:Qo Z = Zb 32764 15 ++ (Zb 0 1 ++ (Zb (QI N) 4 ++ (Zb 0 4 ++ (Zb mode 4 ++ (Zb 0 4 ++ ((Qy num).flatMap (fun x => Zb x 8) ++ (Zb (N - 1) (8 * (QI N - 5)) ++ (Zb (ZhO (ZM (Qr mode num N))) 8 ++ r)))))))):=by
  rw [hB]
  unfold Qs
  generalize ZhO (ZM (Qr mode num N)) = c8
  rw [ZJv hm]
  simp only [List.append_assoc]
 rw [hB2,ZVV,ZVW,ZVX hk]
 unfold Zyh
 simp only
 rw [ZOe]
 unfold ZOg
 rw [ZVY hm hmb]
 simp only
 rw [ZOe]
 unfold ZOh
 have hlw:(Zb (N - 1) (8 * (QI N - 5))).length = 8 * (QI N - 5):=Zk _ _
 have hnumI:ZlE Z ((Qy num).flatMap (fun x => Zb x 8) ++ (Zb (N - 1) (8 * (QI N - 5)) ++ (Zb (ZhO (ZM (Qr mode num N))) 8 ++ r)),0) = (num,(Zb (N - 1) (8 * (QI N - 5)) ++ (Zb (ZhO (ZM (Qr mode num N))) 8 ++ r),0)):=by
  unfold ZlE
  rw [if_neg (by simp)]
  have hpos:ZV Z ((Qy num).flatMap (fun x => Zb x 8) ++ (Zb (N - 1) (8 * (QI N - 5)) ++ (Zb (ZhO (ZM (Qr mode num N))) 8 ++ r))) / 8 = 4:=by
   unfold ZV
   simp only [List.length_append,ZhC,Zk]
   omega
  have hdrop:Z.drop 4 = Q9 (Qy num) ++ ZM (Zb (N - 1) (8 * (QI N - 5)) ++ (Zb (ZhO (ZM (Qr mode num N))) 8 ++ r)):=by
   have hb32:=ZTH mode (QI N)
   have e:Qo Z = (Zb 32764 15 ++ (Zb 0 1 ++ (Zb (QI N) 4 ++ (Zb 0 4 ++ (Zb mode 4 ++ Zb 0 4))))) ++ (Qo (Q9 (Qy num)) ++ (Zb (N - 1) (8 * (QI N - 5)) ++ (Zb (ZhO (ZM (Qr mode num N))) 8 ++ r))):=by
    rw [hB2,ZGS hclt]
    simp only [List.append_assoc]
   have e2:=congrArg ZM e
   rw [ZiR hZ,ZbT (by rw [hb32]),ZbT (A:=Qo (Q9 (Qy num))) (by rw [Qw]; omega),ZiR (ZCu hclt)] at e2
   rw [e2,List.drop_append,List.drop_eq_nil_of_le (by rw [Qf,hb32]; omega),List.nil_append,Qf,hb32]
   rfl
  simp only
  rw [hpos,hdrop,ZI9 (by omega)]
  simp only
  rw [ZBA _ _ hclt,decide_eq_true (by omega),XO]
 rw [hnumI]
 unfold Zyi hd6
 simp only
 rw [if_pos trivial]
 have hw:N - 1 < 2 ^ (8 * (QI N - 5)):=by
  unfold QI
  split
  ·show N - 1 < 2 ^ 16; omega
  ·show N - 1 < 2 ^ 8; omega
 rw [Zam hw]
 simp only
 rw [show N - 1 + 1 = N by omega,decide_eq_true h2,XO]
 have hc8:=ZE6 (Kv (Qr mode num N))
 unfold ZhS
 rw [Zam hc8,if_neg (by simp)]
 have hpos2:ZV Z (Zb (ZhO (ZM (Qr mode num N))) 8 ++ r) / 8 = (Qr mode num N).length / 8:=by
  unfold ZV
  rw [List.length_append,Zk]
  congr 1
  omega
 have htake:Z.take ((Qr mode num N).length / 8) = ZM (Qr mode num N):=by
  rw [← hpp]
  unfold Qs
  rw [List.append_assoc,ZbT hp8,List.take_append_of_le_length (by rw [Qf]; omega),List.take_of_length_le (by rw [Qf]; omega)]
 simp only
 rw [hpos2,htake,show (ZhO (ZM (Qr mode num N)) == ZhO (ZM (Qr mode num N))) = true from by simp,XO]
end Go.Sh
namespace Go.Sh
open Go Go.Proofs
theorem ZE4 {N:Nat} (h1:1 ≤ N) (h2:N ≤ 512):∀ (ls:List (List Int)) (ds:List Int) (acc:List (List Int)),ls.length = ds.length →
  (∀ (i:Nat) (h1:i < ls.length) (h2:i < ds.length),ls[i].length = N ∧ (4 ≤ ds[i].toNat ∧ ds[i].toNat ≤ 25) ∧ ∀ x ∈ ls[i],Xl x ds[i].toNat = true) →
  Enc (fun r => Zjh N ds r acc) (acc ++ ls) (Qh ls ds)
 | [],[],acc,_,_ => ⟨fun r => by simp [Zjh,Qh],fun p hp => (SP.no hp).elim⟩
 | l :: ls,d :: ds,acc,hl,h => by
  obtain ⟨a,b,c⟩:=h 0 (by simp) (by simp)
  simp only [List.getElem_cons_zero] at a b c
  have hE:=ZyP (s:=l) (d:=d.toNat) (by omega) (by omega) b c
  rw [a] at hE
  have ih:=ZE4 h1 h2 ls ds (acc ++ [l]) (by simpa using hl) (fun i hi1 hi2 => by
   have:=h (i + 1) (by simpa using hi1) (by simpa using hi2)
   simpa only [List.getElem_cons_succ] using this)
  have hcb:Qh (l :: ls) (d :: ds) = Wn l d.toNat ++ Qh ls ds:=by unfold Qh; rw [List.zip_cons_cons,List.flatMap_cons]
  rw [hcb]
  constructor
  ·intro r
   have:=ih.ok r
   rw [List.append_assoc]
   unfold Zjh
   rw [hE.ok]
   simp only
   rw [if_neg (by simp),this,List.append_assoc]
   rfl
  ·intro p hp
   unfold Zjh
   rcases hp.split with g1 | ⟨q,rfl,g1⟩
   ·have:=hE.tail p g1
    rw [if_pos (by rw [this]; decide)]
    exact this
   ·rw [hE.ok]
    simp only
    rw [if_neg (by simp)]
    exact ih.tail q g1
theorem ZSN {m l r:Int} (hm:Zlz m):tgL m (apA m l r) (apB m l r) = l ∧ tgR m (apA m l r) (apB m l r) = r:=by
 unfold tgL tgR apA apB
 rcases hm with rfl | rfl | rfl | rfl <;> simp <;> omega
theorem ZvZ {m:Int} (hm:Zlz m):∀ (L R:List Int),L.length = R.length → ZhT m (WT m L R) (WU m L R) = L ∧ ZhU m (WT m L R) (WU m L R) = R
 | [],[],_ => ⟨rfl,rfl⟩
 | l :: L,r :: R,h => by
  obtain ⟨e1,e2⟩:=ZvZ hm L R (by simpa using h)
  obtain ⟨e3,e4⟩:=ZSN (l:=l) (r:=r) hm
  constructor
  ·show tgL m (apA m l r) (apB m l r) :: ZhT m (WT m L R) (WU m L R) = _
   rw [e1,e3]
  ·show tgR m (apA m l r) (apB m l r) :: ZhU m (WT m L R) (WU m L R) = _
   rw [e2,e4]
theorem ZWw {pad:Nat} (hp:pad < 8) {t:List Bool} (ht:t.length % 8 = 0):alS (List.replicate pad false ++ t) = (0,t):=by
 have hl:(List.replicate pad false ++ t).length % 8 = pad:=by rw [List.length_append,List.length_replicate]; omega
 unfold alS
 rw [hl,List.take_append_of_le_length (by rw [List.length_replicate]; omega),List.take_of_length_le (by rw [List.length_replicate]; omega),if_pos,List.drop_append,List.drop_eq_nil_of_le (by rw [List.length_replicate]; omega),List.length_replicate,Nat.sub_self,List.drop_zero,List.nil_append]
 rw [List.all_eq_true]
 intro x hx
 rw [List.eq_of_mem_replicate hx]
 rfl
structure Made (c d r n:Int) (ch:List (List Int)) (mode num N:Nat) (ls:List (List Int)) (ds:List Int):Prop where
 hm:mode < 16
 hmb:Zeu c mode = true
 hnum:num < 2 ^ 31
 hn:n = (num:Int)
 h1:1 ≤ N
 h2:N ≤ 512
 els:ls = (YX ch).1
 eds:ds = Qe c d (mode:Int)
 emode:(YX ch).2 = (mode:Int)
 eN:(ch.headD []).length = N
 len:ls.length = ds.length
 all:∀ (i:Nat) (h1:i < ls.length) (h2:i < ds.length),ls[i].length = N ∧ (4 ≤ ds[i].toNat ∧ ds[i].toNat ≤ 25) ∧ ∀ x ∈ ls[i],Xl x ds[i].toNat = true
 bytes:(Y8 c d r n ch).1 = ZM (Yn (Qs mode num N ++ Qh ls ds))
theorem ZXA {c d r n:Int} {ch:List (List Int)} (h:Ym c d r n ch = 0):∃ mode num N ls ds,Made c d r n ch mode num N ls ds:=by
 obtain ⟨hs,hn,hc,hlen,hsg⟩:=ZaO h
 obtain ⟨hlay,⟨mode,hmode,hmc⟩,_⟩:=ZEm h
 have hN:1 ≤ (ch.headD []).length ∧ (ch.headD []).length ≤ 512:=by
  have:0 < ch.length:=by omega
  match ch,this with
  | l :: _,_ => exact (hlen l (by simp)).2
 refine ⟨mode,n.toNat,(ch.headD []).length,(YX ch).1,Qe c d mode,?_⟩
 rw [hmode] at hlay
 refine ⟨by omega,?_,by omega,by omega,hN.1,hN.2,rfl,rfl,hmode,rfl,hlay.len,?_,?_⟩
 ·unfold Zeu
  rcases hmc with ⟨rfl,rfl⟩ | ⟨rfl,hm⟩
  ·rfl
  ·rcases hm with rfl | rfl | rfl | rfl <;> rfl
 ·intro i h1 h2
  obtain ⟨a,b,e⟩:=hlay.all i h1 h2
  refine ⟨a,?_,e⟩
  omega
 ·unfold Y8
  rw [if_pos h,hmode,Int.toNat_natCast]
theorem Made.parts {c d r n:Int} {ch:List (List Int)} {mode num N:Nat} {ls:List (List Int)} {ds:List Int} (M:Made c d r n ch mode num N ls ds) :
  ∃ pad crc:Nat,pad < 8 ∧ crc < 2 ^ 16 ∧ ((Qh ls ds).length + pad) % 8 = 0 ∧ (Qs mode num N).length % 8 = 0 ∧ crc = Zcj (ZM (Qs mode num N ++ (Qh ls ds ++ List.replicate pad false))) ∧
   Yn (Qs mode num N ++ Qh ls ds) = Qs mode num N ++ (Qh ls ds ++ (List.replicate pad false ++ Zb crc 16)):=by
 have hh:(Qs mode num N).length % 8 = 0:=by
  have:=ZbW mode num N
  unfold Qs
  rw [List.length_append,Zk]
  omega
 refine ⟨Zai (Qs mode num N ++ Qh ls ds).length,Zcj (ZM (XU (Qs mode num N ++ Qh ls ds))),by unfold Zai; omega,Zzo (Kv _),?_,hh,?_,?_⟩
 ·unfold Zai
  rw [List.length_append]
  omega
 ·unfold XU
  rw [List.append_assoc]
 ·unfold Yn XU
  simp only [List.append_assoc]
theorem ZJw {c d r n:Int} {ch:List (List Int)} (h:Ym c d r n ch = 0) {more:List Int} (hm:ZW more = true):ZBq c d r ((Y8 c d r n ch).1 ++ more) = ((n,ch),((Y8 c d r n ch).1.length:Int),0):=by
 obtain ⟨mode,num,N,ls,ds,M⟩:=ZXA h
 obtain ⟨pad,crc,hp,hcrc,hal,hh,ecrc,eclosed⟩:=M.parts
 obtain ⟨hs,hn,hc,hlen,hsg⟩:=ZaO h
 have hsh:Zei c d r = true:=decide_eq_true hs
 rw [M.bytes,eclosed]
 have hclen:(Qs mode num N ++ (Qh ls ds ++ (List.replicate pad false ++ Zb crc 16))).length % 8 = 0:=by
  simp only [List.length_append,List.length_replicate,Zk]
  omega
 generalize hZ:ZM (Qs mode num N ++ (Qh ls ds ++ (List.replicate pad false ++ Zb crc 16))) ++ more = Z
 have hZb:ZW Z = true:=by
  rw [← hZ]
  exact List.all_eq_true.2 fun x hx => by
   rcases List.mem_append.1 hx with hx | hx
   ·exact List.all_eq_true.1 (Kv _) x hx
   ·exact List.all_eq_true.1 hm x hx
 have hB:Qo Z = Qs mode num N ++ (Qh ls ds ++ (List.replicate pad false ++ (Zb crc 16 ++ Qo more))):=by
  rw [← hZ,Zwe,ZCk hclen]
  simp only [List.append_assoc]
 have hZl:8 * Z.length = (Qs mode num N).length + ((Qh ls ds).length + (pad + (16 + 8 * more.length))):=by
  rw [← Qw,hB]
  simp only [List.length_append,List.length_replicate,Zk,Qw]
 unfold ZBq
 rw [if_neg (by rw [hsh]; simp),ZOi M.hm M.hmb M.hnum M.h1 M.h2 hZb hB]
 unfold ZCc
 simp only
 rw [if_neg (by simp),← M.eds]
 have hch:=(ZE4 M.h1 M.h2 ls ds [] M.len M.all).ok (List.replicate pad false ++ (Zb crc 16 ++ Qo more))
 rw [List.nil_append] at hch
 rw [hch]
 simp only
 rw [if_neg (by simp)]
 unfold ZN3
 rw [ZWw hp (by rw [List.length_append,Zk,Qw]; omega)]
 have hsum:ZhS Zcj Z 16 (Zb crc 16 ++ Qo more,0) = (Qo more,0):=by
  unfold ZhS
  rw [Zam hcrc,if_neg (by simp)]
  have hpos:ZV Z (Zb crc 16 ++ Qo more) / 8 = (Qs mode num N ++ (Qh ls ds ++ List.replicate pad false)).length / 8:=by
   unfold ZV
   simp only [List.length_append,List.length_replicate,Zk,Qw]
   congr 1
   omega
  have htake:Z.take ((Qs mode num N ++ (Qh ls ds ++ List.replicate pad false)).length / 8) = ZM (Qs mode num N ++ (Qh ls ds ++ List.replicate pad false)):=by
   have hA:(Qs mode num N ++ (Qh ls ds ++ List.replicate pad false)).length % 8 = 0:=by
    simp only [List.length_append,List.length_replicate]
    omega
   have e:Qs mode num N ++ (Qh ls ds ++ (List.replicate pad false ++ Zb crc 16)) = (Qs mode num N ++ (Qh ls ds ++ List.replicate pad false)) ++ Zb crc 16:=by simp only [List.append_assoc]
   rw [← hZ,e,ZbT hA,List.append_assoc,List.take_append_of_le_length (by rw [Qf]; omega),List.take_of_length_le (by rw [Qf]; omega)]
  simp only
  rw [hpos,htake,← ecrc,show (crc == crc) = true from by simp,XO]
 rw [hsum]
 simp only
 rw [if_neg (by simp)]
 have hpos2:ZV Z (Qo more) / 8 = (ZM (Qs mode num N ++ (Qh ls ds ++ (List.replicate pad false ++ Zb crc 16)))).length:=by
  unfold ZV
  rw [Qf]
  simp only [List.length_append,List.length_replicate,Zk,Qw]
  omega
 have hout:∀ out,out = ch → ZJr c d r num (ZV Z (Qo more)) out = ((n,ch),(((ZM (Qs mode num N ++ (Qh ls ds ++ (List.replicate pad false ++ Zb crc 16)))).length:Nat):Int),0):=by
  intro out ho
  subst ho
  unfold ZJr
  rw [← M.hn,if_neg (by simpa using h),hpos2]
 match ch,hc,hlen,hsg,M,hout,h with
 | [],hc,_,_,_,_,_ => simp at hc; omega
 | [l],hc,_,_,M,hout,_ =>
  have hc:c = 1:=by simp at hc; omega
  subst hc
  rw [if_neg (by omega)]
  exact hout ls M.els
 | [L,R],hc,hlen,hsg,M,hout,h =>
  have hc:c = 2:=by simp at hc; omega
  subst hc
  rw [if_pos (by omega)]
  have hlr:L.length = R.length:=by
   have:=(hlen R (by simp)).1
   simpa using this.symm
  have hmd:=Zim L R
  have hls:ls = [WT (Z8 L R) L R,WU (Z8 L R) L R]:=M.els
  have hmo:(if Z8 L R = 0 then 1 else Z8 L R) = (mode:Int):=M.emode
  have hmm:(if mode = 1 then 0 else (mode:Int)) = Z8 L R:=by
   rcases hmd with h | h | h | h <;> rw [h] at hmo ⊢
   ·have:mode = 1:=by simp at hmo; omega
    rw [if_pos this]
   ·have:mode = 8:=by simp at hmo; omega
    rw [if_neg (by omega),this]; rfl
   ·have:mode = 9:=by simp at hmo; omega
    rw [if_neg (by omega),this]; rfl
   ·have:mode = 10:=by simp at hmo; omega
    rw [if_neg (by omega),this]; rfl
  have hg0:ls.getD 0 [] = WT (Z8 L R) L R:=by rw [hls]; rfl
  have hg1:ls.getD 1 [] = WU (Z8 L R) L R:=by rw [hls]; rfl
  rw [hmm,hg0,hg1]
  show ZBn 2 d r num _ (Z8 L R) (WT (Z8 L R) L R) (WU (Z8 L R) L R) = _
  obtain ⟨e1,e2⟩:=ZvZ hmd L R hlr
  obtain ⟨l1,l2⟩:=Zgh (m:=Z8 L R) hlr
  have htog:(Q4 (Z8 L R) (WT (Z8 L R) L R) (WU (Z8 L R) L R)).2 = 0:=by
   unfold Q4
   rw [if_neg (by rw [l1,l2]; simp),e1,e2,if_pos]
   rw [List.all_eq_true]
   intro x hx
   have h1:=hsg L (by simp) x.1 (List.of_mem_zip hx).1
   have h2:=hsg R (by simp) x.2 (List.of_mem_zip hx).2
   have g1:=Zb2 (by omega) h1
   have g2:=Zb2 (by omega) h2
   rw [Bool.and_eq_true]
   unfold YU
   rw [decide_eq_true_eq,decide_eq_true_eq]
   exact ⟨g1,g2⟩
  unfold ZBn
  rw [if_neg (by rw [htog]; simp),e1,e2]
  exact hout [L,R] rfl
 | _ :: _ :: _ :: _,hc,_,_,_,_,_ => simp at hc; omega
end Go.Sh
namespace Go.Sh
open Go Go.Proofs
theorem Zpr {α:Type} (f:α → Nat):∀ (l:List α),(∀ x ∈ l,1 ≤ f x) → l.length ≤ (l.map f).sum ∧ ∀ x ∈ l,f x ≤ (l.map f).sum
 | [],_ => by simp
 | a :: l,h => by
  have ih:=Zpr f l (fun x hx => h x (by simp [hx]))
  have ha:=h a (by simp)
  simp only [List.map_cons,List.sum_cons,List.length_cons]
  refine ⟨by omega,fun x hx => ?_⟩
  rcases List.mem_cons.1 hx with rfl | hx
  ·omega
  ·have:=ih.2 x hx; omega
theorem ZBQ {c d r:Int} {tags:List ByteArray} {ch:List (List Int)} (h:Ty.bulk trackT ((c,d,r,()),tags,ch,()) ≤ 1048576):Small tags ch:=by
 have h1:(3:Nat) + (((tags.map (Ty.bulk .str)).sum + 1) + (((ch.map (Ty.bulk (.sl (.int .i64)))).sum + 1) + 0)) ≤ 1048576:=h
 have t:=Zpr (Ty.bulk .str) tags (fun x _ => by simp only [Ty.bulk]; omega)
 have s:=Zpr (Ty.bulk (.sl (.int .i64))) ch (fun x _ => by simp only [Ty.bulk]; omega)
 refine ⟨by omega,fun x hx => ?_,by omega,fun x hx => ?_⟩
 ·have h2:=t.2 x hx
  have h3:Ty.bulk .str x = x.size + 1:=rfl
  omega
 ·have h2:=s.2 x hx
  have h3:Ty.bulk (.sl (.int .i64)) x = (x.map (Ty.bulk (.int .i64))).sum + 1:=rfl
  have h4:=Zpr (Ty.bulk (.int .i64)) x (fun y _ => by simp only [Ty.bulk]; omega)
  omega
end Go.Sh
namespace Go.Sh
open Go Go.Proofs
theorem ZNx (k:Nat) (l:List Int) (hk:2000000 < k) (hl:l.length ≤ 1048576):ZAF k (l,l,()) = some (true,()):=by
 show Zk4 k (ZxK k) _ = _
 simp only [Zk4]
 rw [show (Int.ofNat l.length != Int.ofNat l.length) = false from by simp]
 simp only [cond_false]
 have:=QG (A:=Unit) (R:=Bool × Unit) (step:=fun L1 => Zfu k L1) (fun i _ => (Int.ofNat i,l,l)) l (fun _ _ => some (true,()))
  (fun L _ => by simp only [Zfu]; rw [Zj (QW _)])
  (fun L i hi _ hL => by
   simp only [Zfu]
   rw [Zc (K7 hi),Zc (XW hi),Zc (XW hi),ZI,Zj (by simp),Qk hi (by omega)]
   exact hL ()) k 0 () (by omega) (Nat.zero_le _)
 exact this
theorem ZMU (k:Nat) (n:Int) {ch:List (List Int)} (hk:2000000 < k) (h:Sm ch):Zu1 k ((n,ch,()),(n,ch,()),()) = some (true,()):=by
 show Zkz k (Zxq k) _ = _
 simp only [Zkz]
 have hs:=h.1
 rw [ZI,Zj (by simp),show (Int.ofNat ch.length != Int.ofNat ch.length) = false from by simp]
 simp only [cond_false]
 have:=QG (A:=Unit) (R:=Bool × Unit) (step:=fun L1 => Zfk k L1) (fun i _ => (Int.ofNat i,n,ch,n,ch)) ch (fun _ _ => some (true,()))
  (fun L _ => by simp only [Zfk]; rw [Zj (QW _)])
  (fun L i hi _ hL => by
   simp only [Zfk]
   rw [Zc (K7 hi),Zc (XW hi),Zc (XW hi),ZK hi,ZNx k _ hk (h.2 _ (List.getElem_mem hi))]
   simp only [Z1,Bool.not_true,cond_false]
   rw [Qk hi (by omega)]
   exact hL ()) k 0 () (by omega) (Nat.zero_le _)
 exact this
theorem ZDp {k:Nat} (hk:2000000 < k) (c d r:Int) {tags:List ByteArray} {ch:List (List Int)} (hS:Small tags ch):Zhs k (((c,d,r,()),tags,ch,()),((c,d,r,()),tags,ch,()),()) = some (true,()):=by
 show ZdN k (Zj2 k) _ = _
 simp only [ZdN]
 rw [show (!(decide True && (decide True && (decide True && true)))) = false by decide,show (Int.ofNat tags.length != Int.ofNat tags.length) = false by simp]
 simp only [cond_false]
 rw [ZMU k 0 hk ⟨hS.cl,hS.chan⟩]
 simp only [Z1,Bool.not_true,cond_false]
 have htl:=hS.tl
 have:=QG (A:=Unit) (step:=fun L1 => Za0 k L1) (fun i _ => (Int.ofNat i,c,d,r,tags,ch,c,d,r,tags,ch)) tags (fun _ _ => some (true,()))
  (fun L _ => by simp only [Za0]; rw [Zj (QW _)])
  (fun L i hi _ hL => by
   simp only [Za0]
   rw [Zc (K7 hi),Zc (XW hi),Zc (XW hi),ZK hi,ZJ9,show (!decide (tags[i] = tags[i])) = false by simp]
   simp only [cond_false]
   rw [Qk hi (by omega)]
   exact hL ()) k 0 () (by omega) (Nat.zero_le _)
 exact this
def mkB (l:List Int):ByteArray:=ByteArray.mk (List.map (fun n => UInt8.ofNat n.toNat) l).toArray
theorem ZEs (a b:List Int):mkB a ++ mkB b = mkB (a ++ b):=by
 apply ZCg
 simp [mkB]
theorem ZsF (a:List Int):(mkB a).size = a.length:=by simp [mkB,ByteArray.size]
def Y7 (ch:List (List Int)) (size i:Nat):List (List Int):=ch.map fun c => c.take (i * size)
theorem ZJG (x:List Int) (a b:Nat):x.take a ++ (x.take (a + b)).drop a = x.take (a + b):=by
 have:=List.take_append_drop a (x.take (a + b))
 rwa [List.take_take,Nat.min_eq_left (by omega)] at this
theorem ZJK {c d:Int} {ch:List (List Int)} {n size i j:Nat} (hj:j < ch.length):(Y7 ch size i).getD j [] ++ (QO ch size i).getD j [] = (Y7 ch size (i + 1)).getD j []:=by
 rw [Q3 (by simp [Y7]; exact hj),Q3 (by simp [QO]; exact hj),Q3 (by simp [Y7]; exact hj)]
 simp only [Y7,QO,List.getElem_map,Nat.add_mul,Nat.one_mul]
 exact ZJG _ _ _
section prog
variable {k:Nat} {c d r:Int} {tags:List ByteArray} {ch:List (List Int)}
abbrev L1C:=Int × List (List Int) × ByteArray × List Int × Int × Int × Int × List ByteArray × List (List Int) × List (List Int) → Option (Bool × Unit)
theorem ZQ5 (hk:100 ≤ k) (hc:ch.length ≤ 2) (hS:Small tags ch) (size i:Nat) (L1:L1C) (all:ByteArray) (cuts:List (List Int)) (hi:i < cuts.length) (hb:all.size + cuts[i].length < 1099511627776) (ex:List Int) (num:Int) (hi2:i < 1000) :
  Ze7 k L1 ((0:Int),all,cuts,(i:Int),ex,Y7 ch size i,num,QO ch size i,c,d,r,tags,ch) =
   L1 (((i + 1:Nat):Int),cuts,all ++ mkB cuts[i],ex,c,d,r,tags,ch,Y7 ch size (i + 1)):=by
 have key:=Zw (A:=List (List Int)) (step:=fun L2 => Ki k L1 L2) (fun j a => (Int.ofNat j,all,cuts,(i:Int),ex,a,num,QO ch size i,c,d,r,tags,ch)) ch
  (fun _ _ => L1 (((i + 1:Nat):Int),cuts,all ++ mkB cuts[i],ex,c,d,r,tags,ch,Y7 ch size (i + 1)))
  (fun j a => a.length = ch.length ∧ a = (Y7 ch size (i + 1)).take j ++ (Y7 ch size i).drop j)
  (fun L a hI => by
   simp only [Ki]
   rw [hI.1,Zj (QW _),Zc (by simp only [Qz]; omega),Xm,Q3 hi]
   rw [show (ByteArray.mk (List.map (fun n => UInt8.ofNat n.toNat) cuts[i]).toArray) = mkB cuts[i] from rfl,ZsF,Zc (by omega),ZPh (by omega)]
   have:a = Y7 ch size (i + 1):=by
    rw [hI.2,List.take_of_length_le (by simp [Y7]),List.drop_of_length_le (by simp [Y7]),List.append_nil]
   rw [this])
  (fun L j hj a hI hL => by
   simp only [Ki]
   have hbl:(QO ch size i).length = ch.length:=by simp [QO]
   have huj:(Y7 ch size i).length = ch.length:=by simp [Y7]
   have huj1:(Y7 ch size (i + 1)).length = ch.length:=by simp [Y7]
   have haj:a.getD (Int.ofNat j).toNat [] = (Y7 ch size i).getD j []:=by
    rw [hI.2,show (Int.ofNat j).toNat = j from rfl]
    simp only [List.getD_eq_getElem?_getD]
    rw [List.getElem?_append_right (by rw [List.length_take]; omega),List.length_take,Nat.min_eq_left (by omega),Nat.sub_self,List.getElem?_drop]
    rfl
   rw [hI.1,hbl,Zc (K7 hj),Zc (XW hj),Zc (show (Int.ofNat j).toNat < ch.length from hj),Zc (XW hj),haj]
   rw [show (Int.ofNat j).toNat = j from rfl,ZJK (c:=c) (d:=d) (n:=0) hj]
   have hl1:((Y7 ch size i).getD j []).length ≤ 1048576:=by
    rw [Q3 (by omega)]
    simp only [Y7,List.getElem_map,List.length_take]
    have:=hS.chan _ (List.getElem_mem hj)
    omega
   have hl2:((QO ch size i).getD j []).length ≤ 1048576:=by
    rw [Q3 (by omega)]
    simp only [QO,List.getElem_map,List.length_take,List.length_drop]
    have:=hS.chan _ (List.getElem_mem hj)
    omega
   rw [Zc (by omega),Zc (XW hj),Zc trivial,Zc hj,Qk hj (by omega)]
   refine hL _ ⟨by rw [List.length_set]; exact hI.1,?_⟩
   apply List.ext_getElem?
   intro q
   rw [hI.2,List.getElem?_set]
   by_cases hq:j = q
   ·subst hq
    rw [if_pos rfl,Wa,List.length_take,List.length_drop,if_pos (by omega),List.getElem?_append_left (by rw [List.length_take]; omega),List.getElem?_take,if_pos (by omega)]
    rw [Q3 (by omega),List.getElem?_eq_getElem (by omega)]
   ·rw [if_neg hq]
    simp only [List.getElem?_append,List.length_take,List.getElem?_take,List.getElem?_drop]
    rcases Nat.lt_or_gt_of_ne hq with h | h
    ·rw [if_neg (by omega)]
     by_cases h2:q < min (j + 1) (Y7 ch size (i + 1)).length
     ·omega
     ·rw [if_neg h2]; congr 1; omega
    ·rw [if_pos (by omega),if_pos h,if_pos (by omega),if_pos (by omega)])
  k 0 (Y7 ch size i) ⟨by simp [Y7],by simp⟩ (by omega) (by omega)
 exact key
theorem ZQ4 (hk:20000000 ≤ k) (hS:Small tags ch) (h0:chk c d r tags ch = 0) {size:Nat} (hs:16 ≤ size ∧ size ≤ 512) (ex:List Int) (pre:List Int) (hex:ex = pre ++ (Zn6 c d r ch size).flatten) (hexl:ex.length < 100000000) :
  Ze6 k ((0:Int),Zn6 c d r ch size,ByteArray.mk #[],ex,c,d,r,tags,ch,Y7 ch size 0) = some (true,()):=by
 obtain ⟨hg,hshape,-⟩:=ZaP h0
 have hn4:=hg.n4
 have hfr:=Zc3 hs.1 hn4
 have hCl:=ZeN c d r ch size
 have hCs:=Zdr (c:=c) (d:=d) (r:=r) (ch:=ch) (size:=size)
 have hCf:=Zpm hCs
 generalize hC:Zn6 c d r ch size = C at *
 have hCi:∀ i (h:i < C.length),C[i] = Zyf c d r ch size i:=by
  intro i h
  subst hC
  simp [Zn6]
 have key:=Zw (A:=ByteArray) (step:=fun L1 => ZaU k (Ze7 k L1) L1) (fun i a => (Int.ofNat i,C,a,ex,c,d,r,tags,ch,Y7 ch size i)) C (fun _ _ => some (true,())) (fun i a => a = mkB (C.take i).flatten)
  (fun L a hI => by
   simp only [ZaU]
   rw [Zj (QW _)]
   have hfull:Y7 ch size C.length = ch:=by
    unfold Y7
    conv => rhs; rw [← List.map_id ch]
    apply List.map_congr_left
    intro x hx
    have hge:(ch.getD 0 []).length ≤ C.length * size:=by
     rw [hCl]
     rcases Nat.lt_or_ge (Xo (ch.getD 0 []).length size * size) (ch.getD 0 []).length with h | h
     ·exact absurd ((ZaG (by omega:1 ≤ size)).2 h) (Nat.lt_irrefl _)
     ·exact h
    rw [List.take_of_length_le (by rw [hg.len x hx]; exact hge)]
    rfl
   rw [hfull,ZDp (by omega) 0 0 0 (tags:=[]) (ch:=ch) ⟨by simp,by simp,hS.cl,hS.chan⟩]
   simp only [Z1,cond_true]
   rw [List.take_length] at hI
   rw [hI,ZsF,hex]
   have hfl:(pre ++ C.flatten).length = pre.length + C.flatten.length:=Wa
   rw [hex] at hexl
   rw [Zc (by simp only [Qz]; omega)]
   have e:IntKind.i64.wrap (Int.ofNat (pre ++ C.flatten).length - Int.ofNat C.flatten.length) = ((pre.length:Nat):Int):=by
    rw [Qi (by simp only [Qz]; omega)]; simp
   rw [e,Zc (by simp only [Qz]; omega),Xm,show (Int.ofNat (pre ++ C.flatten).length).toNat = (pre ++ C.flatten).length from rfl,List.take_length,List.drop_left]
   rw [show (ByteArray.mk (List.map (fun n => UInt8.ofNat n.toNat) C.flatten).toArray) = mkB C.flatten from rfl,ZJ9,Xe rfl])
  (fun L i hi a hI hL => by
   have hlt:=(ZaG (by omega:1 ≤ size)).1 (by rw [← hCl]; exact hi)
   have hck:=Znu h0 (size:=size) (i:=i) hs hlt
   have h5:=hCs _ (List.getElem_mem hi)
   have hci:=hCi i hi
   simp only [ZaU]
   rw [Zc (K7 hi),Zc (XW hi),ZK hi]
   have hb:ZW C[i] = true:=by rw [hci]; exact ZBZ _ _ _ _ _
   refine (Zm (ZLR k c d r hb (by omega) (by omega)) _).trans ?_
   have hrb:=ZJw hck (more:=[]) rfl
   rw [List.append_nil] at hrb
   have hre:ZBq c d r C[i] = (((i:Int),QO ch size i),(C[i].length:Int),0):=by rw [hci]; exact hrb
   unfold ZvF
   simp only
   rw [hre]
   simp only
   rw [show ((0:Int) != 0) = false from rfl]
   simp only [cond_false]
   rw [Zc (XW hi),show ((C[i].length:Int) != Int.ofNat C[i].length) = false by simp,show ((i:Int) != Int.ofNat i) = false by simp]
   simp only [cond_false]
   have hfl:=Zd8 (l:=C) i
   refine Eq.trans (ZQ5 (by omega) hg.c1.2 hS size i L a C hi (by rw [hI,ZsF]; omega) ex (i:Int) (by omega)) ?_
   refine Eq.trans (hL (a ++ mkB C[i]) (by rw [hI,ZEs,ZmZ hi])) rfl)
  k 0 (ByteArray.mk #[]) rfl (by omega) (by omega)
 exact key
theorem ZC8 (hS:Small tags ch) (s:Int):f2007_F 20000000 (((c,d,r,()),tags,ch,()),s,()) = some (true,()):=by
 have hk:16777216 ≤ 20000000:=by omega
 show ZdA 20000000 (Ze6 20000000) _ = _
 simp only [ZdA]
 rw [ZOj]
 simp only [Z1,Bool.not_true,cond_false]
 rw [ZDf hk hS]
 simp only [Z1]
 rw [Zq2 hk hS]
 by_cases h0:¬ chk c d r tags ch = 0
 ·rw [if_neg h0]
  simp only [Z1]
  rw [ZI,Zc h0]
  rfl
 have h0:=Decidable.not_not.1 h0
 rw [if_pos h0]
 by_cases hs:¬ (16 ≤ s ∧ s ≤ 512)
 ·rw [if_neg hs]; rfl
 have hs:=Decidable.not_not.1 hs
 rw [if_pos hs]
 simp only [Z1]
 rw [ZI,Zj (by simp),ZDl hk hS,if_pos h0,if_pos hs]
 simp only [Z1]
 rw [ZI,Zj (by simp)]
 obtain ⟨hg,hshape,-,htv,ht8⟩:=ZaP h0
 have hsh:=of_decide_eq_true hshape
 rw [Zc (by omega)]
 obtain ⟨size,rfl⟩:=Int.eq_ofNat_of_zero_le (show 0 ≤ s by omega)
 simp only [Xm]
 have hs2:16 ≤ size ∧ size ≤ 512:=by omega
 have hu:List.replicate c.toNat ([]:List Int) = Y7 ch size 0:=by
  have hcl:=hg.cl
  rw [show c.toNat = ch.length by omega]
  unfold Y7
  simp only [Nat.zero_mul,List.take_zero]
  exact (List.map_const' ..).symm
 rw [hu]
 have hLn:=ZBd (c:=c) (d:=d) (r:=r) hs2 rfl hg.n4
 have hal:=Zpz (d:=d.toNat) (r:=r.toNat) (ch:=ch) (size:=size) (Good0.tg htv ht8) hLn.len
 have hCf:=Zpm (Zdr (c:=c) (d:=d) (r:=r) (ch:=ch) (size:=size))
 have hCl:=ZeN c d r ch size
 have hfr:=Zc3 hs2.1 hg.n4
 refine ZQ4 (by omega) hS h0 hs2 _ (ZA6 d.toNat r.toNat tags ch size (ZnQ c d r ch size)) rfl ?_
 unfold Zwq ZA6
 rw [Wa,Qf]
 omega
end prog
theorem cuts_plain:∀ x:Kd.dens (Xd [trackT,.int .i64]),ZGs [trackT,.int .i64] x → Zje [trackT,.int .i64] x ≤ 1048576 → ∃ k u,f2007_F k x = some (true,u):=by
 rintro ⟨⟨⟨c,d,r,⟨⟩⟩,tags,ch,⟨⟩⟩,s,⟨⟩⟩ _ hb
 have hb:Ty.bulk trackT ((c,d,r,()),tags,ch,()) + (1 + 0) ≤ 1048576:=hb
 have hb1:Ty.bulk trackT ((c,d,r,()),tags,ch,()) ≤ 1048576:=by omega
 exact ⟨20000000,(),ZC8 (ZBQ hb1) s⟩
end Go.Sh
