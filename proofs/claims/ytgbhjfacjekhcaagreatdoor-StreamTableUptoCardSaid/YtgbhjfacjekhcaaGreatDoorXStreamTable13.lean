/-
  What the row needs, part 13.
-/
import Derived.Test.YtgbhjfacjekhcaaGreatDoorXStreamTable12
set_option linter.unusedSimpArgs false
set_option linter.unusedVariables false
set_option linter.unusedSectionVars false
namespace Go.Sh
open Go Go.Proofs
def Zjq (n:Nat):List Int → List Bool → List (List Int) → List (List Int) × Int × List Bool
 | [],r,acc => (acc,0,r)
 | d :: ds,r,acc => if (QT n d.toNat r).2.1 ≠ 0 then ([],(QT n d.toNat r).2.1,(QT n d.toNat r).2.2) else Zjq n ds (QT n d.toNat r).2.2 (acc ++ [(QT n d.toNat r).1])
abbrev RdR:=(Int × List (List Int)) × Int × Int
def ZJL (c d r num:Int) (pos:Nat) (out:List (List Int)):RdR:=if Yr c d r num out ≠ 0 then ((0,[]),0,Yr c d r num out) else ((num,out),((pos / 8:Nat):Int),0)
def ZBB (c d r num:Int) (pos:Nat) (m:Int) (A B:List Int):RdR:=if (Q5 m A B).2 ≠ 0 then ((0,[]),0,(Q5 m A B).2) else ZJL c d r num pos [Zh4 m A B,Zh5 m A B]
def ZOj (c d r:Int) (b:List Int) (mode num:Nat) (chs:List (List Int)) (rr:List Bool):RdR :=
 if (Zh3 Zcq b 16 ((alS rr).2,(alS rr).1)).2 ≠ 0 then ((0,[]),0,(Zh3 Zcq b 16 ((alS rr).2,(alS rr).1)).2)
 else if 1 < c then ZBB c d r num (ZX b (Zh3 Zcq b 16 ((alS rr).2,(alS rr).1)).1) (if mode = 1 then 0 else mode) (chs.getD 0 []) (chs.getD 1 [])
 else ZJL c d r num (ZX b (Zh3 Zcq b 16 ((alS rr).2,(alS rr).1)).1) chs
def ZCs (c d r:Int) (b:List Int) (h:HdT):RdR :=
 if h.2.2.2.2 ≠ 0 then ((0,[]),0,h.2.2.2.2)
 else if (Zjq h.2.2.1 (Qg c d h.1) h.2.2.2.1 []).2.1 ≠ 0 then ((0,[]),0,(Zjq h.2.2.1 (Qg c d h.1) h.2.2.2.1 []).2.1)
 else ZOj c d r b h.1 h.2.1 (Zjq h.2.2.1 (Qg c d h.1) h.2.2.2.1 []).1 (Zjq h.2.2.1 (Qg c d h.1) h.2.2.2.1 []).2.2
def ZBE (c d r:Int) (b:List Int):RdR:=if Zes c d r = false then ((0,[]),0,2) else ZCs c d r b (ZbW c b (Qm b,0))
def ZvV (x:RdR):((Int × List (List Int) × Unit) × Int × Int × Unit) × Unit:=(((x.1.1,x.1.2,()),x.2.1,x.2.2,()),())
theorem ZBV {n d:Nat} {r:List Bool} (h:(QT n d r).2.1 = 0):(QT n d r).1.length ≤ 520 ∧ d ≤ 25 ∧ ∀ x ∈ (QT n d r).1,Xp x d = true:=by
 unfold QT at h ⊢
 split at h
 ·simp at h
 ·rename_i h1
  rw [if_neg h1]
  have h1:1 ≤ n ∧ n ≤ 512 ∧ 4 ≤ d ∧ d ≤ 25:=by simpa using h1
  have hz:=Zl3 (d:=d) (s:=(r,0))
  generalize ZW d (r,0) = hd at h hz ⊢
  obtain ⟨kind,kk,s1⟩:=hd
  simp only at h hz ⊢
  split at h
  ·rename_i h2; exact absurd h h2
  ·rename_i h2
   rw [if_neg h2]
   obtain ⟨hkd,hkind⟩:=hz (by simpa using h2)
   have hl:=Zt5 (kind:=kind) (n:=n) (d:=d - kk) (s:=s1) hkind
   generalize WY kind n (d - kk) s1 = y at h hl ⊢
   split at h
   ·rename_i h3; exact absurd h h3
   ·rename_i h3
    rw [if_neg h3]
    split at h
    ·rename_i h4
     rw [if_pos h4]
     refine ⟨by simp; omega,by omega,fun x hx => ?_⟩
     obtain ⟨z,hz,rfl⟩:=List.mem_map.1 hx
     exact (ZGX hkd (by omega) (List.all_eq_true.1 h4 z hz)).1
    ·simp at h
theorem ZnT {x:Int} (h:Y0 x = true):Ql x:=by
 unfold Y0 at h
 rw [decide_eq_true_eq] at h
 exact h
abbrev ZWN:=((Int × List (List Int) × Unit) × Int × Int × Unit) × Unit
theorem ZFA (k:Nat) (hk:1000 < k) (c d r num:Int) (out:List (List Int)) {b:List Int} (hn:b.length < 268435456) (rr:List Bool) :
  ((Zh9 k ((c,d,r,()),(num,out,()),())).bind fun y_3 => bif y_3.1 != (0:Int) then some (((((0:Int),[],()),0,y_3.1,()),()):ZWN) else (K8 k ((b,((ZX b rr:Nat):Int),()),())).bind fun y => some (((num,out,()),IntKind.i64.wrap (Int.tdiv y.1 (8:Int)),0,()),())) = some (ZvV (ZJL c d r num (ZX b rr) out)):=by
 refine (Zn (ZAC k c d r num out (by omega)) _).trans ?_
 unfold ZJL
 simp only
 rw [ZL]
 by_cases h:Yr c d r num out = 0
 ·rw [Zk (by simpa using h),if_neg (by simpa using h)]
  have e51:K8 k ((b,((ZX b rr:Nat):Int),()),()) = some (((ZX b rr:Nat):Int),KR b rr,()):=rfl
  refine (Zn e51 _).trans ?_
  have hp:ZX b rr ≤ 8 * b.length:=by unfold ZX; omega
  simp only
  rw [Zwe,Qa (n:=((ZX b rr / 8:Nat):Int)) (by omega)]
  rfl
 ·rw [Zc h,if_pos h]
  rfl
theorem ZAu (k:Nat) (hk:2000 < k) (c d r num:Int) {A B:List Int} {m:Int} (hm:ZlG m) (hA:A.length ≤ 520 ∧ ∀ x ∈ A,Qy x) (hB:B.length ≤ 520 ∧ ∀ x ∈ B,Qy x) {b:List Int} (hn:b.length < 268435456) (rr:List Bool) :
  ((Zsi k (A,B,m,())).bind fun y_1 => bif y_1.1.2.1 != (0:Int) then some (((((0:Int),[],()),0,y_1.1.2.1,()),()):ZWN) else (Zsk k (y_1.1.1,())).bind fun y_2 => bif y_2.1.2.2.1 != (0:Int) then some ((((0:Int),[],()),0,y_2.1.2.2.1,()),()) else (Zh9 k ((c,d,r,()),(num,[y_2.1.1,y_2.1.2.1],()),())).bind fun y_3 => bif y_3.1 != (0:Int) then some ((((0:Int),[],()),0,y_3.1,()),()) else (K8 k ((b,((ZX b rr:Nat):Int),()),())).bind fun y => some (((num,[y_2.1.1,y_2.1.2.1],()),IntKind.i64.wrap (Int.tdiv y.1 (8:Int)),0,()),())) =
   some (ZvV (ZBB c d r num (ZX b rr) m A B)):=by
 refine (Zn (ZNL k hm (by omega) (by omega) hA.2 hB.2) _).trans ?_
 unfold ZBB
 have key:(Q5 m A B).2 = 0 → A.length = B.length ∧ (Q5 m A B).1 = Zf1 (Zh4 m A B) (Zh5 m A B) ∧ ((Zh4 m A B).zip (Zh5 m A B)).all (fun x => Y0 x.1 && Y0 x.2) = true:=by
  unfold Q5
  split
  ·intro h; simp at h
  ·rename_i h1
   split
   ·rename_i h2; exact fun _ => ⟨by simpa using h1,rfl,h2⟩
   ·intro h; simp at h
 simp only
 rw [ZL]
 by_cases h:(Q5 m A B).2 = 0
 ·rw [Zk (by simpa using h),if_neg (by simpa using h)]
  obtain ⟨hl,e1,e2⟩:=key h
  have hLl:(Zh4 m A B).length = A.length:=by unfold Zh4; rw [List.length_map,List.length_zip]; omega
  have hRl:(Zh5 m A B).length = A.length:=by unfold Zh5; rw [List.length_map,List.length_zip]; omega
  generalize Zh4 m A B = L at e1 e2 hLl ⊢
  generalize Zh5 m A B = R at e1 e2 hRl ⊢
  have hsm:(∀ x ∈ L,Ql x) ∧ ∀ x ∈ R,Ql x:=by
   have hall:=List.all_eq_true.1 e2
   constructor
   ·intro x hx
    obtain ⟨i,hi,rfl⟩:=List.getElem_of_mem hx
    have:=hall ((L.zip R)[i]'(by rw [List.length_zip]; omega)) (List.getElem_mem _)
    rw [List.getElem_zip,Bool.and_eq_true] at this
    exact ZnT this.1
   ·intro x hx
    obtain ⟨i,hi,rfl⟩:=List.getElem_of_mem hx
    have:=hall ((L.zip R)[i]'(by rw [List.length_zip]; omega)) (List.getElem_mem _)
    rw [List.getElem_zip,Bool.and_eq_true] at this
    exact ZnT this.2
  have hpp:=ZBp (show L.length = R.length by omega) hsm.1 hsm.2
  rw [e1]
  have hjl:(Zf1 L R).length ≤ 520:=by rw [hpp.hl]; omega
  refine (Zn (ZNM k hpp (by omega) (by omega)) _).trans ?_
  simp only
  rw [show ((0:Int) != 0) = false from rfl]
  simp only [cond_false]
  exact ZFA k (by omega) c d r num [L,R] hn rr
 ·rw [Zc h,if_pos h]
  rfl
theorem ZCM (c d m:Int):(Qg c d m).length ≤ 2 ∧ (c ≠ 1 → (Qg c d m).length = 2) ∧ ((1 ≤ d ∧ d ≤ 24) → ∀ x ∈ Qg c d m,1 ≤ x):=by
 unfold Qg
 split
 ·exact ⟨by simp,fun h => by omega,fun h x hx => by simp at hx; omega⟩
 ·split
  ·exact ⟨by simp,fun h => by simp,fun h x hx => by simp at hx; omega⟩
  ·split
   ·exact ⟨by simp,fun h => by simp,fun h x hx => by simp at hx; omega⟩
   ·exact ⟨by simp,fun h => by simp,fun h x hx => by simp at hx; omega⟩
theorem ZL7 (k:Nat) {b:List Int} (hb:ZS b = true) (hn:b.length < 268435456) (hk:8 * b.length + 50000 < k) {c d r:Int} (hc:c = 1 ∨ c = 2) {mode num n:Nat} (hm:ZeF c mode = true) (ds:List Int) (hd:∀ x ∈ ds,1 ≤ x) (hdl:ds.length ≤ 2) (hdl2:c ≠ 1 → ds.length = 2) (zz:Int) :
  ∀ (e j i:Nat) (rr:List Bool) (acc:List (List Int)),e < j → i + e = ds.length → acc.length = i → Zo b rr → (∀ l ∈ acc,l.length ≤ 520 ∧ ∀ x ∈ l,Qy x) →
  Zm (fun L1 => Zfh k L1) j (((ds.length:Nat):Int),(i:Int),ds,(n:Int),(mode:Int),b,(0:Int),b,((ZX b rr:Nat):Int),zz,(num:Int),acc,c,d,r) =
   some (ZvV (if (Zjq n (ds.drop i) rr acc).2.1 ≠ 0 then ((0,[]),0,(Zjq n (ds.drop i) rr acc).2.1) else ZOj c d r b mode num (Zjq n (ds.drop i) rr acc).1 (Zjq n (ds.drop i) rr acc).2.2)):=by
 intro e
 induction e with
 | zero =>
  intro j i rr acc hj hi ha hr hacc
  obtain ⟨j,rfl⟩:=ZD hj
  rw [Ze]
  simp only [Zfh]
  rw [Zk (by omega),List.drop_eq_nil_of_le (by omega)]
  show _ = some (ZvV (if (0:Int) ≠ 0 then _ else ZOj c d r b mode num acc rr))
  rw [if_neg (by simp)]
  refine (Zn (ZNI k hb (by omega) hr (by omega)) _).trans ?_
  refine (Zn (ZCS k hb hn (by omega) (s:=((alS rr).2,(alS rr).1)) (ZKg hr) (w:=16) (by omega)) _).trans ?_
  unfold ZOj
  generalize Zh3 Zcq b 16 ((alS rr).2,(alS rr).1) = s
  simp only
  rw [ZL]
  by_cases h:s.2 = 0
  ·rw [Zk (by simpa using h),if_neg (by simpa using h)]
   rcases hc with rfl | rfl
   ·rw [Zk (by omega),if_neg (by omega)]
    exact ZFA k (by omega) 1 d r num acc hn s.1
   ·rw [Zc (by omega),if_pos (by omega)]
    have hlen:acc.length = 2:=by have:=hdl2 (by omega); omega
    match acc,hlen,hacc with
    | [A,B],_,hacc =>
     have hA:=hacc A (by simp)
     have hB:=hacc B (by simp)
     have p1:(0:Int) ≤ 0 ∧ (0:Int) < Int.ofNat [A,B].length:=by simp
     have p2:0 < [A,B].length:=by simp
     have p3:(0:Int) ≤ 1 ∧ (1:Int) < Int.ofNat [A,B].length:=by simp
     have p4:1 < [A,B].length:=by simp
     have hmd:ZlG (if mode = 1 then 0 else (mode:Int)):=by
      unfold ZeF at hm
      rw [if_neg (by omega)] at hm
      simp only [Bool.or_eq_true,beq_iff_eq,Bool.and_eq_true,decide_eq_true_eq] at hm
      unfold ZlG
      split <;> omega
     rw [Zc p1,Zc p2,Zc p3,Zc p4,Zc p1,Zc p2,Zc p3,Zc p4,show ((mode:Int) == (1:Int)) = (mode == 1) from Wv _ 1]
     by_cases h1:mode = 1
     ·rw [show (mode == 1) = true from by simp [h1]]
      rw [if_pos h1] at hmd ⊢
      exact ZAu k (by omega) 2 d r num hmd hA hB hn s.1
     ·rw [show (mode == 1) = false from by simp [h1]]
      rw [if_neg h1] at hmd ⊢
      exact ZAu k (by omega) 2 d r num hmd hA hB hn s.1
  ·rw [Zc h,if_pos h]
   rfl
 | succ e ih =>
  intro j i rr acc hj hi ha hr hacc
  obtain ⟨j,rfl⟩:=ZD (show 0 < j by omega)
  rw [Ze]
  simp only [Zfh]
  have hil:i < ds.length:=by omega
  rw [Zc (by omega),Zc (by simp only [Qv]; omega),Xm,Xc hil,List.drop_eq_getElem_cons hil]
  have hdi:=hd ds[i] (List.getElem_mem hil)
  have hde:ds[i] = ((ds[i].toNat:Nat):Int):=by omega
  have e46:=ZNF k hb hn hk hr n ds[i].toNat
  rw [← hde] at e46
  refine (Zn e46 _).trans ?_
  unfold Zjq
  have hok:=ZBV (n:=n) (d:=ds[i].toNat) (r:=rr)
  have hrr:=Zt1 hr n ds[i].toNat
  generalize QT n ds[i].toNat rr = q at hok hrr ⊢
  simp only
  rw [ZL]
  by_cases h:q.2.1 = 0
  ·rw [Zk (by simpa using h),Zc (by simp only [List.length_singleton]; omega)]
   have e2:IntKind.i64.wrap ((i:Int) + 1) = ((i + 1:Nat):Int):=by rw [Qa (by omega)]; rfl
   rw [e2]
   obtain ⟨o1,o2,o3⟩:=hok h
   have:=ih j (i + 1) q.2.2 (acc ++ [q.1]) (by omega) (by omega) (by simp; omega) hrr (by
    intro l hl
    rcases List.mem_append.1 hl with hl | hl
    ·exact hacc l hl
    ·rw [List.mem_singleton.1 hl]
     refine ⟨o1,fun x hx => ?_⟩
     have:=o3 x hx
     unfold Xp at this
     unfold Qy
     split at this
     ·simp only [decide_eq_true_eq] at this; omega
     ·rw [decide_eq_true_eq,WF] at this
      have h24:2 ^ (ds[i].toNat - 1) ≤ 2 ^ 24:=Nat.pow_le_pow_right (by omega) (by omega)
      generalize 2 ^ (ds[i].toNat - 1) = Q at this h24
      omega)
   refine this.trans ?_
   simp only [if_neg (show ¬ q.2.1 ≠ 0 from fun hh => hh h)]
  ·rw [Zc h]
   simp only [if_pos h]
   rfl
theorem ZEy {c:Int} {b:List Int} {s:IS} (h:(ZbW c b s).2.2.2.2 = 0):ZeF c (ZbW c b s).1 = true:=by
 unfold ZbW Zyt ZOw ZOx Zyu at h ⊢
 generalize (hd3 (hd2 (hd1 s))).1 = kind at h ⊢
 generalize hd4 (hd3 (hd2 (hd1 s))).2 = s3 at h ⊢
 simp only at h ⊢
 have h0:(hd6 kind (ZlL b (hd4 (hd5 c s3).2)).2).2.2 = 0:=by
  unfold Zh3 at h
  split at h
  ·rename_i h1; exact absurd h h1
  ·exact Zys ((ZbZ (by decide)).1 h).1
 have h1:(ZlL b (hd4 (hd5 c s3).2)).2.2 = 0:=by
  unfold hd6 at h0
  split at h0
  ·rename_i hh; exact hh
  ·exact h0
 exact (ZBk (ZsF (ZvS h1))).2
theorem ZL8 (k:Nat) (c d r:Int) {b:List Int} (hb:ZS b = true) (hn:b.length < 268435456) (hk:8 * b.length + 50000 < k):ZqR k ((c,d,r,()),b,()) = some (ZvV (ZBE c d r b)):=by
 show ZjU k (Zxp k) _ = _
 simp only [ZjU]
 rw [ZzT k c d r]
 simp only [Z1]
 unfold ZBE
 cases hs:Zes c d r with
 | false => rfl
 | true =>
  have hsh:=of_decide_eq_true hs
  simp only [if_true,Bool.true_eq_false,if_false]
  rw [show ((0:Int) != 0) = false from rfl]
  simp only [cond_false]
  have e44:Zsh k (b,()) = some (inp b (Qm b,0) |>.2.1,()):=by
   show Zk4 k _ = _
   simp only [Zk4]
   have:Zli k (b,()) = some (b,()):=by show YT _ = _; unfold YT; rw [Zc (by simp only; omega)]
   rw [this]
   have hp:ZX b (Qm b) = 0:=by unfold ZX; rw [Qx]; omega
   simp only [Z1]
   show some ((b,((0:Nat):Int),()),()) = some ((b,((ZX b (Qm b):Nat):Int),()),())
   rw [hp]
  refine (Zn e44 _).trans ?_
  refine (Zn (ZNC k hb hn (by omega) (s:=(Qm b,0)) (ZBG b) c d r) _).trans ?_
  unfold ZCs
  have hmode:=ZEy (c:=c) (b:=b) (s:=(Qm b,0))
  have hrest:Zo b (ZbW c b (Qm b,0)).2.2.2.1:=by
   unfold ZbW Zyt ZOw ZOx Zyu
   exact ZJ0 (ZOv (ZvR (QF (QJ (QF (QJ (QF (QJ (QF (QJ (QF (QJ (QF (QJ (ZBG b) _) _ _) _) _ _) _) _ _) _) _ _) _) _ _) _) _ _)) _) _
  generalize ZbW c b (Qm b,0) = h at hmode hrest ⊢
  obtain ⟨mode,num,n,s⟩:=h
  simp only at hmode hrest ⊢
  rw [ZL]
  by_cases he:s.2 = 0
  ·rw [Zk (by simpa using he),if_neg (by simpa using he)]
   have hm:=hmode he
   have hc:c = 1 ∨ c = 2:=by omega
   have hcm:c = 1 ∧ (mode:Int) = 0 ∨ c = 2:=by
    rcases hc with rfl | rfl
    ·unfold ZeF at hm
     rw [if_pos rfl,beq_iff_eq] at hm
     exact .inl ⟨rfl,by omega⟩
    ·exact .inr rfl
   refine (Zn (ZAJ k (c:=c) (d:=d) (r:=r) (m:=(mode:Int)) hcm (by omega)) _).trans ?_
   have hdl:=ZCM c d mode
   have:=ZL7 k hb hn hk (c:=c) (d:=d) (r:=r) hc (mode:=mode) (num:=num) (n:=n) hm (Qg c d mode) (hdl.2.2 (by omega)) hdl.1 hdl.2.1 0 (Qg c d mode).length k 0 s.1 [] (by omega) (by omega) rfl hrest (by simp)
   rw [List.drop_zero] at this
   simp only
   rw [he]
   exact this
  ·rw [Zc he,if_pos he]
   rfl
end Go.Sh
namespace Go.Sh
open Go Go.Proofs
theorem ZKu:∀ (a b c d e f g h:Bool) (j:Fin 8),(a.toNat * 128 + b.toNat * 64 + c.toNat * 32 + d.toNat * 16 + e.toNat * 8 + f.toNat * 4 + g.toNat * 2 + h.toNat).testBit (7 - j.val) = [a,b,c,d,e,f,g,h].getD j.val false:=by decide +kernel
theorem ZHh (f:Nat → Bool) {j:Nat} (hj:j < 8):(Kf f).testBit (7 - j) = f j:=by
 have:=ZKu (f 0) (f 1) (f 2) (f 3) (f 4) (f 5) (f 6) (f 7) ⟨j,hj⟩
 simp only at this
 unfold Kf
 rw [this]
 match j,hj with
 | 0,_ => rfl
 | 1,_ => rfl
 | 2,_ => rfl
 | 3,_ => rfl
 | 4,_ => rfl
 | 5,_ => rfl
 | 6,_ => rfl
 | 7,_ => rfl
theorem ZCA {B:List Bool} (h:B.length % 8 = 0):Qm (ZJ B) = B:=by
 have hl:(ZJ B).length = B.length / 8:=by rw [Qf]; omega
 apply List.ext_getElem
 ·rw [Qx,hl]; omega
 ·intro i h1 h2
  rw [Zmf (by rw [hl]; omega),Yh,Int.toNat_natCast]
  unfold Wb
  rw [ZHh _ (Nat.mod_lt _ (by omega)),show 8 * (i / 8) + i % 8 = i by omega,Xc h2]
theorem ZKw:∀ x:Fin 256,Kf (fun j => x.val.testBit (7 - j)) = x.val:=by decide +kernel
theorem Zem {b:List Int} (h:ZS b = true):ZJ (Qm b) = b:=by
 apply List.ext_getElem
 ·rw [Qf,Qx]; omega
 ·intro i h1 h2
  obtain ⟨x,hx,hxe⟩:=ZaW h h2
  rw [Yh,hxe]
  have:Wb (Qm b) i = Kf (fun j => x.testBit (7 - j)):=by
   have key:∀ j,j < 8 → (Qm b).getD (8 * i + j) false = x.testBit (7 - j):=by
    intro j hj
    rw [Xc (by rw [Qx]; omega),Zmf (by omega)]
    have:(8 * i + j) / 8 = i:=by omega
    simp only [this,hxe,Int.toNat_natCast]
    congr 1
    omega
   unfold Wb Kf
   simp only
   rw [key 0 (by omega),key 1 (by omega),key 2 (by omega),key 3 (by omega),key 4 (by omega),key 5 (by omega),key 6 (by omega),key 7 (by omega)]
  rw [this]
  have:=ZKw ⟨x,hx⟩
  simp only at this
  rw [this]
theorem ZEP (B:List Bool):(X0 B).length % 8 = 0 ∧ (X0 B).length = B.length + Zap B.length:=by
 unfold X0
 rw [List.length_append,List.length_replicate]
 unfold Zap
 omega
theorem ZCL (B:List Bool):(Ys B).length % 8 = 0 ∧ (Ys B).length = B.length + Zap B.length + 16:=by
 have:=ZEP B
 unfold Ys
 rw [List.length_append,Zj]
 omega
theorem Zay (c a w:Nat):Zb c (a + w) = Zb (c / 2 ^ w) a ++ Zb c w:=by
 induction a with
 | zero => simp [Zb]
 | succ a ih =>
  rw [show a + 1 + w = (a + w) + 1 by omega]
  simp only [Zb,List.cons_append]
  rw [ih,Nat.testBit_div_two_pow]
end Go.Sh
namespace Go.Sh
open Go Go.Proofs
theorem ZCe (c d r n:Int) (ch:List (List Int)):ZS (Ke c d r n ch).1 = true:=by
 unfold Ke
 split
 ·exact KA _
 ·rfl
theorem ZJ5 (c d r n:Int) (ch:List (List Int)):(Ke c d r n ch).1.length ≤ 5000:=by
 unfold Ke
 split
 ·rename_i h
  obtain ⟨hs,hn,hc,hlen,hsg⟩:=ZaX h
  obtain ⟨hlay,_,_⟩:=ZED h
  have h2:1 ≤ (ch.headD []).length ∧ (ch.headD []).length ≤ 512:=by
   have:0 < ch.length:=by omega
   match ch,this with
   | l :: _,_ => exact (hlen l (by simp)).2
  have h1:=Zp0 hlay h2.1 h2.2 (by omega) (by omega)
  have h3:=Zb3 (Y3 ch).2.toNat n.toNat (ch.headD []).length
  have h4:=Zub n.toNat
  have h5:=Zf2 (ch.headD []).length
  have h6:=ZCL (Qs (Y3 ch).2.toNat n.toNat (ch.headD []).length ++ Qi (Y3 ch).1 (Qg c d (Y3 ch).2))
  have h7:Zap (Qs (Y3 ch).2.toNat n.toNat (ch.headD []).length ++ Qi (Y3 ch).1 (Qg c d (Y3 ch).2)).length < 8:=by unfold Zap; omega
  simp only
  rw [Qf]
  rw [List.length_append] at h6 h7
  unfold Qs at h6 h7 ⊢
  rw [List.length_append,Zj] at h6 h7
  omega
 ·simp
end Go.Sh
namespace Go.Sh
open Go Go.Proofs
def Q6 (ch:List (List Int)) (size i:Nat):List (List Int):=ch.map fun c => (c.take ((i + 1) * size)).drop (i * size)
def XP (n size:Nat):Nat:=(n + size - 1) / size
def Zyr (c d r:Int) (ch:List (List Int)) (size i:Nat):List Int:=(Ke c d r (i:Int) (Q6 ch size i)).1
def Xu (c d r:Int) (ch:List (List Int)) (size:Nat):List (List Int):=(List.range (XP (ch.getD 0 []).length size)).map (Zyr c d r ch size)
theorem Zdc {n size i:Nat} (hs:1 ≤ size):i < XP n size ↔ i * size < n:=by
 unfold XP
 rw [Nat.lt_div_iff_mul_lt (by omega)]
 omega
theorem Zdb {n size:Nat} (hs:16 ≤ size) (hn:n ≤ 4096):XP n size ≤ 256:=by
 rcases Nat.lt_or_ge 256 (XP n size) with h | h
 ·have:=(Zdc (by omega)).1 h
  omega
 ·exact h
theorem ZWx {d:Int} {x:Int} (hd:4 ≤ d) (h:Ztn d x = true):Xp x d.toNat = true:=by
 unfold Ztn at h
 unfold Xp
 rw [if_neg (by omega)]
 have h:=of_decide_eq_true h
 rw [show d.toNat - 1 = (d - 1).toNat by omega]
 exact Xj h
theorem ZnA {c d r:Int} {tags:List ByteArray} {ch:List (List Int)} (h0:chk c d r tags ch = 0) {size i:Nat} (hs:16 ≤ size ∧ size ≤ 512) (hi:i * size < (ch.getD 0 []).length):Yr c d r (i:Int) (Q6 ch size i) = 0:=by
 obtain ⟨hg,hshape,hsg,-,-⟩:=ZaY h0
 have hsh:=of_decide_eq_true hshape
 generalize (ch.getD 0 []).length = n at *
 have hlen:∀ x ∈ ch,((x.take ((i + 1) * size)).drop (i * size)).length = min size (n - i * size):=by
  intro x hx
  rw [List.length_drop,List.length_take,hg.len x hx,Nat.add_mul]; omega
 have hn4:=hg.n4
 have hi4:i ≤ 4096:=by
  have:i * 1 ≤ i * size:=Nat.mul_le_mul_left i (by omega)
  omega
 unfold Yr
 rw [if_neg (by rw [show Zes c d r = true from hshape]; simp),if_neg (by rw [show (Q6 ch size i).length = ch.length by simp [Q6]]; have:=hg.cl; omega)]
 have hc1:=hg.c1.1
 have hhead:((Q6 ch size i).headD []).length = min size (n - i * size):=by
  match ch,hc1,hlen with
  | x :: l,_,hlen => exact hlen x (List.mem_cons_self ..)
 rw [hhead]
 have h1:(Q6 ch size i).all (ZiW (min size (n - i * size))) = true:=by
  rw [List.all_eq_true]
  intro y hy
  obtain ⟨x,hx,rfl⟩:=List.mem_map.1 hy
  exact Xj ⟨hlen x hx,by omega,by omega⟩
 have h2:(Q6 ch size i).all (fun l => l.all fun x => Xp x d.toNat) = true:=by
  rw [List.all_eq_true]
  intro y hy
  obtain ⟨x,hx,rfl⟩:=List.mem_map.1 hy
  rw [List.all_eq_true]
  intro z hz
  exact ZWx (by omega) (List.all_eq_true.1 (hsg x hx) z (List.mem_of_mem_take (List.mem_of_mem_drop hz)))
 rw [h1,h2]
 rfl
section prog
variable {k:Nat} {c d r:Int} {tags:List ByteArray} {ch:List (List Int)}
theorem ZDK (hk:100 ≤ k) {n size i:Nat} (hg:Good0 c d ch n) (hs:16 ≤ size ∧ size ≤ 512) (hi:i * size < n) :
  Zkm k (((c,d,r,()),tags,ch,()),(i:Int),(size:Int),()) = some (((i:Int),Q6 ch size i,()),()):=by
 have hn4:=hg.n4
 have hc2:=hg.c1.2
 have hi4:i ≤ 4096:=by
  have:i * 1 ≤ i * size:=Nat.mul_le_mul_left i (by omega)
  omega
 have key:=QN (A:=Unit) (step:=fun L1 => Zbc k L1) (fun j _ => (Int.ofNat ch.length,Int.ofNat j,ch,(i:Int),(size:Int),(i:Int),(Q6 ch size i).take j,(0:Int))) ch (fun _ _ => some (((i:Int),Q6 ch size i,()),()))
  (fun L _ => by
   simp only [Zbc]
   rw [Zk (Q3 _),List.take_of_length_le (by simp [Q6])])
  (fun L j hj _ hL => by
   simp only [Zbc]
   have hl:=hg.len _ (List.getElem_mem hj)
   have e1:IntKind.i64.wrap ((i:Int) * (size:Int)) = ((i * size:Nat):Int):=by rw [← Int.natCast_mul,Zyz (by omega)]
   have hq:(i + 1) * size ≤ 4096 + 512:=by rw [Nat.add_mul]; omega
   have e2:IntKind.i64.wrap (IntKind.i64.wrap ((i:Int) + 1) * (size:Int)) = (((i + 1) * size:Nat):Int):=by rw [ZPx (by omega),← Int.natCast_mul,Zyz (by omega)]
   rw [Zc (ltR hj),Zc (Kh hj),ZM hj,hl,e1,e2]
   have hqq:(i + 1) * size = i * size + size:=by rw [Nat.add_mul]; omega
   have e3:(if Int.ofNat n < (((i + 1) * size:Nat):Int) then Int.ofNat n else (((i + 1) * size:Nat):Int)) = ((min n ((i + 1) * size):Nat):Int):=by
    simp only [Qv]
    split <;> omega
   rw [e3,Zc (by simp only [Qv]; omega)]
   simp only [Xm]
   have e4:List.drop (i * size) (List.take (min n ((i + 1) * size)) ch[j]) = (Q6 ch size i)[j]'(by simp [Q6]; exact hj):=by
    simp only [Q6,List.getElem_map]
    congr 1
    rcases Nat.le_total n ((i + 1) * size) with h | h
    ·rw [Nat.min_eq_left h,List.take_of_length_le (by omega),List.take_of_length_le (by omega)]
    ·rw [Nat.min_eq_right h]
   simp only [e4]
   rw [Zc (by rw [List.length_take]; simp; omega),Qr hj (by omega)]
   rw [show (Q6 ch size i).take j ++ [(Q6 ch size i)[j]'(by simp [Q6]; exact hj)] = (Q6 ch size i).take (j + 1) from (List.take_succ_eq_append_getElem _).symm]
   exact hL ()) k 0 () (by omega) (by omega)
 exact key
theorem Zrb (hk:16777216 ≤ k) (hS:Small tags ch) (s:Int):ZhB k (((c,d,r,()),tags,ch,()),s,()) =
  if chk c d r tags ch = 0 then (if 16 ≤ s ∧ s ≤ 512 then some ((Xu c d r ch s.toNat,0,()),()) else some (([],1,()),())) else some (([],chk c d r tags ch,()),()):=by
 show ZdW k _ _ = _
 simp only [ZdW]
 rw [Zq8 hk hS]
 simp only [Z1]
 by_cases h0:chk c d r tags ch = 0
 ·rw [if_pos h0,h0,ZL,Zk (by simp)]
  by_cases h1:s < 16
  ·rw [Zc h1,if_neg (by omega)]
  rw [Zk h1]
  by_cases h2:512 < s
  ·rw [Zc h2,if_neg (by omega)]
  rw [Zk h2,if_pos (by omega)]
  obtain ⟨size,rfl⟩:=Int.eq_ofNat_of_zero_le (show 0 ≤ s by omega)
  have hs:16 ≤ size ∧ size ≤ 512:=by omega
  obtain ⟨hg,-⟩:=ZaY h0
  have hn4:=hg.n4
  generalize hn:(ch.getD 0 []).length = n at hg hn4
  have hfr:=Zdb hs.1 hn4
  have key:=Zz (A:=List (List Int)) (step:=fun L1 => Za8 k L1) (fun i a => (Int.ofNat i,(size:Int),c,d,r,tags,ch,a)) (List.range (XP n size))
   (fun rest a => some ((a ++ rest.map (Zyr c d r ch size),0,()),())) (fun i a => a.length = i)
   (fun L a _ => by
    simp only [Za8,List.length_range]
    rw [Yu,hn]
    simp only [Z1]
    have hge:n ≤ XP n size * size:=by
     have:=(Zdc (n:=n) (i:=XP n size) (by omega:1 ≤ size)).2
     rcases Nat.lt_or_ge (XP n size * size) n with h | h
     ·exact absurd (this h) (Nat.lt_irrefl _)
     ·exact h
    have hle:XP n size * size ≤ 256 * 512:=Nat.mul_le_mul hfr hs.2
    rw [show Int.ofNat (XP n size) * (size:Int) = ((XP n size * size:Nat):Int) by simp,Zyz (by omega),Zk (by simp only [Qv]; omega)]
    simp)
   (fun L i hi a hI hL => by
    rw [List.length_range] at hi
    have hlt:=(Zdc (by omega:1 ≤ size)).1 hi
    simp only [Za8]
    rw [Yu,hn]
    simp only [Z1]
    rw [show Int.ofNat i * (size:Int) = ((i * size:Nat):Int) by simp,Zyz (by omega),Zc (by simp only [Qv]; omega)]
    rw [show Int.ofNat i = (i:Int) from rfl,ZDK (by omega) hg hs hlt]
    simp only [Z1]
    refine (Zn (ZLE k (by omega) c d r (i:Int) (Q6 ch size i)) _).trans ?_
    have hck:=ZnA h0 (size:=size) (i:=i) hs (by rw [hn]; exact hlt)
    have he:(Ke c d r (i:Int) (Q6 ch size i)).2 = 0:=by unfold Ke; rw [if_pos hck]
    simp only [he]
    rw [ZL,Zk (by simp),Zc (by simp; omega),show IntKind.i64.wrap ((i:Int) + 1) = Int.ofNat (i + 1) from Qr hi (by omega)]
    refine Eq.trans (hL (a ++ [Zyr c d r ch size i]) (by simp [hI])) ?_
    simp only [List.getElem_range,List.map_cons,List.append_assoc,List.singleton_append])
   k 0 [] rfl (by rw [List.length_range]; omega) (by omega)
  rw [List.drop_zero,List.nil_append] at key
  refine Eq.trans key ?_
  simp only [Xm,Xu,hn]
 ·rw [if_neg h0,ZL,Zc h0]
end prog
end Go.Sh
namespace Go.Sh
open Go Go.Proofs
theorem ZvD {α:Type} {l:List (List α)} {i:Nat} (hi:i < l.length):(l.take (i + 1)).flatten = (l.take i).flatten ++ l[i]:=by
 rw [List.take_succ_eq_append_getElem hi,List.flatten_append]; simp
theorem ZlB {α:Type} {l:List (List α)} (i:Nat):(l.take i).flatten.length ≤ l.flatten.length:=by
 conv => rhs; rw [← List.take_append_drop i l,List.flatten_append,Q2]
 omega
section prog
variable {k:Nat} {c d r:Int} {tags:List ByteArray} {ch:List (List Int)}
theorem ZrC {ll:List (List Int)} (hk:ll.length < k) (hl:ll.length < 1000000) (hs:ll.flatten.length < 2000000000):ZhG k (ll,()) = some (ll.flatten,()):=by
 show Zd1 k (Zks k) _ = _
 simp only [Zd1]
 have key2:=QN (A:=Unit) (step:=fun L2 => Zbe k L2) (fun i _ => (Int.ofNat ll.length,Int.ofNat i,ll,(ll.take i).flatten)) ll (fun _ _ => some (ll.flatten,()))
  (fun L _ => by
   simp only [Zbe]
   rw [Zk (Q3 _),List.take_length])
  (fun L i hi _ hL => by
   simp only [Zbe]
   have h1:=ZvD hi
   have h2:=ZlB (l:=ll) (i + 1)
   rw [h1,Q2] at h2
   rw [Zc (ltR hi),Zc (Kh hi),ZM hi,Zc (by omega),Qr hi (by omega),← h1]
   exact hL ()) k 0 () (by omega) (by omega)
 have key1:=QN (A:=Unit) (step:=fun L1 => Zbd k (Zkt k) L1) (fun i _ => (Int.ofNat ll.length,Int.ofNat i,ll,(((ll.take i).flatten.length:Nat):Int),ll)) ll (fun _ _ => some (ll.flatten,()))
  (fun L _ => by
   simp only [Zbd]
   rw [Zk (Q3 _),List.take_length]
   have:Zpl k (Value.slice none 0 0,((ll.flatten.length:Nat):Int),()) = some ([],()):=by
    show ZBj _ = _
    unfold ZBj
    simp only
    rw [ZOE (by omega) (by omega)]
    rfl
   rw [this]
   simp only [Z1]
   exact key2)
  (fun L i hi _ hL => by
   simp only [Zbd]
   have h1:=ZvD hi
   have h2:=ZlB (l:=ll) (i + 1)
   rw [h1,Q2] at h2
   have e:IntKind.i64.wrap ((((ll.take i).flatten.length:Nat):Int) + Int.ofNat ll[i].length) = (((ll.take (i + 1)).flatten.length:Nat):Int):=by
    rw [h1,Q2,Qa (by simp only [Qv]; omega)]; simp
   rw [Zc (ltR hi),Zc (Kh hi),ZM hi,e,Zk (by omega),Qr hi (by omega)]
   exact hL ()) k 0 () (by omega) (by omega)
 exact key1
def XX (c d r:Int) (ch:List (List Int)) (size:Nat):List Nat:=(Xu c d r ch size).map List.length
theorem ZeZ (c d r:Int) (ch:List (List Int)) (size:Nat):(Xu c d r ch size).length = XP (ch.getD 0 []).length size:=by simp [Xu]
theorem ZdB {c d r:Int} {ch:List (List Int)} {size:Nat}:∀ x ∈ Xu c d r ch size,x.length ≤ 5000:=by
 intro x hx
 obtain ⟨i,_,rfl⟩:=List.mem_map.1 hx
 exact ZJ5 _ _ _ _ _
theorem ZBr {c d r:Int} {ch:List (List Int)} {size n:Nat} (hs:16 ≤ size ∧ size ≤ 512) (hn:(ch.getD 0 []).length = n) (hn4:n ≤ 4096):Lens size n (XX c d r ch size) where
 sz:=hs
 len:=by
  have:=Zdb hs.1 hn4
  simp only [XX,List.length_map,ZeZ,hn]; omega
 small:=by
  intro x hx
  obtain ⟨y,hy,rfl⟩:=List.mem_map.1 hx
  have:=ZdB y hy
  omega
 in_:=by
  intro i hi
  simp only [XX,List.length_map,ZeZ,hn] at hi
  have:=(Zdc (by omega:1 ≤ size)).1 hi
  omega
theorem Zpu {α:Type} {B:Nat}:∀ {l:List (List α)},(∀ x ∈ l,x.length ≤ B) → l.flatten.length ≤ l.length * B
 | [],_ => by simp
 | x :: l,h => by
  have h1:=h x (List.mem_cons_self ..)
  have h2:=Zpu fun y hy => h y (List.mem_cons_of_mem _ hy)
  rw [List.flatten_cons,Q2,List.length_cons,Nat.add_mul]; omega
noncomputable def ZeE (d r:Nat) (tags:List ByteArray) (ch:List (List Int)) (size:Nat) (lens:List Nat):List Int:=ZJ (ZeT d r tags ch size lens)
noncomputable def ZbH (c d r:Int) (tags:List ByteArray) (ch:List (List Int)) (size:Nat):List Int:=ZeE d.toNat r.toNat tags ch size (XX c d r ch size) ++ (Xu c d r ch size).flatten
theorem ZpH {d r:Nat} {tags:List ByteArray} {ch:List (List Int)} {size:Nat} {lens:List Nat} (hT:Tg tags) (hl:lens.length ≤ 300):(ZeT d r tags ch size lens).length ≤ 60000:=by
 have hti:(ZnX ch.length d r size (ch.getD 0 []).length (ZsS lens) (ZsQ lens)).length = 208:=by
  simp [ZnX,Ww,XU,Zj,Zf3]
 have htt:(Zgl size (ch.getD 0 []).length lens).length ≤ 144 * 300 + 32:=by
  unfold Zgl
  split
  ·rw [Q2,XU,ZBX]; omega
  ·simp
 have htg:(ZBZ tags).length ≤ tags.length * 128:=by
  unfold ZBZ
  have:∀ (l:List ByteArray),(∀ t ∈ l,t.size ≤ 12) → (l.flatMap fun t => YQ (leN t.size 4) ++ YQ (Zig t)).length ≤ l.length * 128:=by
   intro l
   induction l with
   | nil => intro _; simp
   | cons x l ih =>
    intro h
    have h1:=h x (List.mem_cons_self ..)
    have h2:=ih fun t ht => h t (List.mem_cons_of_mem _ ht)
    rw [List.flatMap_cons,Q2,Q2,Ww,Ww,Y4,Znc,List.length_cons,Nat.add_mul]; omega
  exact this tags hT.2
 have h8:=hT.1
 unfold ZeT KU
 simp only [Q2,hti,Ww,Zdr,XU,Y4,Zn9,List.length_cons,List.length_nil]
 omega
theorem ZDA (hk:16777216 ≤ k) (hS:Small tags ch) (s:Int):ZhC k (((c,d,r,()),tags,ch,()),s,()) =
  if chk c d r tags ch = 0 then (if 16 ≤ s ∧ s ≤ 512 then some ((ZbH c d r tags ch s.toNat,0,()),()) else some (([],1,()),())) else some (([],chk c d r tags ch,()),()):=by
 show ZdX k (Zj6 k) _ = _
 simp only [ZdX]
 rw [Zrb hk hS]
 by_cases h0:¬ chk c d r tags ch = 0
 ·rw [if_neg h0,if_neg h0]
  simp only [Z1]
  rw [ZL,Zc h0]
 have h0:=Decidable.not_not.1 h0
 rw [if_pos h0,if_pos h0]
 by_cases hs:¬ (16 ≤ s ∧ s ≤ 512)
 ·rw [if_neg hs,if_neg hs]; rfl
 have hs:=Decidable.not_not.1 hs
 rw [if_pos hs,if_pos hs]
 simp only [Z1]
 rw [ZL,Zk (by simp)]
 obtain ⟨size,rfl⟩:=Int.eq_ofNat_of_zero_le (show 0 ≤ s by omega)
 have hs2:16 ≤ size ∧ size ≤ 512:=by omega
 obtain ⟨hg,hshape,-,htv,ht8⟩:=ZaY h0
 have hT:=Good0.tg htv ht8
 have hsh:=of_decide_eq_true hshape
 obtain ⟨dn,rfl⟩:=Int.eq_ofNat_of_zero_le (show 0 ≤ d by omega)
 obtain ⟨rn,rfl⟩:=Int.eq_ofNat_of_zero_le (show 0 ≤ r by omega)
 have hcl:=hg.cl
 subst hcl
 have hn4:=hg.n4
 have hLn:=ZBr (c:=(ch.length:Int)) (d:=(dn:Int)) (r:=(rn:Int)) hs2 rfl hn4
 simp only [Xm]
 generalize hC:Xu (ch.length:Int) (dn:Int) (rn:Int) ch size = C
 have hCl:C.length ≤ 256:=by rw [← hC,ZeZ]; exact Zdb hs2.1 hn4
 have hCs:∀ x ∈ C,x.length ≤ 5000:=by rw [← hC]; exact ZdB
 have hCf:=Zpu hCs
 have hlen:XX (ch.length:Int) (dn:Int) (rn:Int) ch size = C.map List.length:=by unfold XX; rw [hC]
 have key:=Zz (A:=List Nat) (step:=fun L1 => Za9 k L1) (fun i a => (Int.ofNat C.length,Int.ofNat i,C,(size:Int),C,Zu a,(ch.length:Int),(dn:Int),(rn:Int),tags,ch)) C
  (fun rest a => some ((ZeE dn rn tags ch size (a ++ rest.map List.length) ++ C.flatten,0,()),())) (fun i a => a = (C.take i).map List.length)
  (fun L a hI => by
   simp only [Za9]
   rw [List.take_length] at hI
   rw [Zk (Q3 _),hI,← hlen,ZDP hk h0 hS hLn]
   simp only [Z1]
   rw [ZrC (by omega) (by omega) (by omega)]
   simp only [Z1]
   have hal:=ZpH (d:=dn) (r:=rn) (ch:=ch) (size:=size) hT hLn.len
   have hpl:(ZJ (ZeT dn rn tags ch size (XX (ch.length:Int) (dn:Int) (rn:Int) ch size))).length ≤ 10000:=by rw [Qf]; omega
   rw [ZrC (by simp; omega) (by simp) (by simp only [List.flatten_cons,List.flatten_nil,List.append_nil,Q2]; omega)]
   simp only [Z1,List.flatten_cons,List.flatten_nil,List.append_nil,List.map_nil,ZeE])
  (fun L i hi a hI hL => by
   simp only [Za9]
   have hal:a.length ≤ 256:=by rw [hI,List.length_map,List.length_take]; omega
   rw [Zc (ltR hi),Zc (Kh hi),ZM hi,ZP,Zc (by simp; omega),Qr hi (by omega)]
   rw [show Zu a ++ [Int.ofNat C[i].length] = Zu (a ++ [C[i].length]) by rw [Wc]; rfl]
   refine Eq.trans (hL (a ++ [C[i].length]) (by rw [hI,List.take_succ_eq_append_getElem hi,List.map_append]; rfl)) ?_
   simp only [List.map_cons,List.append_assoc,List.singleton_append])
  k 0 [] (by simp) (by omega) (by omega)
 rw [List.drop_zero,List.nil_append,← hlen] at key
 refine Eq.trans key ?_
 unfold ZbH
 rw [hC]
 rfl
end prog
end Go.Sh
namespace Go.Sh
open Go Go.Proofs
theorem YN {A X:List Bool} (h:A.length % 8 = 0):ZJ (A ++ X) = ZJ A ++ ZJ X:=by
 have hA:(ZJ A).length = A.length / 8:=by rw [Qf]; omega
 apply List.ext_getElem
 ·rw [List.length_append,Qf,Qf,Qf,List.length_append]; omega
 ·intro i h1 h2
  rw [Yh]
  by_cases hi:i < (ZJ A).length
  ·rw [List.getElem_append_left hi,Yh]
   congr 1
   unfold Wb Kf
   have:∀ j,j < 8 → (A ++ X).getD (8 * i + j) false = A.getD (8 * i + j) false:=by
    intro j hj
    simp only [List.getD_eq_getElem?_getD]
    rw [List.getElem?_append_left (by omega)]
   simp only []
   rw [this 0 (by omega),this 1 (by omega),this 2 (by omega),this 3 (by omega),this 4 (by omega),this 5 (by omega),this 6 (by omega),this 7 (by omega)]
  ·rw [List.getElem_append_right (by omega),Yh]
   congr 1
   unfold Wb Kf
   have:∀ j,j < 8 → (A ++ X).getD (8 * i + j) false = X.getD (8 * (i - (ZJ A).length) + j) false:=by
    intro j hj
    simp only [List.getD_eq_getElem?_getD]
    rw [List.getElem?_append_right (by omega)]
    congr 2
    omega
   simp only []
   rw [this 0 (by omega),this 1 (by omega),this 2 (by omega),this 3 (by omega),this 4 (by omega),this 5 (by omega),this 6 (by omega),this 7 (by omega)]
theorem ZEN (x:Nat) (h:x < 256):ZJ (Zb x 8) = [(x:Int)]:=by
 have:=Zem (b:=[(x:Int)]) (by unfold ZS; simp; omega)
 rw [← this]
 simp [Qm]
end Go.Sh
namespace Go.Sh
open Go Go.Proofs
def SP (p A:List Bool):Prop:=p <+: A ∧ p.length < A.length
theorem SP.split {p A B:List Bool} (h:SP p (A ++ B)):SP p A ∨ ∃ q,p = A ++ q ∧ SP q B:=by
 obtain ⟨h1,h2⟩:=h
 by_cases hl:p.length < A.length
 ·exact .inl ⟨List.prefix_of_prefix_length_le h1 (List.prefix_append A B) (by omega),hl⟩
 ·right
  obtain ⟨t,ht⟩:=List.prefix_of_prefix_length_le (List.prefix_append A B) h1 (by omega)
  refine ⟨t,ht.symm,?_,?_⟩
  ·rw [← ht] at h1
   exact (List.prefix_append_right_inj A).1 h1
  ·rw [← ht] at h2
   rw [List.length_append,List.length_append] at h2
   omega
theorem SP.no {p:List Bool} (h:SP p []):False:=by have:=h.2; simp at this
structure Enc {α:Type} (f:List Bool → α × Int × List Bool) (v:α) (A:List Bool):Prop where
 ok:∀ r,f (A ++ r) = (v,0,r)
 tail:∀ p,SP p A → (f p).2.1 = 10
theorem Zac {n w:Nat} (h:n < 2 ^ w):Enc (ZV w) n (Zb n w) where
 ok:=fun r => by
  have hl:=Zj n w
  unfold ZV
  rw [if_pos (by rw [List.length_append]; omega),List.take_append_of_le_length (by omega),List.take_of_length_le (by omega),Zcb,Nat.mod_eq_of_lt h,List.drop_append,List.drop_eq_nil_of_le (by omega),List.nil_append,hl,Nat.sub_self,List.drop_zero]
 tail:=fun p hp => by
  have:=hp.2
  rw [Zj] at this
  unfold ZV
  rw [if_neg (by omega)]
theorem ZEY {n:Int} {w:Nat} (h:Xp n w = true):ZS3 w (n % 2 ^ w).toNat = n:=by
 unfold Xp at h
 unfold ZS3
 by_cases h0:w = 0
 ·subst h0
  simp only [if_true,decide_eq_true_eq] at h
  subst h
  simp
 ·rw [if_neg h0,decide_eq_true_eq] at h
  have hpw:(2:Int) ^ w = 2 * 2 ^ (w - 1):=by rw [show w = (w - 1) + 1 by omega,Int.pow_succ,Nat.add_sub_cancel,Int.mul_comm]
  have hp:(0:Int) < 2 ^ (w - 1):=Int.pow_pos (by omega)
  have hpn:((2 ^ (w - 1):Nat):Int) = 2 ^ (w - 1):=by rw [WF]
  rw [hpw]
  by_cases hn:0 ≤ n
  ·have e:n % (2 * 2 ^ (w - 1)) = n:=Int.emod_eq_of_lt hn (by omega)
   rw [e,if_neg (by omega)]
   omega
  ·have e:n % (2 * 2 ^ (w - 1)) = n + 2 * 2 ^ (w - 1):=by
    rw [← Int.add_emod_right,Int.emod_eq_of_lt (by omega) (by omega)]
   rw [e,if_pos ⟨by omega,by omega⟩]
   omega
theorem ZvI {n:Int} {w:Nat} (h:Xp n w = true):Enc (WR w) n (WI n w) where
 ok:=fun r => by
  have hl:=ZaR n w
  unfold WR
  rw [if_pos (by rw [List.length_append]; omega),List.take_append_of_le_length (by omega),List.take_of_length_le (by omega),List.drop_append,List.drop_eq_nil_of_le (by omega),List.nil_append,hl,Nat.sub_self,List.drop_zero]
  have hlt:(n % 2 ^ w).toNat < 2 ^ w:=by
   have hp:(0:Int) < 2 ^ w:=Int.pow_pos (by omega)
   have h1:=Int.emod_nonneg n (show (2:Int) ^ w ≠ 0 by omega)
   have h2:=Int.emod_lt_of_pos n hp
   have h3:((2 ^ w:Nat):Int) = 2 ^ w:=by rw [WF]
   omega
  unfold WI
  rw [Zcb,Nat.mod_eq_of_lt hlt,ZEY h]
 tail:=fun p hp => by
  have:=hp.2
  rw [ZaR] at this
  unfold WR
  rw [if_neg (by omega)]
theorem ZB7:∀ (q n:Nat) (r:List Bool),Zgn n ((List.replicate q false ++ [true]) ++ r) = some (n + q,r)
 | 0,n,r => rfl
 | q + 1,n,r => by
  rw [List.replicate_succ]
  show Zgn (n + 1) ((List.replicate q false ++ [true]) ++ r) = _
  rw [ZB7 q (n + 1) r]
  congr 2
  omega
theorem ZtA:∀ (p:List Bool) (n:Nat),(∀ x ∈ p,x = false) → Zgn n p = none
 | [],n,_ => rfl
 | x :: p,n,h => by
  have:=h x (List.mem_cons_self ..)
  subst this
  exact ZtA p (n + 1) fun y hy => h y (List.mem_cons_of_mem _ hy)
theorem Zl5 (q:Nat):Enc unS q (List.replicate q false ++ [true]) where
 ok:=fun r => by
  unfold unS
  rw [ZB7 q 0 r]
  simp
 tail:=fun p hp => by
  have hz:∀ x ∈ p,x = false:=by
   rcases hp.split with h | ⟨t,rfl,h⟩
   ·intro x hx
    exact List.eq_of_mem_replicate (h.1.subset hx)
   ·intro x hx
    have ht:t = []:=by have:=h.2; simp at this; exact this
    subst ht
    rw [List.append_nil] at hx
    exact List.eq_of_mem_replicate hx
  unfold unS
  rw [ZtA p 0 hz]
theorem ZEw {n:Int} (h:ZN n):Z2 n < 4294967295:=by
 unfold ZN at h
 unfold Z2
 split <;> omega
theorem ZOO {n:Int} (h:ZN n) (kk:Nat):Enc (ZbC kk) n (KO kk n) where
 ok:=fun r => by
  have h1:=(Zl5 (Z2 n / 2 ^ kk)).ok (Zb (Z2 n % 2 ^ kk) kk ++ r)
  have h2:=(Zac (n:=Z2 n % 2 ^ kk) (w:=kk) (Nat.mod_lt _ (Nat.pow_pos (by omega)))).ok r
  unfold ZbC KO
  rw [List.append_assoc,h1]
  simp only
  rw [h2]
  simp only
  have e:Z2 n / 2 ^ kk * 2 ^ kk + Z2 n % 2 ^ kk = Z2 n:=by rw [Nat.mul_comm]; exact Nat.div_add_mod _ _
  have:=ZEw h
  rw [e,if_neg (by simp),if_neg (by simp),if_neg (by omega),ZB8 h]
 tail:=fun p hp => by
  unfold KO at hp
  unfold ZbC
  rcases hp.split with h1 | ⟨q,rfl,h1⟩
  ·have:=(Zl5 (Z2 n / 2 ^ kk)).tail p h1
   rw [if_pos (by rw [this]; decide)]
   exact this
  ·rw [(Zl5 (Z2 n / 2 ^ kk)).ok q]
   have:=(Zac (n:=Z2 n % 2 ^ kk) (w:=kk) (Nat.mod_lt _ (Nat.pow_pos (by omega)))).tail q h1
   simp only
   rw [if_neg (by simp),if_pos (by rw [this]; decide)]
   exact this
theorem Zm9 {one:ZFd} {g:Int → List Bool}:∀ (xs acc:List Int),(∀ x ∈ xs,Enc one x (g x)) → Enc (fun r => Yf one xs.length r acc) (acc ++ xs) (xs.flatMap g)
 | [],acc,_ => ⟨fun r => by simp [Yf],fun p hp => (hp.no).elim⟩
 | x :: xs,acc,h => by
  have hx:=h x (List.mem_cons_self ..)
  have ih:=Zm9 xs (acc ++ [x]) fun y hy => h y (List.mem_cons_of_mem _ hy)
  constructor
  ·intro r
   have:=ih.ok r
   rw [List.flatMap_cons,List.append_assoc,List.length_cons]
   unfold Yf
   rw [hx.ok]
   simp only
   rw [if_neg (by simp),this,List.append_assoc]
   rfl
  ·intro p hp
   rw [List.flatMap_cons] at hp
   simp only [List.length_cons]
   unfold Yf
   rcases hp.split with h1 | ⟨q,rfl,h1⟩
   ·have:=hx.tail p h1
    rw [if_pos (by rw [this]; decide)]
    exact this
   ·rw [hx.ok q]
    simp only
    rw [if_neg (by simp)]
    exact ih.tail q h1
theorem ZJM {c:List Int} (hc:∀ x ∈ c,ZN x) {m:Nat} (hm:m = 0 ∨ m = 1) {y:Prt} (hy:Zak c m y):Enc (Yi m c.length) c (XF m (c,y)):=by
 obtain ⟨a,w,ha,ha2,hw,hw2⟩:=Zs3 (m:=(m:Int)) (by omega) hy
 have hA:=Zac (n:=a) (w:=4 + m) (by simpa using ha2)
 have hW:=Zac (n:=w) (w:=5) (by omega)
 have key:∃ B,XF m (c,y) = Zb a (4 + m) ++ B ∧ Enc (fun r => if a = Xv m then (if (ZV 5 r).2.1 ≠ 0 then (([]:List Int),(ZV 5 r).2.1,(ZV 5 r).2.2) else Yf (WR (ZV 5 r).1) c.length (ZV 5 r).2.2 []) else Yf (ZbC a) c.length r []) c B:=by
  unfold XF Y5
  simp only [ha,hw,Int.toNat_natCast]
  rcases hy with ⟨kk,hkk,hfar,rfl⟩ | ⟨hwid,rfl⟩
  ·simp only at ha
   obtain rfl:kk = a:=by omega
   have hne:¬ kk = Xv m:=by omega
   have hne2:¬ ((kk:Int) = ((Xv (m:Int):Nat):Int)):=by omega
   rw [if_neg hne2,if_neg hne2]
   refine ⟨_,rfl,?_⟩
   rw [List.nil_append]
   have:=Zm9 (one:=ZbC kk) (g:=KO kk) c [] fun x hx => ZOO (hc x hx) kk
   simp only [if_neg hne]
   exact this
  ·simp only at ha hw
   obtain rfl:Xv (m:Int) = a:=by omega
   obtain rfl:QP c = w:=by omega
   rw [if_pos rfl,if_pos rfl]
   refine ⟨_,rfl,?_⟩
   have hl:=Zm9 (one:=WR (QP c)) (g:=fun n => WI n (QP c)) c [] fun x hx => ZvI (Zwh hc x hx)
   constructor
   ·intro r
    have h1:=hl.ok r
    simp only [if_true]
    rw [List.append_assoc,hW.ok]
    simp only
    rw [if_neg (by simp),h1]
    simp
   ·intro p hp
    simp only [if_true]
    rcases hp.split with h1 | ⟨q,rfl,h1⟩
    ·have:=hW.tail p h1
     rw [if_pos (by rw [this]; decide)]
     exact this
    ·rw [hW.ok q]
     simp only
     rw [if_neg (by simp)]
     exact hl.tail q h1
 obtain ⟨B,hB,hE⟩:=key
 rw [hB]
 constructor
 ·intro r
  have:=hE.ok r
  unfold Yi
  rw [List.append_assoc,hA.ok]
  simp only at this ⊢
  rw [if_neg (by simp)]
  exact this
 ·intro p hp
  unfold Yi
  rcases hp.split with h1 | ⟨q,rfl,h1⟩
  ·have:=hA.tail p h1
   rw [if_pos (by rw [this]; decide)]
   exact this
  ·have:=hE.tail q h1
   rw [hA.ok q]
   simp only at this ⊢
   rw [if_neg (by simp)]
   exact this
theorem ZnB {m n o p:Nat} (hm:m = 0 ∨ m = 1):∀ (cs:List (List Int)) (ys:List Prt) (i:Nat) (acc:List Int),(∀ c ∈ cs,∀ x ∈ c,ZN x) → KH m cs ys → (∀ (j:Nat) (h:j < cs.length),cs[j].length = n / 2 ^ p - if i + j = 0 then o else 0) →
  Enc (fun r => Wn m n o p cs.length i r acc) (acc ++ cs.flatten) ((cs.zip ys).flatMap (XF m))
 | [],[],i,acc,_,_,_ => ⟨fun r => by simp [Wn],fun p hp => (hp.no).elim⟩
 | c :: cs,y :: ys,i,acc,hn,hok,hlen => by
  have hc:=ZJM (hn c (List.mem_cons_self ..)) hm hok.1
  have hl:=hlen 0 (by simp)
  simp only [List.getElem_cons_zero,Nat.add_zero] at hl
  have ih:=ZnB (n:=n) (o:=o) (p:=p) hm cs ys (i + 1) (acc ++ c) (fun d hd => hn d (List.mem_cons_of_mem _ hd)) hok.2 (fun j hj => by
   have:=hlen (j + 1) (by simpa using hj)
   simp only [List.getElem_cons_succ] at this
   rw [this]
   congr 1
   split <;> split <;> omega)
  constructor
  ·intro r
   have:=ih.ok r
   rw [List.zip_cons_cons,List.flatMap_cons,List.append_assoc,List.length_cons]
   unfold Wn
   rw [← hl,hc.ok]
   simp only
   rw [if_neg (by simp),this,List.flatten_cons,List.append_assoc]
  ·intro q hq
   rw [List.zip_cons_cons,List.flatMap_cons] at hq
   simp only [List.length_cons]
   unfold Wn
   rw [← hl]
   rcases hq.split with h1 | ⟨t,rfl,h1⟩
   ·have:=hc.tail q h1
    rw [if_pos (by rw [this]; decide)]
    exact this
   ·rw [hc.ok t]
    simp only
    rw [if_neg (by simp)]
    exact ih.tail t h1
theorem ZnJ {size:Nat}:∀ (d:Nat) (r:List Int),r.length = d * size → (Kk size d r).flatten = r ∧ ∀ c ∈ Kk size d r,c.length = size
 | 0,r,h => by
  have:r = []:=List.length_eq_zero_iff.1 (by omega)
  subst this
  simp [Kk]
 | d + 1,r,h => by
  have hs:(d + 1) * size = d * size + size:=by rw [Nat.add_mul,Nat.one_mul]
  obtain ⟨h1,h2⟩:=ZnJ (size:=size) d (r.drop size) (by rw [List.length_drop]; omega)
  refine ⟨?_,?_⟩
  ·simp only [Kk,List.flatten_cons,h1,List.take_append_drop]
  ·intro c hc
   rcases List.mem_cons.1 hc with rfl | hc
   ·rw [List.length_take]; omega
   ·exact h2 c hc
theorem ZHo {l:List Int} {o p:Nat} (hf:ZeM (l.length + o) o p = true):(Yt l o p).flatten = l ∧ ∀ (j:Nat) (h:j < (Yt l o p).length),(Yt l o p)[j].length = (l.length + o) / 2 ^ p - if 0 + j = 0 then o else 0:=by
 unfold ZeM at hf
 simp only [Bool.and_eq_true,decide_eq_true_eq] at hf
 obtain ⟨hm,ho⟩:=hf
 have h0:0 < 2 ^ p:=Nat.pow_pos (by omega)
 have hd:(l.length + o) / 2 ^ p ≤ l.length + o:=Nat.div_le_self _ _
 have hmul:2 ^ p * ((l.length + o) / 2 ^ p) = l.length + o:=by have:=Nat.div_add_mod (l.length + o) (2 ^ p); omega
 unfold Yt
 generalize (l.length + o) / 2 ^ p = size at ho hd hmul
 have e3:(2 ^ p - 1) * size = 2 ^ p * size - size:=by rw [Nat.sub_mul,Nat.one_mul]
 have hps:size ≤ 2 ^ p * size:=Nat.le_mul_of_pos_left _ h0
 obtain ⟨h1,h2⟩:=ZnJ (size:=size) (2 ^ p - 1) (l.drop (size - o)) (by
  rw [List.length_drop,e3,hmul]
  omega)
 refine ⟨by rw [List.flatten_cons,h1,List.take_append_drop],?_⟩
 intro j hj
 match j,hj with
 | 0,_ =>
  simp only [List.getElem_cons_zero]
  rw [if_pos trivial,List.length_take]
  clear h1 h2 e3
  generalize 2 ^ p * size = M at hmul hps
  omega
 | j + 1,hj =>
  simp only [List.getElem_cons_succ]
  rw [if_neg (show ¬ 0 + (j + 1) = 0 by omega),Nat.sub_zero]
  exact h2 _ (List.getElem_mem _)
theorem ZJT {l:List Int} {o:Nat} (h:Yq l (o:Nat) = 0):Enc (Ka (l.length + o) o) l (Xl l o):=by
 obtain ⟨h1,h2⟩:=Zgg.1 h
 have hl:=Ky h2
 obtain ⟨_,q,hg⟩:=Zaz hl (o:=o) (by omega) (by omega)
 unfold Xl Zgc
 have hys:=hg.ys
 generalize WS l o = R at hg hys
 obtain ⟨m,p,sz,ys⟩:=R
 obtain ⟨hp,p4,hfit,hm,hparts⟩:=hg
 simp only at hp hm hys
 subst hp
 obtain ⟨mn,hmn⟩:∃ mn:Nat,m = (mn:Int):=⟨m.toNat,by omega⟩
 subst hmn
 simp only [Int.toNat_natCast]
 have hm':mn = 0 ∨ mn = 1:=by omega
 have hM:=Zac (n:=mn) (w:=2) (by omega)
 have hP:=Zac (n:=q) (w:=4) (by omega)
 obtain ⟨hflat,hlen⟩:=ZHo hfit
 have hB:=ZnB (n:=l.length + o) (o:=o) (p:=q) hm' (Yt l o q) ys 0 [] (fun c hc x hx => hl x (ZaZ hc x hx)) hys hlen
 rw [List.nil_append,hflat,Zjx] at hB
 have hbb:Zcc ((l.length + o:Nat):Int) ((o:Nat):Int) = true:=decide_eq_true (by omega)
 rw [List.append_assoc]
 constructor
 ·intro r
  have:=hB.ok r
  unfold Ka
  rw [if_neg (by rw [hbb]; simp),List.append_assoc,hM.ok,List.append_assoc]
  simp only
  rw [if_neg (by simp),if_neg (by omega),hP.ok]
  simp only
  rw [if_neg (by simp),if_neg (by rw [hfit]; simp),this]
 ·intro p hp
  unfold Ka
  rw [if_neg (by rw [hbb]; simp)]
  rcases hp.split with h3 | ⟨t,rfl,h3⟩
  ·have:=hM.tail p h3
   rw [if_pos (by rw [this]; decide)]
   exact this
  ·rw [hM.ok]
   simp only
   rw [if_neg (by simp),if_neg (by omega)]
   rcases h3.split with h4 | ⟨u,rfl,h4⟩
   ·have:=hP.tail t h4
    rw [if_pos (by rw [this]; decide)]
    exact this
   ·rw [hP.ok]
    simp only
    rw [if_neg (by simp),if_neg (by rw [hfit]; simp)]
    exact hB.tail u h4
end Go.Sh
namespace Go.Sh
open Go Go.Proofs
theorem Zdd {w:Nat} {s:IS} (h:s.2 ≠ 0):gI w s = (0,s):=by unfold gI; rw [if_neg h]
theorem W2 {ok:Bool} {s:IS} {code:Int} (h:s.2 ≠ 0):mI ok s code = s:=by unfold mI; rw [if_neg (fun hh => h hh.1)]
theorem Zbr {w:Nat}:∀ (n:Nat) (s:IS) (acc:List Int),s.2 ≠ 0 → (XQ w n s acc).2 = s
 | 0,s,acc,h => rfl
 | n + 1,s,acc,h => by
  unfold XQ
  rw [if_neg h]
  exact Zbr n s _ h
theorem Zat {n w:Nat} (h:n < 2 ^ w) (r:List Bool):gI w (Zb n w ++ r,0) = (n,(r,0)):=by
 unfold gI
 rw [if_pos rfl,(Zac h).ok]
theorem ZhP {n w:Nat} (h:n < 2 ^ w) {p:List Bool} (hp:SP p (Zb n w)):(gI w (p,0)).2.2 = 10:=by
 unfold gI
 rw [if_pos rfl]
 exact (Zac h).tail p hp
structure EncI {α:Type} (f:IS → α × IS) (v:α) (A:List Bool):Prop where
 ok:∀ r,f (A ++ r,0) = (v,(r,0))
 tail:∀ p,SP p A → (f (p,0)).2.2 = 10
theorem Zdh {w:Nat}:∀ (xs acc:List Int),(∀ x ∈ xs,Xp x w = true) → EncI (fun s => XQ w xs.length s acc) (acc ++ xs) (xs.flatMap fun n => WI n w)
 | [],acc,_ => ⟨fun r => by simp [XQ],fun p hp => (hp.no).elim⟩
 | x :: xs,acc,h => by
  have hx:=ZvI (h x (List.mem_cons_self ..))
  have ih:=Zdh xs (acc ++ [x]) fun y hy => h y (List.mem_cons_of_mem _ hy)
  constructor
  ·intro r
   have:=ih.ok r
   rw [List.flatMap_cons,List.append_assoc,List.length_cons]
   unfold XQ
   rw [if_pos rfl,hx.ok,this,List.append_assoc]
   rfl
  ·intro p hp
   rw [List.flatMap_cons] at hp
   simp only [List.length_cons]
   unfold XQ
   rw [if_pos rfl]
   rcases hp.split with h1 | ⟨q,rfl,h1⟩
   ·have:=hx.tail p h1
    rw [Zbr _ _ _ (by simp only; rw [this]; decide)]
    exact this
   ·rw [hx.ok q]
    exact ih.tail q h1
theorem ZTc {kind:Nat} (h:kind < 64):Zb kind 7 = Zb 0 1 ++ Zb kind 6:=by
 have:kind.testBit 6 = false:=Nat.testBit_lt_two_pow (by omega)
 show kind.testBit 6 :: Zb kind 6 = (0:Nat).testBit 0 :: Zb kind 6
 rw [this]
 rfl
theorem ZBS (r:List Bool):Zbz (Zb 0 1 ++ r,0) = (r,0):=by
 unfold Zbz
 rw [Zat (n:=0) (w:=1) (by omega)]
 rfl
theorem ZE2 {p:List Bool} (hp:SP p (Zb 0 1)):(Zbz (p,0)).2 = 10:=by
 have h:=ZhP (n:=0) (w:=1) (by omega) hp
 unfold Zbz
 rw [W2 (by rw [h]; decide),h]
theorem ZBT {kind:Nat} (h:kind < 64) (hk:Zdf kind = true) (r:List Bool):YP (Zb kind 6 ++ r,0) = (kind,(r,0)):=by
 unfold YP
 rw [Zat (w:=6) (by omega),hk,XS]
theorem ZBU {s:IS} (h:s.2 ≠ 0):(YP s).2 = s:=by
 unfold YP
 rw [Zdd h]
 exact W2 h
theorem ZE3 {kind:Nat} (h:kind < 64) {p:List Bool} (hp:SP p (Zb kind 6)):(YP (p,0)).2.2 = 10:=by
 have h:=ZhP (w:=6) (by omega) hp
 unfold YP
 simp only
 rw [W2 (by rw [h]; decide),h]
theorem Zn8 {kind d:Nat} {s:IS} (h:s.2 ≠ 0):(Zdq kind d s).2.2 = s:=by
 unfold Zdq
 rw [Zdd h,if_neg (by simp)]
 exact W2 h
def ZpA (kk:Nat):List Bool:=if 0 < kk then [true] ++ (List.replicate (kk - 1) false ++ [true]) else [false]
theorem ZPc {kind d kk:Nat} (h:kk < d) (r:List Bool):Zdq kind d (ZpA kk ++ r,0) = (kind,kk,(r,0)):=by
 unfold Zdq ZpA
 by_cases h0:0 < kk
 ·rw [if_pos h0]
  have e:=Zat (n:=1) (w:=1) (by omega) ((List.replicate (kk - 1) false ++ [true]) ++ r)
  rw [show Zb 1 1 = [true] from rfl] at e
  rw [List.append_assoc,e,if_pos ⟨rfl,rfl⟩]
  simp only
  rw [(Zl5 (kk - 1)).ok r]
  simp only
  rw [show kk - 1 + 1 = kk by omega,decide_eq_true h,XS]
 ·rw [if_neg h0]
  have e:=Zat (n:=0) (w:=1) (by omega) r
  rw [show Zb 0 1 = [false] from rfl] at e
  obtain rfl:kk = 0:=by omega
  rw [e,if_neg (by simp)]
  simp only
  rw [decide_eq_true h,XS]
theorem ZE5 {kind d kk:Nat} {p:List Bool} (hp:SP p (ZpA kk)):(Zdq kind d (p,0)).2.2.2 = 10:=by
 unfold ZpA at hp
 by_cases h0:0 < kk
 ·rw [if_pos h0] at hp
  rcases hp.split with h1 | ⟨q,rfl,h1⟩
  ·have h:=ZhP (n:=1) (w:=1) (by omega) (show SP p (Zb 1 1) from h1)
   unfold Zdq
   rw [if_neg (fun hh => by rw [h] at hh; exact absurd hh.2 (by decide))]
   simp only
   rw [W2 (by rw [h]; decide),h]
  ·have e:=Zat (n:=1) (w:=1) (by omega) q
   rw [show Zb 1 1 = [true] from rfl] at e
   have h:=(Zl5 (kk - 1)).tail q h1
   unfold Zdq
   rw [e,if_pos ⟨rfl,rfl⟩]
   simp only
   rw [W2 (by simp only; rw [h]; decide)]
   exact h
 ·rw [if_neg h0] at hp
  have h:=ZhP (n:=0) (w:=1) (by omega) (show SP p (Zb 0 1) from hp)
  unfold Zdq
  rw [if_neg (fun hh => by rw [h] at hh; exact absurd hh.2 (by decide))]
  simp only
  rw [W2 (by rw [h]; decide),h]
theorem Ztu {kind kk d:Nat} (h:kind < 64) (hk:Zdf kind = true) (hd:kk < d) (r:List Bool):ZW d (Yc kind kk ++ r,0) = (kind,kk,(r,0)):=by
 unfold ZW Yc
 rw [Int.toNat_natCast,ZTc h,List.append_assoc,List.append_assoc,ZBS,ZBT h hk]
 exact ZPc hd r
theorem Zy1 {kind kk d:Nat} (h:kind < 64) (hk:Zdf kind = true) {p:List Bool} (hp:SP p (Yc kind kk)):(ZW d (p,0)).2.2.2 = 10:=by
 unfold Yc at hp
 rw [Int.toNat_natCast,ZTc h,List.append_assoc] at hp
 unfold ZW
 rcases hp.split with h1 | ⟨q,rfl,h1⟩
 ·have e:=ZE2 h1
  have e2:=ZBU (s:=Zbz (p,0)) (by rw [e]; decide)
  rw [e2,Zn8 (by rw [e]; decide),e]
 ·rw [ZBS]
  rcases h1.split with h2 | ⟨t,rfl,h2⟩
  ·have e:=ZE3 h h2
   rw [Zn8 (by rw [e]; decide),e]
  ·rw [ZBT h hk]
   exact ZE5 h2
theorem ZBF {c:List Int} {sh:Int} {s:List Int} (hs:s.any Qw = false):∀ (d i:Nat),i + d = s.length → ZlU c sh (Ztg c sh s d i) (s.take i) = (s,0)
 | 0,i,h => by
  rw [List.take_of_length_le (by omega)]
  rfl
 | d + 1,i,h => by
  have hi:i < s.length:=by omega
  simp only [Ztg]
  unfold ZlU
  have e:Ztf c sh s i + ZeG c sh (s.take i) = s[i]:=by
   unfold Ztf
   rw [Xc hi]
   omega
  have hw:Qw s[i] = false:=by
   rw [List.any_eq_false] at hs
   have:=hs s[i] (List.getElem_mem hi)
   simpa using this
  have ht:s.take i ++ [s[i]] = s.take (i + 1):=by rw [List.take_add_one,List.getElem?_eq_getElem hi]; rfl
  rw [e,hw,if_neg (by simp),ht]
  exact ZBF hs d (i + 1) (by omega)
theorem ZyT {c s:List Int} {sh:Int} (h:(QV c sh s).2 = 0):Zbs c sh = true ∧ c.length ≤ s.length ∧ s.any Qw = false ∧ (X1 c sh s).any Qw = false:=by
 unfold QV at h
 split at h
 ·simp at h
 ·split at h
  ·simp at h
  ·split at h
   ·simp at h
   ·split at h
    ·simp at h
    ·rename_i h1 h2 h3 h4
     exact ⟨by simpa using h1,by omega,by simpa using h3,by simpa using h4⟩
theorem ZBH {c s:List Int} {sh:Int} (h:(QV c sh s).2 = 0):Zai c sh (s.take c.length) (X1 c sh s) = (s,0):=by
 obtain ⟨h1,h2,h3,h4⟩:=ZyT h
 unfold Zai
 have ht:(s.take c.length).any Qw = false:=by
  rw [List.any_eq_false] at h3 ⊢
  exact fun x hx => h3 x (List.mem_of_mem_take hx)
 rw [if_neg (by rw [h1]; simp),if_neg (by rw [List.length_take]; omega),if_neg (by rw [ht]; simp),if_neg (by rw [h4]; simp)]
 exact ZBF h3 (s.length - c.length) c.length (by omega)
theorem Zt7 {c s:List Int} {sh:Int} (h:(QV c sh s).2 = 0) (h1:1 ≤ s.length) (h2:s.length ≤ 512):EncI (Zcp c sh c.length s.length (s.take c.length)) s (Xl (X1 c sh s) c.length):=by
 obtain ⟨hl,h8,hr⟩:=KP h h1 h2
 obtain ⟨e1,_,_⟩:=Zgi h
 rw [e1] at hl hr
 have hE:=ZJT hr
 rw [hl] at hE
 constructor
 ·intro r
  unfold Zcp
  simp only
  rw [hE.ok r]
  simp only
  rw [if_neg (by simp),ZBH h]
 ·intro p hp
  unfold Zcp
  simp only
  have:=hE.tail p hp
  rw [if_pos (by rw [this]; decide)]
  exact this
theorem Zjm {num:Bool} {c n:Nat} {w:List Int × IS} (h:w.2.2 ≠ 0):(ZbE num c n w).2 = w.2:=by
 unfold ZbE
 split
 ·have e1:Zaq w.2 = w.2:=by unfold Zaq; rw [Zdd h]; exact W2 h
  have e2:(Wq w.2).2 = w.2:=by unfold Wq; rw [Zdd h]; exact W2 h
  rw [e1,e2]
  have e3:=Zbr (w:=12) c w.2 [] h
  unfold ZeA
  rw [e3,if_pos h]
 ·first
  | rfl
  | rw [if_pos h]
theorem ZHe {s:List Int} {d:Nat} {x:Xt} (h1:1 ≤ s.length) (h2:s.length ≤ 512) (hs:∀ y ∈ s,Xp y d = true) (hx:ZeP s d x):∃ kind:Nat,x.1 = (kind:Int) ∧ kind < 64 ∧ Zdf kind = true ∧ EncI (WY kind s.length d) s (X3 s d x):=by
 unfold X3
 rcases hx with ⟨rfl,hall⟩ | rfl | ⟨o,ho,hos,hx⟩ | ⟨o,ho,hos,hx⟩
 ·refine ⟨0,rfl,by omega,rfl,?_⟩
  simp only
  rw [if_pos trivial]
  match s,h1,hall,hs with
  | a :: s',_,hall,hs =>
   have hE:=Zdh (w:=d) [a] [] (fun y hy => hs y (by simp at hy; simp [hy]))
   have hrep:List.replicate (a :: s').length a = a :: s':=by
    symm
    rw [List.eq_replicate_iff]
    refine ⟨rfl,fun y hy => ?_⟩
    have:=List.all_eq_true.1 hall y hy
    simpa using this
   constructor
   ·intro r
    have:=hE.ok r
    show WY 0 _ _ _ = _
    unfold WY
    rw [if_pos rfl]
    simp only [List.length_singleton,List.nil_append] at this
    rw [show (a :: s').take 1 = [a] from rfl,this]
    simp only [List.headD_cons]
    rw [hrep]
   ·intro p hp
    have:=hE.tail p hp
    unfold WY
    rw [if_pos rfl]
    exact this
 ·refine ⟨1,rfl,by omega,rfl,?_⟩
  simp only
  rw [if_neg (by omega),if_pos trivial]
  have hE:=Zdh (w:=d) s [] hs
  rw [List.nil_append] at hE
  constructor
  ·intro r
   unfold WY
   rw [if_neg (by omega),if_pos rfl]
   exact hE.ok r
  ·intro p hp
   unfold WY
   rw [if_neg (by omega),if_pos rfl]
   exact hE.tail p hp
 ·obtain ⟨e1,e2,e3,e4,e5,e6,e7,e8,e9,e10⟩:=YM h1 h2 hx
  refine ⟨8 + o,by rw [e1]; omega,by omega,by unfold Zdf; rw [decide_eq_true_eq]; omega,?_⟩
  rw [e1,e2,e3,e4,if_neg (by omega),if_neg (by omega),if_neg (by omega),List.nil_append]
  have hcl:=ZsA o ho
  have hE:=Zdh (w:=d) (s.take (XD o).length) [] (fun y hy => hs y (List.mem_of_mem_take hy))
  have hZ:=Zt7 e10 h1 h2
  have hlen:(s.take (XD o).length).length = o:=by rw [List.length_take,hcl]; omega
  rw [List.nil_append,hlen] at hE
  rw [hcl] at hZ
  have shape:∀ r,WY (8 + o) s.length d (r,0) = ZbE false o s.length (XQ d o (r,0) []):=by
   intro r
   unfold WY
   rw [if_neg (by omega),if_neg (by omega),if_neg (by omega),show 8 + o - 8 = o by omega]
   unfold Zh6
   rw [decide_eq_true hos,XS,if_neg (by simp)]
  constructor
  ·intro r
   have e:=hE.ok (Xl (X1 (XD o) 0 s) (XD o).length ++ r)
   rw [shape,List.append_assoc,e]
   unfold ZbE
   rw [if_neg (by simp),if_neg (by simp),Nat.min_eq_right ho]
   rw [hcl]
   exact hZ.ok r
  ·intro p hp
   rw [shape]
   rcases hp.split with h3 | ⟨q,rfl,h3⟩
   ·have:=hE.tail p h3
    rw [Zjm (by rw [this]; decide)]
    exact this
   ·have e:=hE.ok q
    rw [e]
    unfold ZbE
    rw [if_neg (by simp),if_neg (by simp),Nat.min_eq_right ho]
    rw [hcl] at h3 ⊢
    exact hZ.tail q h3
 ·obtain ⟨e1,e2,e3,e4,e5,e6,e7,e8,e9,e10⟩:=YM h1 h2 hx
  obtain ⟨hsl,hsr⟩:=Zjb s o ho
  refine ⟨31 + o,by rw [e1]; omega,by omega,by unfold Zdf; rw [decide_eq_true_eq]; omega,?_⟩
  rw [e1,e2,e3,e4,if_neg (by omega),if_neg (by omega),if_pos (by omega)]
  generalize Zb7 s o = c at hsl hsr e6 e7 e8 e9 e10
  have hE:=Zdh (w:=d) (s.take c.length) [] (fun y hy => hs y (List.mem_of_mem_take hy))
  have hC:=Zdh (w:=12) c [] (fun y hy => by
   have:=hsr y hy
   unfold Xp
   rw [if_neg (by omega),decide_eq_true_eq]
   omega)
  have hZ:=Zt7 e10 h1 h2
  have hlen:(s.take c.length).length = o:=by rw [List.length_take,hsl]; omega
  rw [List.nil_append,hlen] at hE
  rw [List.nil_append,hsl] at hC
  rw [hsl] at hZ
  have e4':(4:Int).toNat = 4:=rfl
  rw [e4']
  have shape:∀ r,WY (31 + o) s.length d (r,0) = ZbE true o s.length (XQ d o (r,0) []):=by
   intro r
   unfold WY
   rw [if_neg (by omega),if_neg (by omega),if_pos (by omega),show 31 + o - 31 = o by omega]
   unfold Zh6
   rw [decide_eq_true (show o ≤ s.length by omega),XS,if_neg (by simp)]
  have cA:∀ r,Zaq (Zb 11 4 ++ r,0) = (r,0):=by
   intro r
   unfold Zaq
   rw [Zat (n:=11) (w:=4) (by omega)]
   rfl
  have cB:∀ r,Wq (Zb 4 5 ++ r,0) = (4,(r,0)):=by
   intro r
   unfold Wq
   rw [Zat (n:=4) (w:=5) (by omega)]
   rfl
  have cAs:∀ s:IS,s.2 ≠ 0 → Zaq s = s:=fun s h => by unfold Zaq; rw [Zdd h]; exact W2 h
  have cBs:∀ s:IS,s.2 ≠ 0 → (Wq s).2 = s:=fun s h => by unfold Wq; rw [Zdd h]; exact W2 h
  constructor
  ·intro r
   have e:=hE.ok (Zb 11 4 ++ (Zb 4 5 ++ (c.flatMap (fun n => WI n 12) ++ (Xl (X1 c 4 s) c.length ++ r))))
   rw [shape]
   have ha:((s.take c.length).flatMap (fun n => WI n d) ++ (Zb 11 4 ++ (Zb 4 5 ++ c.flatMap fun n => WI n 12) ++ Xl (X1 c 4 s) c.length)) ++ r = (s.take c.length).flatMap (fun n => WI n d) ++ (Zb 11 4 ++ (Zb 4 5 ++ (c.flatMap (fun n => WI n 12) ++ (Xl (X1 c 4 s) c.length ++ r)))):=by
    simp only [List.append_assoc]
   rw [ha,e]
   unfold ZbE
   rw [if_pos rfl]
   simp only
   rw [cA,cB]
   simp only
   rw [hC.ok]
   unfold ZeA
   rw [if_neg (by simp)]
   simp only
   have:=hZ.ok r
   rw [hsl]
   exact this
  ·intro p hp
   rw [shape]
   rcases hp.split with h3 | ⟨q,rfl,h3⟩
   ·have:=hE.tail p h3
    rw [Zjm (by rw [this]; decide)]
    exact this
   ·have e:=hE.ok q
    rw [e]
    unfold ZbE
    rw [if_pos rfl]
    simp only
    rw [List.append_assoc] at h3
    have fail:∀ t:IS,t.2 = 10 → (ZeA o s.length (s.take c.length) (Wq t).1 (XQ 12 o (Wq t).2 [])).2.2 = 10:=by
     intro t ht
     have hne:t.2 ≠ 0:=by rw [ht]; decide
     rw [cBs t hne]
     have:=Zbr (w:=12) o t [] hne
     unfold ZeA
     rw [this,if_pos hne,ht]
    rcases h3.split with h4 | ⟨u,rfl,h4⟩
    ·refine fail _ ?_
     have:=ZhP (n:=11) (w:=4) (by omega) h4
     unfold Zaq
     rw [W2 (by rw [this]; decide),this]
    ·rw [cA]
     rw [List.append_assoc] at h4
     rcases h4.split with h5 | ⟨v,rfl,h5⟩
     ·have:=ZhP (n:=4) (w:=5) (by omega) h5
      have e5:(Wq (u,0)).2.2 = 10:=by
       unfold Wq
       simp only
       rw [W2 (by rw [this]; decide),this]
      have:=Zbr (w:=12) o (Wq (u,0)).2 [] (by rw [e5]; decide)
      unfold ZeA
      rw [this,if_pos (by rw [e5]; decide),e5]
     ·rw [cB]
      simp only
      rcases h5.split with h6 | ⟨z,rfl,h6⟩
      ·have:=hC.tail v h6
       unfold ZeA
       rw [if_pos (by rw [this]; decide)]
       exact this
      ·rw [hC.ok]
       unfold ZeA
       rw [if_neg (by simp)]
       simp only
       rw [hsl] at h6 ⊢
       exact hZ.tail z h6
theorem Zy2 {s:List Int} {d:Nat} (h1:1 ≤ s.length) (h2:s.length ≤ 512) (hd:4 ≤ d ∧ d ≤ 25) (hs:∀ y ∈ s,Xp y d = true):Enc (QT s.length d) s (Wp s d):=by
 obtain ⟨x,_,hok,hsub,_,_⟩:=Zeu s d h1 h2
 have hw:=Zdw (by omega) hs
 have hsg:=Zjc (by omega) hs
 have hsl:=ZaS s
 have hback:(Q4 s).map (fun x => x * 2 ^ ZI s) = s:=by
  unfold Q4
  rw [List.map_map]
  conv => rhs; rw [← List.map_id s]
  apply List.map_congr_left
  intro y hy
  exact ZBc (Zjg y hy)
 obtain ⟨kind,hk1,hk2,hk3,hB⟩:=ZHe (by omega) (by omega) hsg hok
 rw [hsub,hk1]
 rw [hsl] at hB
 have hr:¬ ¬ (1 ≤ s.length ∧ s.length ≤ 512 ∧ 4 ≤ d ∧ d ≤ 25):=fun h => h ⟨h1,h2,hd.1,hd.2⟩
 constructor
 ·intro r
  have e:=Ztu hk2 hk3 hw (X3 (Q4 s) (d - ZI s) x ++ r)
  have e2:=hB.ok r
  unfold QT
  rw [if_neg hr,List.append_assoc,e]
  simp only
  rw [if_neg (by simp),e2]
  simp only
  rw [if_neg (by simp),if_pos (List.all_eq_true.2 hsg),hback]
 ·intro p hp
  unfold QT
  rw [if_neg hr]
  rcases hp.split with h3 | ⟨q,rfl,h3⟩
  ·have e:=Zy1 (d:=d) hk2 hk3 h3
   rw [if_pos (by rw [e]; decide)]
   exact e
  ·have e:=Ztu hk2 hk3 hw q
   have e2:=hB.tail q h3
   rw [e]
   simp only
   rw [if_neg (by simp),if_pos (by rw [e2]; decide)]
   exact e2
end Go.Sh
namespace Go.Sh
open Go Go.Proofs
theorem Zp6:∀ (i n:Nat),X4 n (i + 1) = (128 + n / 64 ^ i % 64) :: X4 n i
 | 0,n => by simp [X4]
 | i + 1,n => by
  rw [show X4 n (i + 1 + 1) = X4 (n / 64) (i + 1) ++ [128 + n % 64] from rfl,Zp6 i (n / 64),show X4 n (i + 1) = X4 (n / 64) i ++ [128 + n % 64] from rfl,Nat.div_div_eq_div_mul,← Nat.pow_succ']
  rfl
theorem ZKA (n i:Nat):n / 64 ^ (i + 1) * 64 + n / 64 ^ i % 64 = n / 64 ^ i:=by
 rw [Nat.pow_succ,← Nat.div_div_eq_div_mul]
 omega
theorem Zzt:∀ (i n:Nat) (t:List Int) (g:Nat),cgL i (Wa (X4 n i) ++ t) (n / 64 ^ i) (n / 64 ^ i) = some (n,n)
 | 0,n,t,g => by simp [cgL,X4,Wa]
 | i + 1,n,t,g => by
  have e:Wa (X4 n (i + 1)) ++ t = ((128 + n / 64 ^ i % 64:Nat):Int) :: (Wa (X4 n i) ++ t):=by rw [Zp6]; rfl
  rw [e]
  have h:=Nat.mod_lt (n / 64 ^ i) (show 0 < 64 by omega)
  simp only [cgL,Int.toNat_natCast]
  rw [if_pos (by omega),show (128 + n / 64 ^ i % 64) % 64 = n / 64 ^ i % 64 by omega,ZKA]
  exact Zzt i n t g
theorem ZJp:∀ (k:Fin 8) (m:Fin 64),2 ≤ k.val → m.val < 2 ^ (7 - k.val) → Kz (Zeh k.val m.val) = k.val ∧ Zeh k.val m.val % 2 ^ (7 - k.val) = m.val:=by decide +kernel
theorem ZOC {n:Nat} (h2:128 ≤ n):2 ^ Yk (ZbB n - 1) ≤ n:=by
 obtain ⟨r2,r3,r4,r5,r6,r7⟩:=Ztl
 have r1:Yk 1 = 7:=rfl
 unfold ZbB
 rw [if_neg (by omega)]
 repeat' split
 all_goals simp only [Nat.reduceSub,r1,r2,r3,r4,r5,r6]
 all_goals omega
theorem ZJz {kk n:Nat} (h2:2 ≤ kk) (h7:kk ≤ 7) (hlt:n < 2 ^ Yk kk):n / 64 ^ (kk - 1) < 2 ^ (7 - kk):=by
 have h64:(64:Nat) = 2 ^ 6:=rfl
 rw [Nat.div_lt_iff_lt_mul (Nat.pow_pos (by omega))]
 refine Nat.lt_of_lt_of_le hlt ?_
 rw [h64,← Nat.pow_mul,← Nat.pow_add]
 refine Nat.pow_le_pow_right (by omega) ?_
 unfold Yk
 rw [if_neg (by omega)]
 omega
theorem ZHm {n:Nat} (h:128 ≤ n):Qz n = Zeh (ZbB n) (n / 64 ^ (ZbB n - 1)) :: X4 n (ZbB n - 1):=by
 unfold Qz
 rw [if_neg (by omega)]
theorem ZJu {n:Nat} (h:n < 2 ^ 36) (t:List Int):ZeN (Wa (Qz n) ++ t) = (n,(Qz n).length,0):=by
 by_cases h128:n < 128
 ·have e:Qz n = [n]:=by unfold Qz; rw [if_pos h128]
  rw [e]
  show ZeN ((n:Int) :: t) = _
  unfold ZeN
  simp only [Int.toNat_natCast]
  rw [if_pos (by unfold Kz; rw [if_pos h128])]
  rfl
 ·obtain ⟨h1,h2⟩:=ZvM h (by omega)
  have h7:=(ZyB n).2
  have hm:=ZJz h1 h7 h2
  have hm64:=ZiV h1 h7 h2
  have hlow:=ZOC (n:=n) (by omega)
  rw [ZHm (by omega)]
  generalize hk:ZbB n = k at *
  have hft:=ZJp ⟨k,by omega⟩ ⟨n / 64 ^ (k - 1),hm64⟩ h1 hm
  simp only at hft
  show ZeN (((Zeh k (n / 64 ^ (k - 1)):Nat):Int) :: (Wa (X4 n (k - 1)) ++ t)) = _
  unfold ZeN
  simp only [Int.toNat_natCast]
  rw [hft.1,hft.2,if_neg (by omega),if_neg (by omega),if_neg (by omega),Zzt _ _ _ 0]
  simp only
  rw [if_neg (by omega),if_neg (by simp only [List.length_append,ZhS,Zgv]; omega)]
  simp only [List.length_cons,Zgv]
  congr 2
  omega
theorem ZHc {l:List Nat} (h:∀ x ∈ l,x < 256):Qm (Wa l) = l.flatMap fun x => Zb x 8:=by
 unfold Qm Wa
 rw [List.flatMap_map]
 rfl
theorem ZCJ {l:List Nat} (h:∀ x ∈ l,x < 256):ZS (Wa l) = true:=by
 refine List.all_eq_true.2 fun x hx => ?_
 obtain ⟨y,hy,rfl⟩:=List.mem_map.1 hx
 have:=h y hy
 rw [Bool.and_eq_true,decide_eq_true_eq,decide_eq_true_eq]
 omega
theorem ZWg (r:List Bool):hd1 (Zb 32764 15 ++ r,0) = (r,0):=by
 unfold hd1
 rw [Zat (w:=15) (by omega)]
 rfl
theorem ZWh (r:List Bool):hd2 (Zb 0 1 ++ r,0) = (r,0):=by
 unfold hd2
 rw [Zat (w:=1) (by omega)]
 rfl
theorem ZWi {kd:Nat} (h:kd = 6 ∨ kd = 7) (r:List Bool):hd3 (Zb kd 4 ++ r,0) = (kd,(r,0)):=by
 unfold hd3
 rw [Zat (w:=4) (by omega)]
 rcases h with rfl | rfl <;> rfl
theorem ZOu (r:List Bool):hd4 (Zb 0 4 ++ r,0) = (r,0):=by
 unfold hd4
 rw [Zat (w:=4) (by omega)]
 rfl
theorem ZWj {c:Int} {m:Nat} (h:m < 16) (hm:ZeF c m = true) (r:List Bool):hd5 c (Zb m 4 ++ r,0) = (m,(r,0)):=by
 unfold hd5
 rw [Zat (w:=4) (by omega),hm,XS]
theorem ZBO:∀ (l:List Nat) (r:List Bool),(∀ x ∈ l,x < 256) → Zv9 l.length (l.flatMap (fun x => Zb x 8) ++ r,0) = (r,0)
 | [],r,_ => rfl
 | x :: l,r,h => by
  rw [List.flatMap_cons,List.append_assoc,List.length_cons]
  unfold Zv9
  rw [Zat (h x (List.mem_cons_self ..))]
  exact ZBO l r fun y hy => h y (List.mem_cons_of_mem _ hy)
theorem ZJQ {mode num N:Nat} (hm:mode < 16):Qq mode num N = Zb 32764 15 ++ (Zb 0 1 ++ (Zb (QI N) 4 ++ (Zb 0 4 ++ (Zb mode 4 ++ (Zb 0 4 ++ ((Qz num).flatMap (fun x => Zb x 8) ++ Zb (N - 1) (8 * (QI N - 5)))))))):=by
 have e1:Zb 16382 14 ++ Zb (QI N) 6 = Zb 32764 15 ++ (Zb 0 1 ++ Zb (QI N) 4):=by rcases Zf2 N with h | h <;> rw [h] <;> decide
 have e2:Zb mode 8 = Zb 0 4 ++ Zb mode 4:=by
  have:=Zay mode 4 4
  rw [show mode / 2 ^ 4 = 0 from Nat.div_eq_of_lt (by omega)] at this
  exact this
 unfold Qq
 rw [← List.append_assoc,e1,e2]
 simp only [List.append_assoc]
theorem ZT2 (mode kd:Nat):(Zb 32764 15 ++ (Zb 0 1 ++ (Zb kd 4 ++ (Zb 0 4 ++ (Zb mode 4 ++ Zb 0 4))))).length = 32:=by simp only [List.length_append,Zj]
theorem ZOy {c:Int} {mode num N:Nat} (hm:mode < 16) (hmb:ZeF c mode = true) (hnum:num < 2 ^ 31) (h1:1 ≤ N) (h2:N ≤ 512) {Z:List Int} {r:List Bool} (hZ:ZS Z = true) (hB:Qm Z = Qs mode num N ++ r) :
  ZbW c Z (Qm Z,0) = (mode,num,N,(r,0)):=by
 have hk:=Zf2 N
 have hclt:=Zzv (n:=num) (by omega)
 have hzl:8 * Z.length = (Qs mode num N).length + r.length:=by rw [← Qx,hB,List.length_append]
 have hpl:=Zb3 mode num N
 have hhl:(Qs mode num N).length = (Qq mode num N).length + 8:=by unfold Qs; rw [List.length_append,Zj]
 have hpp:ZJ (Qs mode num N ++ r) = Z:=by rw [← hB]; exact Zem hZ
 have hp8:(Qq mode num N).length % 8 = 0:=by omega
 unfold ZbW
 have hB2:Qm Z = Zb 32764 15 ++ (Zb 0 1 ++ (Zb (QI N) 4 ++ (Zb 0 4 ++ (Zb mode 4 ++ (Zb 0 4 ++ ((Qz num).flatMap (fun x => Zb x 8) ++ (Zb (N - 1) (8 * (QI N - 5)) ++ (Zb (ZhZ (ZJ (Qq mode num N))) 8 ++ r)))))))):=by
  rw [hB]
  unfold Qs
  generalize ZhZ (ZJ (Qq mode num N)) = c8
  rw [ZJQ hm]
  simp only [List.append_assoc]
 rw [hB2,ZWg,ZWh,ZWi hk]
 unfold Zyt
 simp only
 rw [ZOu]
 unfold ZOw
 rw [ZWj hm hmb]
 simp only
 rw [ZOu]
 unfold ZOx
 have hlw:(Zb (N - 1) (8 * (QI N - 5))).length = 8 * (QI N - 5):=Zj _ _
 have hnumI:ZlL Z ((Qz num).flatMap (fun x => Zb x 8) ++ (Zb (N - 1) (8 * (QI N - 5)) ++ (Zb (ZhZ (ZJ (Qq mode num N))) 8 ++ r)),0) = (num,(Zb (N - 1) (8 * (QI N - 5)) ++ (Zb (ZhZ (ZJ (Qq mode num N))) 8 ++ r),0)):=by
  unfold ZlL
  rw [if_neg (by simp)]
  have hpos:ZX Z ((Qz num).flatMap (fun x => Zb x 8) ++ (Zb (N - 1) (8 * (QI N - 5)) ++ (Zb (ZhZ (ZJ (Qq mode num N))) 8 ++ r))) / 8 = 4:=by
   unfold ZX
   simp only [List.length_append,ZhN,Zj]
   omega
  have hdrop:Z.drop 4 = Wa (Qz num) ++ ZJ (Zb (N - 1) (8 * (QI N - 5)) ++ (Zb (ZhZ (ZJ (Qq mode num N))) 8 ++ r)):=by
   have hb32:=ZT2 mode (QI N)
   have e:Qm Z = (Zb 32764 15 ++ (Zb 0 1 ++ (Zb (QI N) 4 ++ (Zb 0 4 ++ (Zb mode 4 ++ Zb 0 4))))) ++ (Qm (Wa (Qz num)) ++ (Zb (N - 1) (8 * (QI N - 5)) ++ (Zb (ZhZ (ZJ (Qq mode num N))) 8 ++ r))):=by
    rw [hB2,ZHc hclt]
    simp only [List.append_assoc]
   have e2:=congrArg ZJ e
   rw [Zem hZ,YN (by rw [hb32]),YN (A:=Qm (Wa (Qz num))) (by rw [Qx]; omega),Zem (ZCJ hclt)] at e2
   rw [e2,List.drop_append,List.drop_eq_nil_of_le (by rw [Qf,hb32]; omega),List.nil_append,Qf,hb32]
   rfl
  simp only
  rw [hpos,hdrop,ZJu (by omega)]
  simp only
  rw [ZBO _ _ hclt,decide_eq_true (by omega),XS]
 rw [hnumI]
 unfold Zyu hd6
 simp only
 rw [if_pos trivial]
 have hw:N - 1 < 2 ^ (8 * (QI N - 5)):=by
  unfold QI
  split
  ·show N - 1 < 2 ^ 16; omega
  ·show N - 1 < 2 ^ 8; omega
 rw [Zat hw]
 simp only
 rw [show N - 1 + 1 = N by omega,decide_eq_true h2,XS]
 have hc8:=ZFr (KA (Qq mode num N))
 unfold Zh3
 rw [Zat hc8,if_neg (by simp)]
 have hpos2:ZX Z (Zb (ZhZ (ZJ (Qq mode num N))) 8 ++ r) / 8 = (Qq mode num N).length / 8:=by
  unfold ZX
  rw [List.length_append,Zj]
  congr 1
  omega
 have htake:Z.take ((Qq mode num N).length / 8) = ZJ (Qq mode num N):=by
  rw [← hpp]
  unfold Qs
  rw [List.append_assoc,YN hp8,List.take_append_of_le_length (by rw [Qf]; omega),List.take_of_length_le (by rw [Qf]; omega)]
 simp only
 rw [hpos2,htake,show (ZhZ (ZJ (Qq mode num N)) == ZhZ (ZJ (Qq mode num N))) = true from by simp,XS]
end Go.Sh
namespace Go.Sh
open Go Go.Proofs
theorem ZFp {N:Nat} (h1:1 ≤ N) (h2:N ≤ 512):∀ (ls:List (List Int)) (ds:List Int) (acc:List (List Int)),ls.length = ds.length →
  (∀ (i:Nat) (h1:i < ls.length) (h2:i < ds.length),ls[i].length = N ∧ (4 ≤ ds[i].toNat ∧ ds[i].toNat ≤ 25) ∧ ∀ x ∈ ls[i],Xp x ds[i].toNat = true) →
  Enc (fun r => Zjq N ds r acc) (acc ++ ls) (Qi ls ds)
 | [],[],acc,_,_ => ⟨fun r => by simp [Zjq,Qi],fun p hp => (SP.no hp).elim⟩
 | l :: ls,d :: ds,acc,hl,h => by
  obtain ⟨a,b,c⟩:=h 0 (by simp) (by simp)
  simp only [List.getElem_cons_zero] at a b c
  have hE:=Zy2 (s:=l) (d:=d.toNat) (by omega) (by omega) b c
  rw [a] at hE
  have ih:=ZFp h1 h2 ls ds (acc ++ [l]) (by simpa using hl) (fun i hi1 hi2 => by
   have:=h (i + 1) (by simpa using hi1) (by simpa using hi2)
   simpa only [List.getElem_cons_succ] using this)
  have hcb:Qi (l :: ls) (d :: ds) = Wp l d.toNat ++ Qi ls ds:=by unfold Qi; rw [List.zip_cons_cons,List.flatMap_cons]
  rw [hcb]
  constructor
  ·intro r
   have:=ih.ok r
   rw [List.append_assoc]
   unfold Zjq
   rw [hE.ok]
   simp only
   rw [if_neg (by simp),this,List.append_assoc]
   rfl
  ·intro p hp
   unfold Zjq
   rcases hp.split with g1 | ⟨q,rfl,g1⟩
   ·have:=hE.tail p g1
    rw [if_pos (by rw [this]; decide)]
    exact this
   ·rw [hE.ok]
    simp only
    rw [if_neg (by simp)]
    exact ih.tail q g1
theorem ZS6 {m l r:Int} (hm:ZlG m):tgL m (apA m l r) (apB m l r) = l ∧ tgR m (apA m l r) (apB m l r) = r:=by
 unfold tgL tgR apA apB
 rcases hm with rfl | rfl | rfl | rfl <;> simp <;> omega
theorem Zwf {m:Int} (hm:ZlG m):∀ (L R:List Int),L.length = R.length → Zh4 m (WW m L R) (WX m L R) = L ∧ Zh5 m (WW m L R) (WX m L R) = R
 | [],[],_ => ⟨rfl,rfl⟩
 | l :: L,r :: R,h => by
  obtain ⟨e1,e2⟩:=Zwf hm L R (by simpa using h)
  obtain ⟨e3,e4⟩:=ZS6 (l:=l) (r:=r) hm
  constructor
  ·show tgL m (apA m l r) (apB m l r) :: Zh4 m (WW m L R) (WX m L R) = _
   rw [e1,e3]
  ·show tgR m (apA m l r) (apB m l r) :: Zh5 m (WW m L R) (WX m L R) = _
   rw [e2,e4]
theorem ZWS {pad:Nat} (hp:pad < 8) {t:List Bool} (ht:t.length % 8 = 0):alS (List.replicate pad false ++ t) = (0,t):=by
 have hl:(List.replicate pad false ++ t).length % 8 = pad:=by rw [List.length_append,List.length_replicate]; omega
 unfold alS
 rw [hl,List.take_append_of_le_length (by rw [List.length_replicate]; omega),List.take_of_length_le (by rw [List.length_replicate]; omega),if_pos,List.drop_append,List.drop_eq_nil_of_le (by rw [List.length_replicate]; omega),List.length_replicate,Nat.sub_self,List.drop_zero,List.nil_append]
 rw [List.all_eq_true]
 intro x hx
 rw [List.eq_of_mem_replicate hx]
 rfl
structure Made (c d r n:Int) (ch:List (List Int)) (mode num N:Nat) (ls:List (List Int)) (ds:List Int):Prop where
 hm:mode < 16
 hmb:ZeF c mode = true
 hnum:num < 2 ^ 31
 hn:n = (num:Int)
 h1:1 ≤ N
 h2:N ≤ 512
 els:ls = (Y3 ch).1
 eds:ds = Qg c d (mode:Int)
 emode:(Y3 ch).2 = (mode:Int)
 eN:(ch.headD []).length = N
 len:ls.length = ds.length
 all:∀ (i:Nat) (h1:i < ls.length) (h2:i < ds.length),ls[i].length = N ∧ (4 ≤ ds[i].toNat ∧ ds[i].toNat ≤ 25) ∧ ∀ x ∈ ls[i],Xp x ds[i].toNat = true
 bytes:(Ke c d r n ch).1 = ZJ (Ys (Qs mode num N ++ Qi ls ds))
theorem ZXW {c d r n:Int} {ch:List (List Int)} (h:Yr c d r n ch = 0):∃ mode num N ls ds,Made c d r n ch mode num N ls ds:=by
 obtain ⟨hs,hn,hc,hlen,hsg⟩:=ZaX h
 obtain ⟨hlay,⟨mode,hmode,hmc⟩,_⟩:=ZED h
 have hN:1 ≤ (ch.headD []).length ∧ (ch.headD []).length ≤ 512:=by
  have:0 < ch.length:=by omega
  match ch,this with
  | l :: _,_ => exact (hlen l (by simp)).2
 refine ⟨mode,n.toNat,(ch.headD []).length,(Y3 ch).1,Qg c d mode,?_⟩
 rw [hmode] at hlay
 refine ⟨by omega,?_,by omega,by omega,hN.1,hN.2,rfl,rfl,hmode,rfl,hlay.len,?_,?_⟩
 ·unfold ZeF
  rcases hmc with ⟨rfl,rfl⟩ | ⟨rfl,hm⟩
  ·rfl
  ·rcases hm with rfl | rfl | rfl | rfl <;> rfl
 ·intro i h1 h2
  obtain ⟨a,b,e⟩:=hlay.all i h1 h2
  refine ⟨a,?_,e⟩
  omega
 ·unfold Ke
  rw [if_pos h,hmode,Int.toNat_natCast]
theorem Made.parts {c d r n:Int} {ch:List (List Int)} {mode num N:Nat} {ls:List (List Int)} {ds:List Int} (M:Made c d r n ch mode num N ls ds) :
  ∃ pad crc:Nat,pad < 8 ∧ crc < 2 ^ 16 ∧ ((Qi ls ds).length + pad) % 8 = 0 ∧ (Qs mode num N).length % 8 = 0 ∧ crc = Zcq (ZJ (Qs mode num N ++ (Qi ls ds ++ List.replicate pad false))) ∧
   Ys (Qs mode num N ++ Qi ls ds) = Qs mode num N ++ (Qi ls ds ++ (List.replicate pad false ++ Zb crc 16)):=by
 have hh:(Qs mode num N).length % 8 = 0:=by
  have:=Zb3 mode num N
  unfold Qs
  rw [List.length_append,Zj]
  omega
 refine ⟨Zap (Qs mode num N ++ Qi ls ds).length,Zcq (ZJ (X0 (Qs mode num N ++ Qi ls ds))),by unfold Zap; omega,ZzA (KA _),?_,hh,?_,?_⟩
 ·unfold Zap
  rw [List.length_append]
  omega
 ·unfold X0
  rw [List.append_assoc]
 ·unfold Ys X0
  simp only [List.append_assoc]
theorem ZJR {c d r n:Int} {ch:List (List Int)} (h:Yr c d r n ch = 0) {more:List Int} (hm:ZS more = true):ZBE c d r ((Ke c d r n ch).1 ++ more) = ((n,ch),((Ke c d r n ch).1.length:Int),0):=by
 obtain ⟨mode,num,N,ls,ds,M⟩:=ZXW h
 obtain ⟨pad,crc,hp,hcrc,hal,hh,ecrc,eclosed⟩:=M.parts
 obtain ⟨hs,hn,hc,hlen,hsg⟩:=ZaX h
 have hsh:Zes c d r = true:=decide_eq_true hs
 rw [M.bytes,eclosed]
 have hclen:(Qs mode num N ++ (Qi ls ds ++ (List.replicate pad false ++ Zb crc 16))).length % 8 = 0:=by
  simp only [List.length_append,List.length_replicate,Zj]
  omega
 generalize hZ:ZJ (Qs mode num N ++ (Qi ls ds ++ (List.replicate pad false ++ Zb crc 16))) ++ more = Z
 have hZb:ZS Z = true:=by
  rw [← hZ]
  exact List.all_eq_true.2 fun x hx => by
   rcases List.mem_append.1 hx with hx | hx
   ·exact List.all_eq_true.1 (KA _) x hx
   ·exact List.all_eq_true.1 hm x hx
 have hB:Qm Z = Qs mode num N ++ (Qi ls ds ++ (List.replicate pad false ++ (Zb crc 16 ++ Qm more))):=by
  rw [← hZ,Zwu,ZCA hclen]
  simp only [List.append_assoc]
 have hZl:8 * Z.length = (Qs mode num N).length + ((Qi ls ds).length + (pad + (16 + 8 * more.length))):=by
  rw [← Qx,hB]
  simp only [List.length_append,List.length_replicate,Zj,Qx]
 unfold ZBE
 rw [if_neg (by rw [hsh]; simp),ZOy M.hm M.hmb M.hnum M.h1 M.h2 hZb hB]
 unfold ZCs
 simp only
 rw [if_neg (by simp),← M.eds]
 have hch:=(ZFp M.h1 M.h2 ls ds [] M.len M.all).ok (List.replicate pad false ++ (Zb crc 16 ++ Qm more))
 rw [List.nil_append] at hch
 rw [hch]
 simp only
 rw [if_neg (by simp)]
 unfold ZOj
 rw [ZWS hp (by rw [List.length_append,Zj,Qx]; omega)]
 have hsum:Zh3 Zcq Z 16 (Zb crc 16 ++ Qm more,0) = (Qm more,0):=by
  unfold Zh3
  rw [Zat hcrc,if_neg (by simp)]
  have hpos:ZX Z (Zb crc 16 ++ Qm more) / 8 = (Qs mode num N ++ (Qi ls ds ++ List.replicate pad false)).length / 8:=by
   unfold ZX
   simp only [List.length_append,List.length_replicate,Zj,Qx]
   congr 1
   omega
  have htake:Z.take ((Qs mode num N ++ (Qi ls ds ++ List.replicate pad false)).length / 8) = ZJ (Qs mode num N ++ (Qi ls ds ++ List.replicate pad false)):=by
   have hA:(Qs mode num N ++ (Qi ls ds ++ List.replicate pad false)).length % 8 = 0:=by
    simp only [List.length_append,List.length_replicate]
    omega
   have e:Qs mode num N ++ (Qi ls ds ++ (List.replicate pad false ++ Zb crc 16)) = (Qs mode num N ++ (Qi ls ds ++ List.replicate pad false)) ++ Zb crc 16:=by simp only [List.append_assoc]
   rw [← hZ,e,YN hA,List.append_assoc,List.take_append_of_le_length (by rw [Qf]; omega),List.take_of_length_le (by rw [Qf]; omega)]
  simp only
  rw [hpos,htake,← ecrc,show (crc == crc) = true from by simp,XS]
 rw [hsum]
 simp only
 rw [if_neg (by simp)]
 have hpos2:ZX Z (Qm more) / 8 = (ZJ (Qs mode num N ++ (Qi ls ds ++ (List.replicate pad false ++ Zb crc 16)))).length:=by
  unfold ZX
  rw [Qf]
  simp only [List.length_append,List.length_replicate,Zj,Qx]
  omega
 have hout:∀ out,out = ch → ZJL c d r num (ZX Z (Qm more)) out = ((n,ch),(((ZJ (Qs mode num N ++ (Qi ls ds ++ (List.replicate pad false ++ Zb crc 16)))).length:Nat):Int),0):=by
  intro out ho
  subst ho
  unfold ZJL
  rw [← M.hn,if_neg (by simpa using h),hpos2]
 match ch,hc,hlen,hsg,M,hout,h with
 | [],hc,_,_,_,_,_ => simp at hc; omega
 | [l],hc,_,_,M,hout,_ =>
  have hc:c = 1:=by simp at hc; omega
  subst hc
  rw [if_neg (by omega)]
  exact hout ls M.els
 | [L,R],hc,hlen,hsg,M,hout,h =>
  have hc:c = 2:=by simp at hc; omega
  subst hc
  rw [if_pos (by omega)]
  have hlr:L.length = R.length:=by
   have:=(hlen R (by simp)).1
   simpa using this.symm
  have hmd:=Ziy L R
  have hls:ls = [WW (Z8 L R) L R,WX (Z8 L R) L R]:=M.els
  have hmo:(if Z8 L R = 0 then 1 else Z8 L R) = (mode:Int):=M.emode
  have hmm:(if mode = 1 then 0 else (mode:Int)) = Z8 L R:=by
   rcases hmd with h | h | h | h <;> rw [h] at hmo ⊢
   ·have:mode = 1:=by simp at hmo; omega
    rw [if_pos this]
   ·have:mode = 8:=by simp at hmo; omega
    rw [if_neg (by omega),this]; rfl
   ·have:mode = 9:=by simp at hmo; omega
    rw [if_neg (by omega),this]; rfl
   ·have:mode = 10:=by simp at hmo; omega
    rw [if_neg (by omega),this]; rfl
  have hg0:ls.getD 0 [] = WW (Z8 L R) L R:=by rw [hls]; rfl
  have hg1:ls.getD 1 [] = WX (Z8 L R) L R:=by rw [hls]; rfl
  rw [hmm,hg0,hg1]
  show ZBB 2 d r num _ (Z8 L R) (WW (Z8 L R) L R) (WX (Z8 L R) L R) = _
  obtain ⟨e1,e2⟩:=Zwf hmd L R hlr
  obtain ⟨l1,l2⟩:=Zgt (m:=Z8 L R) hlr
  have htog:(Q5 (Z8 L R) (WW (Z8 L R) L R) (WX (Z8 L R) L R)).2 = 0:=by
   unfold Q5
   rw [if_neg (by rw [l1,l2]; simp),e1,e2,if_pos]
   rw [List.all_eq_true]
   intro x hx
   have h1:=hsg L (by simp) x.1 (List.of_mem_zip hx).1
   have h2:=hsg R (by simp) x.2 (List.of_mem_zip hx).2
   have g1:=Zb9 (by omega) h1
   have g2:=Zb9 (by omega) h2
   rw [Bool.and_eq_true]
   unfold Y0
   rw [decide_eq_true_eq,decide_eq_true_eq]
   exact ⟨g1,g2⟩
  unfold ZBB
  rw [if_neg (by rw [htog]; simp),e1,e2]
  exact hout [L,R] rfl
 | _ :: _ :: _ :: _,hc,_,_,_,_,_ => simp at hc; omega
end Go.Sh
namespace Go.Sh
open Go Go.Proofs
def be2 (n:Nat):List Nat:=[n / 256,n % 256]
def be4 (n:Nat):List Nat:=[n / 16777216,n / 65536 % 256,n / 256 % 256,n % 256]
theorem ZBy {l:List Nat} (h:Xq l) (X:List Bool):ZJ (YQ l ++ X) = Zu l ++ ZJ X:=by
 induction l with
 | nil => rfl
 | cons x l ih =>
  have hx:=h x (List.mem_cons_self ..)
  have e:YQ (x :: l) = Zb x 8 ++ YQ l:=by simp [YQ]
  rw [e,List.append_assoc,YN (by rw [Zj]),ZEN x hx,ih fun y hy => h y (List.mem_cons_of_mem _ hy)]
  rfl
theorem ZFm {n:Nat} (h:n < 65536):Zb n 16 = YQ (be2 n):=by
 rw [show (16:Nat) = 8 + 8 from rfl,Zay n 8 8,← ZaV n 8 8 (Nat.le_refl _)]
 simp [YQ,be2]
theorem ZFn {n:Nat} (h:n < 16777216):Zb n 24 = YQ [n / 65536,n / 256 % 256,n % 256]:=by
 rw [show (24:Nat) = 8 + 16 from rfl,Zay n 8 16,← ZaV n 16 16 (Nat.le_refl _),ZFm (Nat.mod_lt _ (by omega))]
 have e1:n % 2 ^ 16 / 256 = n / 256 % 256:=by omega
 have e2:n % 2 ^ 16 % 256 = n % 256:=by omega
 simp [YQ,be2,e1,e2]
theorem Zww {n:Nat} (h:n < 4294967296):Zb n 32 = YQ (be4 n):=by
 rw [show (32:Nat) = 8 + 24 from rfl,Zay n 8 24,← ZaV n 24 24 (Nat.le_refl _),ZFn (Nat.mod_lt _ (by omega))]
 have e0:n % 2 ^ 24 / 65536 = n / 65536 % 256:=by omega
 have e1:n % 2 ^ 24 / 256 % 256 = n / 256 % 256:=by omega
 have e2:n % 2 ^ 24 % 256 = n % 256:=by omega
 simp [YQ,be4,e0,e1,e2]
def Q8 (size n i at_:Nat):List Nat:=be4 0 ++ be4 (i * size) ++ be4 0 ++ be4 at_ ++ be2 (min size (n - i * size))
theorem ZFk {n:Nat} (h:n < 4294967296):Xq (be4 n):=by
 intro x hx
 simp only [be4,List.mem_cons,List.not_mem_nil,or_false] at hx
 omega
theorem ZWV {n:Nat} (h:n < 65536):Xq (be2 n):=by
 intro x hx
 simp only [be2,List.mem_cons,List.not_mem_nil,or_false] at hx
 omega
theorem KI {a b:List Nat} (h:Xq a) (k:Xq b):Xq (a ++ b):=fun x hx => by
 rcases List.mem_append.1 hx with hx | hx
 ·exact h x hx
 ·exact k x hx
theorem ZJO {size n i at_:Nat} (hs:size ≤ 512) (h1:i * size < 4294967296) (h2:at_ < 4294967296):Zgb size n i at_ = YQ (Q8 size n i at_) ∧ Xq (Q8 size n i at_):=by
 unfold Zgb Q8
 rw [Zww (by omega:0 < 4294967296),Zww h1,Zww h2,ZFm (by omega:min size (n - i * size) < 65536)]
 simp only [← Ziu]
 exact ⟨trivial,KI (KI (KI (KI (ZFk (by omega)) (ZFk h1)) (ZFk (by omega))) (ZFk h2)) (ZWV (by omega))⟩
theorem KC (size n i a:Nat):(Q8 size n i a).length = 18:=by simp [Q8,be4,be2]
def Znx (size n:Nat):Nat → Nat → List Nat → List Nat
 | _,_,[] => []
 | i,at_,x :: l => Q8 size n i at_ ++ Znx size n (i + 1) (at_ + x) l
theorem ZBz {size n:Nat} (hs:size ≤ 512) (X:List Bool):∀ (l:List Nat) (i a:Nat),(i + l.length) * size < 4294967296 → a + l.sum < 4294967296 → ZJ (Zt2 size n i a l ++ X) = Zu (Znx size n i a l) ++ ZJ X
 | [],_,_,_,_ => rfl
 | x :: l,i,a,h1,h2 => by
  simp only [List.length_cons,List.sum_cons] at h1 h2
  have hi:i * size < 4294967296:=Nat.lt_of_le_of_lt (Nat.mul_le_mul_right _ (by omega)) h1
  obtain ⟨e,hb⟩:=ZJO (n:=n) hs hi (show a < 4294967296 by omega)
  simp only [Zt2,Znx]
  rw [List.append_assoc,e,ZBy hb,ZBz hs X l (i + 1) (a + x) (by rw [show i + 1 + l.length = i + (l.length + 1) by omega]; exact h1) (by omega),Wc,List.append_assoc]
theorem ZG0 (size n:Nat):∀ (l:List Nat) (j i a:Nat),j < l.length → ((Znx size n i a l).drop (18 * j)).take 18 = Q8 size n (i + j) (a + (l.take j).sum)
 | x :: l,0,i,a,_ => by
  simp only [Znx,Nat.mul_zero,List.drop_zero]
  rw [List.take_append_of_le_length (by rw [KC]; omega),List.take_of_length_le (by rw [KC]; omega)]
  simp
 | x :: l,j + 1,i,a,h => by
  simp only [Znx]
  rw [show 18 * (j + 1) = (Q8 size n i a).length + 18 * j by rw [KC]; omega,List.drop_append]
  rw [List.drop_of_length_le (by omega),Nat.add_sub_cancel_left,List.nil_append,ZG0 size n l j (i + 1) (a + x) (by simpa using h)]
  rw [List.take_succ_cons,List.sum_cons,show i + 1 + j = i + (j + 1) by omega,Nat.add_assoc]
 | [],_,_,_,h => by simp at h
theorem ZBY (size n:Nat):∀ (l:List Nat) (i a:Nat),(Znx size n i a l).length = 18 * l.length
 | [],_,_ => rfl
 | x :: l,i,a => by simp only [Znx,Q2,KC,ZBY size n l,List.length_cons]; omega
theorem ZEz {d r:Nat} {tags:List ByteArray} {ch:List (List Int)} {size:Nat} {lens:List Nat} (hs:16 ≤ size ∧ size ≤ 512) (h1:1 < lens.length) (hl:lens.length ≤ 300) (hsum:lens.sum < 4294967296) :
  ∃ A Z:List Int,A.length = 42 ∧ ZeE d r tags ch size lens = A ++ (Zu ([3,0,18 * lens.length / 256,18 * lens.length % 256] ++ Znx size (ch.getD 0 []).length 0 0 lens) ++ Z):=by
 unfold ZeE ZeT Zgl
 rw [if_pos h1]
 have hti:(ZnX ch.length d r size (ch.getD 0 []).length (ZsS lens) (ZsQ lens)).length = 208:=by
  simp [ZnX,Ww,XU,Zj,Zf3]
 have h42:(ZnX ch.length d r size (ch.getD 0 []).length (ZsS lens) (ZsQ lens) ++ YQ (Ztv d ch)).length = 336:=by
  rw [Q2,hti,Ww,Zdr]
 generalize ZnX ch.length d r size (ch.getD 0 []).length (ZsS lens) (ZsQ lens) ++ YQ (Ztv d ch) = A at h42
 generalize KU tags = Z
 generalize (ch.getD 0 []).length = n
 refine ⟨ZJ A,ZJ Z,by rw [Qf,h42],?_⟩
 rw [List.append_assoc,YN (by rw [h42]),List.append_assoc]
 congr 1
 have hp:Zav 0 3 (18 * lens.length) = YQ [3,0,18 * lens.length / 256,18 * lens.length % 256]:=by
  unfold Zav
  rw [ZFn (by omega),show Zb 0 1 ++ Zb 3 7 = YQ [3] from by decide,← Ziu]
  have e1:18 * lens.length / 65536 = 0:=by omega
  have e2:18 * lens.length / 256 % 256 = 18 * lens.length / 256:=by omega
  rw [e1,e2]
  rfl
 rw [hp,ZBy (by intro x hx; simp only [List.mem_cons,List.not_mem_nil,or_false] at hx; omega),ZBz hs.2 Z lens 0 0 (by
  have:(0 + lens.length) * size ≤ 300 * 512:=Nat.mul_le_mul (by omega) hs.2
  omega) (by omega),Wc,List.append_assoc]
end Go.Sh
namespace Go.Sh
open Go Go.Proofs
theorem Zpz {α:Type} (f:α → Nat):∀ (l:List α),(∀ x ∈ l,1 ≤ f x) → l.length ≤ (l.map f).sum ∧ ∀ x ∈ l,f x ≤ (l.map f).sum
 | [],_ => by simp
 | a :: l,h => by
  have ih:=Zpz f l (fun x hx => h x (by simp [hx]))
  have ha:=h a (by simp)
  simp only [List.map_cons,List.sum_cons,List.length_cons]
  refine ⟨by omega,fun x hx => ?_⟩
  rcases List.mem_cons.1 hx with rfl | hx
  ·omega
  ·have:=ih.2 x hx; omega
theorem ZB5 {c d r:Int} {tags:List ByteArray} {ch:List (List Int)} (h:Ty.bulk trackT ((c,d,r,()),tags,ch,()) ≤ 1048576):Small tags ch:=by
 have h1:(3:Nat) + (((tags.map (Ty.bulk .str)).sum + 1) + (((ch.map (Ty.bulk (.sl (.int .i64)))).sum + 1) + 0)) ≤ 1048576:=h
 have t:=Zpz (Ty.bulk .str) tags (fun x _ => by simp only [Ty.bulk]; omega)
 have s:=Zpz (Ty.bulk (.sl (.int .i64))) ch (fun x _ => by simp only [Ty.bulk]; omega)
 refine ⟨by omega,fun x hx => ?_,by omega,fun x hx => ?_⟩
 ·have h2:=t.2 x hx
  have h3:Ty.bulk .str x = x.size + 1:=rfl
  omega
 ·have h2:=s.2 x hx
  have h3:Ty.bulk (.sl (.int .i64)) x = (x.map (Ty.bulk (.int .i64))).sum + 1:=rfl
  have h4:=Zpz (Ty.bulk (.int .i64)) x (fun y _ => by simp only [Ty.bulk]; omega)
  omega
end Go.Sh
namespace Go.Sh
open Go Go.Proofs
section prog
variable {k:Nat} {c d r:Int} {tags:List ByteArray} {ch:List (List Int)}
abbrev L2T:=Int × List (List Int) × List Int × Int × Int × Int × Int × Int × List ByteArray × List (List Int) → Option (Bool × Unit)
theorem ZFl {n:Nat} (h:n < 4294967296):((((n / 16777216) * 256 + n / 65536 % 256) * 256 + n / 256 % 256) * 256 + n % 256) = n:=by omega
theorem ZRn (hk:100 ≤ k) {size n i at_:Nat} (hs:size ≤ 512) (h1:i * size < 4294967296) (h2:at_ < 4294967296) (L2:L2T) (E:List Int) (ahead:Nat) (C:List (List Int)) (hE:E.length < 100000000) (hA:ahead + at_ ≤ E.length) (cnt:Int) :
  ZcP k L2 ((0:Int),(0:Int),Zu (Q8 size n i at_),(0:Int),E,(ahead:Int),C,(i:Int),(size:Int),cnt,c,d,r,tags,ch) =
   (ZqR k ((c,d,r,()),E.drop (ahead + at_),())).bind fun y => bif y.1.2.2.1 != (0:Int) then some (false,()) else bif decide ((0:Int) ≤ (i:Int) ∧ (i:Int) < Int.ofNat C.length) then bif y.1.2.1 != Int.ofNat (List.length (C.getD i [])) then some (false,()) else bif y.1.1.1 != (i:Int) then some (false,()) else bif ((i * size:Nat):Int) != IntKind.i64.wrap ((i:Int) * (size:Int)) then some (false,()) else bif decide ((0:Int) ≤ (0:Int) ∧ (0:Int) < Int.ofNat (List.length y.1.1.2.1)) then bif Int.ofNat (List.length (List.getD y.1.1.2.1 0 [])) != cnt then some (false,()) else L2 (IntKind.i64.wrap ((i:Int) + (1:Int)),C,E,(ahead:Int),(size:Int),c,d,r,tags,ch) else none else none:=by
 obtain ⟨m,hm⟩:∃ m,k = m + 9:=⟨k - 9,by omega⟩
 have st:∀ (j:Nat) (L:Int × Int × List Int × Int × List Int × Int × List (List Int) × Int × Int × Int × Int × Int × Int × List ByteArray × List (List Int) → Option (Bool × Unit)) (s a:Nat),j < 8 → s < 4294967296 → a < 4294967296 → ∀ (x y:Nat),x < 256 → y < 256 → (Q8 size n i at_).getD j 0 = x → (Q8 size n i at_).getD (8 + j) 0 = y →
   Wj k L2 L ((j:Int),(s:Int),Zu (Q8 size n i at_),(a:Int),E,(ahead:Int),C,(i:Int),(size:Int),cnt,c,d,r,tags,ch) =
    L (((j + 1:Nat):Int),((s * 256 + x:Nat):Int),Zu (Q8 size n i at_),((a * 256 + y:Nat):Int),E,(ahead:Int),C,(i:Int),(size:Int),cnt,c,d,r,tags,ch):=by
  intro j L s a hj hs2 ha2 x y hx hy hgx hgy
  simp only [Wj]
  have hl:(Zu (Q8 size n i at_)).length = 18:=by rw [ZP,KC]
  have e8:IntKind.i64.wrap ((8:Int) + (j:Int)) = ((8 + j:Nat):Int):=by rw [Qa (by omega)]; omega
  rw [hl,e8,show Int.ofNat 18 = (18:Int) from rfl,Zc (by omega),Zc (by omega),Zc (by omega)]
  simp only [Xm]
  rw [QB,QB,hgx,hgy,ZPx (by omega)]
  have w:∀ (s x:Nat),s < 4294967296 → x < 256 → IntKind.i64.wrap (IntKind.i64.wrap ((s:Int) * 256) + IntKind.i64.wrap (x:Int)) = ((s * 256 + x:Nat):Int):=by
   intro s x h1 h2
   rw [Qa (n:=(s:Int) * 256) (by omega),Qa (n:=(x:Int)) (by omega),Qa (by omega)]; omega
  rw [w s x hs2 hx,w a y ha2 hy]
 have key:Zm (fun L3 => Wj k L2 L3) (m + 9) ((0:Int),(0:Int),Zu (Q8 size n i at_),(0:Int),E,(ahead:Int),C,(i:Int),(size:Int),cnt,c,d,r,tags,ch) = Wj k L2 (Zm (fun L3 => Wj k L2 L3) m) ((8:Int),((i * size:Nat):Int),Zu (Q8 size n i at_),(at_:Int),E,(ahead:Int),C,(i:Int),(size:Int),cnt,c,d,r,tags,ch):=by
  have z:∀ (j:Nat) (L:Int × Int × List Int × Int × List Int × Int × List (List Int) × Int × Int × Int × Int × Int × Int × List ByteArray × List (List Int) → Option (Bool × Unit)),j < 4 →
    Wj k L2 L ((j:Int),((0:Nat):Int),Zu (Q8 size n i at_),((0:Nat):Int),E,(ahead:Int),C,(i:Int),(size:Int),cnt,c,d,r,tags,ch) = L (((j + 1:Nat):Int),((0:Nat):Int),Zu (Q8 size n i at_),((0:Nat):Int),E,(ahead:Int),C,(i:Int),(size:Int),cnt,c,d,r,tags,ch):=by
   intro j L hj
   refine st j L 0 0 (by omega) (by decide) (by decide) 0 0 (by decide) (by decide) ?_ ?_
   ·match j,hj with
    | 0,_ => rfl
    | 1,_ => rfl
    | 2,_ => rfl
    | 3,_ => rfl
   ·match j,hj with
    | 0,_ => rfl
    | 1,_ => rfl
    | 2,_ => rfl
    | 3,_ => rfl
  have e0:∀ L,Wj k L2 L ((0:Int),(0:Int),Zu (Q8 size n i at_),(0:Int),E,(ahead:Int),C,(i:Int),(size:Int),cnt,c,d,r,tags,ch) = _:=fun L => z 0 L (by decide)
  rw [Ze,e0]
  rw [Ze,z 1 _ (by decide)]
  rw [Ze,z 2 _ (by decide)]
  rw [Ze,z 3 _ (by decide)]
  rw [Ze,st 4 _ 0 0 (by decide) (by decide) (by decide) (i * size / 16777216) (at_ / 16777216) (by omega) (by omega) rfl rfl]
  rw [Ze,st 5 _ (0 * 256 + i * size / 16777216) (0 * 256 + at_ / 16777216) (by decide) (by omega) (by omega) (i * size / 65536 % 256) (at_ / 65536 % 256) (Nat.mod_lt _ (by decide)) (Nat.mod_lt _ (by decide)) rfl rfl]
  rw [Ze,st 6 _ ((0 * 256 + i * size / 16777216) * 256 + i * size / 65536 % 256) ((0 * 256 + at_ / 16777216) * 256 + at_ / 65536 % 256) (by decide) (by omega) (by omega) (i * size / 256 % 256) (at_ / 256 % 256) (Nat.mod_lt _ (by decide)) (Nat.mod_lt _ (by decide)) rfl rfl]
  rw [Ze,st 7 _ (((0 * 256 + i * size / 16777216) * 256 + i * size / 65536 % 256) * 256 + i * size / 256 % 256) (((0 * 256 + at_ / 16777216) * 256 + at_ / 65536 % 256) * 256 + at_ / 256 % 256) (by decide) (by omega) (by omega) (i * size % 256) (at_ % 256) (Nat.mod_lt _ (by decide)) (Nat.mod_lt _ (by decide)) rfl rfl]
  rw [Ze]
  have v1:=ZFl h1
  have v2:=ZFl h2
  simp only [Nat.zero_mul,Nat.zero_add,Nat.add_zero]
  rw [v1,v2]
  rfl
 unfold ZcP
 rw [← hm] at key
 rw [key]
 simp only [Wj]
 have ea:IntKind.i64.wrap ((ahead:Int) + (at_:Int)) = ((ahead + at_:Nat):Int):=by rw [Qa (by omega)]; omega
 rw [Zk (by omega),ea,Zc (by simp only [Qv]; omega)]
 simp only [Xm]
 rw [show (Int.ofNat E.length).toNat = E.length from rfl,List.take_length]
end prog
end Go.Sh
namespace Go.Sh
open Go Go.Proofs
theorem Zug {α:Type}:∀ (C:List (List α)) (i:Nat),C.flatten.drop ((C.map List.length).take i).sum = (C.drop i).flatten
 | C,0 => by simp
 | [],i + 1 => by simp
 | x :: C,i + 1 => by
  rw [List.map_cons,List.take_succ_cons,List.sum_cons,List.flatten_cons,List.drop_succ_cons,← List.drop_drop,List.drop_left]
  exact Zug C i
theorem ZnH {C:List (List Int)} (h:∀ x ∈ C,ZS x = true):ZS C.flatten = true:=by
 unfold ZS
 rw [List.all_eq_true]
 intro y hy
 obtain ⟨x,hx,hy⟩:=List.mem_flatten.1 hy
 exact List.all_eq_true.1 (h x hx) y hy
theorem ZBW (l:List Nat) (i:Nat):(l.take i).sum ≤ l.sum:=by
 conv => rhs; rw [← List.take_append_drop i l,List.sum_append]
 omega
theorem Zgk {α:Type}:∀ (C:List (List α)),(C.map List.length).sum = C.flatten.length
 | [] => rfl
 | x :: C => by rw [List.map_cons,List.sum_cons,List.flatten_cons,Q2,Zgk C]
section prog
variable {k:Nat} {c d r:Int} {tags:List ByteArray} {ch:List (List Int)}
theorem ZRm (hk:20000000 ≤ k) (h0:chk c d r tags ch = 0) {size:Nat} (hs:16 ≤ size ∧ size ≤ 512) {A Z:List Int} (hA:A.length = 46) (ahead:Nat)
  (hah:(A ++ (Zu (Znx size (ch.getD 0 []).length 0 0 (XX c d r ch size)) ++ Z)).length = ahead) (haml:ahead < 100000) :
  Za2 k ((0:Int),Xu c d r ch size,A ++ (Zu (Znx size (ch.getD 0 []).length 0 0 (XX c d r ch size)) ++ Z) ++ (Xu c d r ch size).flatten,(ahead:Int),(size:Int),c,d,r,tags,ch) = some (true,()):=by
 obtain ⟨hg,hshape,-⟩:=ZaY h0
 have hn4:=hg.n4
 have hfr:=Zdb hs.1 hn4
 have hCl:=ZeZ c d r ch size
 have hCs:=ZdB (c:=c) (d:=d) (r:=r) (ch:=ch) (size:=size)
 have hCf:=Zpu hCs
 have hlens:XX c d r ch size = (Xu c d r ch size).map List.length:=rfl
 have hCi:∀ i (h:i < (Xu c d r ch size).length),(Xu c d r ch size)[i] = Zyr c d r ch size i:=by
  intro i h; simp [Xu]
 have hCb:∀ x ∈ Xu c d r ch size,ZS x = true:=by
  intro x hx
  obtain ⟨i,_,rfl⟩:=List.mem_map.1 hx
  exact ZCe _ _ _ _ _
 generalize Xu c d r ch size = C at *
 generalize hn:(ch.getD 0 []).length = n at *
 generalize XX c d r ch size = lens at *
 have hll:lens.length = C.length:=by rw [hlens,List.length_map]
 have hsum:lens.sum = C.flatten.length:=by rw [hlens,Zgk]
 generalize hT:A ++ (Zu (Znx size n 0 0 lens) ++ Z) = H at *
 have hE:(H ++ C.flatten).length = ahead + C.flatten.length:=by rw [Q2,hah]
 have htl:=ZBY size n lens 0 0
 have hHl:46 + 18 * C.length ≤ ahead:=by
  rw [← hah,← hT]
  simp only [Q2,ZP,htl,hA]; omega
 have key:=QN (A:=Unit) (step:=fun L2 => Za4 k (ZcP k L2) L2) (fun i _ => (Int.ofNat i,C,H ++ C.flatten,(ahead:Int),(size:Int),c,d,r,tags,ch)) C (fun _ _ => some (true,()))
  (fun L _ => by
   simp only [Za4]
   rw [Zk (Q3 _)])
  (fun L i hi _ hL => by
   have hlt:=(Zdc (by omega:1 ≤ size)).1 (by rw [← hCl]; exact hi)
   have hck:=ZnA h0 (size:=size) (i:=i) hs (by rw [hn]; exact hlt)
   have h5:=hCs _ (List.getElem_mem hi)
   have hci:=hCi i hi
   simp only [Za4]
   have e18:IntKind.i64.wrap ((18:Int) * Int.ofNat i) = ((18 * i:Nat):Int):=by rw [Qa (by simp only [Qv]; omega)]; simp
   have e46:IntKind.i64.wrap ((46:Int) + ((18 * i:Nat):Int)) = ((46 + 18 * i:Nat):Int):=by rw [Qa (by omega)]; omega
   have e64:IntKind.i64.wrap ((64:Int) + ((18 * i:Nat):Int)) = ((46 + 18 * i + 18:Nat):Int):=by rw [Qa (by omega)]; omega
   rw [e18,e46,e64]
   simp only [Xm]
   have hat:=ZBW lens i
   have hp:List.drop (46 + 18 * i) (List.take (46 + 18 * i + 18) (H ++ C.flatten)) = Zu (Q8 size n i (lens.take i).sum):=by
    rw [List.drop_take,Nat.add_sub_cancel_left,← hT,List.append_assoc,List.append_assoc,← hA,List.drop_append,List.drop_of_length_le (by omega),List.nil_append,Nat.add_sub_cancel_left]
    rw [List.drop_append_of_le_length (by rw [ZP,htl]; omega),List.take_append_of_le_length (by rw [List.length_drop,ZP,htl]; omega),ZpZ,Ziw,ZG0 size n lens i 0 0 (by omega),Nat.zero_add,Nat.zero_add]
   simp only [hp]
   have hpl:(Zu (Q8 size n i (lens.take i).sum)).length = 18:=by rw [ZP,KC]
   rw [Zc (ltR hi),hE,hpl,Zc (by simp only [Qv]; omega),show Int.ofNat 18 = (18:Int) from rfl,Zc (by omega),Zc (by omega)]
   have him:i * size < 4294967296:=by omega
   have hal:(lens.take i).sum < 4294967296:=by omega
   have hx:i < 300:=by omega
   refine Eq.trans (ZRn (by omega) (n:=n) hs.2 him hal L (H ++ C.flatten) ahead C (by rw [hE]; omega) (by rw [hE]; omega) _) ?_
   have hdr:(H ++ C.flatten).drop (ahead + (lens.take i).sum) = C[i] ++ (C.drop (i + 1)).flatten:=by
    rw [← hah,List.drop_append,List.drop_of_length_le (by omega),List.nil_append,Nat.add_sub_cancel_left,hlens,Zug,List.drop_eq_getElem_cons hi,List.flatten_cons]
   have hmore:ZS (C.drop (i + 1)).flatten = true:=ZnH fun x hx => hCb x (List.mem_of_mem_drop hx)
   have hfl2:(C[i] ++ (C.drop (i + 1)).flatten).length ≤ C.flatten.length:=by
    rw [← hdr,List.length_drop,hE]; omega
   have hb2:ZS (C[i] ++ (C.drop (i + 1)).flatten) = true:=by
    have:C[i] ++ (C.drop (i + 1)).flatten = (C.drop i).flatten:=by rw [List.drop_eq_getElem_cons hi,List.flatten_cons]
    rw [this]
    exact ZnH fun x hx => hCb x (List.mem_of_mem_drop hx)
   rw [hdr]
   refine (Zn (ZL8 k c d r hb2 (by omega) (by omega)) _).trans ?_
   have hrb:=ZJR hck (more:=(C.drop (i + 1)).flatten) hmore
   have hre:ZBE c d r (C[i] ++ (C.drop (i + 1)).flatten) = (((i:Int),Q6 ch size i),(C[i].length:Int),0):=by rw [hci]; exact hrb
   unfold ZvV
   simp only
   rw [hre]
   simp only
   rw [show ((0:Int) != 0) = false from rfl]
   simp only [cond_false]
   rw [Zc (by simp only [Qv]; omega),Xc hi,show ((C[i].length:Int) != Int.ofNat C[i].length) = false by simp,show ((i:Int) != (i:Int)) = false by simp]
   simp only [cond_false]
   have ew:IntKind.i64.wrap ((i:Int) * (size:Int)) = ((i * size:Nat):Int):=by rw [← Int.natCast_mul,Zyz (by omega)]
   rw [ew,show (((i * size:Nat):Int) != ((i * size:Nat):Int)) = false by simp]
   simp only [cond_false]
   have hbl:(Q6 ch size i).length = ch.length:=by simp [Q6]
   have hc1:=hg.c1.1
   rw [Zc (by simp only [Qv]; omega)]
   have hbl0:((Q6 ch size i).getD 0 []).length = min size (n - i * size):=by
    rw [Xc (by omega)]
    simp only [Q6,List.getElem_map]
    rw [List.length_drop,List.length_take,hg.len _ (List.getElem_mem _),Nat.add_mul]; omega
   have hm16:min size (n - i * size) < 65536:=by omega
   have hcnt:IntKind.i64.wrap (IntKind.i64.wrap (IntKind.i64.wrap ((Zu (Q8 size n i (lens.take i).sum)).getD 16 0) * 256) + IntKind.i64.wrap ((Zu (Q8 size n i (lens.take i).sum)).getD 17 0)) = ((min size (n - i * size):Nat):Int):=by
    rw [QB,QB,show (Q8 size n i (lens.take i).sum).getD 16 0 = min size (n - i * size) / 256 from rfl,show (Q8 size n i (lens.take i).sum).getD 17 0 = min size (n - i * size) % 256 from rfl]
    generalize min size (n - i * size) = q at hm16
    rw [Zyz (by omega),Zyz (by omega),Qa (n:=((q / 256:Nat):Int) * 256) (by omega),Qa (by omega)]; omega
   rw [hbl0,hcnt,show (Int.ofNat (min size (n - i * size)) != ((min size (n - i * size):Nat):Int)) = false by simp]
   simp only [cond_false]
   rw [show IntKind.i64.wrap ((i:Int) + 1) = Int.ofNat (i + 1) from Qr hi (by omega)]
   exact hL ()) k 0 () (by omega) (by omega)
 exact key
theorem ZRl (hk:20000000 ≤ k) (C:List (List Int)) (pre:Nat) (E:List Int) (hE:E.length = pre + C.flatten.length) (hl:C.length ≤ 300) (hb:E.length < 100000000) (s:Int) :
  Zfi k ((0:Int),C,Int.ofNat E.length,E,s,c,d,r,tags,ch) = Za2 k ((0:Int),C,E,(pre:Int),s,c,d,r,tags,ch):=by
 have key:=QN (A:=Unit) (step:=fun L1 => Za3 k (Za2 k) L1) (fun i _ => (Int.ofNat i,C,((pre + (C.drop i).flatten.length:Nat):Int),E,s,c,d,r,tags,ch)) C (fun _ _ => Za2 k ((0:Int),C,E,(pre:Int),s,c,d,r,tags,ch))
  (fun L _ => by
   simp only [Za3]
   rw [Zk (Q3 _),List.drop_length]
   rfl)
  (fun L i hi _ hL => by
   simp only [Za3]
   have h1:(C.drop i).flatten.length = C[i].length + (C.drop (i + 1)).flatten.length:=by
    rw [List.drop_eq_getElem_cons hi,List.flatten_cons,Q2]
   have h2:(C.drop i).flatten.length ≤ C.flatten.length:=by
    conv => rhs; rw [← List.take_append_drop i C,List.flatten_append,Q2]
    omega
   have e:IntKind.i64.wrap (((pre + (C.drop i).flatten.length:Nat):Int) - Int.ofNat C[i].length) = ((pre + (C.drop (i + 1)).flatten.length:Nat):Int):=by
    rw [Qa (by simp only [Qv]; omega)]; simp only [Qv]; omega
   rw [Zc (ltR hi),Zc (Kh hi),ZM hi,e,Qr hi (by omega)]
   exact hL ()) k 0 () (by omega) (by omega)
 rw [List.drop_zero,← hE] at key
 exact key
theorem ZDn (hS:Small tags ch) (s:Int):f2009_F 20000000 (((c,d,r,()),tags,ch,()),s,()) = some (true,()):=by
 have hk:16777216 ≤ 20000000:=by omega
 show ZdL 20000000 (Zfi 20000000) _ = _
 simp only [ZdL]
 rw [ZOz]
 simp only [Z1,Bool.not_true,cond_false]
 rw [ZDu hk hS]
 simp only [Z1]
 rw [ZDA hk hS]
 by_cases h0:¬ chk c d r tags ch = 0
 ·rw [if_neg h0]
  simp only [Z1]
  rw [ZL,Zc h0]
 have h0:=Decidable.not_not.1 h0
 rw [if_pos h0]
 by_cases hs:¬ (16 ≤ s ∧ s ≤ 512)
 ·rw [if_neg hs]; rfl
 have hs:=Decidable.not_not.1 hs
 rw [if_pos hs]
 simp only [Z1]
 rw [ZL,Zk (by simp),Zrb hk hS,if_pos h0,if_pos hs]
 simp only [Z1]
 rw [ZL,Zk (by simp)]
 obtain ⟨size,rfl⟩:=Int.eq_ofNat_of_zero_le (show 0 ≤ s by omega)
 simp only [Xm]
 have hs2:16 ≤ size ∧ size ≤ 512:=by omega
 by_cases h2:Int.ofNat (Xu c d r ch size).length < 2
 ·rw [Zc h2]; rfl
 rw [Zk h2]
 simp only [Qv] at h2
 obtain ⟨hg,hshape,-,htv,ht8⟩:=ZaY h0
 have hLn:=ZBr (c:=c) (d:=d) (r:=r) hs2 rfl hg.n4
 have hal:=ZpH (d:=d.toNat) (r:=r.toNat) (ch:=ch) (size:=size) (Good0.tg htv ht8) hLn.len
 have hCf:=Zpu (ZdB (c:=c) (d:=d) (r:=r) (ch:=ch) (size:=size))
 have hCl:=ZeZ c d r ch size
 have hfr:=Zdb hs2.1 hg.n4
 have hlen:(XX c d r ch size).length = (Xu c d r ch size).length:=by simp [XX]
 have hsum:(XX c d r ch size).sum = (Xu c d r ch size).flatten.length:=Zgk _
 have hhl:(ZeE d.toNat r.toNat tags ch size (XX c d r ch size)).length ≤ 10000:=by
  unfold ZeE
  rw [Qf]; omega
 obtain ⟨A,Z,hA,hH⟩:=ZEz (d:=d.toNat) (r:=r.toNat) (tags:=tags) (ch:=ch) (size:=size) (lens:=XX c d r ch size) hs2 (by omega) hLn.len (by omega)
 have hE:ZbH c d r tags ch size = ZeE d.toNat r.toNat tags ch size (XX c d r ch size) ++ (Xu c d r ch size).flatten:=rfl
 have hEl:(ZbH c d r tags ch size).length = (ZeE d.toNat r.toNat tags ch size (XX c d r ch size)).length + (Xu c d r ch size).flatten.length:=by rw [hE,Q2]
 have hH2:ZeE d.toNat r.toNat tags ch size (XX c d r ch size) = A ++ Zu [3,0,18 * (Xu c d r ch size).length / 256,18 * (Xu c d r ch size).length % 256] ++ (Zu (Znx size (ch.getD 0 []).length 0 0 (XX c d r ch size)) ++ Z):=by
  rw [hH,hlen,Wc]
  simp only [List.append_assoc]
 have hA46:(A ++ Zu [3,0,18 * (Xu c d r ch size).length / 256,18 * (Xu c d r ch size).length % 256]).length = 46:=by
  rw [Q2,hA,ZP]; rfl
 have h46:46 ≤ (ZbH c d r tags ch size).length:=by
  rw [hEl,hH2,Q2,hA46]; omega
 rw [Zc (by simp only [Qv]; omega)]
 have hd4:List.drop 42 (List.take 46 (ZbH c d r tags ch size)) = Zu [3,0,18 * (Xu c d r ch size).length / 256,18 * (Xu c d r ch size).length % 256]:=by
  rw [hE,hH2,List.append_assoc,List.take_append_of_le_length (by omega),List.take_of_length_le (by omega),← hA,List.drop_left]
 have e18:IntKind.i64.wrap ((18:Int) * Int.ofNat (Xu c d r ch size).length) = ((18 * (Xu c d r ch size).length:Nat):Int):=by rw [Qa (by simp only [Qv]; omega)]; simp
 have hmark:(ByteArray.mk (List.map (fun n => UInt8.ofNat n.toNat) (List.drop 42 (List.take 46 (ZbH c d r tags ch size)))).toArray).toList == (ByteArray.mk #[3] ++ ByteArray.mk (List.map (fun n => UInt8.ofNat n.toNat) [(0:Int),IntKind.u8.wrap ((IntKind.i64.wrap ((18:Int) * Int.ofNat (Xu c d r ch size).length)).fdiv (256:Int)),IntKind.u8.wrap (IntKind.i64.wrap ((18:Int) * Int.ofNat (Xu c d r ch size).length))]).toArray).toList:=by
  rw [hd4,e18,ZT0,decide_eq_true_eq]
  have f1:=Zvz (18 * (Xu c d r ch size).length) 256
  simp only [Int.cast_ofNat_Int] at f1
  rw [f1,u8m,u8m,Nat.mod_eq_of_lt (show 18 * (Xu c d r ch size).length / 256 < 256 by omega)]
  apply ZCw
  simp [Zu]
 rw [hmark]
 simp only [Bool.not_true,cond_false]
 rw [ZRl (by omega) (Xu c d r ch size) (ZeE d.toNat r.toNat tags ch size (XX c d r ch size)).length (ZbH c d r tags ch size) hEl (by omega) (by omega)]
 have:=ZRm (k:=20000000) (by omega) h0 (tags:=tags) hs2 (A:=A ++ Zu [3,0,18 * (Xu c d r ch size).length / 256,18 * (Xu c d r ch size).length % 256]) (Z:=Z) hA46 (ZeE d.toNat r.toNat tags ch size (XX c d r ch size)).length (by rw [hH2]) (by omega)
 rw [← hH2,← hE] at this
 exact this
end prog
theorem table_plain:∀ x:Kd.dens (Xg [trackT,.int .i64]),ZGL [trackT,.int .i64] x → Zjn [trackT,.int .i64] x ≤ 1048576 → ∃ k u,f2009_F k x = some (true,u):=by
 rintro ⟨⟨⟨c,d,r,⟨⟩⟩,tags,ch,⟨⟩⟩,s,⟨⟩⟩ _ hb
 have hb:Ty.bulk trackT ((c,d,r,()),tags,ch,()) + (1 + 0) ≤ 1048576:=hb
 have hb1:Ty.bulk trackT ((c,d,r,()),tags,ch,()) ≤ 1048576:=by omega
 exact ⟨20000000,(),ZDn (ZB5 hb1) s⟩
end Go.Sh
