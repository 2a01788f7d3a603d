/-
  What the row needs, part 13.
-/
import Derived.Test.YtgbhjfacjekhcaaGreatDoorXStreamExports12
set_option linter.unusedSimpArgs false
set_option linter.unusedVariables false
set_option linter.unusedSectionVars false
open Bool renaming not_true→HF
open ByteArray renaming mk→UJ,size→UM
open Eq renaming trans→U4
open Int renaming ofNat→UD,ofNat_eq_natCast→H7,eq_ofNat_of_zero_le→Vp,toNat_natCast→Ui,natCast_mul→HO
open Go.IntKind renaming i64→Jx
open List renaming length_append→JP,length_cons→JF,length→UK,length_nil→H2,append_assoc→Ju,drop_zero→U5,getElem_mem→Ha,length_map→Ed,map→UT,length_take→Jz,append_nil→Vf,length_range→U7,length_zip→En,mem_cons→VL,mem_map→VF,nil_append→VS,replicate→Jd,all_cons→UA,flatMap_cons→Hn,flatMap_map→EK,foldl_append→EL,getElem_map→EM,headD_cons→EB,map_append→EC,map_cons→JR,map_map→VY,mem_cons_of_mem→Jn,mem_cons_self→Jl,mem_of_mem_take→JT,not_mem_nil→Uu,take_length→Ea,take_succ_eq_append_getElem→EH
open Nat renaming mul_le_mul→J3,zero_le→Ht,add_mul→Jg,div_eq_of_lt→HA,min_eq_left→Hs,pow_le_pow_right→He
open UInt8 renaming ofNat→UU
namespace Go.Sh
open Go Go.Proofs
theorem Zkm (k:Nat) {l:List Int} {w:Nat} (hk:10000 < k) (hl:l.length ≤ 8192) (hw:w ≤ 32) (hs:∀ x ∈ l,Xe x w = true) :
  ZmY k (l,(w:Int),()) = some (Xz (l.flatMap (fun n => Wu n w)),()):=by
 show Zkl k (Zxf k) _ = _
 simp only [Zkl]
 have:=Zi (A:=List Bool) (R:=ByteArray × Unit) (step:=fun L1 => ZfE k L1)
  (fun i a => (UD i,l,(w:Int),Xz a)) l
  (fun l' a => some (Xz (a ++ l'.flatMap (fun n => Wu n w)),()))
  (fun i a => a.length ≤ i * 32)
  (fun L a _ => by
   grind [ZfE])
  (fun L i hi a ha hL => by
   simp only [ZfE]
   rw [Zb (W9 hi),Zb (QV hi),Zs hi,Zs1 k hw (hs _ (Ha hi)) (by omega)]
   simp only [Option.bind_some]
   rw [Zu,Zb (by rw [Zo,Zo,Yd]; omega),ZL hi (by omega),hL (a ++ Wu l[i] w) (by rw [JP,Yd]; omega),Hn,Ju])
  k 0 [] (by simp) (by omega) (Ht _)
 rw [U5] at this
 exact this
theorem ZU7 {n:Nat} (h:n < 64):Za n 7 = [false] ++ Za n 6:=by
 have:=Ym n 1 6
 rw [show 1 + 6 = 7 from rfl] at this
 rw [this,HA (by omega)]
 rfl
theorem ZH7 (k:Nat) (hk:70000 < k) {n kk:Nat} (hn:n < 64) (hkk:kk ≤ 64):Zvn k ((n:Int),(kk:Int),()) = some (Xz (Xu (n:Int) kk),()):=by
 show Zln k _ = _
 simp only [Zln]
 refine (Zl (Qi k n 6 (by omega) (by omega) (by omega)) _).trans ?_
 simp only
 unfold Xu
 rw [Ui,ZU7 hn]
 rw [Za4.2.1,Za4.2.2.1,Zu,Zb (by rw [Zo,Zc]; omega),ZC]
 by_cases h0:kk = 0
 ·rw [Zb (by omega),Zb (by rw [Zo,JP,Zc]; simp),Zu,if_neg (by omega)]
 ·rw [Zn (by omega),show Jx.wrap ((kk:Int) - 1) = ((kk - 1:Nat):Int) from by rw [ZK (by omega)]; omega]
  refine (Zl (Zti k (kk - 1) (by omega) (by omega)) _).trans ?_
  simp only
  rw [Zb (by rw [Zo,JP,Zc]; simp),Zu,Zu,Zb (by rw [Zo,Zo,JP,JP,JP,Zc]; simp; omega),if_pos (by omega)]
  simp only [Ju]
theorem ZAr {α:Type} {g:α → List Bool} {b:Nat}:∀ l:List α,(∀ x ∈ l,(g x).length ≤ b) → (l.flatMap g).length ≤ l.length * b
 | [],_ => by simp
 | a :: l,h => by
  have h1:=h a (Jl ..)
  have h2:=ZAr l fun x hx => h x (Jn _ hx)
  rw [Hn,JP,JF,Jg,Nat.one_mul]
  omega
theorem Zf4 {l:List Int} {o:Nat} (h:W1 l o = 0):(YC l o).length ≤ 600000000:=by
 have ⟨h1,h2⟩:=ZbD.1 h
 have hl:=Y4 h2
 obtain ⟨hsz,q,hg⟩:=XA hl (o:=o) (by omega) (by omega)
 unfold YC Zc2
 generalize Ql l o = R at hg hsz
 have hys:=hg.ys
 obtain ⟨m,p,sz,ys⟩:=R
 obtain ⟨hp,p4,hfit,hm,hparts⟩:=hg
 simp only at hp hm hparts hys
 subst hp
 simp only [Ui]
 have hcs:∀ c ∈ WF l o q,(∀ x ∈ c,ZD x) ∧ c.length ≤ 512:=fun c hc => ⟨fun x hx => hl x (Yp hc x hx),by have:=Zbd hc; omega⟩
 have hclen:(WF l o q).length ≤ 16:=by
  rw [Zb3]
  have:2 ^ q ≤ 2 ^ 4:=He (by omega) p4
  omega
 have hyl:=hys.len
 generalize WF l o q = cs at hcs hclen hys hyl
 have hzl:(cs.zip ys).length ≤ 16:=by rw [En]; omega
 have hm1:m.toNat ≤ 1:=by rcases hm with rfl | rfl <;> decide
 have:=ZAr (g:=Xa m) (b:=35900000) (cs.zip ys) (fun x hx => by
  obtain ⟨i,hi,rfl⟩:=List.getElem_of_mem hx
  have hi1:i < cs.length:=by rw [En] at hi; omega
  have hi2:i < ys.length:=by rw [En] at hi; omega
  obtain ⟨hc1,hc2⟩:=hcs cs[i] (Ha hi1)
  have hll:=ZfT hc1 hc2 (hys.get i hi1 hi2)
  rw [List.getElem_zip]
  unfold Xa
  rw [JP,JP,Zc]
  dsimp only
  split
  ·rw [Zc]; omega
  ·rw [H2]; omega)
 rw [JP,JP,Zc,Zc]
 omega
theorem Zyd {s:List Int} {d:Nat} (h1:1 ≤ s.length) (h2:s.length ≤ 512) (hd:d ≤ 25) {x:Wd} (hx:ZbM s d x):(QQ s d x).length ≤ 700000000:=by
 have:=KU h1 h2 hx
 have hm:s.length * d ≤ 512 * 25:=J3 h2 hd
 rcases hx with ⟨rfl,_⟩ | rfl | ⟨o,ho,hos,hx⟩ | ⟨o,ho,hos,hx⟩
 ·simp only at this
  omega
 ·grind
 ·obtain ⟨e1,e2,e3,e4,e5,e6,e7,e8,e9,e10⟩:=Wl h1 h2 hx
  have hr:=Zf4 e6
  have hm:(YX o).length * d ≤ 8 * 25:=J3 e8 hd
  omega
 ·obtain ⟨e1,e2,e3,e4,e5,e6,e7,e8,e9,e10⟩:=Wl h1 h2 hx
  have hr:=Zf4 e6
  have hm:(XW s o).length * d ≤ 8 * 25:=J3 e8 hd
  omega
def Wf (s:List Int) (d kk:Nat):Option Wd → Int × ByteArray × Int × Unit
 | none => (-1,Xz [],(kk:Int),())
 | some x => (x.1,Xz (Xu x.1 kk ++ QQ s d x),(kk:Int),())
theorem ZqZ (k:Nat) (hk:70000 < k) {s:List Int} (h1:1 ≤ s.length) (h2:s.length ≤ 512) {d kk:Nat} (hd:d ≤ 25) (hkk:kk ≤ 64) {b:Option Wd} (hb:K9 s d b) {x:Wd} (hx:ZbM s d x) :
  ZmX k (Wf s d kk b,x.1,Xz (QQ s d x),()) = some (Wf s d kk (Qh b (some x)),()):=by
 have hkind:∃ n:Nat,x.1 = (n:Int) ∧ n < 64:=by
  rcases hx with ⟨rfl,_⟩ | rfl | ⟨o,ho,hos,hx⟩ | ⟨o,ho,hos,hx⟩
  ·exact ⟨0,rfl,by omega⟩
  ·exact ⟨1,rfl,by omega⟩
  ·exact ⟨8 + o,by rw [(Wl h1 h2 hx).1]; omega,by omega⟩
  ·exact ⟨31 + o,by rw [(Wl h1 h2 hx).1]; omega,by omega⟩
 obtain ⟨n,hn1,hn2⟩:=hkind
 have hh:Zvn k (x.1,(kk:Int),()) = some (Xz (Xu x.1 kk),()):=by rw [hn1]; exact ZH7 k hk hn2 hkk
 have hlx:=KU h1 h2 hx
 have hsm:=Zyd h1 h2 hd hx
 match b,hb with
 | none,_ =>
  show ZfD k (((-1:Int),Xz [],(kk:Int),()),x.1,Xz (QQ s d x),()) = _
  simp only [ZfD]
  refine (Zl hh _).trans ?_
  simp only
  rw [Zu,Zb (by rw [Zo,Zo,Yw]; omega),Zb (by decide)]
  rfl
 | some b,hb =>
  have hbo:=hb b rfl
  have hlb:=KU h1 h2 hbo
  show ZfD k ((b.1,Xz (Xu b.1 kk ++ QQ s d b),(kk:Int),()),x.1,Xz (QQ s d x),()) = _
  simp only [ZfD]
  refine (Zl hh _).trans ?_
  simp only
  have hb0:¬ b.1 < 0:=by
   obtain ⟨n,hn,_⟩:=hbo.kind h1 h2
   omega
  rw [Zu,Zb (by rw [Zo,Zo,Yw]; omega),Zn hb0]
  simp only [H7]
  rw [Zo,Zo,JP,JP,Yw,Yw]
  unfold Qh
  simp only
  by_cases hlt:x.2.2.2.2 < b.2.2.2.2
  ·rw [Zb (by omega),if_pos hlt]
   rfl
  ·rw [Zn (by omega),if_neg hlt]
   rfl
theorem ZJw (k:Nat) (s:List Int) (d:Int) (c:List Int) (sh:Int) (ad:Bool):Zt6 k (s,d,(c,sh,()),ad,()) =
  (ZpI k ((c,sh,()),s,())).bind fun y => bif y.1.2.1 != (0:Int) then some ((UJ #[],false,()),()) else (Zvp k (y.1.1,UD c.length,())).bind fun y => bif y.1.2.1 != (0:Int) then some ((UJ #[],false,()),()) else bif decide ((0:Int) ≤ (0:Int) ∧ (0:Int) ≤ UD c.length ∧ UD c.length ≤ UD s.length) then (ZmY k (List.drop (0:Nat) (List.take (UD c.length).toNat s),d,())).bind fun y_1 => bif ad then (Qy k (11,4,())).bind fun y_2 => bif decide (UM y_1.1 + UM y_2.1 < (1099511627776:Nat)) then (Qy k (sh,5,())).bind fun y_3 => bif decide ((y_1.1 ++ y_2.1).size + UM y_3.1 < (1099511627776:Nat)) then (ZmY k (c,12,())).bind fun y_4 => bif decide ((y_1.1 ++ y_2.1 ++ y_3.1).size + UM y_4.1 < (1099511627776:Nat)) then bif decide ((y_1.1 ++ y_2.1 ++ y_3.1 ++ y_4.1).size + UM y.1.1 < (1099511627776:Nat)) then some ((y_1.1 ++ y_2.1 ++ y_3.1 ++ y_4.1 ++ y.1.1,true,()),()) else none else none else none else none else bif decide (UM y_1.1 + UM y.1.1 < (1099511627776:Nat)) then some ((y_1.1 ++ y.1.1,true,()),()) else none else none:=rfl
def ZYQ (s:List Int) (d:Nat):Option Wd → ByteArray × Bool × Unit
 | none => (Xz [],false,())
 | some x => (Xz (QQ s d x),true,())
theorem ZPF (k:Nat) (hk:70100 < k) {s:List Int} (h1:1 ≤ s.length) (h2:s.length ≤ 512) {d:Nat} (hd:d ≤ 25) (hs:∀ x ∈ s,Xe x d = true) (c:List Int) (sh:Int) {kind head:Int} (hki:2 ≤ kind) (hh:0 ≤ head ∧ head ≤ 1000) :
  Zt6 k (s,(d:Int),(c,sh,()),decide (31 < kind),()) = some (ZYQ s d (Zev s d kind c sh head),()):=by
 rw [ZJw]
 refine (Zl (Zs2 k c sh s (by omega) (by omega)) _).trans ?_
 simp only
 rw [ZU]
 cases hm:Zev s d kind c sh head with
 | none =>
  have:¬ (Qx c sh s).2 = 0:=by
   intro h
   unfold Zev at hm
   rw [if_pos h] at hm
   cases hm
  rw [Zb this]
  rfl
 | some x =>
  obtain ⟨e1,e2,e3,e4,e5,e6,e7,e8,e9,e10⟩:=Wl h1 h2 hm
  have hz:=(Zf3 e10).1
  have hsz:=Zf4 e6
  rw [Zn (by simpa using e10),hz]
  refine (Zl (ZIc k hk e6) _).trans ?_
  obtain ⟨x1,x2,x3,x4,x5⟩:=x
  simp only at e1 e2 e3 e4 e5
  subst e1; subst e2; subst e3; subst e4
  simp only
  have hmul:d * x2.length ≤ 25 * 8:=J3 hd e8
  have hlen:=Xg s d x2.length e7
  rw [show ((0:Int) != 0) = false from rfl]
  simp only [cond_false]
  rw [Zb (by simp only [H7]; omega),U5,show (UD x2.length).toNat = x2.length from rfl]
  refine (Zl (Zkm k (by omega) (by rw [Jz]; omega) (by omega) (fun y hy => hs y (JT hy))) _).trans ?_
  show _ = some ((Xz (QQ s d (x1,x2,x3,ZaZ x2 x3 s,x5)),true,()),())
  unfold QQ
  simp only
  rw [if_neg (by omega),if_neg (by omega)]
  generalize (s.take x2.length).flatMap (fun n => Wu n d) = W at hlen
  by_cases h31:31 < x1
  ·rw [Zb h31,if_pos h31]
   obtain ⟨_,hsh,hcR⟩:=Zbt e9
   refine (Zl (Qi k 11 4 (by omega) (by omega) (by omega)) _).trans ?_
   simp only
   have hl1:(W ++ Za 11 4).length ≤ 204:=by rw [JP,Zc]; omega
   rw [Zu,Zb (by rw [Zo,Zo,Zc]; omega)]
   obtain ⟨shn,hshn⟩:=Vp hsh.1
   subst hshn
   rw [Ui]
   refine (Zl (Qi k shn 5 (by omega) (by omega) (by omega)) _).trans ?_
   simp only
   have hl2:(W ++ Za 11 4 ++ Za shn 5).length ≤ 209:=by rw [JP,Zc]; omega
   rw [Zu,Zb (by rw [Zo,Zo,Zc]; omega)]
   refine (Zl (Zkm k (l:=x2) (w:=12) (by omega) (by omega) (by omega) (fun y hy => by
    have:=hcR y hy
    unfold ZsG at this
    unfold Xe
    grind)) _).trans ?_
   simp only
   have hl3:(x2.flatMap (fun n => Wu n 12)).length ≤ 96:=by rw [Q8]; omega
   rw [Zu,Zb (by rw [Zo,Zo]; omega),Zu,Zb (by rw [Zo,Zo,JP]; omega)]
   simp only [Ju]
  ·rw [Zn h31,if_neg h31,Zu,Zb (by rw [Zo,Zo]; omega),VS]
theorem ZPz (k:Nat):∀ (w j:Nat) (V q:Int) (c:Nat),V = 2 ^ w * (2 * q + 1) → -9223372036854775808 ≤ V ∧ V ≤ 9223372036854775807 → w < j → c + w ≤ 1000 →
  Ze (fun L2 => ZcQ k L2) j (V,(c:Int)) = some (((c + w:Nat):Int),()):=by
 intro w
 induction w with
 | zero =>
  intro j V q c hV hb hj hc
  obtain ⟨j,rfl⟩:=Zt hj
  rw [Zd]
  grind [ZcQ]
 | succ w ih =>
  intro j V q c hV hb hj hc
  obtain ⟨j,rfl⟩:=Zt (show 0 < j by omega)
  rw [Zd]
  simp only [ZcQ]
  have hp:(2:Int) ^ w ≠ 0:=Int.ne_of_gt (Int.pow_pos (by omega))
  have hU:(2:Int) ^ w * (2 * q + 1) ≠ 0:=Int.mul_ne_zero hp (by omega)
  have hVU:V = 2 * (2 ^ w * (2 * q + 1)):=by grind
  generalize hUU:(2:Int) ^ w * (2 * q + 1) = U at hU hVU
  have h0:V.tmod 2 = 0:=by rw [hVU]; exact Int.mul_tmod_right ..
  have h1:V.tdiv 2 = U:=by grind
  rw [ZU,Zb (by omega),ZC,Zb h0,h1,ZK (by omega),show Jx.wrap ((c:Int) + 1) = ((c + 1:Nat):Int) from by rw [ZK (by omega)]; omega]
  rw [ih j U q (c + 1) hUU.symm (by omega) (by omega) (by omega)]
  congr 3
  omega
theorem ZPy (k:Nat) (s:List Int) (hk:s.length + 100 < k) (hn:s.length < 4294967296):ZPu k (s,()) = some (((Zm s:Nat):Int),()):=by
 show Zkk k (Zxd k) _ = _
 simp only [Zkk]
 have:=Zi (A:=Nat) (R:=Int × Unit) (step:=fun L1 => ZfC k (ZqY k) L1) (fun i v => (UD i,s,Jx.wrap (v:Int))) s
  (fun s' v => ZqY k (Jx.wrap ((s'.foldl (fun v x => v ||| ZfU x) v:Nat):Int),0))
  (fun i v => v < 2 ^ 64)
  (fun L v hv => by
   grind [ZfC])
  (fun L i hi v hv hL => by
   simp only [ZfC]
   rw [Zb (W9 hi),Zb (QV hi),Zs hi,BitVec.toNat_or,Zbw,Zbw,Zmh hv,ZL hi (by omega),List.foldl_cons]
   exact hL (v ||| ZfU s[i]) (Nat.or_lt_two_pow hv (Zxt _)))
  k 0 0 (by decide) (by omega) (Ht _)
 rw [U5] at this
 refine U4 this ?_
 show Ze (fun L2 => ZcQ k L2) k (Jx.wrap ((Zeu s:Nat):Int),((0:Nat):Int)) = _
 by_cases h0:Zeu s = 0
 ·have:Zm s = 0:=by unfold Zm; rw [if_pos h0]
  rw [this,h0]
  obtain ⟨j,rfl⟩:=Zt (show 0 < k by omega)
  rw [Zd]
  rfl
 ·obtain ⟨m,hm,hw⟩:=Zne h0
  have hlt:=ZEb s
  have hr : -9223372036854775808 ≤ Jx.wrap ((Zeu s:Nat):Int) ∧ Jx.wrap ((Zeu s:Nat):Int) ≤ 9223372036854775807:=by
   rw [IntKind.wrap_i64]; omega
  have hcase:Jx.wrap ((Zeu s:Nat):Int) = ((Zeu s:Nat):Int) ∨ Jx.wrap ((Zeu s:Nat):Int) = ((Zeu s:Nat):Int) - 18446744073709551616:=by
   rw [IntKind.wrap_i64]; omega
  have hp:((2 ^ Zm s:Nat):Int) = (2:Int) ^ Zm s:=(QS _).symm
  have key:∃ q:Int,Jx.wrap ((Zeu s:Nat):Int) = 2 ^ Zm s * (2 * q + 1):=by
   rcases hcase with h | h
   ·refine ⟨(m:Int),?_⟩
    simp_all
   ·refine ⟨(m:Int) - 2 ^ (63 - Zm s),?_⟩
    rw [h,hm]
    have e:(18446744073709551616:Int) = 2 ^ Zm s * (2 * 2 ^ (63 - Zm s)):=by
     rw [← Int.mul_assoc,Int.mul_comm _ 2,Int.mul_assoc,← Int.pow_add,show Zm s + (63 - Zm s) = 63 by omega]
     rfl
    grind
  obtain ⟨q,hq⟩:=key
  have:=ZPz k (Zm s) k _ q 0 hq hr (by omega) (by omega)
  rw [this,Nat.zero_add]
theorem Zhn {w:Nat} {a:Int} (ha:((2:Int) ^ w) ∣ a):∀ l:List Int,(∀ x ∈ l,((2:Int) ^ w) ∣ x) → ((l.map fun x => x.fdiv (2 ^ w)).all fun y => decide (y = a.fdiv (2 ^ w))) = l.all fun x => decide (x = a)
 | [],_ => rfl
 | b :: l,h => by
  rw [JR,UA,UA,Zhn ha l fun x hx => h x (Jn _ hx)]
  simp_all
theorem ZJ4 {s:List Int} (h:1 ≤ s.length):(QE s).all (fun x => decide (x = (QE s).headD 0)) = s.all (fun x => decide (x = s.headD 0)):=by
 match s,h with
 | a :: l,_ =>
  have hd:=Zel (s:=a :: l)
  exact Zhn (hd a (Jl ..)) (a :: l) hd
abbrev T40:=(Int × ByteArray × Unit) × Unit
abbrev C40:=Int × Int × List Int × List Int × Int × ByteArray × Int
theorem ZF8 (k:Nat) (hk:70100 < k) {t:List Int} (h1:1 ≤ t.length) (h2:t.length ≤ 512) {d kk:Nat} (hd:d ≤ 25) (hkk:kk ≤ 64) (hs:∀ x ∈ t,Xe x d = true) {b:Option Wd} (hb:K9 t d b)
  (c:List Int) (sh:Int) {kind head:Int} (hki:2 ≤ kind) (hh:0 ≤ head ∧ head ≤ 1000) {ad:Bool} (had:ad = decide (31 < kind)) (hx:K9 t d (Zev t d kind c sh head)) {R:Type} (K:Option Wd → Option R) (Ky:(Int × ByteArray × Int × Unit) × Unit → Option R) (Kn:Option R)
  (hy:∀ b,Ky (Wf t d kk b,()) = K b) (hn:Kn = K b) :
  ((Zt6 k (t,(d:Int),(c,sh,()),ad,())).bind fun y => bif y.1.2.1 then (ZmX k (((Wf t d kk b).1,(Wf t d kk b).2.1,(Wf t d kk b).2.2.1,()),kind,y.1.1,())).bind Ky else Kn) = K (Qh b (Zev t d kind c sh head)):=by
 subst had
 refine (Zl (ZPF k hk h1 h2 hd hs c sh hki hh) _).trans ?_
 cases hm:Zev t d kind c sh head with
 | none =>
  show Kn = _
  rw [hn]
  rfl
 | some x =>
  have hxo:=hx x hm
  have hkx:=(Wl h1 h2 hm).1
  have:=ZqZ k (by omega) h1 h2 hd hkk hb hxo
  rw [hkx] at this
  show (ZmX k (Wf t d kk b,kind,Xz (QQ t d x),())).bind Ky = _
  exact (Zl this _).trans (hy _)
theorem ZTs (k:Nat) (hk:70100 < k) {t:List Int} (h1:1 ≤ t.length) (h2:t.length ≤ 512) {d kk:Nat} (hd:d ≤ 25) (hkk:kk ≤ 64) (hs:∀ x ∈ t,Xe x d = true) (L3:C40 → Option T40) :
  ∀ (e o m:Nat) (b:Option Wd),o + e = min 4 t.length + 1 → e < m → K9 t d b →
  Ze (fun L2 => ZcM k L3 L2) m ((o:Int),(d:Int),t,(Wf t d kk b).1,(Wf t d kk b).2.1,(Wf t d kk b).2.2.1) =
   L3 ((0:Int),(d:Int),[2,4,8],t,(Wf t d kk (Zh2 t d e o b)).1,(Wf t d kk (Zh2 t d e o b)).2.1,(Wf t d kk (Zh2 t d e o b)).2.2.1):=by
 intro e
 induction e with
 | zero =>
  intro o m b ho hm hb
  obtain ⟨m,rfl⟩:=Zt hm
  rw [Zd]
  simp only [ZcM]
  by_cases h4:o ≤ 4
  ·rw [Zb (by omega),Zn (by simp only [H7]; omega)]
   rfl
  ·rw [Zn (by omega)]
   rfl
 | succ e ih =>
  intro o m b ho hm hb
  obtain ⟨m,rfl⟩:=Zt (show 0 < m by omega)
  rw [Zd]
  simp only [ZcM]
  rw [Zb (by omega),Zb (by simp only [H7]; omega)]
  refine (Zl (ZPD k o (by omega)) _).trans ?_
  simp only
  have eo:Jx.wrap ((o:Int) + 1) = ((o + 1:Nat):Int):=by rw [ZK (by omega)]; rfl
  rw [eo,ZK (n:=8 + (o:Int)) (by omega)]
  have hx:K9 t d (ZJA t d o):=fun x hx => .inr (.inr (.inl ⟨o,by omega,by omega,hx⟩))
  have hih:=ih (o + 1) m (Qh b (ZJA t d o)) (by omega) (by omega) (XV hb hx)
  refine (ZF8 k hk h1 h2 hd hkk hs hb (YX o) 0 (kind:=8 + (o:Int)) (head:=0) (by omega) (by omega) (by rw [decide_eq_false (by omega)]) hx
   (fun b => Ze (fun L2 => ZcM k L3 L2) m (((o + 1:Nat):Int),(d:Int),t,(Wf t d kk b).1,(Wf t d kk b).2.1,(Wf t d kk b).2.2.1)) _ _ (fun b => rfl) rfl).trans ?_
  exact hih
theorem ZwI (k:Nat) (hk:70100 < k) {t:List Int} (h1:1 ≤ t.length) (h2:t.length ≤ 512) {d kk:Nat} (hd:d ≤ 25) (hkk:kk ≤ 64) (hs:∀ x ∈ t,Xe x d = true) (L:C40 → Option T40)
  {i o:Nat} (ho:o = 2 ∨ o = 4 ∨ o = 8) (hi:i < 3) (hg:[(2:Int),4,8].getD i 0 = (o:Int)) {b:Option Wd} (hb:K9 t d b) :
  ZcN k L ((i:Int),(d:Int),[2,4,8],t,(Wf t d kk b).1,(Wf t d kk b).2.1,(Wf t d kk b).2.2.1) =
   L (((i + 1:Nat):Int),(d:Int),[2,4,8],t,(Wf t d kk (Qh b (YF t d o))).1,(Wf t d kk (Qh b (YF t d o))).2.1,(Wf t d kk (Qh b (YF t d o))).2.2.1):=by
 simp only [ZcN]
 have h3:[(2:Int),4,8].length = 3:=rfl
 have eo:Jx.wrap ((i:Int) + 1) = ((i + 1:Nat):Int):=by rw [ZK (by omega)]; rfl
 rw [Zb (by omega),Zb (by simp only [H7]; omega),Zb (by rw [Ui]; omega),Ui,hg,eo]
 unfold YF
 by_cases hlt:o < t.length
 ·rw [Zb (by simp only [H7]; omega),if_pos hlt]
  refine (Zl (ZPO k t o ho (by omega) (fun x hx => Zij (by omega) (hs x hx)) (by omega) (by omega)) _).trans ?_
  simp only
  rw [ZK (n:=31 + (o:Int)) (by omega)]
  have hx:K9 t d (Zev t d (31 + (o:Int)) (XW t o) 4 (9 + 12 * (o:Int))):=fun x hx => .inr (.inr (.inr ⟨o,ho,hlt,hx⟩))
  exact ZF8 k hk h1 h2 hd hkk hs hb (XW t o) 4 (kind:=31 + (o:Int)) (head:=9 + 12 * (o:Int)) (by omega) (by omega) (by rw [decide_eq_true (by omega)]) hx
   (fun b => L (((i + 1:Nat):Int),(d:Int),[2,4,8],t,(Wf t d kk b).1,(Wf t d kk b).2.1,(Wf t d kk b).2.2.1)) _ _ (fun b => rfl) rfl
 ·rw [Zn (by simp only [H7]; omega),if_neg hlt]
  rfl
theorem ZOw (k : Nat) (hk : 70100 < k) {t : List Int} (h1 : 1 ≤ t.length) (h2 : t.length ≤ 512) {d kk : Nat} (hd : d ≤ 25) (hkk : kk ≤ 64) (hs : ∀ x ∈ t, Xe x d = true) {b : Option Wd} (hb : K9 t d b) :
    Zfm k ((0 : Int), (d : Int), t, (Wf t d kk b).1, (Wf t d kk b).2.1, (Wf t d kk b).2.2.1) =
      (let x := Qh (Qh (Qh (Qh (Zh2 t d (min 4 t.length + 1) 0 b) (YF t d 2)) (YF t d 4)) (YF t d 8)) (ZHh t d)
       some (((Wf t d kk x).1, (Wf t d kk x).2.1, ()), ())) := by
  obtain ⟨j, rfl⟩ : ∃ j, k = j + 4 := ⟨k - 4, by omega⟩
  refine (ZTs (j + 4) hk h1 h2 hd hkk hs (ZwH (j + 4)) (min 4 t.length + 1) 0 (j + 4) b (by omega) (by omega) hb).trans ?_
  have hf := Zxj (s := t) (d := d) (min 4 t.length + 1) 0 b (by omega) hb
  generalize Zh2 t d (min 4 t.length + 1) 0 b = b1 at hf
  show Ze (fun L3 => ZcN (j + 4) L3) (j + 4) (((0 : Nat) : Int), _) = _
  have h2' := XV hf (Zg1 (s := t) (d := d) (o := 2) (.inl rfl))
  have h4' := XV h2' (Zg1 (s := t) (d := d) (o := 4) (.inr (.inl rfl)))
  have h8' := XV h4' (Zg1 (s := t) (d := d) (o := 8) (.inr (.inr rfl)))
  rw [Zd, ZwI (j + 4) hk h1 h2 hd hkk hs _ (o := 2) (.inl rfl) (by omega) rfl hf]
  rw [Zd, ZwI (j + 4) hk h1 h2 hd hkk hs _ (o := 4) (.inr (.inl rfl)) (by omega) rfl h2']
  rw [Zd, ZwI (j + 4) hk h1 h2 hd hkk hs _ (o := 8) (.inr (.inr rfl)) (by omega) rfl h4']
  rw [Zd]
  generalize Qh (Qh (Qh b1 (YF t d 2)) (YF t d 4)) (YF t d 8) = b2 at h8'
  simp only [ZcN]
  rw [Zn (by omega)]
  refine (Zl (Zkm (j + 4) (l := t) (w := d) (by omega) (by omega) (by omega) hs) _).trans ?_
  have := ZqZ (j + 4) (by omega) h1 h2 hd hkk h8' (x := (1, [], 0, [], (t.length : Int) * (d : Int))) (.inr (.inl rfl))
  exact (Zl this _).trans rfl
theorem ZOx (k:Nat) (hk:70200 < k) {s:List Int} {d:Nat} (h:Zee s (d:Int) = 0) :
  ∃ kd:Int,Zt3 k (s,(d:Int),()) = some ((kd,Xz (QK s d),()),()):=by
 obtain ⟨⟨h1,h2,h3,h4⟩,hs⟩:=ZbH.1 h
 have hw:=Zdd (by omega) hs
 have hsg:=Zik (by omega) hs
 have hsl:=K7 s
 have hdv:=Zel (s:=s)
 obtain ⟨x,hx,hok,hsub,_,_⟩:=Zeh s d h1 h2
 rw [hsub]
 refine ⟨x.1,?_⟩
 show Zj7 k (ZwG k) _ = _
 simp only [Zj7]
 refine (Zl (ZPy k s (by omega) (by omega)) _).trans ?_
 simp only
 have hQ:(2:Int) ^ Zm s = ((2 ^ Zm s:Nat):Int):=QS _
 have hP:2 ^ Zm s ≤ 2 ^ 25:=He (by omega) (by omega)
 have hP0:0 < 2 ^ Zm s:=Nat.pow_pos (by omega)
 have e2:Jx.wrap ((1:Int) * (2:Int) ^ min (((Zm s:Nat):Int)).toNat 64) = (2:Int) ^ Zm s:=by
  rw [Ui,Hs (by omega),Int.one_mul,hQ]
  generalize 2 ^ Zm s = Q at hP ⊢
  rw [ZK (by omega)]
 have hne:¬ (2:Int) ^ Zm s = 0:=by
  omega
 have hhd:s.getD 0 0 = s.headD 0:=by cases s <;> rfl
 have:=Zi (A:=Bool × List Int) (R:=T40) (step:=fun L1 => Yu k (Zfm k) L1) (fun i a => (UD i,s,((Zm s:Nat):Int),a.1,(d:Int),a.2)) s
  (fun s' a => Yu k (Zfm k) (fun _ => none) (UD s.length,s,((Zm s:Nat):Int),(a.1 && s'.all fun x => decide (x = s.headD 0)),(d:Int),a.2 ++ s'.map fun x => x.fdiv (2 ^ Zm s)))
  (fun i a => a.2.length = i)
  (fun L a _ => by
   grind [Yu])
  (fun L i hi a ha hL => by
   have hdiv:s[i].tdiv (2 ^ Zm s) = s[i].fdiv (2 ^ Zm s):=by
    rw [Int.fdiv_eq_ediv_of_nonneg _ (by rw [hQ]; exact Int.natCast_nonneg _),Int.tdiv_eq_ediv_of_dvd (hdv s[i] (Ha hi))]
   have hnar:=Zij (by omega) (hs s[i] (Ha hi))
   have hfb:=ZhZ (x:=s[i]) (b:=2147483648) (Zm s) (by unfold ZD at hnar; omega) (by omega)
   have key:Yu k (Zfm k) L (UD i,s,((Zm s:Nat):Int),a.1,(d:Int),a.2) =
     L (UD (i + 1),s,((Zm s:Nat):Int),(a.1 && decide (s[i] = s.headD 0)),(d:Int),a.2 ++ [s[i].fdiv (2 ^ Zm s)]):=by
    simp only [Yu]
    rw [Zb (W9 hi),Zb (QV hi),Zb (by omega),e2,Zb hne,Zs hi,hdiv,ZK (n:=s[i].fdiv (2 ^ Zm s)) (by omega),Zb (by grind),ZL hi (by omega)]
    grind
   refine key.trans ((hL (a.1 && decide (s[i] = s.headD 0),a.2 ++ [s[i].fdiv (2 ^ Zm s)]) (by simp [ha])).trans ?_)
   grind)
  k 0 (true,[]) rfl (by omega) (Ht _)
 rw [U5] at this
 refine U4 this ?_
 simp only
 rw [Bool.true_and,VS,← ZJ4 h1]
 show Yu k (Zfm k) (fun _ => none) (UD s.length,s,((Zm s:Nat):Int),(QE s).all (fun x => decide (x = (QE s).headD 0)),(d:Int),QE s) = _
 simp only [Yu]
 rw [Zn (XJ _),ZK (n:=(d:Int) - ((Zm s:Nat):Int)) (by omega),show (d:Int) - ((Zm s:Nat):Int) = ((d - Zm s:Nat):Int) by omega]
 have hkk:Zm s ≤ 64:=by omega
 generalize Zm s = kk at hw hsg hok hx hkk ⊢
 generalize QE s = t at hsg hsl hok hx ⊢
 clear this
 have hd1:1 ≤ t.length:=by omega
 have hd2:t.length ≤ 512:=by omega
 have hdd:d - kk ≤ 25:=by omega
 have hrest:=fun (b:Option Wd) (hb:K9 t (d - kk) b) => ZOw k (by omega) hd1 hd2 hdd hkk hsg hb
 generalize d - kk = dd at hsg hok hx hrest hdd ⊢
 unfold Zit Zd3 at hx
 cases hall:t.all (fun x => decide (x = t.headD 0)) with
 | false =>
  rw [hall] at hx
  refine (hrest none (fun y hy => by cases hy)).trans ?_
  simp only
  rw [show Zh2 t dd (min 4 t.length + 1) 0 none = Zh2 t dd (min 4 t.length + 1) 0 (Qh none (if false = true then some (0,[],0,[],(dd:Int)) else none)) from rfl,hx]
  rfl
 | true =>
  rw [hall] at hx
  simp only [cond_true]
  rw [Zb (by simp only [H7]; omega),U5]
  refine (Zl (Zkm k (w:=dd) (by omega) (by rw [Jz]; omega) (by omega) (fun y hy => hsg y (JT hy))) _).trans ?_
  have hco:ZbM t dd (0,[],0,[],(dd:Int)):=.inl ⟨rfl,hall⟩
  have hf:=ZqZ k (by omega) hd1 hd2 hdd hkk (b:=none) (fun y hy => by cases hy) hco
  refine (Zl hf _).trans ?_
  refine (hrest (some (0,[],0,[],(dd:Int))) (fun y hy => by cases hy; exact hco)).trans ?_
  simp only
  rw [show Zh2 t dd (min 4 t.length + 1) 0 (some (0,[],0,[],(dd:Int))) = Zh2 t dd (min 4 t.length + 1) 0 (Qh none (if true = true then some (0,[],0,[],(dd:Int)) else none)) from rfl,hx]
  rfl
end Go.Sh
namespace Go.Sh
open Go Go.Proofs
theorem ZI3 (k:Nat) (c d r n:Int) (ch:List (List Int)):ZEX k ((c,d,r,()),(n,ch,()),()) =
  (ZEH k ((c,d,r,()),(n,ch,()),())).bind fun y => bif y.1 != (0:Int) then some ((UJ #[],y.1,()),()) else
   bif decide ((0:Int) ≤ (0:Int) ∧ (0:Int) < UD ch.length) then
    bif decide ((256:Int) < UD (UK (ch.getD (0:Nat) []))) then
     bif c == (2:Int) then bif decide ((0:Int) ≤ (0:Int) ∧ (0:Int) < UD ch.length) then bif decide ((0:Int) ≤ (1:Int) ∧ (1:Int) < UD ch.length) then
      (ZqM k ((ch.getD (0:Nat) [],ch.getD (1:Nat) [],()),())).bind fun y => bif c == (2:Int) then bif y.1 == (0:Int) then QH k 7 1 16 c d n ch y.1 else QH k 7 y.1 16 c d n ch y.1 else QH k 7 y.1 16 c d n ch y.1
      else none else none
     else bif c == (2:Int) then QH k 7 1 16 c d n ch 0 else QH k 7 0 16 c d n ch 0
    else
     bif c == (2:Int) then bif decide ((0:Int) ≤ (0:Int) ∧ (0:Int) < UD ch.length) then bif decide ((0:Int) ≤ (1:Int) ∧ (1:Int) < UD ch.length) then
      (ZqM k ((ch.getD (0:Nat) [],ch.getD (1:Nat) [],()),())).bind fun y => bif c == (2:Int) then bif y.1 == (0:Int) then QH k 6 1 8 c d n ch y.1 else QH k 6 y.1 8 c d n ch y.1 else QH k 6 y.1 8 c d n ch y.1
      else none else none
     else bif c == (2:Int) then QH k 6 1 8 c d n ch 0 else QH k 6 0 8 c d n ch 0
   else none:=rfl
theorem WR (a b:List Int):QI a ++ QI b = QI (a ++ b):=by
 apply Zhv
 simp [QI]
theorem Xf (a:List Int):(QI a).size = a.length:=by rw [← QY]; simp
theorem ZAH (B:List Bool):ZE (WA B) = ZE B:=ZAG B
theorem Zpx (k:Nat) {B:List Bool} (hB:B.length ≤ 100000) (hk:200000 < k):ZEm k (Xz B) = some ((QI (ZE (Xh B)),0,()),()):=by
 unfold ZEm
 refine (Zl (ZcL k B (by omega) (by omega)) _).trans ?_
 have hb:=Y6 B
 have hl:(ZE B).length ≤ 100000:=by rw [Z5]; omega
 refine (Zl (ZOF k hb (by omega) (by omega)) _).trans ?_
 have hc:=Zpq hb
 have e1:(((Zba (ZE B):Nat):Int)).tdiv 256 = ((Zba (ZE B) / 256:Nat):Int):=by rfl
 have e2:(((Zba (ZE B):Nat):Int)).tmod 256 = ((Zba (ZE B) % 256:Nat):Int):=by rfl
 simp only
 rw [e1,e2,ZK (n:=((Zba (ZE B) / 256:Nat):Int)) (by omega),wu8 (n:=((Zba (ZE B) / 256:Nat):Int)) (by omega),wu8 (by omega)]
 rw [Zb (by rw [Xf,Xf]; grind),WR,ZuW,ZAH]
theorem Zb2 {n:Nat} (a w:Nat) (h:n < 2 ^ w):Za n (a + w) = Jd a false ++ Za n w:=by
 rw [Ym,HA h]
 congr 1
 induction a with
 | zero => rfl
 | succ a ih => rw [show Za 0 (a + 1) = (0:Nat).testBit a :: Za 0 a from rfl,ih,Nat.zero_testBit]; rfl
theorem ZBg (l:List Nat):Q2 (Q3 l) = l.flatMap fun x => Za x 8:=by
 unfold Q2 Q3
 rw [EK]
 rfl
theorem Zym (k:Nat) (hk:300000 < k) {kd mode num N:Nat} (hkd:kd = QW N) (hm:mode < 16) (hnum:num < 2 ^ 31) (hN:1 ≤ N ∧ N ≤ 512) {w:Int} (hw:w = ((8 * (kd - 5):Nat):Int)) (c d:Int) {ch:List (List Int)} (hch:(ch.getD 0 []).length = N) (md:Int) :
  QH k (kd:Int) (mode:Int) w c d (num:Int) ch md = ZuZ k c d ch md (Xz (YZ mode num N)):=by
 subst hkd
 have hkn:=ZfS N
 have hprel:=ZbC mode num N
 have hcl:=Zgi num
 unfold QH
 refine (Zl (Qi k 16382 14 (by omega) (by omega) (by omega)) _).trans ?_
 simp only
 rw [Za4.2.2.2.1,Za4.2.2.2.2.1,Zb (by rw [Zo,Zc]; omega),Zu]
 refine (Zl (Qi k (QW N) 4 (by omega) (by omega) (by omega)) _).trans ?_
 simp only
 rw [Zb (by simp only [Zo,Zc,JP,JF,H2]; omega),Zu,Zb (by simp only [Zo,Zc,JP,JF,H2]; omega),Zu]
 refine (Zl (Qi k mode 4 (by omega) (by omega) (by omega)) _).trans ?_
 simp only
 rw [Zb (by simp only [Zo,Zc,JP,JF,H2]; omega),Zu,Zb (by simp only [Zo,Zc,JP,JF,H2]; omega),Zu]
 refine (Zl (ZOg k (by omega) (n:=num) (by omega)) _).trans ?_
 have hbc:WV (Q3 (Qg num)) = true:=by
  have hlt:=Zpp (n:=num) (by omega)
  unfold WV Q3
  grind
 refine (Zl (ZN8 k hbc (by rw [ZcY]; omega) (by rw [ZcY]; omega)) _).trans ?_
 simp only
 rw [ZBg]
 have hfl:=ZgZ (Qg num)
 rw [Zb (by simp only [Zo,Zc,JP,JF,H2,hfl]; omega),Zu]
 have e1:Jx.wrap (UD (UK (ch.getD (0:Nat) [])) - (1:Int)) = ((N - 1:Nat):Int):=by rw [hch,ZK (by simp only [H7]; omega)]; simp only [H7]; omega
 rw [e1,hw]
 refine (Zl (Qi k (N - 1) (8 * (QW N - 5)) (by omega) (by omega) (by omega)) _).trans ?_
 simp only
 rw [Zb (by simp only [Zo,Zc,JP,JF,H2,hfl]; omega),Zu]
 have hpre:Za 16382 14 ++ [false,false] ++ Za (QW N) 4 ++ [false,false,false,false] ++ Za mode 4 ++ [false,false,false,false] ++ (Qg num).flatMap (fun x => Za x 8) ++ Za (N - 1) (8 * (QW N - 5)) = WK mode num N:=by
  unfold WK
  rw [show (6:Nat) = 2 + 4 from rfl,Zb2 2 4 (by omega),show Za mode 8 = Za mode (4 + 4) from rfl,Zb2 4 4 hm,show Za 0 4 = [false,false,false,false] from rfl]
  simp only [Ju]
  rfl
 rw [hpre]
 refine (Zl (ZcL k (WK mode num N) (by omega) (by omega)) _).trans ?_
 have hb:=Y6 (WK mode num N)
 have hl:(ZE (WK mode num N)).length ≤ 100:=by rw [Z5]; omega
 refine (Zl (ZOi k hb (by omega) (by omega)) _).trans ?_
 have hc8:=ZEh hb
 refine (Zl (Qi k (ZHx (ZE (WK mode num N))) 8 (by omega) (by omega) (by omega)) _).trans ?_
 simp only
 rw [Zb (by simp only [Zo,Zc]; omega),Zu]
 rfl
theorem ZwJ (k:Nat) (hk:70200 < k) {s:List Int} {d:Int} (hd:4 ≤ d ∧ d ≤ 25) (hl:1 ≤ s.length ∧ s.length ≤ 512) (hs:∀ x ∈ s,Xe x d.toNat = true) :
  ∃ kd:Int,Zt3 k (s,d,()) = some ((kd,Xz (QK s d.toNat),()),()):=by
 obtain ⟨e,rfl⟩:=Vp (show 0 ≤ d by omega)
 rw [Ui] at hs ⊢
 exact ZOx k hk (ZbH.2 ⟨by omega,hs⟩)
theorem Zyn (k:Nat) (hk:300000 < k) {c d r n:Int} {ch:List (List Int)} (h:Yo c d r n ch = 0) (md:Int) (hmd:c = 2 → md = ZQ (ch.getD 0 []) (ch.getD 1 [])) {B:List Bool} (hB:B.length ≤ 200) :
  ZuZ k c d ch md (Xz B) = some ((QI (ZE (Xh (B ++ WL (W8 ch).1 (Qr c d (W8 ch).2)))),0,()),()):=by
 obtain ⟨hs,hn,hc,hlen,hsg⟩:=Zac h
 obtain ⟨hlay,_,_⟩:=Zxq h
 have hdl:((d.toNat:Nat):Int) = d:=by omega
 unfold ZuZ
 match ch,hc,hlen,hsg,hlay,hmd with
 | [],hc,_,_,_,_ => simp at hc; omega
 | [l],hc,hlen,hsg,hlay,_ =>
  have hc:c = 1:=by simp at hc; omega
  subst hc
  obtain ⟨_,h1,h2⟩:=hlen l (by simp)
  have hN:([l].headD []).length = l.length:=rfl
  have hcb:=Zdm hlay (by rw [hN]; omega) (by rw [hN]; omega) (by omega) (by omega)
  rw [ZC,Zb (by rfl),Zb (by simp_all)]
  obtain ⟨kd,hk40⟩:=ZwJ k (by omega) (s:=l) (d:=d) (by omega) ⟨h1,h2⟩ (hsg l (by simp))
  have e:WL (W8 [l]).1 (Qr 1 d (W8 [l]).2) = QK l d.toNat:=by
   show QK l d.toNat ++ [] = _
   rw [Vf]
  rw [e] at hcb ⊢
  refine (Zl hk40 _).trans ?_
  simp only
  rw [Zb (by rw [Zo,Zo]; omega),Zu]
  exact Zpx k (by rw [JP]; omega) (by omega)
 | [l,r'],hc,hlen,hsg,hlay,hmd =>
  have hc:c = 2:=by simp at hc; omega
  subst hc
  have hmd:md = ZQ l r':=hmd rfl
  subst hmd
  obtain ⟨_,h1,h2⟩:=hlen l (by simp)
  have hr:=(hlen r' (by simp)).1
  simp only [EB] at hr
  have hN:([l,r'].headD []).length = l.length:=rfl
  have hcb:=Zdm hlay (by rw [hN]; omega) (by rw [hN]; omega) (by omega) (by omega)
  have hmm:=Zhz l r'
  have hL:∀ x ∈ l,ZT x:=fun x hx => Ye (by omega) (hsg l (by simp) x hx)
  have hR:∀ x ∈ r',ZT x:=fun x hx => Ye (by omega) (hsg r' (by simp) x hx)
  have hls:(W8 [l,r']).1 = [Yj (ZQ l r') l r',Yk (ZQ l r') l r']:=rfl
  have hds:Qr 2 d (W8 [l,r']).2 = [if ZQ l r' = 9 then d + 1 else d,if ZQ l r' = 8 ∨ ZQ l r' = 10 then d + 1 else d]:=by
   show Qr 2 d (if ZQ l r' = 0 then 1 else ZQ l r') = _
   rcases hmm with h | h | h | h <;> rw [h] <;> rfl
  rw [hls,hds] at hcb hlay ⊢
  rw [ZC,Zn (by omega),Zb (by simp_all),Zb (by simp_all)]
  refine (Zl (Zz6 k hmm hr.symm (by omega) (by omega) hL hR) _).trans ?_
  refine (Zl (ZOD k d (ZQ l r') (by omega)) _).trans ?_
  obtain ⟨a1,a2,a3⟩:=hlay.all 0 (by simp) (by simp)
  obtain ⟨b1,b2,b3⟩:=hlay.all 1 (by simp) (by simp)
  simp only [List.getElem_cons_zero,List.getElem_cons_succ] at a1 a2 a3 b1 b2 b3
  rw [hN] at a1 b1
  simp only
  generalize (if ZQ l r' = 9 then d + 1 else d) = d1 at a2 a3 hcb ⊢
  generalize (if ZQ l r' = 8 ∨ ZQ l r' = 10 then d + 1 else d) = d2 at b2 b3 hcb ⊢
  obtain ⟨k1,hk1⟩:=ZwJ k (by omega) (d:=d1) (by omega) (by omega) a3
  obtain ⟨k2,hk2⟩:=ZwJ k (by omega) (d:=d2) (by omega) (by omega) b3
  refine (Zl hk1 _).trans ?_
  refine (Zl hk2 _).trans ?_
  have e:WL [Yj (ZQ l r') l r',Yk (ZQ l r') l r'] [d1,d2] = QK (Yj (ZQ l r') l r') d1.toNat ++ QK (Yk (ZQ l r') l r') d2.toNat:=by
   show _ ++ (_ ++ []) = _
   rw [Vf]
  rw [e] at hcb ⊢
  rw [JP] at hcb
  simp only
  rw [Zb (by rw [Zo,Zo]; omega),Zu,Zb (by rw [Zo,Zo,JP]; omega),Zu,Ju]
  exact Zpx k (by grind) (by omega)
 | _ :: _ :: _ :: _,hc,_,_,_,_ => simp at hc; omega
theorem ZMr (k:Nat) (hk:2100000 < k) (c d r n:Int) {ch:List (List Int)} (hsm:Sm ch) :
  ZEX k ((c,d,r,()),(n,ch,()),()) = some ((QI (Za5 c d r n ch).1,(Za5 c d r n ch).2,()),()):=by
 rw [ZI3]
 refine (Zl (ZLC k (by omega) c d r n hsm) _).trans ?_
 simp only
 unfold Za5
 rw [ZU]
 by_cases h:Yo c d r n ch = 0
 case neg => rw [Zb h,if_neg h]; rfl
 rw [Zn (by simpa using h),if_pos h]
 obtain ⟨hs,hn,hc,hlen,hsg⟩:=Zac h
 obtain ⟨_,⟨mode,hmode,hmc⟩,_⟩:=Zxq h
 obtain ⟨num,rfl⟩:=Vp hn.1
 have hpos:0 < ch.length:=by omega
 have hhd:ch.getD 0 [] = ch.headD []:=by cases ch <;> rfl
 have hN:1 ≤ (ch.headD []).length ∧ (ch.headD []).length ≤ 512:=by
  grind
 have hhl:(YZ mode num (ch.headD []).length).length ≤ 200:=by
  unfold YZ
  rw [JP,ZbC,Zc]
  have:=Zgi num
  have:=ZfS (ch.headD []).length
  omega
 have hm16:mode < 16:=by omega
 have fin:∀ (kd:Nat) (w md:Int),kd = QW (ch.headD []).length → w = ((8 * (kd - 5):Nat):Int) → (c = 2 → md = ZQ (ch.getD 0 []) (ch.getD 1 [])) →
   QH k (kd:Int) (mode:Int) w c d ((num:Nat):Int) ch md = some ((QI (ZE (Xh (YZ (W8 ch).2.toNat ((num:Nat):Int).toNat (ch.headD []).length ++ WL (W8 ch).1 (Qr c d (W8 ch).2)))),0,()),()):=by
  intro kd w md h1 h2 h3
  refine (Zym k (by omega) h1 hm16 (by omega) hN h2 c d (by rw [hhd]) md).trans ?_
  have:=Zyn k (by omega) h md h3 hhl
  simp_all
 rw [Zb (by simp only [H7]; omega)]
 have both:∀ (kd:Nat) (w:Int),kd = QW (ch.headD []).length → w = ((8 * (kd - 5):Nat):Int) →
   (bif c == (2:Int) then bif decide ((0:Int) ≤ (0:Int) ∧ (0:Int) < UD ch.length) then bif decide ((0:Int) ≤ (1:Int) ∧ (1:Int) < UD ch.length) then
      (ZqM k ((ch.getD (0:Nat) [],ch.getD (1:Nat) [],()),())).bind fun y => bif c == (2:Int) then bif y.1 == (0:Int) then QH k (kd:Int) 1 w c d ((num:Nat):Int) ch y.1 else QH k (kd:Int) y.1 w c d ((num:Nat):Int) ch y.1 else QH k (kd:Int) y.1 w c d ((num:Nat):Int) ch y.1
      else none else none
     else bif c == (2:Int) then QH k (kd:Int) 1 w c d ((num:Nat):Int) ch 0 else QH k (kd:Int) 0 w c d ((num:Nat):Int) ch 0) =
    some ((QI (ZE (Xh (YZ (W8 ch).2.toNat ((num:Nat):Int).toNat (ch.headD []).length ++ WL (W8 ch).1 (Qr c d (W8 ch).2)))),0,()),()):=by
  intro kd w h1 h2
  rw [ZC]
  by_cases hc2:c = 2
  ·rw [Zb hc2,Zb (by simp only [H7]; omega),Zb (by simp only [H7]; omega)]
   match ch,hc,hlen,hsg,hmode,fin with
   | [],hc,_,_,_,_ => simp at hc; omega
   | [_],hc,_,_,_,_ => simp at hc; omega
   | [l,r'],hc,hlen,hsg,hmode,fin =>
    have hr:=(hlen r' (by simp)).1
    have hl5:=(hlen l (by simp)).2
    simp only [EB] at hr
    have hL:∀ x ∈ l,ZT x:=fun x hx => Ye (by omega) (hsg l (by simp) x hx)
    have hR:∀ x ∈ r',ZT x:=fun x hx => Ye (by omega) (hsg r' (by simp) x hx)
    refine (Zl (ZN2 k (L:=l) (R:=r') hr.symm (by omega) (by omega) hL hR) _).trans ?_
    simp only
    rw [Zb hc2,ZC]
    have hmo:(if ZQ l r' = 0 then (1:Int) else ZQ l r') = (mode:Int):=hmode
    grind
   | _ :: _ :: _ :: _,hc,_,_,_,_ => simp at hc; omega
  simp_all
 rw [hhd]
 unfold QW at both
 by_cases h256:256 < (ch.headD []).length
 ·rw [Zb (by simp only [H7]; omega)]
  simp_all
 ·rw [Zn (by simp only [H7]; omega)]
  have:=both 6 8 (by rw [if_neg h256]) rfl
  rw [hhd] at this
  exact this
end Go.Sh
namespace Go.Sh
open Go Go.Proofs
section prog
variable {k:Nat} {c d r:Int} {tags:List ByteArray} {ch:List (List Int)}
theorem ZCT (hk:100 ≤ k) {n size i:Nat} (hg:Good0 c d ch n) (hs:16 ≤ size ∧ size ≤ 512) (hi:i * size < n) :
  Zv6 k (((c,d,r,()),tags,ch,()),(i:Int),(size:Int),()) = some (((i:Int),QX ch size i,()),()):=by
 have hn4:=hg.n4
 have hc2:=hg.c1.2
 have hi4:i ≤ 4096:=by
  have:i * 1 ≤ i * size:=Nat.mul_le_mul_left i (by omega)
  omega
 have key:=Qm (A:=Unit) (step:=fun L1 => Zay k L1) (fun j _ => (UD j,(i:Int),(size:Int),c,d,r,tags,ch,(i:Int),(QX ch size i).take j,(0:Int))) ch (fun _ _ => some (((i:Int),QX ch size i,()),()))
  (fun L _ => by
   simp only [Zay]
   rw [Zn (XJ _),List.take_of_length_le (by simp [QX])])
  (fun L j hj _ hL => by
   simp only [Zay]
   have hl:=hg.len _ (Ha hj)
   have e1:Jx.wrap ((i:Int) * (size:Int)) = ((i * size:Nat):Int):=by rw [← HO,Zku (by omega)]
   have hq:(i + 1) * size ≤ 4096 + 512:=by rw [Jg]; omega
   have e2:Jx.wrap (Jx.wrap ((i:Int) + 1) * (size:Int)) = (((i + 1) * size:Nat):Int):=by rw [ZsA (by omega),← HO,Zku (by omega)]
   rw [Zb (W9 hj),Zb (QV hj),Zs hj,hl,e1,e2]
   have hqq:(i + 1) * size = i * size + size:=by rw [Jg]; omega
   have e3:(if UD n < (((i + 1) * size:Nat):Int) then UD n else (((i + 1) * size:Nat):Int)) = ((min n ((i + 1) * size):Nat):Int):=by
    simp_all <;> omega
   rw [e3,Zb (by simp only [QT]; omega)]
   simp only [Yi]
   have e4:List.drop (i * size) (List.take (min n ((i + 1) * size)) ch[j]) = (QX ch size i)[j]'(by simp [QX]; exact hj):=by
    grind [QX]
   simp only [e4]
   rw [Zb (by rw [Jz]; simp; omega),ZL hj (by omega)]
   simp_all) k 0 () (by omega) (by omega)
 exact key
theorem Zp4 (hk:16777216 ≤ k) (hS:Small tags ch) (s:Int):Zox k (((c,d,r,()),tags,ch,()),s,()) =
  if chk c d r tags ch = 0 then (if 16 ≤ s ∧ s ≤ 512 then some (((Zk3 c d r ch s.toNat).map QI,0,()),()) else some (([],1,()),())) else some (([],chk c d r tags ch,()),()):=by
 show ZdL k _ _ = _
 simp only [ZdL]
 rw [ZCj hk hS]
 simp only [Z9]
 by_cases h0:chk c d r tags ch = 0
 ·rw [if_pos h0,h0,ZU,Zn (by simp)]
  by_cases h1:s < 16
  ·rw [Zb h1,if_neg (by omega)]
  rw [Zn h1]
  by_cases h2:512 < s
  ·rw [Zb h2,if_neg (by omega)]
  rw [Zn h2,if_pos (by omega)]
  obtain ⟨size,rfl⟩:=Vp (show 0 ≤ s by omega)
  have hs:16 ≤ size ∧ size ≤ 512:=by omega
  obtain ⟨hg,-⟩:=XM h0
  have hn4:=hg.n4
  have hc1:=hg.c1.1
  generalize hn:(ch.getD 0 []).length = n at hg hn4
  have hfr:=K5 hs.1 hn4
  have e40:Zv5 k (((c,d,r,()),tags,ch,()),(size:Int),()) = some (((WY n size:Nat):Int),()):=by
   show ZhP k _ = _
   simp only [ZhP]
   rw [Zb (by simp only [QT]; omega),Zb (by omega),hn,ZK (n:=UD n + size) (by simp only [QT]; omega),ZK (n:=UD n + size - 1) (by simp only [QT]; omega)]
   rw [show UD n + (size:Int) - 1 = ((n + size - 1:Nat):Int) by simp only [QT]; omega,show ((n + size - 1:Nat):Int).tdiv (size:Int) = ((WY n size:Nat):Int) from rfl,ZK (by omega)]
  have key:=Zi (A:=List ByteArray) (step:=fun L1 => Zap k L1) (fun i a => (UD i,(size:Int),c,d,r,tags,ch,a)) (List.range (WY n size))
   (fun rest a => some ((a ++ rest.map (fun i => QI (Zq9 c d r ch size i)),0,()),())) (fun i a => a.length = i)
   (fun L a _ => by
    grind [Zap,U7,QT])
   (fun L i hi a hI hL => by
    rw [U7] at hi
    have hlt:=(ZcV (by omega:1 ≤ size)).1 hi
    simp only [Zap]
    rw [e40]
    simp only [Z9]
    rw [Zb (by simp only [QT]; omega)]
    rw [show UD i = (i:Int) from rfl,ZCT (by omega) hg hs hlt]
    simp only [Z9]
    have hSm:Sm (QX ch size i):=by
     refine ⟨by simp only [QX,Ed]; have:=hS.cl; omega,?_⟩
     intro l hl
     obtain ⟨x,hx,rfl⟩:=VF.1 hl
     grind
    refine (Zl (ZMr k (by omega) c d r (i:Int) hSm) _).trans ?_
    simp only
    rw [Zb (by simp; omega),show Jx.wrap ((i:Int) + 1) = UD (i + 1) from ZL hi (by omega)]
    refine U4 (hL (a ++ [QI (Zq9 c d r ch size i)]) (by simp [hI])) ?_
    simp_all)
   k 0 [] rfl (by rw [U7]; omega) (by omega)
  rw [U5,VS] at key
  refine U4 key ?_
  simp only [Yi,Zk3,hn,VY]
  rfl
 ·rw [if_neg h0,ZU,Zb h0]
end prog
end Go.Sh
namespace Go.Sh
open Go Go.Proofs
def ZrX (tags:List ByteArray):List Nat:=tags.flatMap fun t => K6 t.size 4 ++ WO t
theorem ZJ9 (tags:List ByteArray):Zsy tags = YH (ZrX tags):=by
 unfold Zsy ZrX YH
 rw [List.flatMap_assoc]
 simp only [List.flatMap_append]
theorem ZQL (tags:List ByteArray):(ZrX tags).length = ZrY tags:=by
 unfold ZrX ZrY
 simp_all [QZ,QJ,Y5]
theorem ZbK (a b:List Nat):WG a ++ WG b = WG (a ++ b):=by
 unfold WG
 apply Zhv
 simp [Zh]
theorem Yf (a:List Nat):(WG a).size = a.length:=by simp [WG,Zh,UM]
theorem Zm8 (s:ByteArray):s = WG (WO s):=by
 apply Zhv
 simp only [WG,WO,Zh,VY]
 conv => lhs; rw [← List.map_id s.data.toList]
 apply List.map_congr_left
 intro x _
 simp
theorem ZhS (k:Nat) {n:Nat} (h:n < 1000000):KV k ((n:Int),()) = some (WG (K6 n 4),()):=by
 show some (UJ _,()) = _
 have f1:=ZfJ n 256
 have f2:=ZfJ n 65536
 have f3:=ZfJ n 16777216
 simp only [Int.cast_ofNat_Int] at f1 f2 f3
 rw [f1,f2,f3,u8m,u8m,u8m,u8m]
 have e:K6 n 4 = [n % 256,n / 256 % 256,n / 65536 % 256,n / 16777216 % 256]:=by simp [K6,List.range_succ]
 rw [e]
 rfl
section prog
variable {k:Nat} {c d r:Int} {tags:List ByteArray} {ch:List (List Int)}
def Zsh (v2:ByteArray) (l:List Nat):ByteArray:=v2 ++ QI (ZE (Za 132 8 ++ Za l.length 24)) ++ WG l
theorem ZSZ (hk:1000 ≤ k) (hT:Tg tags) (acc:List Nat) (ha:acc.length ≤ 1000) (v2:ByteArray) (hv:v2.size ≤ 1000000) :
  Xs k ((0:Int),WG acc,v2,c,d,r,tags,ch) = some (Zsh v2 (acc ++ ZrX tags),()):=by
 have key:=Zi (A:=List Nat) (step:=fun L3 => ZaB k L3) (fun i a => (UD i,WG a,v2,c,d,r,tags,ch)) tags
  (fun rest a => some (Zsh v2 (a ++ ZrX rest),())) (fun i a => a.length ≤ acc.length + 16 * i)
  (fun L a hI => by
   have h8:=hT.1
   simp only [ZaB]
   rw [Zn (XJ _)]
   have hs:=Yf a
   refine (Zl (Qi k 132 8 (by omega) (by omega) (by omega)) _).trans ?_
   simp only [hs]
   refine (Zl (Qi k a.length 24 (by omega) (by omega) (by omega)) _).trans ?_
   simp only
   rw [Zb (by rw [Zo,Zo,Zc,Zc]; omega),Zu]
   refine (Zl (ZcL k (Za 132 8 ++ Za a.length 24) (by simp only [QZ,Zc]; omega) (by simp only [QZ,Zc]; omega)) _).trans ?_
   have hp:(QI (ZE (Za 132 8 ++ Za a.length 24))).size = 4:=by
    rw [Xf,Z5]; simp only [QZ,Zc]
   have hp2:(UJ (UT (fun n => UU n.toNat) (ZE (Za 132 8 ++ Za a.length 24))).toArray) = QI (ZE (Za 132 8 ++ Za a.length 24)):=rfl
   simp only [hp2,hp]
   grind [ZrX,Zsh])
  (fun L i hi a hI hL => by
   have h8:=hT.1
   have ht:=hT.2 _ (Ha hi)
   simp only [ZaB]
   rw [Zb (W9 hi),Zb (QV hi),Zs hi]
   refine (Zl (ZhS k (n:=tags[i].size) (by omega)) _).trans ?_
   simp only
   rw [Zb (by rw [Yf,Yf,QJ]; omega),Zb (QV hi),ZbK,Zb (by rw [Yf,QZ,QJ]; omega),ZL hi (by omega)]
   have e:WG (a ++ K6 tags[i].size 4) ++ tags[i] = WG (a ++ (K6 tags[i].size 4 ++ WO tags[i])):=by
    conv => lhs; rw [Zm8 tags[i]]
    rw [ZbK,Ju,← Zm8]
   grind [QZ,QJ,Y5,ZrX,Ju])
  k 0 acc (by omega) (by have:=hT.1; omega) (by omega)
 rw [U5] at key
 exact key
end prog
end Go.Sh
namespace Go.Sh
open Go Go.Proofs
theorem ZJV {size n i at_:Nat} (h1:i * size < 2 ^ 32) (h2:at_ < 2 ^ 32):Za (i * size) 64 ++ Za at_ 64 ++ Za (min size (n - i * size)) 16 = ZaV size n i at_:=by
 have z:Za 0 32 = Jd 32 false:=by decide
 have e1:=Zb2 (n:=i * size) 32 32 h1
 have e2:=Zb2 (n:=at_) 32 32 h2
 unfold ZaV
 simp_all
def Ziw (tags:List ByteArray):List Nat:=K6 7 4 ++ ZbL ++ K6 tags.length 4 ++ ZrX tags
section prog
variable {k:Nat} {c d r:Int} {tags:List ByteArray} {ch:List (List Int)}
theorem ZzI (hk:1000 ≤ k) (hT:Tg tags) (v6:ByteArray) (hv:v6.size ≤ 1000000) :
  ((KV k (7,())).bind fun y_1 => bif decide (UM y_1.1 + (7:Nat) < (1099511627776:Nat)) then (KV k (UD tags.length,())).bind fun y_2 => bif decide ((y_1.1 ++ UJ #[115,104,101,108,108,97,99]).size + UM y_2.1 < (1099511627776:Nat)) then Xs k ((0:Int),y_1.1 ++ UJ #[115,104,101,108,108,97,99] ++ y_2.1,v6,c,d,r,tags,ch) else none else none) = some (Zsh v6 (Ziw tags),()):=by
 have h8:=hT.1
 refine (Zl (ZhS k (n:=7) (by omega)) _).trans ?_
 simp only
 rw [Zb (by rw [Yf,QJ]; omega)]
 refine (Zl (ZhS k (n:=tags.length) (by omega)) _).trans ?_
 simp only
 have hv7:UJ #[115,104,101,108,108,97,99] = WG ZbL:=rfl
 rw [hv7,ZbK,Zb (by rw [Yf,Yf,QZ,QJ,QJ]; simp only [ZbL,JF,H2]; omega),ZbK]
 refine (ZSZ hk hT _ (by simp only [QZ,QJ,ZbL,JF,H2]; omega) v6 hv).trans ?_
 unfold Ziw
 rfl
theorem ZSY (hk:100000 ≤ k) (hT:Tg tags) {size n:Nat} {lens:List Nat} (hL:Lens size n lens) (hn:n ≤ 4096) (bs:List Bool) (hb:bs.length ≤ 1000) (v6:ByteArray) (hv:v6.size ≤ 1000) :
  ZcG k ((0:Int),Zh lens,Xz bs,(size:Int),((0:Nat):Int),(n:Int),v6,c,d,r,tags,ch) = some (Zsh (v6 ++ QI (ZE (bs ++ Zhb size n 0 0 lens))) (Ziw tags),()):=by
 have hll:=hL.len
 have hsz:=hL.sz
 have key:=Zi (A:=List Bool × Nat) (step:=fun L2 => ZaA k (Xs k) L2) (fun i a => (UD i,Zh lens,Xz a.1,(size:Int),(a.2:Int),(n:Int),v6,c,d,r,tags,ch)) lens
  (fun rest a => some (Zsh (v6 ++ QI (ZE (a.1 ++ Zhb size n (lens.length - rest.length) a.2 rest))) (Ziw tags),())) (fun i a => a.1.length = bs.length + 144 * i ∧ a.2 ≤ 65536 * i)
  (fun L a hI => by
   simp only [ZaA]
   rw [ZB,Zn (XJ _)]
   refine (Zl (ZcL k a.1 (by omega) (by omega)) _).trans ?_
   have hp2:(UJ (UT (fun n => UU n.toNat) (ZE a.1)).toArray) = QI (ZE a.1):=rfl
   have hps:(QI (ZE a.1)).size ≤ 20000:=by rw [Xf,Z5]; omega
   simp only [hp2]
   rw [Zb (by omega)]
   refine (ZzI (by omega) hT (v6 ++ QI (ZE a.1)) (by rw [ByteArray.size_append]; omega)).trans ?_
   simp only [Zhb,Vf])
  (fun L i hi a hI hLn => by
   simp only [ZaA]
   have hmul:i * size < n + 1:=by have:=hL.in_ i hi; omega
   have hsm:=hL.small _ (Ha hi)
   have hgt:(Zh lens).getD (Int.toNat (UD i)) 0 = ((lens[i]:Nat):Int):=by
    grind [Zh]
   rw [ZB,Zb (W9 hi),show UD i * (size:Int) = ((i * size:Nat):Int) by simp,ZK (n:=((i * size:Nat):Int)) (by omega)]
   refine (Zl (Qi k (i * size) 64 (by omega) (by omega) (by omega)) _).trans ?_
   simp only
   rw [Zb (by rw [Zo,Zo,Zc]; omega),Zu]
   refine (Zl (Qi k a.2 64 (by omega) (by omega) (by omega)) _).trans ?_
   simp only
   rw [Zb (by rw [Zo,Zo,Zc,QZ,Zc]; omega),Zu,ZK (n:=(n:Int) - _) (by omega)]
   have hmin:(if (n:Int) - ((i * size:Nat):Int) < (size:Int) then (n:Int) - ((i * size:Nat):Int) else (size:Int)) = ((min size (n - i * size):Nat):Int):=by
    split <;> omega
   rw [hmin]
   refine (Zl (Qi k (min size (n - i * size)) 16 (by omega) (by omega) (by omega)) _).trans ?_
   simp only
   rw [Zb (by rw [Zo,Zo,Zc,QZ,QZ,Zc,Zc]; omega),Zu,Zb (QV hi),hgt,ZL hi (by omega),ZK (n:=(a.2:Int) + _) (by omega)]
   have e:a.1 ++ Za (i * size) 64 ++ Za a.2 64 ++ Za (min size (n - i * size)) 16 = a.1 ++ ZaV size n i a.2:=by
    rw [← ZJV (n:=n) (by omega) (by omega)]
    simp only [Ju]
   rw [e]
   refine U4 (hLn (a.1 ++ ZaV size n i a.2,a.2 + lens[i]) ⟨by simp only [QZ,Zib]; omega,by simp only; omega⟩) ?_
   have e2:(lens.drop (i + 1)).length + 1 = (lens.drop i).length:=by simp only [List.length_drop]; omega
   simp only [JF,Ju]
   have e3:Zhb size n i a.2 (lens[i] :: lens.drop (i + 1)) = ZaV size n i a.2 ++ Zhb size n (i + 1) (a.2 + lens[i]) (lens.drop (i + 1)):=rfl
   grind)
  k 0 (bs,0) ⟨by simp,by simp⟩ (by omega) (by omega)
 rw [U5,Nat.sub_self] at key
 exact key
end prog
end Go.Sh
namespace Go.Sh
open Go Go.Proofs
theorem Zuj {l:List Nat} (h:l ≠ []) (x:Nat):Yh (l ++ [x]) = min (Yh l) x:=by
 match l,h with
 | y :: t,_ => simp [Yh,EL]
theorem Zmi (l:List Nat) (x:Nat):Yg (l ++ [x]) = max (Yg l) x:=by
 match l with
 | [] => simp [Yg]
 | y :: t => simp [Yg,EL]
section prog
variable {k:Nat} {c d r:Int} {tags:List ByteArray} {ch:List (List Int)}
abbrev L45:=Int × List Int × Int × Int × Int × Int × Int × Int × Int × List ByteArray × List (List Int) → Option (ByteArray × Unit)
theorem ZSX (hk:1000 ≤ k) {lens:List Nat} (hl:lens.length ≤ 300) (size n:Int) (R:Option (ByteArray × Unit))
  (hend:∀ L:L45,YV k (ZcG k) (Xs k) L (UD lens.length,Zh lens,(Yh lens:Int),(Yg lens:Int),size,n,c,d,r,tags,ch) = R) :
  ZjB k ((0:Int),Zh lens,(0:Int),(0:Int),size,n,c,d,r,tags,ch) = R:=by
 have key:=Zi (A:=Nat × Nat) (step:=fun L1 => YV k (ZcG k) (Xs k) L1) (fun i a => (UD i,Zh lens,(a.1:Int),(a.2:Int),size,n,c,d,r,tags,ch)) lens
  (fun _ _ => R) (fun i a => a = (Yh (lens.take i),Yg (lens.take i)))
  (fun L a hI => by
   rw [Ea] at hI
   subst hI
   exact hend L)
  (fun L i hi a hI hLn => by
   have hgt:(Zh lens).getD (Int.toNat (UD i)) 0 = ((lens[i]:Nat):Int):=by
    rw [Zs (by rw [ZB]; exact hi)]
    simp [Zh]
   have hgt0:(Zh lens).getD (UD i).toNat 0 = ((lens[i]:Nat):Int):=hgt
   have htk:lens.take (i + 1) = lens.take i ++ [lens[i]]:=EH hi
   have hmx:(if (a.2:Int) < ((lens[i]:Nat):Int) then ((lens[i]:Nat):Int) else (a.2:Int)) = ((max a.2 lens[i]:Nat):Int):=by
    split <;> omega
   simp only [YV]
   rw [ZB,Zb (W9 hi)]
   by_cases hz:i = 0
   ·rw [show (UD i == (0:Int)) = true by simp [hz]]
    simp only [cond_true]
    rw [Zb (QV hi),Zb (QV hi),hgt,ZL hi (by omega),hmx]
    refine hLn (lens[i],max a.2 lens[i]) ?_
    rw [htk,Zmi,hI]
    simp [hz,Yh]
   ·rw [show (UD i == (0:Int)) = false by simp [hz]]
    simp only [cond_false]
    have hne:lens.take i ≠ []:=by
     intro h
     have:=congrArg UK h
     rw [Jz,H2] at this
     omega
    rw [Zb (QV hi),hgt,hmx]
    by_cases hlt:lens[i] < a.1
    ·rw [Zb (by omega),Zb (QV hi),Zb (QV hi),ZL hi (by omega)]
     refine hLn (lens[i],max a.2 lens[i]) ?_
     rw [htk,Zmi,Zuj hne,hI]
     rw [hI] at hlt
     simp only at hlt
     rw [Nat.min_eq_right (by omega)]
    ·rw [Zn (by omega),Zb (QV hi),ZL hi (by omega)]
     refine hLn (a.1,max a.2 lens[i]) ?_
     rw [htk,Zmi,Zuj hne,hI]
     rw [hI] at hlt
     simp only at hlt
     rw [Hs (by omega)])
  k 0 (0,0) (by simp [Yh,Yg]) (by omega) (by omega)
 exact key
end prog
end Go.Sh
namespace Go.Sh
open Go Go.Proofs
def ZcX (c d r size n small great:Nat):List Bool:=Za 0 8 ++ Za 34 24 ++ Za size 16 ++ Za size 16 ++ Za small 24 ++ Za great 24 ++ Za r 20 ++ Za (c - 1) 3 ++ Za (d - 1) 5 ++ Za n 36
theorem ZGM {c d r size n small great:Nat} (hn:n < 2 ^ 32):YH XI ++ ZcX c d r size n small great = Zm2 c d r size n small great:=by
 have e1:=Zb2 (n:=n) 4 32 hn
 have z:Za 0 4 = Jd 4 false:=by decide
 have z2:KQ 0 0 34 = Za 0 8 ++ Za 34 24:=by decide
 unfold ZcX Zm2
 simp_all
theorem Zmd (c d r size n small great:Nat):(ZcX c d r size n small great).length = 176:=by simp [ZcX,Zc]
section prog
variable {k:Nat} {tags:List ByteArray} {ch:List (List Int)} {d r:Nat}
noncomputable def Zra (d r:Nat) (ch:List (List Int)) (size:Nat) (lens:List Nat):ByteArray:=WG XI ++ QI (ZE (ZcX ch.length d r size (ch.getD 0 []).length (Yh lens) (Yg lens))) ++ WG (Zf9 d ch)
noncomputable def ZuO (d r:Nat) (tags:List ByteArray) (ch:List (List Int)) (size:Nat) (lens:List Nat):ByteArray :=
 if 2 ≤ lens.length then Zsh (Zra d r ch size lens ++ QI (ZE (Za 3 8 ++ Za (18 * lens.length) 24 ++ Zhb size (ch.getD 0 []).length 0 0 lens))) (Ziw tags) else Zsh (Zra d r ch size lens) (Ziw tags)
theorem KM {α:Type} {n w:Nat} (hk:1000 ≤ k) (hw:w ≤ 64) (hn:n < 9223372036854775808) (K:ByteArray × Unit → Option α):(Qy k ((n:Int),(w:Int),())).bind K = K (Xz (Za n w),()):=by
 rw [Qi k n w (by omega) (by omega) hn]; rfl
theorem ZCY (hk:16777216 ≤ k) (h0:chk (ch.length:Int) (d:Int) (r:Int) tags ch = 0) {size:Nat} {lens:List Nat} (hL:Lens size (ch.getD 0 []).length lens) :
  Zv8 k ((((ch.length:Int),(d:Int),(r:Int),()),tags,ch,()),(size:Int),Zh lens,()) = some (ZuO d r tags ch size lens,()):=by
 obtain ⟨hg,hshape,-,htv,ht8⟩:=XM h0
 have hT:=Good0.tg htv ht8
 have hsh:=of_decide_eq_true hshape
 have hs:=hL.sz
 have hn4:=hg.n4
 have hc1:=hg.c1
 have hll:=hL.len
 have hmin:Yh lens < 65536:=ZGS (by omega) hL.small
 have hmax:Yg lens < 65536:=ZGQ (by omega) hL.small
 show ZdS k _ _ = _
 simp only [ZdS]
 rw [Zb (by simp only [QT]; omega)]
 refine ZSX (by omega) hll _ _ _ ?_
 intro L
 simp only [YV]
 rw [ZB,Zn (XJ _)]
 have e1:Jx.wrap ((ch.length:Int) - 1) = ((ch.length - 1:Nat):Int):=by rw [ZK (by omega)]; omega
 have e2:Jx.wrap ((d:Int) - 1) = ((d - 1:Nat):Int):=by rw [ZK (by omega)]; omega
 rw [e1,e2]
 have sz:∀ bs:List Bool,(Xz bs).size = bs.length:=Zo
 refine (KM (n:=0) (w:=8) (by omega) (by omega) (by omega) _).trans ?_
 refine (KM (n:=34) (w:=24) (by omega) (by omega) (by omega) _).trans ?_
 simp only
 rw [Zb (by simp only [sz,Zc]; omega),Zu]
 refine (KM (n:=size) (w:=16) (by omega) (by omega) (by omega) _).trans ?_
 simp only
 rw [Zb (by simp only [sz,Zc,QZ]; omega),Zu]
 refine (KM (n:=size) (w:=16) (by omega) (by omega) (by omega) _).trans ?_
 simp only
 rw [Zb (by simp only [sz,Zc,QZ]; omega),Zu]
 refine (KM (n:=Yh lens) (w:=24) (by omega) (by omega) (by omega) _).trans ?_
 simp only
 rw [Zb (by simp only [sz,Zc,QZ]; omega),Zu]
 refine (KM (n:=Yg lens) (w:=24) (by omega) (by omega) (by omega) _).trans ?_
 simp only
 rw [Zb (by simp only [sz,Zc,QZ]; omega),Zu]
 refine (KM (n:=r) (w:=20) (by omega) (by omega) (by omega) _).trans ?_
 simp only
 rw [Zb (by simp only [sz,Zc,QZ]; omega),Zu]
 refine (KM (n:=ch.length - 1) (w:=3) (by omega) (by omega) (by omega) _).trans ?_
 simp only
 rw [Zb (by simp only [sz,Zc,QZ]; omega),Zu]
 refine (KM (n:=d - 1) (w:=5) (by omega) (by omega) (by omega) _).trans ?_
 simp only
 rw [Zb (by simp only [sz,Zc,QZ]; omega),Zu]
 refine (KM (n:=(ch.getD 0 []).length) (w:=36) (by omega) (by omega) (by omega) _).trans ?_
 simp only
 rw [Zb (by simp only [sz,Zc,QZ]; omega),Zu]
 rw [show Za 0 8 ++ Za 34 24 ++ Za size 16 ++ Za size 16 ++ Za (Yh lens) 24 ++ Za (Yg lens) 24 ++ Za r 20 ++ Za (ch.length - 1) 3 ++ Za (d - 1) 5 ++ Za (ch.getD 0 []).length 36 = ZcX ch.length d r size (ch.getD 0 []).length (Yh lens) (Yg lens) from rfl]
 have hil:=Zmd ch.length d r size (ch.getD 0 []).length (Yh lens) (Yg lens)
 refine (Zl (ZcL k (ZcX ch.length d r size (ch.getD 0 []).length (Yh lens) (Yg lens)) (by omega) (by omega)) _).trans ?_
 have hp2:(UJ (UT (fun n => UU n.toNat) (ZE (ZcX ch.length d r size (ch.getD 0 []).length (Yh lens) (Yg lens)))).toArray) = QI (ZE (ZcX ch.length d r size (ch.getD 0 []).length (Yh lens) (Yg lens))):=rfl
 have hps:(QI (ZE (ZcX ch.length d r size (ch.getD 0 []).length (Yh lens) (Yg lens)))).size = 22:=by rw [Xf,Z5,hil]
 have hmg:UJ #[102,76,97,67] = WG XI:=rfl
 have hmz:(WG XI).size = 4:=rfl
 simp only [hp2,hps,hmg]
 rw [Zb (by omega),ZCw hk h0]
 simp only [Z9]
 rw [show WG (Zsn (Za3 (nbD (d:Int)) ch (ch.getD 0 []).length)) = WG (Zf9 d ch) from rfl]
 have hsz:(WG (Zf9 d ch)).size = 16:=by rw [Yf,Zda]
 rw [Zb (by simp_all)]
 have hfs:(WG XI ++ QI (ZE (ZcX ch.length d r size (ch.getD 0 []).length (Yh lens) (Yg lens))) ++ WG (Zf9 d ch)).size = 42:=by
  simp_all
 rw [show WG XI ++ QI (ZE (ZcX ch.length d r size (ch.getD 0 []).length (Yh lens) (Yg lens))) ++ WG (Zf9 d ch) = Zra d r ch size lens from rfl] at hfs ⊢
 unfold ZuO
 by_cases h2:2 ≤ lens.length
 ·rw [Zb (by simp only [QT]; omega),if_pos h2]
  have e3:Jx.wrap ((18:Int) * UD lens.length) = ((18 * lens.length:Nat):Int):=by rw [ZK (by simp only [QT]; omega)]; simp
  rw [e3]
  refine (KM (n:=3) (w:=8) (by omega) (by omega) (by omega) _).trans ?_
  refine (KM (n:=18 * lens.length) (w:=24) (by omega) (by omega) (by omega) _).trans ?_
  simp only
  rw [Zb (by simp only [sz,Zc]; omega),Zu]
  exact ZSY (by omega) hT hL hn4 (Za 3 8 ++ Za (18 * lens.length) 24) (by simp only [QZ,Zc]; omega) _ (by omega)
 ·rw [Zn (by simp only [QT]; omega),if_neg h2]
  exact ZzI (by omega) hT _ (by omega)
end prog
end Go.Sh
namespace Go.Sh
open Go Go.Proofs
theorem Zrx {l:List Nat} (h:QL l):ZE (YH l) = Zh l:=by
 have hb:WV (Zh l) = true:=by
  unfold WV Zh
  rw [List.all_eq_true]
  intro x hx
  obtain ⟨n,hn,rfl⟩:=VF.1 hx
  have:=h n hn
  grind
 have e:Q2 (Zh l) = YH l:=by
  unfold Q2 Zh YH
  rw [EK]
  rfl
 rw [← e,Zia hb]
theorem ZXM (l:List Nat):(YH l).length % 8 = 0:=by rw [WH]; omega
theorem Kf {a b:List Nat} (ha:QL a) (hb:QL b):QL (a ++ b):=by
 intro x hx
 rcases List.mem_append.1 hx with h | h
 ·exact ha x h
 ·exact hb x h
theorem ZDD (n i:Nat):QL (K6 n i):=by
 intro x hx
 obtain ⟨j,_,rfl⟩:=VF.1 hx
 exact Nat.mod_lt _ (by omega)
theorem ZXy (tags:List ByteArray):QL (ZrX tags):=by
 intro x hx
 unfold ZrX at hx
 obtain ⟨t,_,ht⟩:=List.mem_flatMap.1 hx
 exact Kf (ZDD _ _) (Zm7 _) x ht
theorem ZVa (tags:List ByteArray):QL (Ziw tags):=by
 unfold Ziw
 refine Kf (Kf (Kf (ZDD _ _) ?_) (ZDD _ _)) (ZXy tags)
 intro x hx
 simp only [ZbL,VL,Uu,or_false] at hx
 omega
theorem ZKK (tags:List ByteArray):(Ziw tags).length = 15 + ZrY tags:=by
 unfold Ziw
 simp only [QZ,QJ,ZQL,ZbL,JF,H2]
theorem ZRi (tags:List ByteArray):XN tags = (Za 132 8 ++ Za (Ziw tags).length 24) ++ YH (Ziw tags):=by
 have z:Za 1 1 ++ Za 4 7 = Za 132 8:=by decide
 unfold XN KQ
 rw [ZKK,z,ZJ9]
 rfl
theorem ZJ8 (size n:Nat) (lens:List Nat):Zga size n lens = if 2 ≤ lens.length then Za 3 8 ++ Za (18 * lens.length) 24 ++ Zhb size n 0 0 lens else []:=by
 rfl
theorem ZmC (l:List Nat):QI (Zh l) = WG l:=rfl
theorem ZHj {ch:List (List Int)} (hn:(ch.getD 0 []).length < 2 ^ 32) (d r:Nat) (tags:List ByteArray) (size:Nat) (lens:List Nat):ZuO d r tags ch size lens = QI (Zue d r tags ch size lens):=by
 have hmb:QL XI:=by
  intro x hx
  simp only [XI,VL,Uu,or_false] at hx
  omega
 have hi8:(ZcX ch.length d r size (ch.getD 0 []).length (Yh lens) (Yg lens)).length % 8 = 0:=by rw [Zmd]
 have fr:Zra d r ch size lens = QI (ZE (Zm2 ch.length d r size (ch.getD 0 []).length (Yh lens) (Yg lens) ++ YH (Zf9 d ch))):=by
  unfold Zra
  rw [← ZGM hn,KH (by rw [QZ]; have:=ZXM XI; omega),KH (ZXM _),Zrx hmb,Zrx (ZXx d ch),← WR,← WR,ZmC,ZmC]
 have hf8:(Zm2 ch.length d r size (ch.getD 0 []).length (Yh lens) (Yg lens) ++ YH (Zf9 d ch)).length % 8 = 0:=by
  rw [← ZGM hn]
  simp only [QZ,WH,Zmd]; omega
 have h32:(Za 132 8 ++ Za (Ziw tags).length 24).length % 8 = 0:=by simp [Zc]
 have en:∀ X:List Bool,X.length % 8 = 0 → Zsh (QI (ZE X)) (Ziw tags) = QI (ZE (X ++ XN tags)):=by
  intro X hX
  unfold Zsh
  rw [ZRi,KH hX,KH h32,Zrx (ZVa tags),← WR,← WR,ZmC,ByteArray.append_assoc]
 unfold Zue ZeA ZuO
 rw [ZJ8]
 have htab:(Zhb size (ch.getD 0 []).length 0 0 lens).length % 8 = 0:=by rw [ZrW]; omega
 by_cases h2:2 ≤ lens.length
 ·rw [if_pos h2,if_pos h2,fr,WR,← KH hf8]
  grind [QZ,Zc]
 grind
end Go.Sh
namespace Go.Sh
open Go Go.Proofs
theorem ZoV {α:Type} (f:α → Nat):∀ (l:List α),(∀ x ∈ l,1 ≤ f x) → l.length ≤ (l.map f).sum ∧ ∀ x ∈ l,f x ≤ (l.map f).sum
 | [],_ => by simp
 | a :: l,h => by
  have ih:=ZoV f l (fun x hx => h x (by simp [hx]))
  have ha:=h a (by simp)
  simp only [JR,List.sum_cons,JF]
  refine ⟨by omega,fun x hx => ?_⟩
  rcases VL.1 hx with rfl | hx
  ·omega
  ·have:=ih.2 x hx; omega
theorem ZAW {c d r:Int} {tags:List ByteArray} {ch:List (List Int)} (h:Ty.bulk trackT ((c,d,r,()),tags,ch,()) ≤ 1048576):Small tags ch:=by
 have h1:(3:Nat) + (((tags.map (Ty.bulk .str)).sum + 1) + (((ch.map (Ty.bulk (.sl (.int .i64)))).sum + 1) + 0)) ≤ 1048576:=h
 have t:=ZoV (Ty.bulk .str) tags (fun x _ => by simp only [Ty.bulk]; omega)
 have s:=ZoV (Ty.bulk (.sl (.int .i64))) ch (fun x _ => by simp only [Ty.bulk]; omega)
 refine ⟨by omega,fun x hx => ?_,by omega,fun x hx => ?_⟩
 ·have h2:=t.2 x hx
  have h3:Ty.bulk .str x = x.size + 1:=rfl
  omega
 ·have h2:=s.2 x hx
  have h3:Ty.bulk (.sl (.int .i64)) x = (x.map (Ty.bulk (.int .i64))).sum + 1:=rfl
  have h4:=ZoV (Ty.bulk (.int .i64)) x (fun y _ => by simp only [Ty.bulk]; omega)
  omega
end Go.Sh
namespace Go.Sh
open Go Go.Proofs
section prog
variable {k:Nat} {c d r:Int} {tags:List ByteArray} {ch:List (List Int)}
theorem ZCA (hk:16777216 ≤ k) (hS:Small tags ch) (s:Int):ZvX k (((c,d,r,()),tags,ch,()),s,()) =
  if chk c d r tags ch = 0 then (if 16 ≤ s ∧ s ≤ 512 then some ((QI (Zgk c d r tags ch s.toNat),0,()),()) else some ((UJ #[],1,()),())) else some ((UJ #[],chk c d r tags ch,()),()):=by
 show ZdO k (Zjf k) _ = _
 simp only [ZdO]
 rw [Zp4 hk hS]
 by_cases h0:¬ chk c d r tags ch = 0
 ·grind
 have h0:=Decidable.not_not.1 h0
 rw [if_pos h0,if_pos h0]
 by_cases hs:¬ (16 ≤ s ∧ s ≤ 512)
 ·rw [if_neg hs,if_neg hs]; rfl
 have hs:=Decidable.not_not.1 hs
 rw [if_pos hs,if_pos hs]
 simp only [Z9]
 rw [ZU,Zn (by simp)]
 obtain ⟨size,rfl⟩:=Vp (show 0 ≤ s by omega)
 have hs2:16 ≤ size ∧ size ≤ 512:=by omega
 obtain ⟨hg,hshape,-,htv,ht8⟩:=XM h0
 have hT:=Good0.tg htv ht8
 have hsh:=of_decide_eq_true hshape
 obtain ⟨dn,rfl⟩:=Vp (show 0 ≤ d by omega)
 obtain ⟨rn,rfl⟩:=Vp (show 0 ≤ r by omega)
 have hcl:=hg.cl
 subst hcl
 have hn4:=hg.n4
 have hLn:=ZAA (c:=(ch.length:Int)) (d:=(dn:Int)) (r:=(rn:Int)) hs2 rfl hn4
 simp only [Yi]
 generalize hC:Zk3 (ch.length:Int) (dn:Int) (rn:Int) ch size = C
 have hCl:C.length ≤ 256:=by rw [← hC,ZeH]; exact K5 hs2.1 hn4
 have hCs:∀ x ∈ C,x.length ≤ 5000:=by rw [← hC]; exact ZhC
 have hCf:=Zxk hCs
 have hlen:Zhh (ch.length:Int) (dn:Int) (rn:Int) ch size = C.map UK:=by unfold Zhh; rw [hC]
 have hal:=Zo4 (d:=dn) (r:=rn) (ch:=ch) (size:=size) hT hLn.len
 have key:=Zi (A:=List Int × List Nat) (step:=fun L1 => Zar k L1) (fun i a => (UD i,C.map QI,QI a.1,(size:Int),Zh a.2,(ch.length:Int),(dn:Int),(rn:Int),tags,ch)) (C.map QI)
  (fun _ _ => some ((QI (Zgk (ch.length:Int) (dn:Int) (rn:Int) tags ch size),0,()),())) (fun i a => a = ((C.take i).flatten,(C.take i).map UK))
  (fun L a hI => by
   simp only [Zar]
   rw [Ed,Ea] at hI
   subst hI
   rw [Zn (XJ _)]
   simp only
   rw [← hlen,ZCY hk h0 hLn,ZHj (by omega)]
   simp only [Z9]
   have hpl:(Zue dn rn tags ch size (Zhh (ch.length:Int) (dn:Int) (rn:Int) ch size)).length ≤ 10000:=by
    show (ZE _).length ≤ _
    rw [Z5]; omega
   rw [Zb (by rw [Xf,Xf]; omega),WR]
   unfold Zgk
   rw [hC]
   rfl)
  (fun L i hi a hI hL => by
   have hi2:i < C.length:=by rw [Ed] at hi; exact hi
   simp only [Zar]
   have h5:=hCs _ (Ha hi2)
   have hfl:=Zd4 (l:=C) i
   subst hI
   rw [Zb (W9 hi),Zb (QV hi),Zs hi,Zb (by simp [Zh]; omega),Zb (QV hi)]
   simp only [EM]
   rw [Zb (by rw [Xf,Xf]; omega),ZL hi (by rw [Ed]; omega),WR,Xf]
   have e1:(C.take i).flatten ++ C[i] = (C.take (i + 1)).flatten:=(Zma hi2).symm
   have e2:Zh ((C.take i).map UK) ++ [UD C[i].length] = Zh ((C.take (i + 1)).map UK):=by
    rw [EH hi2,EC]
    unfold Zh
    rw [EC]
    rfl
   simp_all)
  k 0 ([],[]) rfl (by rw [Ed]; omega) (by omega)
 exact key
theorem ZhJ (hk:1000 ≤ k) (e:Int) (C:List (List Int)) (hC:C.length ≤ 256) (E:List Int) :
  (bif e != e then some (false,()) else bif UD (UK (C.map QI)) != UD (UK C) then some (false,()) else bif e != e then some (false,()) else bif !(UJ (UT (fun n => UU n.toNat) E).toArray).toList == ByteArray.toList (QI E) then some (false,()) else ZeW k ((0:Int),C.map QI,C)) = some (true,()):=by
 rw [show (e != e) = false by simp,show (UD (UK (C.map QI)) != UD (UK C)) = false by simp]
 simp only [cond_false]
 rw [show (UJ (UT (fun n => UU n.toNat) E).toArray) = QI E from rfl,ZKC,dTr rfl]
 simp only [HF,cond_false]
 have:=Qm (A:=Unit) (step:=fun L1 => Zag k L1) (fun i _ => (UD i,C.map QI,C)) C (fun _ _ => some (true,()))
  (fun L _ => by grind [Zag,Ed])
  (fun L i hi _ hL => by
   simp only [Zag,Ed]
   rw [Zb (W9 hi),Zb (QV hi),Zb (QV hi),Zs (by rw [Ed]; exact hi),Zs hi]
   rw [show (UJ (UT (fun n => UU n.toNat) C[i]).toArray) = QI C[i] from rfl,ZKC,EM,dTr rfl]
   simp only [HF,cond_false]
   rw [ZL hi (by omega)]
   exact hL ()) k 0 () (by omega) (Ht _)
 exact this
theorem ZCa (hkn:ZgS k () = some (true,())) (hk2:20000000 ≤ k) (hS:Small tags ch) (s:Int):f2004_F k (((c,d,r,()),tags,ch,()),s,()) = some (true,()):=by
 have hk:16777216 ≤ k:=by omega
 show Zdw k (ZeW k) _ = _
 simp only [Zdw]
 rw [hkn]
 simp only [Z9,HF,cond_false]
 have e18:∃ b,ZvW k (((c,d,r,()),tags,ch,()),()) = some (b,()):=by
  show ∃ b,ZhL k _ = some (b,())
  grind [ZhL,QT]
 obtain ⟨b,hb⟩:=e18
 rw [hb]
 simp only [Z9]
 cases b with
 | true => rfl
 | false =>
  simp only [cond_false]
  rw [Zp4 hk hS,ZCA hk hS,ZCp hk hS]
  by_cases h0:¬ chk c d r tags ch = 0
  ·rw [if_neg h0,if_neg h0]
   simp only [Z9]
   rw [ZdN hk hS,ZhM hk hS,if_neg h0,if_neg h0]
   simp only [Z9]
   exact ZhJ (by omega) (chk c d r tags ch) [] (by simp) []
  have h0:=Decidable.not_not.1 h0
  rw [if_pos h0,if_pos h0]
  by_cases hs:¬ (16 ≤ s ∧ s ≤ 512)
  ·rw [if_neg hs,if_neg hs]
   simp only [Z9]
   rw [ZdN hk hS,ZhM hk hS,if_pos h0,if_pos h0,if_neg hs,if_neg hs]
   simp only [Z9]
   exact ZhJ (by omega) 1 [] (by simp) []
  have hs:=Decidable.not_not.1 hs
  rw [if_pos hs,if_pos hs]
  simp only [Z9]
  rw [ZdN hk hS,ZhM hk hS,if_pos h0,if_pos h0,if_pos hs,if_pos hs]
  simp only [Z9]
  obtain ⟨hg,-⟩:=XM h0
  have hC:(Zk3 c d r ch s.toNat).length ≤ 256:=by rw [ZeH]; exact K5 (by omega) hg.n4
  exact ZhJ (by omega) 0 (Zk3 c d r ch s.toNat) hC (Zgk c d r tags ch s.toNat)
end prog
theorem exports_plain:∀ x:Kd.dens (W4 [trackT,.int .i64]),ZGX [trackT,.int .i64] x → Zir [trackT,.int .i64] x ≤ 1048576 → ∃ k u,f2004_F k x = some (true,u):=by
 rintro ⟨⟨⟨c,d,r,⟨⟩⟩,tags,ch,⟨⟩⟩,s,⟨⟩⟩ _ hb
 have hb:Ty.bulk trackT ((c,d,r,()),tags,ch,()) + (1 + 0) ≤ 1048576:=hb
 have hb1:Ty.bulk trackT ((c,d,r,()),tags,ch,()) ≤ 1048576:=by omega
 exact ⟨20000000,(),ZCa ZQh (Nat.le_refl _) (ZAW hb1) s⟩
end Go.Sh
