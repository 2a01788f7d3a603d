/-
  What the row needs, part 9.
-/
import Derived.Test.YtgbhjfacjekhcaaGreatDoorXStreamApart8
import Derived.Below
import Derived.Shelf.Strings.Search2
import Derived.Shelf.Strings.SlTrimAscii
import Derived.Shelf.Strings.FuncGrows
import Derived.Shelf.Spec.SlicesGrow
set_option linter.unusedSimpArgs false
set_option linter.unusedVariables false
set_option linter.unusedSectionVars false
open Array renaming getElem?_eq_none→VW
open Bool renaming and_eq_true→Jh,true_and→UC
open Go.Builtin renaming zeroCells→Jl
open Int renaming ofNat→UJ,toNat_of_nonneg→UK
open List renaming all_cons→UA,all_eq_true→Vf,drop_eq_getElem_cons→Ul,drop_eq_nil_of_le→UL,drop_length→UM
open Nat renaming lt_or_ge→VN,le_refl→Jj,le_of_ble_eq_true→Jt
open Option renaming bind_eq_some_iff→Uy,some→VF
namespace Go.Sh
open Go
variable [Gl]
variable {P:Program} {ρ:Shelf.Ren} {w:World} {lim:Nat → Nat}
theorem ZAb (w:World) (o:Obj):(w.alloc o).heap[w.heap.size]? = some o:=by unfold World.alloc; simp
theorem ZFN {w':World} (hlz:∀ b,w.heap.size ≤ b → lim b = 0) (hB:RowKit.Below w.heap.size w w'):Ext w lim w' lim :=
 ⟨hB.size,fun b' o ho => by
  have hb':b' < w.heap.size:=by
   rcases VN b' w.heap.size with h' | h'
   ·exact h'
   ·have:=hlz b' h'; omega
  simp [World.cell?,hB.block b' hb'],fun _ _ h => h,fun b' T hT => by
  have hb':b' < w.heap.size:=by
   rcases VN b' w.heap.size with h' | h'
   ·exact h'
   ·simp [Q5,VW h'] at hT
  simpa [Q5,hB.block b' hb'] using hT,NF.keep hlz hB.block⟩
theorem Ztr {w0 w':World} {lim':Nat → Nat}:(ks:List Kd) → (vs:List Value) → {bs:List Nat} → TL w lim' ks vs [] bs → YD w0 w' ks vs
 | [],vs,_,_ => by cases vs <;> simp [YD]
 | k :: ks,[],_,_ => by cases k <;> simp [YD]
 | k :: ks,v :: vs,bs,h => by
  cases k with
  | box l => simp [TL] at h
  | bld T => simp [TL] at h
  | _ => simp only [TL] at h; simp only [YD]; exact Ztr ks vs h
theorem Yk {w':World} {vs:List Value} {bs b1:List Nat} {pk:List Kd} {x:RV} {v:Value} (hlz:∀ b,w.heap.size ≤ b → lim b = 0) (hB:RowKit.Below w.heap.size w w')
  (hT:TT w' lim x v b1) (hL:TL w' lim (ZJ pk) (Wv pk vs) [] []) (hnd:b1.Nodup) (h1:∀ b ∈ b1,b ∈ bs ∨ w.heap.size ≤ b):Zre w lim vs bs pk (x,[]) (.returned v) w' :=
 ⟨v,lim,b1,[],rfl,ZFN hlz hB,fun b hb => hlz b (Nat.le_trans hB.size hb),⟨hB.os,hB.tape,hB.output⟩,fun b hb _ => ⟨hB.block b hb,rfl⟩,hT,hL,Ztr _ _ hL,by simpa using hnd,by simpa using h1⟩
theorem Zfx {s:ByteArray} {v:Value} {bs:List Nat} (h:TT w lim (.view .str s) v bs):v = .string s ∧ bs = []:=by
 simp only [TT,Zbd,Rt] at h
 obtain ⟨⟨cs,rfl,h⟩,rfl⟩:=h
 rcases h with ⟨h,_⟩ | ⟨_,h⟩
 ·cases h
 ·simp at h; exact ⟨h.symm,rfl⟩
theorem Zra {k:IntKind} {n:Int} {v:Value} {bs:List Nat} (h:TT w lim (.view (.int k) n) v bs):v = .int k n ∧ bs = []:=by
 simp only [TT,Zbd,Rt] at h
 obtain ⟨⟨cs,rfl,h⟩,rfl⟩:=h
 rcases h with ⟨h,_⟩ | ⟨_,h⟩
 ·cases h
 ·simp at h; exact ⟨h.symm,rfl⟩
theorem ZH9 {b:Bool} {v:Value} {bs:List Nat} (h:TT w lim (.view .bool b) v bs):v = .bool b ∧ bs = []:=by
 simp only [TT,Zbd,Rt] at h
 obtain ⟨⟨cs,rfl,h⟩,rfl⟩:=h
 rcases h with ⟨h,_⟩ | ⟨_,h⟩
 ·cases h
 ·simp at h; exact ⟨h.symm,rfl⟩
theorem ZNl (s:ByteArray):TT w lim (.view .str s) (.string s) []:=by
 simp only [TT]; exact ⟨⟨_,rfl,.inr ⟨rfl,rfl⟩⟩,trivial⟩
theorem Zfb (k:IntKind) (n:Int):TT w lim (.view (.int k) n) (.int k n) []:=by
 simp only [TT]; exact ⟨⟨_,rfl,.inr ⟨rfl,rfl⟩⟩,trivial⟩
def ZQ4 (l:List UInt8):Option UInt8:=match l with
 | [c] => some c
 | _ => none
def ZB9 (x:ByteArray × ByteArray × Unit):Option (Int × Unit):=(ZQ4 x.2.1.data.toList).bind fun c => some (Lib.indexByte x.1.data.toList c,())
theorem ZHD (L:Proofs.Lays.n219 P ρ) {k f:Nat} {fn:Func} (hf:ρ.f 219 = f) (hfn:P.funcs[f]? = some fn) (hname:(fn.name == "runtime.NumGoroutine") = false) (hbody:fn.body.isNone = false) :
  Ctr P k f (mk [.view .str,.view .str] (.view (.int .i64)) fun _ x => ZB9 x) where
 enters:=⟨fn,hfn,hname,hbody⟩
 calls:=by
  intro rvs x hx w lim vs bs hlz hgl hT0 hnd hbs
  simp only [mk] at hx
  obtain ⟨y,hy1,hy2⟩:=Uy.1 hx
  have hrv:=QD [.view .str,.view .str] rvs y hy1
  obtain ⟨s,sub,u⟩:=y
  subst hrv
  unfold ZB9 at hy2
  obtain ⟨c,hc,hy2⟩:=Uy.1 hy2
  obtain rfl:=(VF.inj hy2).symm
  have hsub:sub = ⟨#[c]⟩:=by
   obtain ⟨⟨l⟩⟩:=sub
   have hc':ZQ4 l = some c:=hc
   match l,hc' with
   | [d],hc' => cases hc'; rfl
  subst hsub
  show Calls P f vs.toArray w (Zre w lim vs bs [.view .str,.view .str] (.view (.int .i64) (Lib.indexByte s.data.toList c),[]))
  simp only [Wf,enc] at hT0
  match vs,hT0 with
  | [v1,v2],hT0 =>
   simp only [TTs] at hT0
   obtain ⟨b1,b2,rfl,h1,b3,b4,rfl,h2,rfl⟩:=hT0
   obtain ⟨rfl,rfl⟩:=Zfx h1
   obtain ⟨rfl,rfl⟩:=Zfx h2
   subst hf
   refine (Proofs.Any.stringslite_Index_one L s c w).mono ?_
   rintro e w' ⟨rfl,rfl⟩
   exact Yk hlz (RowKit.Below.refl _ _) (Zfb _ _) (by simp [TL,ZJ,Wv]) (by simp) (by simp)
def ZzN (x:ByteArray × ByteArray × Unit):Option (ByteArray × Unit) :=
 bif Nat.blt x.1.size 1099511627776 && (Nat.blt x.2.1.size 2147483648 && x.2.1.data.toList.all (fun b => decide (b.toNat < 128))) then some (⟨(Lib.trimS x.1.data.toList x.2.1.data.toList).toArray⟩,()) else none
theorem ZNy (L:Proofs.Lays.n160 P ρ) (h116:(P.info? (ρ.t 116)).map (fun i => (i.zero,i.size)) = some (some (.agg (Array.replicate 256 (.bool false))),256)) {k f:Nat} {fn:Func} (hf:ρ.f 160 = f) (hfn:P.funcs[f]? = some fn) (hname:(fn.name == "runtime.NumGoroutine") = false) (hbody:fn.body.isNone = false) :
  Ctr P k f (mk [.view .str,.view .str] (.view .str) fun _ x => ZzN x) where
 enters:=⟨fn,hfn,hname,hbody⟩
 calls:=by
  intro rvs x hx w lim vs bs hlz hgl hT0 hnd hbs
  simp only [mk] at hx
  obtain ⟨y,hy1,hy2⟩:=Uy.1 hx
  have hrv:=QD [.view .str,.view .str] rvs y hy1
  obtain ⟨s,sub,u⟩:=y
  subst hrv
  unfold ZzN at hy2
  simp only at hy2
  cases hb:(Nat.blt s.size 1099511627776 && (Nat.blt sub.size 2147483648 && sub.data.toList.all (fun b => decide (b.toNat < 128)))) with
  | false => rw [hb] at hy2; cases hy2
  | true =>
   rw [hb] at hy2
   obtain rfl:=(VF.inj hy2).symm
   simp only [Jh] at hb
   have hs:=Jt hb.1
   have hs2:=Jt hb.2.1
   show Calls P f vs.toArray w (Zre w lim vs bs [.view .str,.view .str] (.view .str _,[]))
   simp only [Wf,enc] at hT0
   match vs,hT0 with
   | [v1,v2],hT0 =>
    simp only [TTs] at hT0
    obtain ⟨b1,b2,rfl,h1,b3,b4,rfl,h2,rfl⟩:=hT0
    obtain ⟨rfl,rfl⟩:=Zfx h1
    obtain ⟨rfl,rfl⟩:=Zfx h2
    subst hf
    refine (Proofs.Any.strings_Trim_laid L h116 s sub w (by omega) (by omega) (Proofs.ascii_of_all hb.2.2)).mono ?_
    rintro e w' ⟨rfl,hB⟩
    exact Yk hlz hB (ZNl _) (by simp [TL,ZJ,Wv]) (by simp) (by simp)
def ZPz (p:Nat → Bool) (x:ByteArray × Unit × Unit):Option (Int × Unit):=some (Lib.idxFunc p true x.1,())
theorem ZPA (L:Proofs.LaysGw.n15 P ρ) {k f g:Nat} {fn:Func} {p:Nat → Bool} {F:Nat → Int × Unit → Option (Bool × Unit)} (hg:Ctr P k g (mk [.view (.int .i32)] (.view .bool) F)) (hp:∀ n:Nat,F k ((n:Int),()) = some (p n,()))
  (hf:ρ.f 15 = f) (hfn:P.funcs[f]? = some fn) (hname:(fn.name == "runtime.NumGoroutine") = false) (hbody:fn.body.isNone = false) :
  Ctr P k f (mk [.view .str,.fn g] (.view (.int .i64)) fun _ x => ZPz p x) where
 enters:=⟨fn,hfn,hname,hbody⟩
 calls:=by
  intro rvs x hx w lim vs bs hlz hgl hT0 hnd hbs
  simp only [mk] at hx
  obtain ⟨y,hy1,hy2⟩:=Uy.1 hx
  have hrv:=QD [.view .str,.fn g] rvs y hy1
  obtain ⟨s,u1,u⟩:=y
  subst hrv
  obtain rfl:=(VF.inj hy2).symm
  show Calls P f vs.toArray w (Zre w lim vs bs [.view .str,.fn g] (.view (.int .i64) _,[]))
  simp only [Wf,enc] at hT0
  match vs,hT0 with
  | [v1,v2],hT0 =>
   simp only [TTs] at hT0
   obtain ⟨b1,b2,rfl,h1,b3,b4,rfl,h2,rfl⟩:=hT0
   obtain ⟨rfl,rfl⟩:=Zfx h1
   simp only [TT] at h2
   obtain ⟨rfl,rfl⟩:=h2
   subst hf
   obtain ⟨fg,hg1,hg2,hg3⟩:=hg.enters
   have hgE:∀ args w,(callFunc g args).run P w = .ok (.enter g args) w:=by
    intro args w
    cases hbd:fg.body with
    | none => rw [hbd] at hg3; cases hg3
    | some c => exact Proofs.enters_of hg1 hg2 hbd args w
   have hPG:Proofs.PredGrows P g #[] p w:=by
    intro W x hx hB
    have hE0:Ext w lim W lim:=⟨hB.size,fun b o ho => by
     have hb:b < w.heap.size:=by
      rcases VN b w.heap.size with h' | h'
      ·exact h'
      ·rw [hlz b h'] at ho; omega
     simp [World.cell?,hB.block b hb],fun _ _ h => h,fun b T hT => by
     have hb:b < w.heap.size:=by
      rcases VN b w.heap.size with h' | h'
      ·exact h'
      ·simp [Q5,VW h'] at hT
     simpa [Q5,hB.block b hb] using hT,NF.keep hlz hB.block⟩
    have h0:=hg.calls (Wf [.view (.int .i32)] ((x:Int),())) (p x,()) (by
     have e1:Zb1 [.view (.int .i32)] (Wf [.view (.int .i32)] ((x:Int),())) = some ((x:Int),()):=by
      simp only [Wf,enc,Zb1,dec,Zj5]; rfl
     show (Zb1 [.view (.int .i32)] (Wf [.view (.int .i32)] ((x:Int),()))).bind (F k) = _
     rw [e1]; exact hp x) W lim [.int .i32 x] [] (fun b hb => hlz b (Nat.le_trans hB.size hb)) (hgl.mono hE0) (by
      simp only [Wf,enc,TTs]
      exact ⟨[],[],rfl,Zfb _ _,rfl⟩) (by simp) (by simp)
    refine h0.mono ?_
    rintro e w' ⟨v,lim',b1,b2,rfl,hE,_,⟨o1,o2,o3⟩,hblk,hT,_,_,_⟩
    have hT':TT w' lim' (.view .bool (p x)) v b1:=hT
    obtain ⟨rfl,_⟩:=ZH9 hT'
    exact ⟨rfl,o1,o2,o3,hE.size,fun j hj => (hblk j hj (by simp)).1⟩
   refine (Proofs.Any.strings_IndexFunc_grows L g #[] (fun args w => hgE args w) p s w hPG).mono ?_
   rintro e w' ⟨rfl,hB⟩
   exact Yk hlz hB (Zfb _ _) (by simp [TL,ZJ,Wv]) (by simp) (by simp)
def ZyW (x:Value × Int × Unit):Option (List Int × Unit):=bif KM x.1 && Zqg x.2.1 then some ([],()) else none
theorem ZMt (L:Proofs.Lays8.n4 P ρ) (i0:TypeInfo) (hi0:P.info? ZH7 = some i0) (hz0:i0.zero = some (.int .u8 0)) (hs0:i0.size = 1) (hb0:i0.bytes = 1) (h25:ρ.t 25 = ZH7) {k f:Nat} {fn:Func} (hf:ρ.f 4 = f) (hfn:P.funcs[f]? = some fn) (hname:(fn.name == "runtime.NumGoroutine") = false) (hbody:fn.body.isNone = false) :
  Ctr P k f (mk [.view .raw,.view (.int .i64)] (.own (.int .u8) false) fun _ x => ZyW x) where
 enters:=⟨fn,hfn,hname,hbody⟩
 calls:=by
  intro rvs x hx w lim vs bs hlz hgl hT0 hnd hbs
  simp only [mk] at hx
  obtain ⟨y,hy1,hy2⟩:=Uy.1 hx
  have hrv:=QD [.view .raw,.view (.int .i64)] rvs y hy1
  obtain ⟨v0,n,u⟩:=y
  subst hrv
  unfold ZyW at hy2
  simp only at hy2
  cases hb:(KM v0 && Zqg n) with
  | false => rw [hb] at hy2; cases hy2
  | true =>
   rw [hb] at hy2
   obtain rfl:=(VF.inj hy2).symm
   rw [Jh] at hb
   obtain ⟨hb1,hb2⟩:=hb
   have hv0:=YN hb1
   obtain ⟨m,hm,hm31⟩:∃ m:Nat,n = UJ m ∧ m < 2147483648:=by
    have hn:=Zqh hb2
    exact ⟨Int.toNat n,by have:=UK hn.1; exact this.symm,by have:=UK hn.1; omega⟩
   subst hm
   show Calls P f vs.toArray w (Zre w lim vs bs [.view .raw,.view (.int .i64)] (.own (.int .u8) false [],[]))
   simp only [Wf,enc] at hT0
   match vs,hT0 with
   | [v1,v2],hT0 =>
    simp only [TTs] at hT0
    obtain ⟨b1,b2,rfl,h1,b3,b4,rfl,h2,rfl⟩:=hT0
    obtain ⟨rfl,rfl⟩:=Zra h2
    simp only [TT,Zbd,Rt] at h1
    obtain ⟨⟨cs,⟨rfl,_⟩,h1⟩,rfl⟩:=h1
    have hv1:v1 = .slice none 0 0:=by
     rcases h1 with ⟨h,_⟩ | ⟨_,h⟩
     ·cases h
     ·rw [hv0] at h; cases h; rfl
    subst hv1
    subst hf
    by_cases hm:m = 0
    ·subst hm
     refine (Proofs.Any8.slices_Grow_room L none 0 0 0 w (by omega) (by omega) (by omega) (by omega)).mono ?_
     rintro e w' ⟨rfl,rfl⟩
     refine Yk hlz (RowKit.Below.refl _ _) ?_ (by simp [TL,ZJ,Wv]) (b1:=[]) (by simp) (by simp)
     simp only [TT]
     exact ⟨by simp [Ty.size],.inl ⟨rfl,rfl,rfl⟩⟩
    ·refine (Proofs.Any8.slices_Grow_grow L i0 (.int .u8 0) (by rw [h25]; exact hi0) hz0 (by omega) none 0 0 m [] w (by omega) (by omega) (by rw [hb0]; omega) (by omega) (by simp) (fun _ => rfl) (fun a h => by cases h)).mono ?_
     rintro e w' ⟨rfl,rfl⟩
     have hge:=grownCap_ge w (0 + m) 0 (ρ.t 25)
     have hle:=grownCap_le_maxLen w (0 + m) 0 (ρ.t 25) (by simp only [maxLen]; omega)
     simp only [maxLen] at hle
     generalize grownCap w (0 + m) 0 (ρ.t 25) = cap at hge hle ⊢
     refine Yk hlz ((RowKit.Below.drew (RowKit.Below.refl _ w)).alloc (Jj _) _) ?_ (by simp [TL,ZJ,Wv]) (b1:=[w.heap.size]) (by simp) (by simp)
     simp only [TT]
     refine ⟨by simp [Ty.size],.inr ⟨w.heap.size,0,cap,_,ρ.t 25,(0,0),rfl,Nat.zero_le _,ZAb w.drew _,?_,⟨fun o ho => by simp,by rw [h25]; rfl,Jj _,by simp [Ty.size,Jl,Value.cells]; omega⟩,fun i hi => absurd hi (by simp),hlz _ (Jj _),rfl⟩⟩
     simp [Ty.size,Jl,Value.cells]
     omega
end Go.Sh
namespace Go.Sh
open Go
theorem Qv {V R α A:Type} {step:(V → Option R) → V → Option R} (at_:Nat → A → V) (xs:List α) (G:List α → A → Option R)
  (h0:∀ L a,step L (at_ xs.length a) = G [] a)
  (h1:∀ L i (hi:i < xs.length) a,(∀ a',L (at_ (i + 1) a') = G (xs.drop (i + 1)) a') → step L (at_ i a) = G (xs[i] :: xs.drop (i + 1)) a) :
  ∀ k i a,xs.length < k + i → i ≤ xs.length → Zh step k (at_ i a) = G (xs.drop i) a
 | 0,i,a,hk,hi => by omega
 | k + 1,i,a,hk,hi => by
  rw [Zd]
  by_cases he:i = xs.length
  ·subst he
   rw [h0,UM]
  ·have hi':i < xs.length:=by omega
   rw [h1 _ i hi' a fun a' => Qv at_ xs G h0 h1 k (i + 1) a' (by omega) hi',Ul hi']
theorem Zs {V R α A:Type} {step:(V → Option R) → V → Option R} (at_:Nat → A → V) (xs:List α) (G:List α → A → Option R) (I:Nat → A → Prop)
  (h0:∀ L a,I xs.length a → step L (at_ xs.length a) = G [] a)
  (h1:∀ L i (hi:i < xs.length) a,I i a → (∀ a',I (i + 1) a' → L (at_ (i + 1) a') = G (xs.drop (i + 1)) a') → step L (at_ i a) = G (xs[i] :: xs.drop (i + 1)) a) :
  ∀ k i a,I i a → xs.length < k + i → i ≤ xs.length → Zh step k (at_ i a) = G (xs.drop i) a
 | 0,i,a,_,hk,hi => by omega
 | k + 1,i,a,hI,hk,hi => by
  rw [Zd]
  by_cases he:i = xs.length
  ·subst he
   rw [h0 _ _ hI,UM]
  ·have hi':i < xs.length:=by omega
   rw [h1 _ i hi' a hI fun a' ha' => Zs at_ xs G I h0 h1 k (i + 1) a' ha' (by omega) hi',Ul hi']
theorem Zai {V R α:Type} {step:(V → Option R) → V → Option R} (at_:Nat → V) (xs:List α) (p:α → Bool) (out last:Option R)
  (h0:∀ L,step L (at_ xs.length) = last)
  (h1:∀ L i (hi:i < xs.length),step L (at_ i) = bif p xs[i] then L (at_ (i + 1)) else out)
  (k:Nat) (hk:xs.length < k):Zh step k (at_ 0) = bif xs.all p then last else out:=by
 have:=Qv (A:=Unit) (fun i _ => at_ i) xs (fun l _ => bif l.all p then last else out) (fun L _ => h0 L) (fun L i hi _ hL => by
  rw [h1 L i hi,hL ()]
  simp only [UA]
  cases p xs[i] <;> rfl) k 0 () (by omega) (Nat.zero_le _)
 simpa using this
theorem ZE {α:Type} {l:List α} {i:Nat} {d:α} (h:i < l.length):l.getD (Int.toNat (UJ i)) d = l[i]:=by
 simp [List.getD_eq_getElem?_getD,h]
theorem Qc {i n:Nat} (h:i < n) (hn:n ≤ 4294967296):IntKind.i64.wrap (UJ i + 1) = UJ (i + 1):=by
 rw [Z2 (by simp only [QY]; omega)]; rfl
theorem Ya {i n:Nat} (h:i < n):(0:Int) ≤ UJ i ∧ UJ i < UJ n:=by simp only [QY]; omega
theorem KX {i n:Nat} (h:i < n):UJ i < UJ n:=by simp only [QY]; omega
theorem Zaa (n:Nat):¬ UJ n < UJ n:=by simp only [QY]; omega
theorem ZgD {α:Type} {p:α → Bool}:∀ {l:List α},l.dropWhile p = [] ↔ l.all p = true
 | [] => by simp
 | a :: l => by
  simp only [List.dropWhile_cons,UA]
  cases h:p a with
  | true => simp only [if_true,UC]; exact ZgD
  | false => simp
theorem ZH5 (l cs:List UInt8):Lib.trimS l cs = [] ↔ l.all (cs.contains ·) = true:=by
 unfold Lib.trimS Lib.trimLeftS Lib.trimRightS
 rw [ZgD]
 simp only [List.all_reverse]
 constructor
 ·intro h
  rw [Vf] at h ⊢
  intro x hx
  by_cases hp:cs.contains x = true
  ·exact hp
  ·refine h x ?_
   have:x ∈ l.reverse.takeWhile (cs.contains ·) ++ l.reverse.dropWhile (cs.contains ·):=by rw [List.takeWhile_append_dropWhile]; simpa using hx
   rcases List.mem_append.1 this with h1 | h1
   ·exact absurd (Vf.1 (List.all_takeWhile (p:=(cs.contains ·)) (l:=l.reverse)) x h1) hp
   ·exact h1
 ·intro h
  rw [Vf] at h ⊢
  intro x hx
  have:x ∈ l.reverse:=(List.dropWhile_suffix _).subset hx
  exact h x (by simpa using this)
theorem Zmh (p:Nat → Bool) (lo:∀ n,n < 128 → True) (hp:∀ n,128 ≤ n → p n = true) (s:ByteArray):∀ (f pos:Nat),s.size ≤ pos + f → 
  (Lib.idxFuncFrom p true s f pos < 0 ↔ (s.data.toList.drop pos).all (fun b => !p b.toNat) = true)
 | 0,pos,h => by
  have:s.data.toList.drop pos = []:=UL (by rw [Yp]; omega)
  simp [Lib.idxFuncFrom,this]
 | f + 1,pos,h => by
  unfold Lib.idxFuncFrom
  by_cases hps:pos < s.size
  ·rw [if_pos hps]
   have hl:pos < s.data.toList.length:=by rw [Yp]; exact hps
   have hget:s.data.toList[pos] = s[pos]'hps:=by simp only [Array.getElem_toList]; rfl
   rw [Ul hl,UA,hget]
   by_cases ha:(s[pos]'hps).toNat < 128
   ·have hd:=decode_ascii s pos hps ha
    rw [hd]
    cases hq:p (s[pos]'hps).toNat with
    | true => simp
    | false =>
     simp only [Bool.false_eq_true,if_false,Bool.not_false,UC]
     exact Zmh p lo hp s f (pos + 1) (by omega)
   ·have hd:=decode_high s pos hps (by omega)
    rw [if_pos (hp _ hd.1)]
    rw [hp _ (show 128 ≤ (s[pos]'hps).toNat by omega)]
    simp
  ·rw [if_neg hps]
   have:s.data.toList.drop pos = []:=UL (by rw [Yp]; omega)
   simp [this]
theorem Zy0 (p:Nat → Bool) (hp:∀ n,128 ≤ n → p n = true) (s:ByteArray):decide (Lib.idxFunc p true s < 0) = s.data.toList.all (fun b => !p b.toNat):=by
 have:=Zmh p (fun _ _ => trivial) hp s s.size 0 (by omega)
 rw [List.drop_zero] at this
 unfold Lib.idxFunc
 by_cases h:Lib.idxFuncFrom p true s s.size 0 < 0
 ·rw [dTr h,this.1 h]
 ·rw [dFa h]
  cases hh:s.data.toList.all (fun b => !p b.toNat) with
  | false => rfl
  | true => exact absurd (this.2 hh) h
end Go.Sh
