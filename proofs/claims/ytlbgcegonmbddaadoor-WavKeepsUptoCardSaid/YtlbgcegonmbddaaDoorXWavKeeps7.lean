/-
  What the row needs, part 7.
-/
import Derived.Test.YtlbgcegonmbddaaDoorXWavKeeps6
import Derived.Below
import Derived.Shelf.Strings.Search2
import Derived.Shelf.Strings.SlTrimAscii
import Derived.Shelf.Strings.FuncGrows
import Derived.Shelf.Spec.SlicesGrow
set_option linter.unusedSimpArgs false
set_option linter.unusedVariables false
set_option linter.unusedSectionVars false
open Array renaming getElem?_eq_none→VX
open Bool renaming and_eq_true→Jh
open Go.Builtin renaming zeroCells→Jl
open Int renaming toNat_of_nonneg→UI
open Nat renaming lt_or_ge→VO,le_refl→Jj,le_of_ble_eq_true→Ju
open Option renaming bind_eq_some_iff→Uz,some→VG
namespace Go.Sh
open Go
variable [Gl]
variable {P:Program} {ρ:Shelf.Ren} {w:World} {lim:Nat → Nat}
theorem Zhy (w:World) (o:Obj):(w.alloc o).heap[w.heap.size]? = some o:=by unfold World.alloc; simp
theorem ZjQ {w':World} (hlz:∀ b,w.heap.size ≤ b → lim b = 0) (hB:RowKit.Below w.heap.size w w'):Ext w lim w' lim :=
 ⟨hB.size,fun b' o ho => by
  have hb':b' < w.heap.size:=by
   rcases VO b' w.heap.size with h' | h'
   ·exact h'
   ·have:=hlz b' h'; omega
  simp [World.cell?,hB.block b' hb'],fun _ _ h => h,fun b' T hT => by
  have hb':b' < w.heap.size:=by
   rcases VO b' w.heap.size with h' | h'
   ·exact h'
   ·simp [Z8,VX h'] at hT
  simpa [Z8,hB.block b' hb'] using hT,NF.keep hlz hB.block⟩
theorem ZeV {w0 w':World} {lim':Nat → Nat}:(ks:List Kd) → (vs:List Value) → {bs:List Nat} → TL w lim' ks vs [] bs → WI w0 w' ks vs
 | [],vs,_,_ => by cases vs <;> simp [WI]
 | k :: ks,[],_,_ => by cases k <;> simp [WI]
 | k :: ks,v :: vs,bs,h => by
  cases k with
  | box l => simp [TL] at h
  | bld T => simp [TL] at h
  | _ => simp only [TL] at h; simp only [WI]; exact ZeV ks vs h
theorem XH {w':World} {vs:List Value} {bs b1:List Nat} {pk:List Kd} {x:RV} {v:Value} (hlz:∀ b,w.heap.size ≤ b → lim b = 0) (hB:RowKit.Below w.heap.size w w')
  (hT:TT w' lim x v b1) (hL:TL w' lim (Zt pk) (Qx pk vs) [] []) (hnd:b1.Nodup) (h1:∀ b ∈ b1,b ∈ bs ∨ w.heap.size ≤ b):Zhp w lim vs bs pk (x,[]) (.returned v) w' :=
 ⟨v,lim,b1,[],rfl,ZjQ hlz hB,fun b hb => hlz b (Nat.le_trans hB.size hb),⟨hB.os,hB.tape,hB.output⟩,fun b hb _ => ⟨hB.block b hb,rfl⟩,hT,hL,ZeV _ _ hL,by simpa using hnd,by simpa using h1⟩
theorem KJ {s:ByteArray} {v:Value} {bs:List Nat} (h:TT w lim (.view .str s) v bs):v = .string s ∧ bs = []:=by
 simp only [TT,XN,Rt] at h
 obtain ⟨⟨cs,rfl,h⟩,rfl⟩:=h
 rcases h with ⟨h,_⟩ | ⟨_,h⟩
 ·cases h
 ·simp at h; exact ⟨h.symm,rfl⟩
theorem ZmV {k:IntKind} {n:Int} {v:Value} {bs:List Nat} (h:TT w lim (.view (.int k) n) v bs):v = .int k n ∧ bs = []:=by
 simp only [TT,XN,Rt] at h
 obtain ⟨⟨cs,rfl,h⟩,rfl⟩:=h
 rcases h with ⟨h,_⟩ | ⟨_,h⟩
 ·cases h
 ·simp at h; exact ⟨h.symm,rfl⟩
theorem Zkq {b:Bool} {v:Value} {bs:List Nat} (h:TT w lim (.view .bool b) v bs):v = .bool b ∧ bs = []:=by
 simp only [TT,XN,Rt] at h
 obtain ⟨⟨cs,rfl,h⟩,rfl⟩:=h
 rcases h with ⟨h,_⟩ | ⟨_,h⟩
 ·cases h
 ·simp at h; exact ⟨h.symm,rfl⟩
theorem ZmL (s:ByteArray):TT w lim (.view .str s) (.string s) []:=by
 simp only [TT]; exact ⟨⟨_,rfl,.inr ⟨rfl,rfl⟩⟩,trivial⟩
theorem Zds (k:IntKind) (n:Int):TT w lim (.view (.int k) n) (.int k n) []:=by
 simp only [TT]; exact ⟨⟨_,rfl,.inr ⟨rfl,rfl⟩⟩,trivial⟩
def Zoe (l:List UInt8):Option UInt8:=match l with
 | [c] => some c
 | _ => none
def ZhY (x:ByteArray × ByteArray × Unit):Option (Int × Unit):=(Zoe x.2.1.data.toList).bind fun c => some (Lib.indexByte x.1.data.toList c,())
theorem Zj0 (L:Proofs.Lays.n219 P ρ) {k f:Nat} {fn:Func} (hf:ρ.f 219 = f) (hfn:P.funcs[f]? = some fn) (hname:(fn.name == "runtime.NumGoroutine") = false) (hbody:fn.body.isNone = false) :
  Ctr P k f (mk [.view .str,.view .str] (.view (.int .i64)) fun _ x => ZhY x) where
 enters:=⟨fn,hfn,hname,hbody⟩
 calls:=by
  intro rvs x hx w lim vs bs hlz hgl hT0 hnd hbs
  simp only [mk] at hx
  obtain ⟨y,hy1,hy2⟩:=Uz.1 hx
  have hrv:=Z6 [.view .str,.view .str] rvs y hy1
  obtain ⟨s,sub,u⟩:=y
  subst hrv
  unfold ZhY at hy2
  obtain ⟨c,hc,hy2⟩:=Uz.1 hy2
  obtain rfl:=(VG.inj hy2).symm
  have hsub:sub = ⟨#[c]⟩:=by
   obtain ⟨⟨l⟩⟩:=sub
   have hc':Zoe l = some c:=hc
   match l,hc' with
   | [d],hc' => cases hc'; rfl
  subst hsub
  show Calls P f vs.toArray w (Zhp w lim vs bs [.view .str,.view .str] (.view (.int .i64) (Lib.indexByte s.data.toList c),[]))
  simp only [QD,enc] at hT0
  match vs,hT0 with
  | [v1,v2],hT0 =>
   simp only [KL] at hT0
   obtain ⟨b1,b2,rfl,h1,b3,b4,rfl,h2,rfl⟩:=hT0
   obtain ⟨rfl,rfl⟩:=KJ h1
   obtain ⟨rfl,rfl⟩:=KJ h2
   subst hf
   refine (Proofs.Any.stringslite_Index_one L s c w).mono ?_
   rintro e w' ⟨rfl,rfl⟩
   exact XH hlz (RowKit.Below.refl _ _) (Zds _ _) (by simp [TL,Zt,Qx]) (by simp) (by simp)
def Zhh (x:ByteArray × ByteArray × Unit):Option (ByteArray × Unit) :=
 bif Nat.blt x.1.size 1099511627776 && (Nat.blt x.2.1.size 2147483648 && x.2.1.data.toList.all (fun b => decide (b.toNat < 128))) then some (⟨(Lib.trimS x.1.data.toList x.2.1.data.toList).toArray⟩,()) else none
theorem ZmS (L:Proofs.Lays.n160 P ρ) (h116:(P.info? (ρ.t 116)).map (fun i => (i.zero,i.size)) = some (some (.agg (Array.replicate 256 (.bool false))),256)) {k f:Nat} {fn:Func} (hf:ρ.f 160 = f) (hfn:P.funcs[f]? = some fn) (hname:(fn.name == "runtime.NumGoroutine") = false) (hbody:fn.body.isNone = false) :
  Ctr P k f (mk [.view .str,.view .str] (.view .str) fun _ x => Zhh x) where
 enters:=⟨fn,hfn,hname,hbody⟩
 calls:=by
  intro rvs x hx w lim vs bs hlz hgl hT0 hnd hbs
  simp only [mk] at hx
  obtain ⟨y,hy1,hy2⟩:=Uz.1 hx
  have hrv:=Z6 [.view .str,.view .str] rvs y hy1
  obtain ⟨s,sub,u⟩:=y
  subst hrv
  unfold Zhh at hy2
  simp only at hy2
  cases hb:(Nat.blt s.size 1099511627776 && (Nat.blt sub.size 2147483648 && sub.data.toList.all (fun b => decide (b.toNat < 128)))) with
  | false => rw [hb] at hy2; cases hy2
  | true =>
   rw [hb] at hy2
   obtain rfl:=(VG.inj hy2).symm
   simp only [Jh] at hb
   have hs:=Ju hb.1
   have hs2:=Ju hb.2.1
   show Calls P f vs.toArray w (Zhp w lim vs bs [.view .str,.view .str] (.view .str _,[]))
   simp only [QD,enc] at hT0
   match vs,hT0 with
   | [v1,v2],hT0 =>
    simp only [KL] at hT0
    obtain ⟨b1,b2,rfl,h1,b3,b4,rfl,h2,rfl⟩:=hT0
    obtain ⟨rfl,rfl⟩:=KJ h1
    obtain ⟨rfl,rfl⟩:=KJ h2
    subst hf
    refine (Proofs.Any.strings_Trim_laid L h116 s sub w (by omega) (by omega) (Proofs.ascii_of_all hb.2.2)).mono ?_
    rintro e w' ⟨rfl,hB⟩
    exact XH hlz hB (ZmL _) (by simp [TL,Zt,Qx]) (by simp) (by simp)
def Zno (p:Nat → Bool) (x:ByteArray × Unit × Unit):Option (Int × Unit):=some (Lib.idxFunc p true x.1,())
theorem Znp (L:Proofs.LaysGw.n15 P ρ) {k f g:Nat} {fn:Func} {p:Nat → Bool} {F:Nat → Int × Unit → Option (Bool × Unit)} (hg:Ctr P k g (mk [.view (.int .i32)] (.view .bool) F)) (hp:∀ n:Nat,F k ((n:Int),()) = some (p n,()))
  (hf:ρ.f 15 = f) (hfn:P.funcs[f]? = some fn) (hname:(fn.name == "runtime.NumGoroutine") = false) (hbody:fn.body.isNone = false) :
  Ctr P k f (mk [.view .str,.fn g] (.view (.int .i64)) fun _ x => Zno p x) where
 enters:=⟨fn,hfn,hname,hbody⟩
 calls:=by
  intro rvs x hx w lim vs bs hlz hgl hT0 hnd hbs
  simp only [mk] at hx
  obtain ⟨y,hy1,hy2⟩:=Uz.1 hx
  have hrv:=Z6 [.view .str,.fn g] rvs y hy1
  obtain ⟨s,u1,u⟩:=y
  subst hrv
  obtain rfl:=(VG.inj hy2).symm
  show Calls P f vs.toArray w (Zhp w lim vs bs [.view .str,.fn g] (.view (.int .i64) _,[]))
  simp only [QD,enc] at hT0
  match vs,hT0 with
  | [v1,v2],hT0 =>
   simp only [KL] at hT0
   obtain ⟨b1,b2,rfl,h1,b3,b4,rfl,h2,rfl⟩:=hT0
   obtain ⟨rfl,rfl⟩:=KJ h1
   simp only [TT] at h2
   obtain ⟨rfl,rfl⟩:=h2
   subst hf
   obtain ⟨fg,hg1,hg2,hg3⟩:=hg.enters
   have hgE:∀ args w,(callFunc g args).run P w = .ok (.enter g args) w:=by
    intro args w
    cases hbd:fg.body with
    | none => rw [hbd] at hg3; cases hg3
    | some c => exact Proofs.enters_of hg1 hg2 hbd args w
   have hPG:Proofs.PredGrows P g #[] p w:=by
    intro W x hx hB
    have hE0:Ext w lim W lim:=⟨hB.size,fun b o ho => by
     have hb:b < w.heap.size:=by
      rcases VO b w.heap.size with h' | h'
      ·exact h'
      ·rw [hlz b h'] at ho; omega
     simp [World.cell?,hB.block b hb],fun _ _ h => h,fun b T hT => by
     have hb:b < w.heap.size:=by
      rcases VO b w.heap.size with h' | h'
      ·exact h'
      ·simp [Z8,VX h'] at hT
     simpa [Z8,hB.block b hb] using hT,NF.keep hlz hB.block⟩
    have h0:=hg.calls (QD [.view (.int .i32)] ((x:Int),())) (p x,()) (by
     have e1:Yd [.view (.int .i32)] (QD [.view (.int .i32)] ((x:Int),())) = some ((x:Int),()):=by
      simp only [QD,enc,Yd,dec,Zbs]; rfl
     show (Yd [.view (.int .i32)] (QD [.view (.int .i32)] ((x:Int),()))).bind (F k) = _
     rw [e1]; exact hp x) W lim [.int .i32 x] [] (fun b hb => hlz b (Nat.le_trans hB.size hb)) (hgl.mono hE0) (by
      simp only [QD,enc,KL]
      exact ⟨[],[],rfl,Zds _ _,rfl⟩) (by simp) (by simp)
    refine h0.mono ?_
    rintro e w' ⟨v,lim',b1,b2,rfl,hE,_,⟨o1,o2,o3⟩,hblk,hT,_,_,_⟩
    have hT':TT w' lim' (.view .bool (p x)) v b1:=hT
    obtain ⟨rfl,_⟩:=Zkq hT'
    exact ⟨rfl,o1,o2,o3,hE.size,fun j hj => (hblk j hj (by simp)).1⟩
   refine (Proofs.Any.strings_IndexFunc_grows L g #[] (fun args w => hgE args w) p s w hPG).mono ?_
   rintro e w' ⟨rfl,hB⟩
   exact XH hlz hB (Zds _ _) (by simp [TL,Zt,Qx]) (by simp) (by simp)
def ZgQ (x:Value × Int × Unit):Option (List Int × Unit):=bif W0 x.1 && Zb9 x.2.1 then some ([],()) else none
theorem Zmr (L:Proofs.Lays8.n4 P ρ) (i0:TypeInfo) (hi0:P.info? Zkp = some i0) (hz0:i0.zero = some (.int .u8 0)) (hs0:i0.size = 1) (hb0:i0.bytes = 1) (h25:ρ.t 25 = Zkp) {k f:Nat} {fn:Func} (hf:ρ.f 4 = f) (hfn:P.funcs[f]? = some fn) (hname:(fn.name == "runtime.NumGoroutine") = false) (hbody:fn.body.isNone = false) :
  Ctr P k f (mk [.view .raw,.view (.int .i64)] (.own (.int .u8) false) fun _ x => ZgQ x) where
 enters:=⟨fn,hfn,hname,hbody⟩
 calls:=by
  intro rvs x hx w lim vs bs hlz hgl hT0 hnd hbs
  simp only [mk] at hx
  obtain ⟨y,hy1,hy2⟩:=Uz.1 hx
  have hrv:=Z6 [.view .raw,.view (.int .i64)] rvs y hy1
  obtain ⟨v0,n,u⟩:=y
  subst hrv
  unfold ZgQ at hy2
  simp only at hy2
  cases hb:(W0 v0 && Zb9 n) with
  | false => rw [hb] at hy2; cases hy2
  | true =>
   rw [hb] at hy2
   obtain rfl:=(VG.inj hy2).symm
   rw [Jh] at hb
   obtain ⟨hb1,hb2⟩:=hb
   have hv0:=WQ hb1
   obtain ⟨m,hm,hm31⟩:∃ m:Nat,n = Int.ofNat m ∧ m < 2147483648:=by
    have hn:=Zdw hb2
    exact ⟨Int.toNat n,by have:=UI hn.1; exact this.symm,by have:=UI hn.1; omega⟩
   subst hm
   show Calls P f vs.toArray w (Zhp w lim vs bs [.view .raw,.view (.int .i64)] (.own (.int .u8) false [],[]))
   simp only [QD,enc] at hT0
   match vs,hT0 with
   | [v1,v2],hT0 =>
    simp only [KL] at hT0
    obtain ⟨b1,b2,rfl,h1,b3,b4,rfl,h2,rfl⟩:=hT0
    obtain ⟨rfl,rfl⟩:=ZmV h2
    simp only [TT,XN,Rt] at h1
    obtain ⟨⟨cs,⟨rfl,_⟩,h1⟩,rfl⟩:=h1
    have hv1:v1 = .slice none 0 0:=by
     rcases h1 with ⟨h,_⟩ | ⟨_,h⟩
     ·cases h
     ·rw [hv0] at h; cases h; rfl
    subst hv1
    subst hf
    by_cases hm:m = 0
    ·subst hm
     refine (Proofs.Any8.slices_Grow_room L none 0 0 0 w (by omega) (by omega) (by omega) (by omega)).mono ?_
     rintro e w' ⟨rfl,rfl⟩
     refine XH hlz (RowKit.Below.refl _ _) ?_ (by simp [TL,Zt,Qx]) (b1:=[]) (by simp) (by simp)
     simp only [TT]
     exact ⟨by simp [Ty.size],.inl ⟨rfl,rfl,rfl⟩⟩
    ·refine (Proofs.Any8.slices_Grow_grow L i0 (.int .u8 0) (by rw [h25]; exact hi0) hz0 (by omega) none 0 0 m [] w (by omega) (by omega) (by rw [hb0]; omega) (by omega) (by simp) (fun _ => rfl) (fun a h => by cases h)).mono ?_
     rintro e w' ⟨rfl,rfl⟩
     have hge:=grownCap_ge w (0 + m) 0 (ρ.t 25)
     have hle:=grownCap_le_maxLen w (0 + m) 0 (ρ.t 25) (by simp only [maxLen]; omega)
     simp only [maxLen] at hle
     generalize grownCap w (0 + m) 0 (ρ.t 25) = cap at hge hle ⊢
     refine XH hlz ((RowKit.Below.drew (RowKit.Below.refl _ w)).alloc (Jj _) _) ?_ (by simp [TL,Zt,Qx]) (b1:=[w.heap.size]) (by simp) (by simp)
     simp only [TT]
     refine ⟨by simp [Ty.size],.inr ⟨w.heap.size,0,cap,_,ρ.t 25,(0,0),rfl,Nat.zero_le _,Zhy w.drew _,?_,⟨fun o ho => by simp,by rw [h25]; rfl,Jj _,by simp [Ty.size,Jl,Value.cells]; omega⟩,fun i hi => absurd hi (by simp),hlz _ (Jj _),rfl⟩⟩
     simp [Ty.size,Jl,Value.cells]
     omega
end Go.Sh
