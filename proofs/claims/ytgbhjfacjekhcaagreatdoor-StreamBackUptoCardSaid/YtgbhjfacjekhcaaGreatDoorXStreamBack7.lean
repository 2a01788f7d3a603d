/-
  What the row needs, part 7.
-/
import Derived.Test.YtgbhjfacjekhcaaGreatDoorXStreamBack6
import Derived.Below
import Derived.Shelf.Strings.Search2
import Derived.Shelf.Strings.SlTrimAscii
import Derived.Shelf.Strings.FuncGrows
import Derived.Shelf.Spec.SlicesGrow
set_option linter.unusedSimpArgs false
set_option linter.unusedVariables false
set_option linter.unusedSectionVars false
namespace Go.Sh
open Go
variable [Gl]
variable {P:Program} {ρ:Shelf.Ren} {w:World} {lim:Nat → Nat}
theorem ZDk (w:World) (o:Obj):(w.alloc o).heap[w.heap.size]? = some o:=by unfold World.alloc; simp
theorem ZIj {w':World} (hlz:∀ b,w.heap.size ≤ b → lim b = 0) (hB:RowKit.Below w.heap.size w w'):Ext w lim w' lim :=
 ⟨hB.size,fun b' o ho => by
  have hb':b' < w.heap.size:=by
   rcases Nat.lt_or_ge b' w.heap.size with h' | h'
   ·exact h'
   ·have:=hlz b' h'; omega
  simp [World.cell?,hB.block b' hb'],fun _ _ h => h,fun b' T hT => by
  have hb':b' < w.heap.size:=by
   rcases Nat.lt_or_ge b' w.heap.size with h' | h'
   ·exact h'
   ·simp [WY,Array.getElem?_eq_none h'] at hT
  simpa [WY,hB.block b' hb'] using hT⟩
theorem ZwT {w0 w':World} {lim':Nat → Nat}:(ks:List Kd) → (vs:List Value) → {bs:List Nat} → TL w lim' ks vs [] bs → KC w0 w' ks vs
 | [],vs,_,_ => by cases vs <;> simp [KC]
 | k :: ks,[],_,_ => by cases k <;> simp [KC]
 | k :: ks,v :: vs,bs,h => by
  cases k with
  | box l => simp [TL] at h
  | bld T => simp [TL] at h
  | _ => simp only [TL] at h; simp only [KC]; exact ZwT ks vs h
theorem YP {w':World} {vs:List Value} {bs b1:List Nat} {pk:List Kd} {x:RV} {v:Value} (hlz:∀ b,w.heap.size ≤ b → lim b = 0) (hB:RowKit.Below w.heap.size w w')
  (hT:TT w' lim x v b1) (hL:TL w' lim (ZS pk) (WI pk vs) [] []) (hnd:b1.Nodup) (h1:∀ b ∈ b1,b ∈ bs ∨ w.heap.size ≤ b):Zuh w lim vs bs pk (x,[]) (.returned v) w' :=
 ⟨v,lim,b1,[],rfl,ZIj hlz hB,fun b hb => hlz b (Nat.le_trans hB.size hb),⟨hB.os,hB.tape,hB.output⟩,fun b hb _ => ⟨hB.block b hb,rfl⟩,hT,hL,ZwT _ _ hL,by simpa using hnd,by simpa using h1⟩
theorem ZgY {s:ByteArray} {v:Value} {bs:List Nat} (h:TT w lim (.view .str s) v bs):v = .string s ∧ bs = []:=by
 simp only [TT,ZmI,Rt] at h
 obtain ⟨⟨cs,rfl,h⟩,rfl⟩:=h
 rcases h with ⟨h,_⟩ | ⟨_,h⟩
 ·cases h
 ·simp at h; exact ⟨h.symm,rfl⟩
theorem Zuc {k:IntKind} {n:Int} {v:Value} {bs:List Nat} (h:TT w lim (.view (.int k) n) v bs):v = .int k n ∧ bs = []:=by
 simp only [TT,ZmI,Rt] at h
 obtain ⟨⟨cs,rfl,h⟩,rfl⟩:=h
 rcases h with ⟨h,_⟩ | ⟨_,h⟩
 ·cases h
 ·simp at h; exact ⟨h.symm,rfl⟩
theorem ZK3 {b:Bool} {v:Value} {bs:List Nat} (h:TT w lim (.view .bool b) v bs):v = .bool b ∧ bs = []:=by
 simp only [TT,ZmI,Rt] at h
 obtain ⟨⟨cs,rfl,h⟩,rfl⟩:=h
 rcases h with ⟨h,_⟩ | ⟨_,h⟩
 ·cases h
 ·simp at h; exact ⟨h.symm,rfl⟩
theorem ZQe (s:ByteArray):TT w lim (.view .str s) (.string s) []:=by
 simp only [TT]; exact ⟨⟨_,rfl,.inr ⟨rfl,rfl⟩⟩,trivial⟩
theorem ZgB (k:IntKind) (n:Int):TT w lim (.view (.int k) n) (.int k n) []:=by
 simp only [TT]; exact ⟨⟨_,rfl,.inr ⟨rfl,rfl⟩⟩,trivial⟩
def ZUV (l:List UInt8):Option UInt8:=match l with
 | [c] => some c
 | _ => none
def ZFu (x:ByteArray × ByteArray × Unit):Option (Int × Unit):=(ZUV x.2.1.data.toList).bind fun c => some (Lib.indexByte x.1.data.toList c,())
theorem ZKx (L:Proofs.Lays.n219 P ρ) {k f:Nat} {fn:Func} (hf:ρ.f 219 = f) (hfn:P.funcs[f]? = some fn) (hname:(fn.name == "runtime.NumGoroutine") = false) (hbody:fn.body.isNone = false) :
  Ctr P k f (mk [.view .str,.view .str] (.view (.int .i64)) fun _ x => ZFu x) where
 enters:=⟨fn,hfn,hname,hbody⟩
 calls:=by
  intro rvs x hx w lim vs bs hlz hgl hT0 hnd hbs
  simp only [mk] at hx
  obtain ⟨y,hy1,hy2⟩:=Option.bind_eq_some_iff.1 hx
  have hrv:=QY [.view .str,.view .str] rvs y hy1
  obtain ⟨s,sub,u⟩:=y
  subst hrv
  unfold ZFu at hy2
  obtain ⟨c,hc,hy2⟩:=Option.bind_eq_some_iff.1 hy2
  obtain rfl:=(Option.some.inj hy2).symm
  have hsub:sub = ⟨#[c]⟩:=by
   obtain ⟨⟨l⟩⟩:=sub
   have hc':ZUV l = some c:=hc
   match l,hc' with
   | [d],hc' => cases hc'; rfl
  subst hsub
  show Calls P f vs.toArray w (Zuh w lim vs bs [.view .str,.view .str] (.view (.int .i64) (Lib.indexByte s.data.toList c),[]))
  simp only [WC,enc] at hT0
  match vs,hT0 with
  | [v1,v2],hT0 =>
   simp only [TTs] at hT0
   obtain ⟨b1,b2,rfl,h1,b3,b4,rfl,h2,rfl⟩:=hT0
   obtain ⟨rfl,rfl⟩:=ZgY h1
   obtain ⟨rfl,rfl⟩:=ZgY h2
   subst hf
   refine (Proofs.Any.stringslite_Index_one L s c w).mono ?_
   rintro e w' ⟨rfl,rfl⟩
   exact YP hlz (RowKit.Below.refl _ _) (ZgB _ _) (by simp [TL,ZS,WI]) (by simp) (by simp)
def ZCU (x:ByteArray × ByteArray × Unit):Option (ByteArray × Unit) :=
 bif Nat.blt x.1.size 1099511627776 && (Nat.blt x.2.1.size 2147483648 && x.2.1.data.toList.all (fun b => decide (b.toNat < 128))) then some (⟨(Lib.trimS x.1.data.toList x.2.1.data.toList).toArray⟩,()) else none
theorem ZQq (L:Proofs.Lays.n160 P ρ) (h116:(P.info? (ρ.t 116)).map (fun i => (i.zero,i.size)) = some (some (.agg (Array.replicate 256 (.bool false))),256)) {k f:Nat} {fn:Func} (hf:ρ.f 160 = f) (hfn:P.funcs[f]? = some fn) (hname:(fn.name == "runtime.NumGoroutine") = false) (hbody:fn.body.isNone = false) :
  Ctr P k f (mk [.view .str,.view .str] (.view .str) fun _ x => ZCU x) where
 enters:=⟨fn,hfn,hname,hbody⟩
 calls:=by
  intro rvs x hx w lim vs bs hlz hgl hT0 hnd hbs
  simp only [mk] at hx
  obtain ⟨y,hy1,hy2⟩:=Option.bind_eq_some_iff.1 hx
  have hrv:=QY [.view .str,.view .str] rvs y hy1
  obtain ⟨s,sub,u⟩:=y
  subst hrv
  unfold ZCU at hy2
  simp only at hy2
  cases hb:(Nat.blt s.size 1099511627776 && (Nat.blt sub.size 2147483648 && sub.data.toList.all (fun b => decide (b.toNat < 128)))) with
  | false => rw [hb] at hy2; cases hy2
  | true =>
   rw [hb] at hy2
   obtain rfl:=(Option.some.inj hy2).symm
   simp only [Bool.and_eq_true] at hb
   have hs:=Nat.le_of_ble_eq_true hb.1
   have hs2:=Nat.le_of_ble_eq_true hb.2.1
   show Calls P f vs.toArray w (Zuh w lim vs bs [.view .str,.view .str] (.view .str _,[]))
   simp only [WC,enc] at hT0
   match vs,hT0 with
   | [v1,v2],hT0 =>
    simp only [TTs] at hT0
    obtain ⟨b1,b2,rfl,h1,b3,b4,rfl,h2,rfl⟩:=hT0
    obtain ⟨rfl,rfl⟩:=ZgY h1
    obtain ⟨rfl,rfl⟩:=ZgY h2
    subst hf
    refine (Proofs.Any.strings_Trim_laid L h116 s sub w (by omega) (by omega) (Proofs.ascii_of_all hb.2.2)).mono ?_
    rintro e w' ⟨rfl,hB⟩
    exact YP hlz hB (ZQe _) (by simp [TL,ZS,WI]) (by simp) (by simp)
def ZTC (p:Nat → Bool) (x:ByteArray × Unit × Unit):Option (Int × Unit):=some (Lib.idxFunc p true x.1,())
theorem ZTD (L:Proofs.LaysGw.n15 P ρ) {k f g:Nat} {fn:Func} {p:Nat → Bool} {F:Nat → Int × Unit → Option (Bool × Unit)} (hg:Ctr P k g (mk [.view (.int .i32)] (.view .bool) F)) (hp:∀ n:Nat,F k ((n:Int),()) = some (p n,()))
  (hf:ρ.f 15 = f) (hfn:P.funcs[f]? = some fn) (hname:(fn.name == "runtime.NumGoroutine") = false) (hbody:fn.body.isNone = false) :
  Ctr P k f (mk [.view .str,.fn g] (.view (.int .i64)) fun _ x => ZTC p x) where
 enters:=⟨fn,hfn,hname,hbody⟩
 calls:=by
  intro rvs x hx w lim vs bs hlz hgl hT0 hnd hbs
  simp only [mk] at hx
  obtain ⟨y,hy1,hy2⟩:=Option.bind_eq_some_iff.1 hx
  have hrv:=QY [.view .str,.fn g] rvs y hy1
  obtain ⟨s,u1,u⟩:=y
  subst hrv
  obtain rfl:=(Option.some.inj hy2).symm
  show Calls P f vs.toArray w (Zuh w lim vs bs [.view .str,.fn g] (.view (.int .i64) _,[]))
  simp only [WC,enc] at hT0
  match vs,hT0 with
  | [v1,v2],hT0 =>
   simp only [TTs] at hT0
   obtain ⟨b1,b2,rfl,h1,b3,b4,rfl,h2,rfl⟩:=hT0
   obtain ⟨rfl,rfl⟩:=ZgY h1
   simp only [TT] at h2
   obtain ⟨rfl,rfl⟩:=h2
   subst hf
   obtain ⟨fg,hg1,hg2,hg3⟩:=hg.enters
   have hgE:∀ args w,(callFunc g args).run P w = .ok (.enter g args) w:=by
    intro args w
    cases hbd:fg.body with
    | none => rw [hbd] at hg3; cases hg3
    | some c => exact Proofs.enters_of hg1 hg2 hbd args w
   have hPG:Proofs.PredGrows P g #[] p w:=by
    intro W x hx hB
    have hE0:Ext w lim W lim:=⟨hB.size,fun b o ho => by
     have hb:b < w.heap.size:=by
      rcases Nat.lt_or_ge b w.heap.size with h' | h'
      ·exact h'
      ·rw [hlz b h'] at ho; omega
     simp [World.cell?,hB.block b hb],fun _ _ h => h,fun b T hT => by
     have hb:b < w.heap.size:=by
      rcases Nat.lt_or_ge b w.heap.size with h' | h'
      ·exact h'
      ·simp [WY,Array.getElem?_eq_none h'] at hT
     simpa [WY,hB.block b hb] using hT⟩
    have h0:=hg.calls (WC [.view (.int .i32)] ((x:Int),())) (p x,()) (by
     have e1:Zec [.view (.int .i32)] (WC [.view (.int .i32)] ((x:Int),())) = some ((x:Int),()):=by
      simp only [WC,enc,Zec,dec,ZmP]; rfl
     show (Zec [.view (.int .i32)] (WC [.view (.int .i32)] ((x:Int),()))).bind (F k) = _
     rw [e1]; exact hp x) W lim [.int .i32 x] [] (fun b hb => hlz b (Nat.le_trans hB.size hb)) (hgl.mono hE0) (by
      simp only [WC,enc,TTs]
      exact ⟨[],[],rfl,ZgB _ _,rfl⟩) (by simp) (by simp)
    refine h0.mono ?_
    rintro e w' ⟨v,lim',b1,b2,rfl,hE,_,⟨o1,o2,o3⟩,hblk,hT,_,_,_⟩
    have hT':TT w' lim' (.view .bool (p x)) v b1:=hT
    obtain ⟨rfl,_⟩:=ZK3 hT'
    exact ⟨rfl,o1,o2,o3,hE.size,fun j hj => (hblk j hj (by simp)).1⟩
   refine (Proofs.Any.strings_IndexFunc_grows L g #[] (fun args w => hgE args w) p s w hPG).mono ?_
   rintro e w' ⟨rfl,hB⟩
   exact YP hlz hB (ZgB _ _) (by simp [TL,ZS,WI]) (by simp) (by simp)
def ZB5 (x:Value × Int × Unit):Option (List Int × Unit):=bif Zaw x.1 && Zth x.2.1 then some ([],()) else none
theorem ZPs (L:Proofs.Lays8.n4 P ρ) (i0:TypeInfo) (hi0:P.info? ZK1 = some i0) (hz0:i0.zero = some (.int .u8 0)) (hs0:i0.size = 1) (hb0:i0.bytes = 1) (h25:ρ.t 25 = ZK1) {k f:Nat} {fn:Func} (hf:ρ.f 4 = f) (hfn:P.funcs[f]? = some fn) (hname:(fn.name == "runtime.NumGoroutine") = false) (hbody:fn.body.isNone = false) :
  Ctr P k f (mk [.view .raw,.view (.int .i64)] (.own (.int .u8) false) fun _ x => ZB5 x) where
 enters:=⟨fn,hfn,hname,hbody⟩
 calls:=by
  intro rvs x hx w lim vs bs hlz hgl hT0 hnd hbs
  simp only [mk] at hx
  obtain ⟨y,hy1,hy2⟩:=Option.bind_eq_some_iff.1 hx
  have hrv:=QY [.view .raw,.view (.int .i64)] rvs y hy1
  obtain ⟨v0,n,u⟩:=y
  subst hrv
  unfold ZB5 at hy2
  simp only at hy2
  cases hb:(Zaw v0 && Zth n) with
  | false => rw [hb] at hy2; cases hy2
  | true =>
   rw [hb] at hy2
   obtain rfl:=(Option.some.inj hy2).symm
   rw [Bool.and_eq_true] at hb
   obtain ⟨hb1,hb2⟩:=hb
   have hv0:=Km hb1
   obtain ⟨m,hm,hm31⟩:∃ m:Nat,n = Int.ofNat m ∧ m < 2147483648:=by
    have hn:=Zti hb2
    exact ⟨Int.toNat n,by have:=Int.toNat_of_nonneg hn.1; exact this.symm,by have:=Int.toNat_of_nonneg hn.1; omega⟩
   subst hm
   show Calls P f vs.toArray w (Zuh w lim vs bs [.view .raw,.view (.int .i64)] (.own (.int .u8) false [],[]))
   simp only [WC,enc] at hT0
   match vs,hT0 with
   | [v1,v2],hT0 =>
    simp only [TTs] at hT0
    obtain ⟨b1,b2,rfl,h1,b3,b4,rfl,h2,rfl⟩:=hT0
    obtain ⟨rfl,rfl⟩:=Zuc h2
    simp only [TT,ZmI,Rt] at h1
    obtain ⟨⟨cs,⟨rfl,_⟩,h1⟩,rfl⟩:=h1
    have hv1:v1 = .slice none 0 0:=by
     rcases h1 with ⟨h,_⟩ | ⟨_,h⟩
     ·cases h
     ·rw [hv0] at h; cases h; rfl
    subst hv1
    subst hf
    by_cases hm:m = 0
    ·subst hm
     refine (Proofs.Any8.slices_Grow_room L none 0 0 0 w (by omega) (by omega) (by omega) (by omega)).mono ?_
     rintro e w' ⟨rfl,rfl⟩
     refine YP hlz (RowKit.Below.refl _ _) ?_ (by simp [TL,ZS,WI]) (b1:=[]) (by simp) (by simp)
     simp only [TT]
     exact ⟨by simp [Ty.size],.inl ⟨rfl,rfl,rfl⟩⟩
    ·refine (Proofs.Any8.slices_Grow_grow L i0 (.int .u8 0) (by rw [h25]; exact hi0) hz0 (by omega) none 0 0 m [] w (by omega) (by omega) (by rw [hb0]; omega) (by omega) (by simp) (fun _ => rfl) (fun a h => by cases h)).mono ?_
     rintro e w' ⟨rfl,rfl⟩
     have hge:=grownCap_ge w (0 + m) 0 (ρ.t 25)
     generalize grownCap w (0 + m) 0 (ρ.t 25) = cap at hge ⊢
     refine YP hlz ((RowKit.Below.drew (RowKit.Below.refl _ w)).alloc (Nat.le_refl _) _) ?_ (by simp [TL,ZS,WI]) (b1:=[w.heap.size]) (by simp) (by simp)
     simp only [TT]
     refine ⟨by simp [Ty.size],.inr ⟨w.heap.size,0,cap,_,ρ.t 25,(0,0),rfl,Nat.zero_le _,ZDk w.drew _,?_,⟨fun o ho => by simp,by rw [h25]; rfl,Nat.le_refl _⟩,fun i hi => absurd hi (by simp),hlz _ (Nat.le_refl _),rfl⟩⟩
     simp [Ty.size,Builtin.zeroCells,Value.cells]
     omega
end Go.Sh
namespace Go.Sh
open Go
theorem QK {V R α A:Type} {step:(V → Option R) → V → Option R} (at_:Nat → A → V) (xs:List α) (G:List α → A → Option R)
  (h0:∀ L a,step L (at_ xs.length a) = G [] a)
  (h1:∀ L i (hi:i < xs.length) a,(∀ a',L (at_ (i + 1) a') = G (xs.drop (i + 1)) a') → step L (at_ i a) = G (xs[i] :: xs.drop (i + 1)) a) :
  ∀ k i a,xs.length < k + i → i ≤ xs.length → Zn step k (at_ i a) = G (xs.drop i) a
 | 0,i,a,hk,hi => by omega
 | k + 1,i,a,hk,hi => by
  rw [Ze]
  by_cases he:i = xs.length
  ·subst he
   rw [h0,List.drop_length]
  ·have hi':i < xs.length:=by omega
   rw [h1 _ i hi' a fun a' => QK at_ xs G h0 h1 k (i + 1) a' (by omega) hi',List.drop_eq_getElem_cons hi']
theorem Zy {V R α A:Type} {step:(V → Option R) → V → Option R} (at_:Nat → A → V) (xs:List α) (G:List α → A → Option R) (I:Nat → A → Prop)
  (h0:∀ L a,I xs.length a → step L (at_ xs.length a) = G [] a)
  (h1:∀ L i (hi:i < xs.length) a,I i a → (∀ a',I (i + 1) a' → L (at_ (i + 1) a') = G (xs.drop (i + 1)) a') → step L (at_ i a) = G (xs[i] :: xs.drop (i + 1)) a) :
  ∀ k i a,I i a → xs.length < k + i → i ≤ xs.length → Zn step k (at_ i a) = G (xs.drop i) a
 | 0,i,a,_,hk,hi => by omega
 | k + 1,i,a,hI,hk,hi => by
  rw [Ze]
  by_cases he:i = xs.length
  ·subst he
   rw [h0 _ _ hI,List.drop_length]
  ·have hi':i < xs.length:=by omega
   rw [h1 _ i hi' a hI fun a' ha' => Zy at_ xs G I h0 h1 k (i + 1) a' ha' (by omega) hi',List.drop_eq_getElem_cons hi']
theorem Zbb {V R α:Type} {step:(V → Option R) → V → Option R} (at_:Nat → V) (xs:List α) (p:α → Bool) (out last:Option R)
  (h0:∀ L,step L (at_ xs.length) = last)
  (h1:∀ L i (hi:i < xs.length),step L (at_ i) = bif p xs[i] then L (at_ (i + 1)) else out)
  (k:Nat) (hk:xs.length < k):Zn step k (at_ 0) = bif xs.all p then last else out:=by
 have:=QK (A:=Unit) (fun i _ => at_ i) xs (fun l _ => bif l.all p then last else out) (fun L _ => h0 L) (fun L i hi _ hL => by
  rw [h1 L i hi,hL ()]
  simp only [List.all_cons]
  cases p xs[i] <;> rfl) k 0 () (by omega) (Nat.zero_le _)
 simpa using this
theorem ZM {α:Type} {l:List α} {i:Nat} {d:α} (h:i < l.length):l.getD (Int.toNat (Int.ofNat i)) d = l[i]:=by
 simp [List.getD_eq_getElem?_getD,h]
theorem Qr {i n:Nat} (h:i < n) (hn:n ≤ 4294967296):IntKind.i64.wrap (Int.ofNat i + 1) = Int.ofNat (i + 1):=by
 rw [Qe (by simp only [QS]; omega)]; rfl
theorem YI {i n:Nat} (h:i < n):(0:Int) ≤ Int.ofNat i ∧ Int.ofNat i < Int.ofNat n:=by simp only [QS]; omega
theorem ltR {i n:Nat} (h:i < n):Int.ofNat i < Int.ofNat n:=by simp only [QS]; omega
theorem Yb (n:Nat):¬ Int.ofNat n < Int.ofNat n:=by simp only [QS]; omega
theorem ZiA {α:Type} {p:α → Bool}:∀ {l:List α},l.dropWhile p = [] ↔ l.all p = true
 | [] => by simp
 | a :: l => by
  simp only [List.dropWhile_cons,List.all_cons]
  cases h:p a with
  | true => simp only [if_true,Bool.true_and]; exact ZiA
  | false => simp
theorem ZKZ (l cs:List UInt8):Lib.trimS l cs = [] ↔ l.all (cs.contains ·) = true:=by
 unfold Lib.trimS Lib.trimLeftS Lib.trimRightS
 rw [ZiA]
 simp only [List.all_reverse]
 constructor
 ·intro h
  rw [List.all_eq_true] at h ⊢
  intro x hx
  by_cases hp:cs.contains x = true
  ·exact hp
  ·refine h x ?_
   have:x ∈ l.reverse.takeWhile (cs.contains ·) ++ l.reverse.dropWhile (cs.contains ·):=by rw [List.takeWhile_append_dropWhile]; simpa using hx
   rcases List.mem_append.1 this with h1 | h1
   ·exact absurd (List.all_eq_true.1 (List.all_takeWhile (p:=(cs.contains ·)) (l:=l.reverse)) x h1) hp
   ·exact h1
 ·intro h
  rw [List.all_eq_true] at h ⊢
  intro x hx
  have:x ∈ l.reverse:=(List.dropWhile_suffix _).subset hx
  exact h x (by simpa using this)
theorem ZoG (p:Nat → Bool) (lo:∀ n,n < 128 → True) (hp:∀ n,128 ≤ n → p n = true) (s:ByteArray):∀ (f pos:Nat),s.size ≤ pos + f → 
  (Lib.idxFuncFrom p true s f pos < 0 ↔ (s.data.toList.drop pos).all (fun b => !p b.toNat) = true)
 | 0,pos,h => by
  have:s.data.toList.drop pos = []:=List.drop_eq_nil_of_le (by rw [YU]; omega)
  simp [Lib.idxFuncFrom,this]
 | f + 1,pos,h => by
  unfold Lib.idxFuncFrom
  by_cases hps:pos < s.size
  ·rw [if_pos hps]
   have hl:pos < s.data.toList.length:=by rw [YU]; exact hps
   have hget:s.data.toList[pos] = s[pos]'hps:=by simp only [Array.getElem_toList]; rfl
   rw [List.drop_eq_getElem_cons hl,List.all_cons,hget]
   by_cases ha:(s[pos]'hps).toNat < 128
   ·have hd:=decode_ascii s pos hps ha
    rw [hd]
    cases hq:p (s[pos]'hps).toNat with
    | true => simp
    | false =>
     simp only [Bool.false_eq_true,if_false,Bool.not_false,Bool.true_and]
     exact ZoG p lo hp s f (pos + 1) (by omega)
   ·have hd:=decode_high s pos hps (by omega)
    rw [if_pos (hp _ hd.1)]
    rw [hp _ (show 128 ≤ (s[pos]'hps).toNat by omega)]
    simp
  ·rw [if_neg hps]
   have:s.data.toList.drop pos = []:=List.drop_eq_nil_of_le (by rw [YU]; omega)
   simp [this]
theorem ZCc (p:Nat → Bool) (hp:∀ n,128 ≤ n → p n = true) (s:ByteArray):decide (Lib.idxFunc p true s < 0) = s.data.toList.all (fun b => !p b.toNat):=by
 have:=ZoG p (fun _ _ => trivial) hp s s.size 0 (by omega)
 rw [List.drop_zero] at this
 unfold Lib.idxFunc
 by_cases h:Lib.idxFuncFrom p true s s.size 0 < 0
 ·rw [dTr h,this.1 h]
 ·rw [dFa h]
  cases hh:s.data.toList.all (fun b => !p b.toNat) with
  | false => rfl
  | true => exact absurd (this.2 hh) h
end Go.Sh
