/-
  What the row needs, part 0.
-/
import Derived.Calls
import Derived.Laws.Sem
import Derived.Laws.World
import Derived.Orders
import Derived.Scope
import Derived.KernelRfl
import Derived.Laws.FloatArith
import Derived.Laws.ComplexArith
set_option linter.unusedSimpArgs false
set_option linter.unusedVariables false
set_option linter.unusedSectionVars false
namespace Go.Sh
open Go
inductive Ty where
 | bool | int (k:IntKind) | fl (k:FloatKind) | cx (k:FloatKind) | str | raw
 | sl (t:Ty) | unit | pair (a b:Ty)
 deriving DecidableEq
@[reducible] def Ty.den:Ty → Type
 | .bool => Bool
 | .int _ => Int
 | .fl _ => Nat
 | .cx _ => Nat × Nat
 | .str => ByteArray
 | .raw => Value
 | .sl t => List t.den
 | .unit => Unit
 | .pair a b => a.den × b.den
def Ty.size:Ty → Nat
 | .unit => 0
 | .pair a b => a.size + b.size
 | _ => 1
def Ty.dflt:(t:Ty) → t.den
 | .bool => false
 | .int _ => (0:Int)
 | .fl _ => (0:Nat)
 | .cx _ => ((0:Nat),(0:Nat))
 | .str => (⟨#[]⟩:ByteArray)
 | .raw => Value.pointer none
 | .sl _ => []
 | .unit => ()
 | .pair a b => (a.dflt,b.dflt)
def ZHY:TypeId:=5
def Ty.isU8:Ty → Bool
 | .int .u8 => true
 | _ => false
def okB (e:TypeId) (t:Ty):Bool:=bif t.isU8 then Nat.beq e ZHY else true
def ZA4 (e:TypeId) (t:Ty):Bool:=Nat.ble 1 t.size && okB e t
theorem YV {e:TypeId} {t:Ty} (h:ZA4 e t = true):1 ≤ t.size ∧ okB e t = true:=by
 unfold ZA4 at h
 simp only [Bool.and_eq_true] at h
 exact ⟨Nat.le_of_ble_eq_true h.1,h.2⟩
structure Fit (t:Ty) (T:TypeId) (n:Nat) (fz:Nat × Nat):Prop where
 free:∀ o,o < n → ¬ (fz.1 ≤ o ∧ o < fz.2)
 kind:okB T t = true
 ord:fz.1 ≤ fz.2
def ZEz (n:Int):Bool:=decide (0 ≤ n) && Nat.blt n.toNat 2147483648
theorem Zw8 {n:Int} (h:ZEz n = true):0 ≤ n ∧ n < 2147483648:=by
 unfold ZEz at h
 rw [Bool.and_eq_true] at h
 have h1:=of_decide_eq_true h.1
 have h2:=Nat.le_of_ble_eq_true h.2
 omega
inductive PV where
 | v (x:Value)
 | sl (t:Ty) (xs:List t.den)
def Q7 (w:World) (b:Nat):Option TypeId:=match w.heap[b]? with
 | some (.cells _ T _) => some T
 | _ => none
structure Ext (w:World) (lim:Nat → Nat) (w':World) (lim':Nat → Nat):Prop where
 size:w.heap.size ≤ w'.heap.size
 cell:∀ b o,o < lim b → w'.cell? ⟨b,o,none⟩ = w.cell? ⟨b,o,none⟩
 lim:∀ b o,o < lim b → o < lim' b
 typ:∀ b T,Q7 w b = some T → Q7 w' b = some T
theorem Ext.refl (w:World) (lim:Nat → Nat):Ext w lim w lim:=⟨Nat.le_refl _,fun _ _ _ => rfl,fun _ _ h => h,fun _ _ h => h⟩
theorem Ext.trans {w w' w'':World} {l l' l'':Nat → Nat} (h:Ext w l w' l') (k:Ext w' l' w'' l''):Ext w l w'' l'' :=
 ⟨Nat.le_trans h.size k.size,fun b o ho => (k.cell b o (h.lim b o ho)).trans (h.cell b o ho),fun b o ho => k.lim b o (h.lim b o ho),fun b T hT => k.typ b T (h.typ b T hT)⟩
def Rt (w:World) (lim:Nat → Nat):(t:Ty) → t.den → List Value → Prop
 | .bool,b,cs => cs = [.bool b]
 | .int k,n,cs => cs = [.int k n]
 | .fl k,n,cs => cs = [.float k n]
 | .cx k,p,cs => cs = [.complex k p.1 p.2]
 | .str,s,cs => cs = [.string s]
 | .raw,x,cs => cs = [x] ∧ x.oneCell' = true
 | .sl t,xs,cs => ∃ A len cap,cs = [.slice A len cap] ∧ xs.length = len ∧ len ≤ cap ∧
   (xs = [] ∨ ∃ b off,A = some ⟨b,off,none⟩ ∧ ∀ i (h:i < xs.length),∃ c,Rt w lim t xs[i] c ∧
    ∀ j v,c[j]? = some v → w.cell? ⟨b,off + i * t.size + j,none⟩ = some v ∧ off + i * t.size + j < lim b)
 | .unit,_,cs => cs = []
 | .pair a b,x,cs => ∃ c d,cs = c ++ d ∧ Rt w lim a x.1 c ∧ Rt w lim b x.2 d
theorem Rt.length {w:World} {lim:Nat → Nat} : {t:Ty} → {x:t.den} → {cs:List Value} → Rt w lim t x cs → cs.length = t.size
 | .bool,_,_,h => by simp only [Rt] at h; subst h; rfl
 | .int _,_,_,h => by simp only [Rt] at h; subst h; rfl
 | .fl _,_,_,h => by simp only [Rt] at h; subst h; rfl
 | .cx _,_,_,h => by simp only [Rt] at h; subst h; rfl
 | .str,_,_,h => by simp only [Rt] at h; subst h; rfl
 | .raw,_,_,h => by simp only [Rt] at h; obtain ⟨rfl,_⟩:=h; rfl
 | .sl _,_,_,h => by simp only [Rt] at h; obtain ⟨A,len,cap,rfl,_⟩:=h; rfl
 | .unit,_,_,h => by simp only [Rt] at h; subst h; rfl
 | .pair a b,_,_,h => by
  simp only [Rt] at h; obtain ⟨c,d,rfl,h1,h2⟩:=h
  simp [Ty.size,Rt.length h1,Rt.length h2]
theorem Rt.mono {w w':World} {l l':Nat → Nat} (e:Ext w l w' l') : {t:Ty} → {x:t.den} → {cs:List Value} → Rt w l t x cs → Rt w' l' t x cs
 | .bool,_,_,h => h
 | .int _,_,_,h => h
 | .fl _,_,_,h => h
 | .cx _,_,_,h => h
 | .str,_,_,h => h
 | .raw,_,_,h => h
 | .unit,_,_,h => h
 | .pair a b,_,_,h => by
  simp only [Rt] at h ⊢; obtain ⟨c,d,rfl,h1,h2⟩:=h
  exact ⟨c,d,rfl,Rt.mono e h1,Rt.mono e h2⟩
 | .sl t,xs,_,h => by
  simp only [Rt] at h ⊢
  obtain ⟨A,len,cap,rfl,hl,hc,h⟩:=h
  refine ⟨A,len,cap,rfl,hl,hc,?_⟩
  rcases h with h | ⟨b,off,hA,h⟩
  ·exact .inl h
  ·refine .inr ⟨b,off,hA,fun i hi => ?_⟩
   obtain ⟨c,hr,hcell⟩:=h i hi
   refine ⟨c,Rt.mono e hr,fun j v hj => ?_⟩
   obtain ⟨h1,h2⟩:=hcell j v hj
   exact ⟨(e.cell _ _ h2).trans h1,e.lim _ _ h2⟩
def RP (w:World) (lim:Nat → Nat):PV → Value → Prop
 | .v x,v => v = x
 | .sl t xs,v => Rt w lim (.sl t) xs [v]
theorem RP.mono {w w':World} {l l':Nat → Nat} (e:Ext w l w' l') {p:PV} {v:Value} (h:RP w l p v):RP w' l' p v:=by
 cases p with
 | v x => exact h
 | sl t xs => exact Rt.mono e h
def ZX {α β:Type} (R:α → β → Prop):List α → List β → Prop
 | [],[] => True
 | a :: l,b :: m => R a b ∧ ZX R l m
 | _,_ => False
section all2
variable {α β:Type} {R S:α → β → Prop}
theorem ZX.length : {l:List α} → {m:List β} → ZX R l m → l.length = m.length
 | [],[],_ => rfl
 | _ :: _,_ :: _,h => by simp [ZX.length h.2]
theorem ZX.mono (h:∀ a b,R a b → S a b) : {l:List α} → {m:List β} → ZX R l m → ZX S l m
 | [],[],_ => trivial
 | _ :: _,_ :: _,k => ⟨h _ _ k.1,ZX.mono h k.2⟩
theorem ZX.append : {l:List α} → {m:List β} → {l':List α} → {m':List β} → ZX R l m → ZX R l' m' → ZX R (l ++ l') (m ++ m')
 | [],[],_,_,_,k => k
 | _ :: _,_ :: _,_,_,h,k => ⟨h.1,ZX.append h.2 k⟩
theorem ZX.get : {l:List α} → {m:List β} → ZX R l m → {i:Nat} → {a:α} → l[i]? = some a → ∃ b,m[i]? = some b ∧ R a b
 | [],[],_,_,_,h => by simp at h
 | x :: l,y :: m,k,0,a,h => by simp at h; subst h; exact ⟨y,rfl,k.1⟩
 | x :: l,y :: m,k,i + 1,a,h => by simp at h; obtain ⟨b,hb,hr⟩:=ZX.get k.2 h; exact ⟨b,by simpa using hb,hr⟩
theorem ZX.drop : {l:List α} → {m:List β} → (i:Nat) → ZX R l m → ZX R (l.drop i) (m.drop i)
 | [],[],i,_ => by simp [ZX]
 | _ :: _,_ :: _,0,h => h
 | _ :: _,_ :: _,i + 1,h => by simpa using ZX.drop i h.2
theorem ZX.take : {l:List α} → {m:List β} → (i:Nat) → ZX R l m → ZX R (l.take i) (m.take i)
 | [],[],i,_ => by simp [ZX]
 | _ :: _,_ :: _,0,_ => trivial
 | _ :: _,_ :: _,i + 1,h => ⟨h.1,ZX.take i h.2⟩
theorem ZX.set : {l:List α} → {m:List β} → {a:α} → {b:β} → (i:Nat) → ZX R l m → R a b → ZX R (l.set i a) (m.set i b)
 | [],[],_,_,_,_,_ => trivial
 | _ :: _,_ :: _,_,_,0,h,k => ⟨k,h.2⟩
 | _ :: _,_ :: _,_,_,i + 1,h,k => ⟨h.1,ZX.set i h.2 k⟩
theorem ZX.split : {l:List α} → {m:List β} → {l':List α} → ZX R (l ++ l') m → ∃ a b,m = a ++ b ∧ ZX R l a ∧ ZX R l' b
 | [],m,_,h => ⟨[],m,rfl,trivial,h⟩
 | _ :: _,[],_,h => h.elim
 | _ :: _,y :: m,_,h => by
  obtain ⟨a,b,rfl,h1,h2⟩:=ZX.split h.2
  exact ⟨y :: a,b,rfl,⟨h.1,h1⟩,h2⟩
theorem ZX.map_left {γ:Type} {f:γ → α} : {l:List γ} → {m:List β} → ZX (fun a b => R (f a) b) l m → ZX R (l.map f) m
 | [],[],_ => trivial
 | _ :: _,_ :: _,h => ⟨h.1,ZX.map_left h.2⟩
end all2
def cellsOf:(t:Ty) → t.den → List PV
 | .bool,b => [.v (.bool b)]
 | .int k,n => [.v (.int k n)]
 | .fl k,n => [.v (.float k n)]
 | .cx k,p => [.v (.complex k p.1 p.2)]
 | .str,s => [.v (.string s)]
 | .raw,x => [.v x]
 | .sl t,xs => [.sl t xs]
 | .unit,_ => []
 | .pair a b,x => cellsOf a x.1 ++ cellsOf b x.2
theorem Xp {w:World} {lim:Nat → Nat} : {t:Ty} → {x:t.den} → {cs:List Value} → Rt w lim t x cs → ZX (RP w lim) (cellsOf t x) cs
 | .bool,_,_,h => by simp only [Rt] at h; subst h; exact ⟨rfl,trivial⟩
 | .int _,_,_,h => by simp only [Rt] at h; subst h; exact ⟨rfl,trivial⟩
 | .fl _,_,_,h => by simp only [Rt] at h; subst h; exact ⟨rfl,trivial⟩
 | .cx _,_,_,h => by simp only [Rt] at h; subst h; exact ⟨rfl,trivial⟩
 | .str,_,_,h => by simp only [Rt] at h; subst h; exact ⟨rfl,trivial⟩
 | .raw,_,_,h => by simp only [Rt] at h; obtain ⟨rfl,_⟩:=h; exact ⟨rfl,trivial⟩
 | .unit,_,_,h => by simp only [Rt] at h; subst h; exact trivial
 | .sl t,xs,cs,h => by
  have hl:cs.length = 1:=Rt.length h
  match cs,hl with
  | [c],_ => exact ⟨h,trivial⟩
 | .pair a b,x,_,h => by
  simp only [Rt] at h; obtain ⟨c,d,rfl,h1,h2⟩:=h
  exact ZX.append (Xp h1) (Xp h2)
def PV.asBool:PV → Option Bool
 | .v (.bool b) => some b
 | _ => none
def PV.asInt (k:IntKind):PV → Option Int
 | .v (.int k' n) => if k' = k then some n else none
 | _ => none
def PV.asFl (k:FloatKind):PV → Option Nat
 | .v (.float k' n) => if k' = k then some n else none
 | _ => none
def PV.asCx (k:FloatKind):PV → Option (Nat × Nat)
 | .v (.complex k' a b) => if k' = k then some (a,b) else none
 | _ => none
def PV.asStr:PV → Option ByteArray
 | .v (.string s) => some s
 | _ => none
def PV.asRaw:PV → Option Value
 | .v x => bif x.oneCell' then some x else none
 | _ => none
def K7:Value → Bool
 | .slice none 0 0 => true
 | _ => false
theorem Kl {x:Value} (h:K7 x = true):x = .slice none 0 0:=by
 unfold K7 at h
 split at h <;> simp_all
def PV.asSl (t:Ty):PV → Option (List t.den)
 | .sl t' xs => if h:t' = t then some (h ▸ xs) else none
 | .v x => if K7 x then some [] else none
def ZsD {α:Type} (f:PV → Option α):List PV → Option (α × List PV)
 | [] => none
 | p :: r => match f p with
  | some x => some (x,r)
  | none => none
def ZaI:(t:Ty) → List PV → Option (t.den × List PV)
 | .bool,l => ZsD PV.asBool l
 | .int k,l => ZsD (PV.asInt k) l
 | .fl k,l => ZsD (PV.asFl k) l
 | .cx k,l => ZsD (PV.asCx k) l
 | .str,l => ZsD PV.asStr l
 | .raw,l => ZsD PV.asRaw l
 | .sl t,l => ZsD (PV.asSl t) l
 | .unit,r => some ((),r)
 | .pair a b,l => match ZaI a l with
  | some (x,r) => (match ZaI b r with | some (y,r') => some ((x,y),r') | none => none)
  | none => none
theorem Zcm {α:Type} {f:PV → Option α} {w:World} {lim:Nat → Nat} {R:α → List Value → Prop} (hf:∀ p x v,f p = some x → RP w lim p v → R x [v])
  {ps:List PV} {x:α} {r:List PV} {cs:List Value} (h:ZsD f ps = some (x,r)) (k:ZX (RP w lim) ps cs) :
  ∃ c d,cs = c ++ d ∧ R x c ∧ ZX (RP w lim) r d:=by
 match ps,cs,k with
 | p :: ps,c :: cs,k =>
  unfold ZsD at h
  cases hp:f p with
  | none => simp [hp] at h
  | some y =>
   simp [hp] at h
   obtain ⟨rfl,rfl⟩:=h
   exact ⟨[c],cs,rfl,hf _ _ _ hp k.1,k.2⟩
theorem ZsA {w:World} {lim:Nat → Nat} {t:Ty} {p:PV} {x:List t.den} {v:Value} (h:PV.asSl t p = some x) (k:RP w lim p v):Rt w lim (.sl t) x [v]:=by
 cases p with
 | v y =>
  simp only [PV.asSl] at h
  split at h
  ·rename_i hn
   simp at h; subst h
   have:=Kl hn; subst this
   simp only [RP] at k; subst k
   simp only [Rt]
   exact ⟨none,0,0,rfl,rfl,Nat.le_refl _,.inl trivial⟩
  ·contradiction
 | sl t' xs =>
  simp only [PV.asSl] at h
  split at h
  ·rename_i ht
   subst ht
   simp at h; subst h
   exact k
  ·contradiction
theorem Zf7 {w:World} {lim:Nat → Nat} : {t:Ty} → {ps:List PV} → {x:t.den} → {r:List PV} → {cs:List Value} →
  ZaI t ps = some (x,r) → ZX (RP w lim) ps cs → ∃ c d,cs = c ++ d ∧ Rt w lim t x c ∧ ZX (RP w lim) r d
 | .bool,ps,x,r,cs,h,k => Zcm (f:=PV.asBool) (fun p x v hp hr => by
   unfold PV.asBool at hp; split at hp <;> simp at hp; subst hp; simp only [RP] at hr; subst hr; rfl) h k
 | .int kk,ps,x,r,cs,h,k => Zcm (f:=PV.asInt kk) (fun p x v hp hr => by
   unfold PV.asInt at hp; split at hp <;> simp at hp; obtain ⟨rfl,rfl⟩:=hp; simp only [RP] at hr; subst hr; rfl) h k
 | .fl kk,ps,x,r,cs,h,k => Zcm (f:=PV.asFl kk) (fun p x v hp hr => by
   unfold PV.asFl at hp; split at hp <;> simp at hp; obtain ⟨rfl,rfl⟩:=hp; simp only [RP] at hr; subst hr; rfl) h k
 | .cx kk,ps,x,r,cs,h,k => Zcm (f:=PV.asCx kk) (fun p x v hp hr => by
   unfold PV.asCx at hp; split at hp <;> simp at hp; obtain ⟨rfl,rfl⟩:=hp; simp only [RP] at hr; subst hr; rfl) h k
 | .str,ps,x,r,cs,h,k => Zcm (f:=PV.asStr) (fun p x v hp hr => by
   unfold PV.asStr at hp; split at hp <;> simp at hp; subst hp; simp only [RP] at hr; subst hr; rfl) h k
 | .raw,ps,x,r,cs,h,k => Zcm (f:=PV.asRaw) (fun p x v hp hr => by
   unfold PV.asRaw at hp
   split at hp
   ·rename_i y
    cases hy:y.oneCell' with
    | false => simp [hy] at hp
    | true => simp [hy] at hp; subst hp; simp only [RP] at hr; subst hr; exact ⟨rfl,hy⟩
   ·simp at hp) h k
 | .sl t,ps,x,r,cs,h,k => Zcm (f:=PV.asSl t) (R:=Rt w lim (.sl t)) (fun p x v hp hr => ZsA hp hr) h k
 | .unit,ps,x,r,cs,h,k => by
   simp only [ZaI,Option.some.injEq,Prod.mk.injEq] at h
   obtain ⟨_,rfl⟩:=h
   exact ⟨[],cs,rfl,rfl,k⟩
 | .pair a b,ps,x,r,cs,h,k => by
   simp only [ZaI] at h
   cases ha:ZaI a ps with
   | none => simp [ha] at h
   | some q =>
    obtain ⟨y,r1⟩:=q
    simp only [ha] at h
    cases hb:ZaI b r1 with
    | none => simp [hb] at h
    | some q2 =>
     obtain ⟨z,r2⟩:=q2
     simp only [hb,Option.some.injEq,Prod.mk.injEq] at h
     obtain ⟨rfl,rfl⟩:=h
     obtain ⟨c,d,rfl,h1,h2⟩:=Zf7 ha k
     obtain ⟨c',d',rfl,h3,h4⟩:=Zf7 hb h2
     exact ⟨c ++ c',d',by simp,⟨c,c',rfl,h1,h3⟩,h4⟩
def Zac (t:Ty) (ps:List PV):Option t.den :=
 match ZaI t ps with
 | some (x,[]) => some x
 | _ => none
theorem ZbP {w:World} {lim:Nat → Nat} {t:Ty} {ps:List PV} {x:t.den} {cs:List Value} (h:Zac t ps = some x) (k:ZX (RP w lim) ps cs):Rt w lim t x cs:=by
 unfold Zac at h
 split at h
 ·rename_i y hy
  simp at h; subst h
  obtain ⟨c,d,rfl,h1,h2⟩:=Zf7 hy k
  match d,h2 with
  | [],_ => simpa using h1
 ·contradiction
def Ty.eqb:(t:Ty) → t.den → t.den → Bool
 | .bool,a,b => a == b
 | .int _,a,b => decide ((a:Int) = b)
 | .str,a,b => decide ((a:ByteArray) = b)
 | .pair s t,x,y => s.eqb x.1 y.1 && t.eqb x.2 y.2
 | .unit,_,_ => true
 | .fl _,_,_ => false
 | .cx _,_,_ => false
 | .raw,_,_ => false
 | .sl _,_,_ => false
end Go.Sh
namespace Go.Sh
open Go
inductive AV where
 | dead
 | val (p:PV)
 | own (r:Nat)                          -- a slice of one's own
 | bx (r k:Nat)                         -- the address of a cell of a box
 | el (r:Nat) (t:Ty) (i k:Nat)      -- the address of a cell of an element of a slice of one's own
 | sp (ps:List PV)                      -- an address of cells that stay
 | agg (cs:List AV)
 | tup (vs:List AV)
 | fn (f:Nat)
 | me (r:Nat) (T:TypeId)              -- nil,or the address of r,which is of this type
 | clo (f:Nat) (cs:List AV)           -- a function with what it captured
 | sub (r:Nat) (t:Ty) (i j:Nat)     -- a part of a slice of one's own
 | ns (t:Ty) (xs:List t.den)          -- a slice that is nil if it has no elements
inductive Res where
 | box (cs:List AV)
 | arr (t:Ty) (xs:List t.den) (shown:Bool)
 | nest (t:Ty) (xss:List (List t.den)) (h:Option Nat)      -- a row of slices of one's own (one may be taken out)
inductive RS where
 | fresh | gone
 | live (x:Res)
abbrev Qh:=Nat → RS
abbrev Q4:=List (Nat × RS)
def ZA:Q4 → Nat → Option RS
 | [],_ => none
 | (i,x) :: l,r => bif Nat.beq i r then some x else ZA l r
def Qb:Nat:=1152921504606846976
def XB (r i:Nat):Nat:=(i + 1) * Qb + r
def Qh.put (T:Qh) (u:Q4):Qh:=fun r => match ZA u r with | some x => x | none => T r
structure St where
 env:Nat → AV
 tbl:Qh
def Zah (e:Nat → AV) (d:Nat) (a:AV):Nat → AV:=fun s => bif Nat.beq s d then a else e s
def W8 (e:Nat → AV) (d:Option Nat) (a:AV):Nat → AV:=match d with | some d => Zah e d a | none => e
inductive M (α:Type):Type 1 where
 | ret (a:α)
 | fail
 | get (r:Nat) (k:RS → M α)
 | need (b:Bool) (k:M α)
 | br (b:Bool) (k:Bool → M α)
 | opt {ρ:Type} (o:Option ρ) (k:ρ → M α)
namespace M
variable {α β R:Type}
def runK (T:Qh):M α → List Nat → (α → List Nat → Option R) → Option R
 | .ret a,l,K => K a l
 | .fail,_,_ => none
 | .get r k,l,K => runK T (k (T r)) (r :: l) K
 | .need b k,l,K => bif b then runK T k l K else none
 | .br b k,l,K => bif b then runK T (k true) l K else runK T (k false) l K
 | .opt o k,l,K => o.bind fun x => runK T (k x) l K
def run (T:Qh):M α → List Nat → Option (α × List Nat)
 | .ret a,l => some (a,l)
 | .fail,_ => none
 | .get r k,l => run T (k (T r)) (r :: l)
 | .need b k,l => bif b then run T k l else none
 | .br b k,l => run T (k b) l
 | .opt o k,l => o.bind fun x => run T (k x) l
def bind:M α → (α → M β) → M β
 | .ret a,f => f a
 | .fail,_ => .fail
 | .get r k,f => .get r fun x => bind (k x) f
 | .need b k,f => .need b (bind k f)
 | .br b k,f => .br b fun x => bind (k x) f
 | .opt o k,f => .opt o fun x => bind (k x) f
def ofOpt (o:Option α):M α:=match o with | some a => .ret a | none => .fail
end M
inductive Kd where
 | view (t:Ty) | own (t:Ty) (sh:Bool) | box (ks:List Kd) | agg (ks:List Kd) | tup (ks:List Kd) | fn (f:Nat) | bld (T:TypeId) | use (T:TypeId) | clo (f:Nat) (ks:List Kd) | ref (ks:List Kd) | ns (t:Ty)
inductive RV where
 | view (t:Ty) (x:t.den)
 | own (t:Ty) (sh:Bool) (xs:List t.den)
 | box (cs:List RV)
 | agg (cs:List RV)
 | tup (vs:List RV)
 | fn (f:Nat)
 | bld (T:TypeId) (xs:List Int)          -- a builder of bytes
 | clo (f:Nat) (cs:List RV)
 | ns (t:Ty) (xs:List t.den)
structure Callee where
 ρ:Type
 pk:List Kd
 run:Nat → List RV → Option ρ
 enc:ρ → RV × List RV
structure Ctx where
 P:Program
 Φ:Nat → Option Callee
 k:Nat                                   -- rounds
 live:Nat → List Nat                     -- of a loop: which slots live at its head,and which of them hold a slice of one's own
def Ty.isAgg:Ty → Bool
 | .pair _ _ | .unit => true
 | _ => false
def Zs1 (t:Ty) (x:t.den):AV :=
 bif t.isAgg then .agg ((cellsOf t x).map .val) else match cellsOf t x with | [p] => .val p | _ => .dead
def AV.cells? : AV → Option (List AV)
 | .agg cs => some cs
 | .dead | .tup _ => none
 | .val (.v x) => bif x.oneCell' then some [.val (.v x)] else none
 | a => some [a]
def ZsN (P:Program):Nat → TypeId → Option Ty
 | 0,_ => none
 | n + 1,t => match P.underlying t with
  | some .bool => some .bool
  | some (.int k) => some (.int k)
  | some (.float k) => some (.fl k)
  | some (.complex k) => some (.cx k)
  | some .string => some .str
  | some (.slice e) => (ZsN P n e).map .sl
  | some (.struct fs) => fs.toList.foldr (fun f acc => match ZsN P n f.type,acc with | some a,some b => some (.pair a b) | _,_ => none) (some .unit)
  | some (.array _ _) => none
  | some _ => some .raw
  | none => none
def depth:Nat:=12
def Zib:TypeDesc → Bool
 | .struct _ | .array _ _ => true
 | _ => false
def Yc (P:Program) (t:TypeId):Option (TypeId × Ty):=match P.underlying t with
 | some (.slice e) => match ZsN P depth e with
  | some ty => bif Nat.beq (P.cellsOf e) ty.size then some (e,ty) else none
  | none => none
 | _ => none
def zeroCells (P:Program) (t:TypeId):Option (List Value):=match P.info? t with
 | some i => i.zero.map fun v => v.cells.toList
 | none => none
def ZeW (P:Program) (t:TypeId):Option (Array Field):=match P.underlying t with
 | some (.struct fs) => some fs
 | _ => none
def ZaP {α:Type} (P:Program):Sem α → Option α
 | .pure a => some a
 | .program k => ZaP P (k P)
 | _ => none
def YU:AV → AV
 | .ns t xs => .val (.sl t xs)
 | a => a
def ZnC (t:Ty):AV → M (List t.den)
 | .own r => .get r fun
  | .live (.arr t' xs _) => if h:t' = t then .ret (h ▸ xs) else .fail
  | _ => .fail
 | .val p => M.ofOpt (PV.asSl t p)
 | _ => .fail
def ZFa:AV → M (PV × Q4)
 | .val p => .ret (p,[])
 | .ns t xs => .ret (.sl t xs,[])
 | .own r => .get r fun
  | .live (.arr t xs _) => .ret (.sl t xs,[(r,.live (.arr t xs true))])
  | _ => .fail
 | .sub r t i j => .get r fun
  | .live (.arr t' xs _) => if t' = t then .need (decide (i ≤ j ∧ j ≤ xs.length)) (.ret (.sl t' ((xs.take j).drop i),[(r,.live (.arr t' xs true))])) else .fail
  | _ => .fail
 | _ => .fail
def Zvx:List AV → M (List PV × Q4)
 | [] => .ret ([],[])
 | a :: l => (ZFa a).bind fun (p,u) => (Zvx l).bind fun (ps,v) => .ret (p :: ps,u ++ v)
def Zy1 (t:Ty) (a:AV):M (t.den × Q4) :=
 match a with
 | .agg cs => bif t.isAgg then (Zvx cs).bind fun (ps,u) => match Zac t ps with | some x => .ret (x,u) | none => .fail else .fail
 | a => bif t.isAgg then .fail else (ZFa a).bind fun (p,u) => match Zac t [p] with | some x => .ret (x,u) | none => .fail
def ZHD (r:Nat) (T:TypeId):AV → Bool
 | .me q U => Nat.beq q r && Nat.beq U T
 | _ => false
def Zcq (t:Ty):AV → M (List t.den × Q4)
 | .own r => .get r fun
  | .live (.arr t' xs s) => if h:t' = t then (bif !s then .ret (h ▸ xs,[(r,.gone)]) else .fail) else .fail
  | _ => .fail
 | .val (.v x) => bif K7 x && Nat.ble 1 t.size then .ret ([],[]) else .fail
 | _ => .fail
def Zxy (t:Ty):AV → M (RV × Q4)
 | .ns t' xs => if h:t' = t then .ret (.ns t (h ▸ xs),[]) else .fail
 | .val (.v x) => bif K7 x then .ret (.ns t [],[]) else .fail
 | .own r => .get r fun
  | .live (.arr t' xs _) => if h:t' = t then .need (decide (0 < xs.length)) (.ret (.ns t (h ▸ xs),[(r,.live (.arr t' xs true))])) else .fail
  | _ => .fail
 | _ => .fail
mutual

def take:Kd → AV → M (RV × Q4)
 | .view t,a => (Zy1 t a).bind fun (x,u) => .ret (.view t x,u)
 | .own t sh,.own r => .get r fun
  | .live (.arr t' xs s) => if h:t' = t then (bif sh || !s then .ret (.own t sh (h ▸ xs),[(r,.gone)]) else .fail) else .fail
  | _ => .fail
 | .own t sh,.val (.v x) => bif K7 x && Nat.ble 1 t.size then .ret (.own t sh [],[]) else .fail
 | .box ks,.bx r 0 => .get r fun
  | .live (.box cs) => (takes ks cs).bind fun (l,u) => .ret (.box l,(r,.gone) :: u)
  | _ => .fail
 | .ref ks,.bx r 0 => .get r fun
  | .live (.box cs) => (takes ks cs).bind fun (l,u) => .ret (.box l,(r,.gone) :: u)
  | _ => .fail
 | .agg ks,.agg cs => (takes ks cs).bind fun (l,u) => .ret (.agg l,u)
 | .tup ks,.tup cs => (takes ks cs).bind fun (l,u) => .ret (.tup l,u)
 | .fn f,.fn g => bif Nat.beq f g then .ret (.fn f,[]) else .fail
 | .ns t,a => Zxy t a
 | .clo f ks,.clo g cs => bif Nat.beq f g then (takes ks cs).bind fun (l,u) => .ret (.clo f l,u) else .fail
 | .bld T,.bx r 0 => .get r fun
  | .live (.box [c0,c1]) => bif ZHD r T c0 then (Zcq (.int .u8) c1).bind fun (xs,u) => .ret (.bld T xs,(r,.gone) :: u) else .fail
  | _ => .fail
 | .use T,.bx r 0 => .get r fun
  | .live (.box [c0,c1]) => bif ZHD r T c0 then (Zcq (.int .u8) c1).bind fun (xs,u) => .ret (.bld T xs,(r,.gone) :: u) else .fail
  | _ => .fail
 | _,_ => .fail
def takes:List Kd → List AV → M (List RV × Q4)
 | [],[] => .ret ([],[])
 | k :: ks,a :: as => (take k a).bind fun (x,u) => (takes ks as).bind fun (l,v) => .ret (x :: l,u ++ v)
 | _,_ => .fail
end
def Zk3:RS → RS → Bool
 | .live (.arr _ _ true),.live (.arr _ _ true) => true
 | _,_ => false
def Zfj:Q4 → Bool
 | [] => true
 | (i,x) :: l => (l.all fun (j,y) => !(Nat.beq i j) || Zk3 x y) && Zfj l
mutual

def put (n:Nat):RV → AV × Q4 × Nat
 | .view t x => (Zs1 t x,[],n)
 | .own t sh xs => (.own n,[(n,.live (.arr t xs sh))],n + 1)
 | .box cs => (.bx n 0,(n,.live (.box (ZK (n + 1) cs).1)) :: (ZK (n + 1) cs).2.1,(ZK (n + 1) cs).2.2)
 | .agg cs => (.agg (ZK n cs).1,(ZK n cs).2.1,(ZK n cs).2.2)
 | .tup cs => (.tup (ZK n cs).1,(ZK n cs).2.1,(ZK n cs).2.2)
 | .fn f => (.fn f,[],n)
 | .ns t xs => (.ns t xs,[],n)
 | .bld T xs => (.bx n 0,[(n,.live (.box [.me n T,.own (n + 1)])),(n + 1,.live (.arr (.int .u8) xs false))],n + 2)
 | .clo f cs => (.clo f (ZK n cs).1,(ZK n cs).2.1,(ZK n cs).2.2)
def ZK (n:Nat):List RV → List AV × Q4 × Nat
 | [] => ([],[],n)
 | x :: l => ((put n x).1 :: (ZK (put n x).2.2 l).1,(ZK (put n x).2.2 l).2.1 ++ (put n x).2.1,(ZK (put n x).2.2 l).2.2)
end
def ZQ:List Kd → List Kd
 | [] => []
 | .clo _ ks :: l => ks ++ ZQ l
 | k :: l => k :: ZQ l
def Ql:List Kd → List AV → List AV
 | .clo _ _ :: l,.clo _ cs :: as => cs ++ Ql l as
 | _ :: l,a :: as => a :: Ql l as
 | _,_ => []
def W4:List Kd → List Value → List Value
 | .clo _ _ :: l,.func _ _ cs :: vs => cs.toList ++ W4 l vs
 | _ :: l,v :: vs => v :: W4 l vs
 | _,_ => []
def Xd:List Kd → List AV → Bool
 | [],[] => true
 | .clo _ ks :: l,.clo _ cs :: as => Nat.beq ks.length cs.length && Xd l as
 | .clo _ _ :: _,_ => false
 | _ :: l,_ :: as => Xd l as
 | _,_ => false
def Zz:List Kd → List AV → Option (List Nat)
 | [],[] => some []
 | .ref _ :: ks,.bx r 0 :: as => match Zz ks as with | some q => some (r :: q) | none => none
 | .ref _ :: _,_ => none
 | _ :: ks,_ :: as => Zz ks as
 | _,_ => none
def Kx:List Kd → Bool
 | [] => false
 | .ref _ :: _ => true
 | _ :: l => Kx l
def Zb4 (ks:List Kd) (r:Nat):M (List Nat):=bif Kx ks then .get r fun
  | .live (.box cs) => M.ofOpt (Zz ks cs)
  | _ => .fail
 else .ret []
def KE:List Kd → List AV → M (List (List Nat))
 | .box ks :: l,.bx r 0 :: as => (Zb4 ks r).bind fun q => (KE l as).bind fun qs => .ret (q :: qs)
 | .box _ :: _,_ :: _ => .fail
 | _ :: l,_ :: as => KE l as
 | _,_ => .ret []
def ZJ (n:Nat):List Nat → List Kd → List RV → List AV × Q4 × Nat
 | q :: qs,.ref _ :: ks,.box ds :: cs => (.bx q 0 :: (ZJ (ZK n ds).2.2 qs ks cs).1,(ZJ (ZK n ds).2.2 qs ks cs).2.1 ++ ((q,.live (.box (ZK n ds).1)) :: (ZK n ds).2.1),(ZJ (ZK n ds).2.2 qs ks cs).2.2)
 | _ :: qs,.ref _ :: ks,x :: cs => ((put n x).1 :: (ZJ (put n x).2.2 qs ks cs).1,(ZJ (put n x).2.2 qs ks cs).2.1 ++ (put n x).2.1,(ZJ (put n x).2.2 qs ks cs).2.2)
 | qs,_ :: ks,x :: cs => ((put n x).1 :: (ZJ (put n x).2.2 qs ks cs).1,(ZJ (put n x).2.2 qs ks cs).2.1 ++ (put n x).2.1,(ZJ (put n x).2.2 qs ks cs).2.2)
 | _,_,cs => ZK n cs
def Zy (n:Nat):List (List Nat) → List Kd → List AV → List RV → Option (Q4 × Nat)
 | _,[],[],[] => some ([],n)
 | qs :: nm,.box ks0 :: ks,.bx r 0 :: as,.box cs :: rs => match Zy (ZJ n qs ks0 cs).2.2 nm ks as rs with
   | some (v,m') => some (v ++ (r,.live (.box (ZJ n qs ks0 cs).1)) :: (ZJ n qs ks0 cs).2.1,m')
   | none => none
 | _,.box _ :: _,_,_ => none
 | nm,.bld _ :: ks,.bx r 0 :: as,.bld T xs :: rs => match Zy (n + 1) nm ks as rs with
   | some (v,m') => some (v ++ [(r,.live (.box [.me r T,.own n])),(n,.live (.arr (.int .u8) xs false))],m')
   | none => none
 | _,.bld _ :: _,_,_ => none
 | nm,_ :: ks,_ :: as,rs => Zy n nm ks as rs
 | _,_,_,_ => none
def QU {α:Type}:(n m:Nat) → M α → M α
 | _,0,k => k
 | n,m + 1,k => .get n fun | .fresh => QU (n + 1) m k | _ => .fail
structure Eff where
 val:AV
 ups:Q4
def plain:Value → Bool
 | .bool _ | .int _ _ | .float _ _ | .complex _ _ _ | .string _ => true
 | _ => false
def bytesOf (l:List Int):ByteArray:=⟨(l.map fun n => UInt8.ofNat n.toNat).toArray⟩
def WQ (s:ByteArray):List Int:=s.data.toList.map fun b => (b.toNat:Int)
def bt (s:ByteArray) (i:Int):Int:=((s.data.toList.getD i.toNat 0).toNat:Int)
def Zic (x y:Value) (f:IntKind → Int → IntKind → Int → M Eff) (g:M Eff):M Eff:=match x with
 | .int k a => (match y with | .int k' b => f k a k' b | _ => g)
 | _ => g
def ZvQ (x y:Value) (f:ByteArray → ByteArray → M Eff) (g:M Eff):M Eff:=match x with
 | .string a => (match y with | .string b => f a b | _ => g)
 | _ => g
def ZdT (C:Ctx) (s:Sem Value):M Eff:=match ZaP C.P s with
 | some v => bif plain v then .ret ⟨.val (.v v),[]⟩ else .fail
 | none => .fail
def ZvL (C:Ctx) (op:BinOp) (T:TypeId) (x y:Value):M Eff :=
 bif plain x && plain y then
  match op with
  | .quo => Zic x y (fun k a k' b => bif decide (k = k') then .need (decide (b ≠ 0)) (.ret ⟨.val (.v (.int k (k.wrap (a.tdiv b)))),[]⟩) else .fail) (ZdT C (binOp .quo T x y))
  | .rem => Zic x y (fun k a k' b => bif decide (k = k') then .need (decide (b ≠ 0)) (.ret ⟨.val (.v (.int k (a.tmod b))),[]⟩) else .fail) .fail
  | .shl => Zic x y (fun k a _ b => .need (decide (0 ≤ b)) (.ret ⟨.val (.v (.int k (k.wrap (a * 2 ^ (min b.toNat k.bits))))),[]⟩)) .fail
  | .shr => Zic x y (fun k a _ b => .need (decide (0 ≤ b)) (.ret ⟨.val (.v (.int k (a.fdiv (2 ^ (min b.toNat k.bits))))),[]⟩)) .fail
  | .add => ZvQ x y (fun a b => .need (decide (a.size + b.size < 1099511627776)) (.ret ⟨.val (.v (.string (a ++ b))),[]⟩)) (ZdT C (binOp .add T x y))
  | op => ZdT C (binOp op T x y)
 else .fail
def Zu3:Value → Bool
 | .pointer none => true
 | _ => false
def Zdt (place:Nat → Option (Nat × Nat)) (cells:List AV):List (Nat × AV) → Option (List AV)
 | [] => some cells
 | (i,a) :: rest => match place i,a.cells? with
  | some (off,size),some cs =>
   bif Nat.beq cs.length size && Nat.ble (off + size) cells.length then Zdt place (cells.take off ++ cs ++ cells.drop (off + size)) rest else none
  | _,_ => none
def dens (t:Ty):List AV → M (List t.den × Q4)
 | [] => .ret ([],[])
 | a :: l => (Zy1 t a).bind fun (x,u) => (dens t l).bind fun (xs,v) => .ret (x :: xs,u ++ v)
def Zj0 (C:Ctx) (t:Ty) (z:t.den) (U:TypeId) (x:AV) (k:List t.den → M Eff):M Eff:=match C.P.underlying U with
 | some .string => match x with
  | .val (.v (.string s)) => if h:t = .int .u8 then k (h ▸ WQ s) else .fail
  | _ => .fail
 | some (.int _) => match x with
  | .val (.v (.int .i64 n)) => .need (ZEz n) (k (List.replicate n.toNat z))
  | _ => .fail
 | some (.slice _) => (ZnC t x).bind k
 | _ => .fail
def ZxD (base:Nat) (t:Ty) (u:Q4) (xs:List t.den) (shown:Bool) (ys:List t.den):M Eff :=
 .need (decide (xs.length + ys.length < 2147483648)) (QU base 1 (.ret ⟨.own base,(base,.live (.arr t (xs ++ ys) shown)) :: u⟩))
def Zh7 (C:Ctx) (base:Nat) (argTypes:Array TypeId) (s x:AV):M Eff :=
 match argTypes.toList with
 | [T,U] => match Yc C.P T with
  | some (e,t) => bif Nat.ble (C.P.bytesOf e) 65536 && ZA4 e t then
    match zeroCells C.P e with
    | some zs => match Zac t (zs.map .v) with
     | some z => match s with
      | .own r => .get r fun
       | .live (.arr t' xs shown) => if h:t' = t then Zj0 C t z U x (ZxD base t [(r,.gone)] (h ▸ xs) shown) else .fail
       | _ => .fail
      | .val (.v v) => bif K7 v then Zj0 C t z U x (ZxD base t [] [] false) else .fail
      | _ => .fail
     | none => .fail
    | none => .fail
   else .fail
  | none => .fail
 | _ => .fail
def Zu9 (k:FloatKind) (x y:Nat):Option Nat:=match k.format.order x y with
 | none => none
 | some .lt => some y
 | some .gt => some x
 | some .eq => some (if (k.decode x).neg then y else x)
def Zqw (t:Ty) (y:AV) (k:List t.den → M Eff):M Eff:=match y with
 | .sub r u i j => .get r fun
  | .live (.arr t' ys _) => if h:t' = t then (if u = t then .need (decide (i ≤ j ∧ j ≤ ys.length)) (k (((h ▸ ys:List t.den).take j).drop i)) else .fail) else .fail
  | _ => .fail
 | _ => (ZnC t y).bind k
def Zgs (r:Nat) (t:Ty) (xs:List t.den) (i j:Nat) (y:AV):M Eff :=
 Zqw t y fun ys => .ret ⟨.val (.v (.int .i64 ((min ys.length (j - i):Nat):Int))),[(r,.live (.arr t (xs.take i ++ ys.take (j - i) ++ xs.drop (i + min ys.length (j - i))) false))]⟩
def Zqh (C:Ctx) (argTypes:Array TypeId) (x y:AV):M Eff:=match argTypes.toList with
 | [T,_] => match Yc C.P T with
  | some (_,t) => match x with
   | .own r => .get r fun
    | .live (.arr t' xs false) => if t' = t then Zgs r t' xs 0 xs.length y else .fail
    | _ => .fail
   | .sub r u i j => .get r fun
    | .live (.arr t' xs false) => if t' = t then (if u = t then .need (decide (i ≤ j ∧ j ≤ xs.length)) (Zgs r t' xs i j y) else .fail) else .fail
    | _ => .fail
   | _ => .fail
  | none => .fail
 | _ => .fail
def WJ (C:Ctx) (base:Nat) (b:Builtin) (argTypes:Array TypeId) (vals:List AV):M Eff :=
 match b,vals with
 | .len,[a] => match argTypes[0]? with
  | some T => match C.P.underlying T,a with
   | some .string,.val (.v (.string s)) => .ret ⟨.val (.v (.int .i64 s.size)),[]⟩
   | some (.slice _),.own r => .get r fun
    | .live (.arr _ xs _) => .ret ⟨.val (.v (.int .i64 xs.length)),[]⟩
    | .live (.nest _ xss _) => .ret ⟨.val (.v (.int .i64 xss.length)),[]⟩
    | _ => .fail
   | some (.slice _),.val (.sl _ xs) => .ret ⟨.val (.v (.int .i64 xs.length)),[]⟩
   | some (.slice _),.val (.v x) => bif K7 x then .ret ⟨.val (.v (.int .i64 0)),[]⟩ else .fail
   | _,_ => .fail
  | none => .fail
 | .append,[s,x] => Zh7 C base argTypes s x
 | .copy,[x,y] => Zqh C argTypes x y
 | .max,[.val (.v (.int k x)),.val (.v (.int k' y))] => bif decide (k = k') then .ret ⟨.val (.v (.int k (if y > x then y else x))),[]⟩ else .fail
 | .max,[.val (.v (.float k x)),.val (.v (.float k' y))] => bif decide (k = k') then .opt (Zu9 k x y) fun r => .ret ⟨.val (.v (.float k r)),[]⟩ else .fail
 | .complex,[.val (.v (.float k re)),.val (.v (.float k' im))] => bif decide (k = k') then .ret ⟨.val (.v (.complex k re im)),[]⟩ else .fail
 | .real,[.val (.v (.complex k re _))] => .ret ⟨.val (.v (.float k re)),[]⟩
 | .imag,[.val (.v (.complex k _ im))] => .ret ⟨.val (.v (.float k im)),[]⟩
 | .min,[.val (.v (.int k x)),.val (.v (.int k' y))] => bif decide (k = k') then .ret ⟨.val (.v (.int k (if y < x then y else x))),[]⟩ else .fail
 | _,_ => .fail
def ZjY (C:Ctx) (base:Nat) (f:Nat) (args:List AV):M Eff :=
 match C.Φ f with
 | none => .fail
 | some cal => (takes cal.pk args).bind fun (rvs,u) => (KE (ZQ cal.pk) (Ql cal.pk args)).bind fun nm =>
  bif Zfj u then .opt (cal.run C.k rvs) fun x =>
   match put base (cal.enc x).1 with
   | (a,v,n) => match Zy n nm (ZQ cal.pk) (Ql cal.pk args) (cal.enc x).2 with
    | some (w,m) => QU base (m - base) (.ret ⟨a,w ++ (v ++ u)⟩)
    | none => .fail
  else .fail
def ZcL (o:Option AV) (d:Int) (k:Int → M Eff):M Eff:=match o with
 | none => k d
 | some (.val (.v (.int _ n))) => k n
 | some _ => .fail
def ZE4 (C:Ctx):AV → Bool
 | .own _ => (C.live 999999).any fun _ => true
 | _ => false
def ZvO (C:Ctx) (T:TypeId) (x:AV) (lo hi:Option AV):M Eff:=match x,Yc C.P T with
 | .own r,some (_,t) => .get r fun
  | .live (.arr t' xs _) => if t' = t then ZcL hi xs.length fun h => ZcL lo 0 fun l =>
    .need (decide (0 ≤ l ∧ l ≤ h ∧ h ≤ xs.length)) (.ret ⟨.sub r t' l.toNat h.toNat,[]⟩) else .fail
  | _ => .fail
 | _,_ => .fail
def Za4 (C:Ctx) (T:TypeId) (x:AV) (lo hi:Option AV):M Eff:=bif ZE4 C x then ZvO C T x lo hi else
 match C.P.underlying T with
 | some .string => match x with
  | .val (.v (.string s)) => ZcL hi s.size fun h => ZcL lo 0 fun l =>
   .need (decide (0 ≤ l ∧ l ≤ h ∧ h ≤ s.size)) (.ret ⟨.val (.v (.string (s.extract l.toNat h.toNat))),[]⟩)
  | _ => .fail
 | some (.slice _) => match Yc C.P T with
  | some (_,t) => (ZFa x).bind fun (p,u) => match PV.asSl t p with
   | some xs => ZcL hi xs.length fun h => ZcL lo 0 fun l =>
    .need (decide (0 ≤ l ∧ l ≤ h ∧ h ≤ xs.length)) (.ret ⟨.val (.sl t ((xs.take h.toNat).drop l.toNat)),u⟩)
   | none => .fail
  | none => .fail
 | _ => .fail
def ZbR {α:Type} (l:List α) (k:Nat) (cs:List α):List α:=l.take k ++ cs ++ l.drop (k + cs.length)
def ZbJ:AV → Bool
 | .val (.v (.agg _)) | .val (.v (.tuple _)) | .agg _ | .tup _ | .dead => false
 | _ => true
def Zql (c a b:AV):M Eff:=match c with
 | .val (.v (.bool c)) => .br c fun c => .ret ⟨(bif c then a else b),[]⟩
 | _ => .fail
def Zi0:List Value → Bool
 | [.pointer none,_] => true
 | _ => false
def KX (C:Ctx) (base:Nat) (T:TypeId) (cs:List Value):List AV :=
 bif (C.live 0).any (Nat.beq T) && Zi0 cs then .me base T :: (cs.drop 1).map fun v => .val (.v v) else cs.map fun v => .val (.v v)
def Zk7 (C:Ctx) (base:Nat) (T:TypeId):M Eff:=match zeroCells C.P T with
 | some cs => QU base 1 (.ret ⟨.bx base 0,[(base,.live (.box (KX C base T cs)))]⟩)
 | none => .fail
def ZvM (base:Nat) (a:AV):M Eff:=match a.cells? with
 | some cs => QU base 1 (.ret ⟨.bx base 0,[(base,.live (.box cs))]⟩)
 | none => .fail
def Zst (C:Ctx) (fs:Array Field) (i:Nat):Option (Nat × Nat):=match fs[i]? with
 | some f => some (f.offset,C.P.cellsOf f.type)
 | none => none
def Zk8 (C:Ctx) (T:TypeId) (is:List Nat) (vals:List AV):M Eff:=match zeroCells C.P T,ZeW C.P T with
 | some zs,some fs => bif fs.toList.all (fun f => (C.P.info? f.type).isSome) then match Zdt (Zst C fs) (zs.map fun v => .val (.v v)) (is.zip vals) with
  | some cs => .ret ⟨.agg cs,[]⟩
  | none => .fail
  else .fail
 | some zs,none => match C.P.underlying T with
  | some (.array _ e) => bif (C.P.info? e).isSome then match Zdt (fun i => some (i * C.P.cellsOf e,C.P.cellsOf e)) (zs.map fun v => .val (.v v)) (is.zip vals) with
   | some cs => .ret ⟨.agg cs,[]⟩
   | none => .fail
   else .fail
  | _ => .fail
 | _,_ => .fail
def ZaR (C:Ctx) (base:Nat) (T:TypeId) (len:Nat) (is:List Nat) (vals:List AV):M Eff:=match Yc C.P T with
 | some (e,t) => bif (is == List.range len) && (zeroCells C.P e).isSome && Nat.ble (len * t.size) 65536 && ZA4 e t then
   (dens t vals).bind fun (xs,u) => bif Nat.beq xs.length len then QU base 1 (.ret ⟨.own base,(base,.live (.arr t xs false)) :: u⟩) else .fail
  else .fail
 | none => .fail
def cut (C:Ctx) (T:TypeId) (cs:List AV):M Eff :=
 match C.P.underlying T with
 | none => .fail
 | some d => bif Zib d
  then (bif Nat.beq (cs.take (C.P.cellsOf T)).length (C.P.cellsOf T) then .ret ⟨.agg (cs.take (C.P.cellsOf T)),[]⟩ else .fail)
  else match cs with | a :: _ => .ret ⟨a,[]⟩ | [] => .fail
def ZjZ (C:Ctx) (T:TypeId) (a:AV):M Eff:=match a with
 | .bx r k => .get r fun
  | .live (.box cs) => cut C T (cs.drop k)
  | _ => .fail
 | .sp cs => cut C T (cs.map .val)
 | .el r t i k => .get r fun
  | .live (.arr t' xs _) => if h:t' = t then .need (decide (i < xs.length)) (cut C T (((cellsOf t ((h ▸ xs:List t.den).getD i t.dflt)).drop k).map .val)) else .fail
  | _ => .fail
 | _ => .fail
def Zlc (C:Ctx) (T:TypeId) (a x:AV):M Eff:=match x.cells? with
 | none => .fail
 | some ws => bif Nat.beq ws.length (C.P.cellsOf T) && ws.all ZbJ then (match a with
  | .bx r k => .get r fun
   | .live (.box cs) => bif Nat.ble (k + ws.length) cs.length
    then .ret ⟨.tup [],[(r,.live (.box (ZbR cs k ws)))]⟩ else .fail
   | _ => .fail
  | .el r t i k => .get r fun
   | .live (.arr t' xs false) => if h:t' = t then (Zvx ws).bind fun (ps,u) => .need (decide (i < xs.length)) (
     bif Nat.ble (k + ws.length) t.size && u.all (fun y => !(Nat.beq y.1 r)) then
      match Zac t (ZbR (cellsOf t ((h ▸ xs:List t.den).getD i t.dflt)) k ps) with
      | some y => .ret ⟨.tup [],(r,.live (.arr t ((h ▸ xs:List t.den).set i y) false)) :: u⟩
      | none => .fail
     else .fail) else .fail
   | _ => .fail
  | _ => .fail) else .fail
def ZcJ (a:AV):M Eff:=match a with
 | .bx r k => .ret ⟨.bx r k,[]⟩
 | .el r t i k => .ret ⟨.el r t i k,[]⟩
 | .sp ps => .ret ⟨.sp ps,[]⟩
 | _ => .fail
def eqF (P:Program) (g:TypeId → Ty → Bool):Nat → List Field → Ty → Bool
 | _,[],.unit => true
 | off,f :: l,.pair a b => Nat.beq f.offset off && (f.name != "_") && g f.type a && Nat.beq (P.cellsOf f.type) a.size && eqF P g (off + a.size) l b
 | _,_,_ => false
def eqT (P:Program):Nat → TypeId → Ty → Bool
 | 0,_,_ => false
 | n + 1,T,t => match P.underlying T with
  | some .bool => (match t with | .bool => true | _ => false)
  | some (.int k) => (match t with | .int k' => decide (k = k') | _ => false)
  | some .string => (match t with | .str => true | _ => false)
  | some (.struct fs) => t.isAgg && !P.stoodInHeld T && Nat.beq (P.cellsOf T) t.size && eqF P (eqT P n) 0 fs.toList t
  | _ => false
def pvs:List AV → Option (List PV)
 | [] => some []
 | .val p :: l => match pvs l with | some ps => some (p :: ps) | none => none
 | _ :: _ => none
def Zqi (C:Ctx) (T:TypeId) (cs ds:List AV) (neg:Bool):M Eff:=match ZsN C.P depth T with
 | some t => bif t.isAgg && eqT C.P depth T t && !C.P.eqGuardType C.P.depth T then
   match pvs cs,pvs ds with
   | some ps,some qs => match Zac t ps,Zac t qs with
    | some x,some y => .ret ⟨.val (.v (.bool (bif neg then !(t.eqb x y) else t.eqb x y))),[]⟩
    | _,_ => .fail
   | _,_ => .fail
  else .fail
 | none => .fail
def ZBm (op:BinOp) (x y:Value):Option (M Eff):=match x,y with
 | .float k a,.float k' b => match op with
  | .add | .sub | .mul | .quo => some (bif decide (k = k') then .opt (floatBits op k a b) fun r => .ret ⟨.val (.v (.float k r)),[]⟩ else .fail)
  | _ => none
 | .complex .f64 a b,.complex .f64 c d => match op with
  | .mul => some (.opt (cMulBits a b c d) fun r => .ret ⟨.val (.v (.complex .f64 r.1 r.2)),[]⟩)
  | _ => none
 | _,_ => none
def Zqg (C:Ctx) (op:BinOp) (T:TypeId) (a b:AV):M Eff:=match a,b with
 | .agg cs,.agg ds => (match op with
  | .eql => Zqi C T cs ds false
  | .neq => Zqi C T cs ds true
  | _ => .fail)
 | .val (.v x),.val (.v y) => (match ZBm op x y with | some m => m | none => ZvL C op T x y)
 | .bx _ _,.val (.v y) => bif Zu3 y && (match C.P.underlying T with | some (.pointer _) => true | _ => false) then (match op with
  | .eql => .ret ⟨.val (.v (.bool false)),[]⟩
  | .neq => .ret ⟨.val (.v (.bool true)),[]⟩
  | _ => .fail) else .fail
 | .ns _ xs,.val (.v y) => bif K7 y && (match C.P.underlying T with | some (.slice _) => true | _ => false) then (match op with
  | .eql => .ret ⟨.val (.v (.bool xs.isEmpty)),[]⟩
  | .neq => .ret ⟨.val (.v (.bool (!xs.isEmpty))),[]⟩
  | _ => .fail) else .fail
 | _,_ => .fail
def ZBn (C:Ctx) (op:UnOp) (a:AV):M Eff:=match a with
 | .val (.v x) => match ZaP C.P (Op.unary op x) with
  | some v => bif plain x && plain v then .ret ⟨.val (.v v),[]⟩ else .fail
  | none => .fail
 | _ => .fail
def Zfb (P:Program) (e:TypeId):Bool:=match P.underlying e with
 | some (.int .u8) => Nat.beq (P.cellsOf e) 1
 | _ => false
def Zfu (C:Ctx) (base:Nat) (src dst:TypeId) (a:AV):M Eff:=match C.P.underlying src,C.P.underlying dst with
 | some (.slice _),some (.slice e) => match a with
  | .own r => bif Nat.beq src dst && Zfb C.P e then .get r fun
   | .live (.arr t xs sh) => bif Nat.ble 1 xs.length then .ret ⟨.own r,[(r,.live (.arr t xs sh))]⟩ else .fail
   | _ => .fail
   else .fail
  | _ => .fail
 | some (.slice e),some .string => bif Zfb C.P e then (ZnC (.int .u8) a).bind fun xs => .ret ⟨.val (.v (.string (bytesOf xs))),[]⟩ else .fail
 | some .string,some (.slice e) => match a with
  | .val (.v (.string s)) => bif Zfb C.P e && Nat.beq e ZHY then .need (decide (s.size < 1099511627776)) (QU base 1 (.ret ⟨.own base,[(base,.live (.arr (.int .u8) (WQ s) false))]⟩)) else .fail
  | _ => .fail
 | some (.float _),some (.int k) => match a with
  | .val (.v (.float s b)) => .opt (floatToIntVal s b k) fun n => .ret ⟨.val (.v (.int k n)),[]⟩
  | _ => .fail
 | _,some _ => match a with
  | .val (.v x) => match ZaP C.P (convert src dst x) with
   | some v => bif plain x && plain v then .ret ⟨.val (.v v),[]⟩ else .fail
   | none => .fail
  | _ => .fail
 | _,none => .fail
def Zqj (C:Ctx) (base:Nat) (T:TypeId) (l c:AV):M Eff:=match l,c with
 | .val (.v (.int .i64 l)),.val (.v (.int .i64 c)) => match Yc C.P T with
  | some (e,t) => bif Nat.ble (C.P.bytesOf e) 65536 && ZA4 e t then
    match zeroCells C.P e with
    | some zs => match Zac t (zs.map .v) with
     | some z => .need (decide (0 ≤ l ∧ l ≤ c ∧ c < 4294967296)) (QU base 1 (.ret ⟨.own base,[(base,.live (.arr t (List.replicate l.toNat z) false))]⟩))
     | none => .fail
    | none => .fail
   else .fail
  | none => .fail
 | _,_ => .fail
def Zlb (C:Ctx) (T:TypeId) (lo hi mx:Bool) (vals:List AV):M Eff:=match lo,hi,mx,vals with
 | false,false,false,[x] => Za4 C T x none none
 | true,false,false,[x,a] => Za4 C T x (some a) none
 | false,true,false,[x,b] => Za4 C T x none (some b)
 | true,true,false,[x,a,b] => Za4 C T x (some a) (some b)
 | _,_,_,_ => .fail
def Zb1 (C:Ctx) (T:TypeId) (f:Nat) (a:AV):M Eff:=match ZeW C.P T with
 | none => .fail
 | some fs => match fs[f]? with
  | none => .fail
  | some fd => bif Nat.beq (C.P.cellsOf fd.type) 0 then .fail else match a with
   | .bx r k => .ret ⟨.bx r (k + fd.offset),[]⟩
   | .el r t i k => .ret ⟨.el r t i (k + fd.offset),[]⟩
   | .sp ps => .ret ⟨.sp (ps.drop fd.offset),[]⟩
   | _ => .fail
def Zb2 (C:Ctx) (T:TypeId) (a i:AV):M Eff:=match i with
 | .val (.v (.int _ i)) => match Yc C.P T with
  | some (_,t) => match a with
   | .own r => .get r fun
    | .live (.arr t' xs _) => if t' = t then .need (decide (0 ≤ i ∧ i < xs.length)) (.ret ⟨.el r t i.toNat 0,[]⟩) else .fail
    | .live (.nest t' xss _) => if .sl t' = t then .need (decide (0 ≤ i ∧ i < xss.length)) (.ret ⟨.el r (.pair .unit (.sl t')) i.toNat 0,[]⟩) else .fail
    | _ => .fail
   | .sub r u i0 j0 => .get r fun
    | .live (.arr t' xs _) => if t' = t then (if u = t then .need (decide (i0 ≤ j0 ∧ j0 ≤ xs.length ∧ 0 ≤ i ∧ i.toNat < j0 - i0)) (.ret ⟨.el r t (i0 + i.toNat) 0,[]⟩) else .fail) else .fail
    | _ => .fail
   | .val (.sl t' xs) => if h:t' = t then .need (decide (0 ≤ i ∧ i < xs.length)) (.ret ⟨.sp (cellsOf t ((h ▸ xs:List t.den).getD i.toNat t.dflt)),[]⟩) else .fail
   | _ => .fail
  | none => .fail
 | _ => .fail
def ZfV:List AV → Option (IntKind × List Int)
 | [.val (.v (.int k n))] => some (k,[n])
 | .val (.v (.int k n)) :: l => match ZfV l with
  | some (k',ns) => if k = k' then some (k,n :: ns) else none
  | none => none
 | _ => none
def Zm0:List AV → Option (FloatKind × List Nat)
 | [.val (.v (.float k n))] => some (k,[n])
 | .val (.v (.float k n)) :: l => match Zm0 l with
  | some (k',ns) => if k = k' then some (k,n :: ns) else none
  | none => none
 | _ => none
def Zk9 (C:Ctx) (T:TypeId) (f:Nat) (a:AV):M Eff:=match a with
 | .agg cs => match ZeW C.P T with
  | some fs => match fs[f]? with
   | some fd => match C.P.underlying fd.type with
    | some d => bif Zib d then (bif Nat.ble (fd.offset + C.P.cellsOf fd.type) cs.length then .ret ⟨.agg ((cs.drop fd.offset).take (C.P.cellsOf fd.type)),[]⟩ else .fail)
     else match cs[fd.offset]? with | some a => .ret ⟨a,[]⟩ | none => .fail
    | none => .fail
   | none => .fail
  | none => .fail
 | _ => .fail
def Zla (C:Ctx) (T:TypeId) (a i:AV):M Eff:=match a,i with
 | .agg cs,.val (.v (.int _ i)) => match C.P.underlying T with
  | some (.array len e) => match C.P.underlying e with
   | some d => bif !Zib d && Nat.beq (C.P.cellsOf e) 1 && Nat.beq cs.length len then (match ZfV cs with
    | some (k,ns) => .need (decide (0 ≤ i ∧ i < len)) (.ret ⟨.val (.v (.int k (ns.getD i.toNat 0))),[]⟩)
    | none => match Zm0 cs with
     | some (k,ns) => .need (decide (0 ≤ i ∧ i < len)) (.ret ⟨.val (.v (.float k (ns.getD i.toNat 0))),[]⟩)
     | none => .fail) else .fail
   | none => .fail
  | _ => .fail
 | .val (.v (.string s)),.val (.v (.int _ i)) => match C.P.underlying T with
  | some .string => .need (decide (0 ≤ i ∧ i < s.size)) (.ret ⟨.val (.v (.int .u8 (bt s i))),[]⟩)
  | _ => .fail
 | _,_ => .fail
def Zfv (i:Nat) (a:AV):M Eff:=match a with
 | .tup vs => match vs[i]? with
  | some a => .ret ⟨a,[]⟩
  | none => .fail
 | _ => .fail
def ZqB (s:String):Option Nat :=
 bif s == "math.Float64bits" then some 0 else bif s == "math.Float64frombits" then some 1 else bif s == "math.archFloor" then some 2 else bif s == "math.archTrunc" then some 3 else none
def ZBK (C:Ctx) (f:Nat):Option Nat:=match C.P.funcs[f]? with
 | some fn => bif fn.body.isNone && (fn.origin == "") then ZqB fn.name else none
 | none => none
def Wp (way:Ieee.Toward) (x:Nat):Option Nat:=match FloatKind.f64.decode x with
 | .nan _ _ => none
 | d => some (FloatKind.f64.encode (d.integral way))
def Zh9 (b:Nat) (args:List AV):M Eff:=match b,args with
 | 0,[.val (.v (.float .f64 x))] => .ret ⟨.val (.v (.int .u64 x)),[]⟩
 | 1,[.val (.v (.int .u64 n))] => .ret ⟨.val (.v (.float .f64 n.toNat)),[]⟩
 | 2,[.val (.v (.float .f64 x))] => .opt (Wp .down x) fun r => .ret ⟨.val (.v (.float .f64 r)),[]⟩
 | 3,[.val (.v (.float .f64 x))] => .opt (Wp .zero x) fun r => .ret ⟨.val (.v (.float .f64 r)),[]⟩
 | _,_ => .fail
def Zh8 (C:Ctx) (base:Nat) (c:Call) (vals:List AV):M Eff:=match c.callee with
 | .value _ => match vals with
  | .fn f :: args => (match ZBK C f with | some b => Zh9 b args | none => ZjY C base f args)
  | .clo f cs :: args => ZjY C base f (args ++ cs)
  | _ => .fail
 | .builtin b => WJ C base b c.argTypes vals
 | .invoke _ _ => .fail
def v1 (vals:List AV) (f:AV → M Eff):M Eff:=match vals with
 | [a] => f a
 | _ => .fail
def v2 (vals:List AV) (f:AV → AV → M Eff):M Eff:=match vals with
 | [a,b] => f a b
 | _ => .fail
def v3 (vals:List AV) (f:AV → AV → AV → M Eff):M Eff:=match vals with
 | [a,b,c] => f a b c
 | _ => .fail
def act (C:Ctx) (base:Nat) (op:Op) (vals:List AV):M Eff :=
 match op with
 | .move _ => v1 vals fun a => .ret ⟨a,[]⟩
 | .assign _ => v1 vals fun a => .ret ⟨a,[]⟩
 | .pick _ _ _ => v3 vals Zql
 | .alloc T => Zk7 C base T
 | .box _ _ => v1 vals (ZvM base)
 | .build T ps => Zk8 C T (ps.toList.map (·.1)) vals
 | .buildSlice T len ps => ZaR C base T len (ps.toList.map (·.1)) vals
 | .load T _ => v1 vals (ZjZ C T)
 | .store T _ _ => v2 vals (Zlc C T)
 | .nilCheck _ => v1 vals ZcJ
 | .binOp op T _ _ _ => v2 vals (Zqg C op T)
 | .unOp op _ _ => v1 vals (ZBn C op)
 | .convert src dst _ => v1 vals (Zfu C base src dst)
 | .makeSlice T _ _ => v2 vals (Zqj C base T)
 | .slice T _ lo hi mx => Zlb C T lo.isSome hi.isSome mx.isSome (vals.map YU)
 | .fieldAddr T _ f => v1 vals (Zb1 C T f)
 | .indexAddr T _ _ => v2 (vals.map YU) (Zb2 C T)
 | .index T _ _ => v2 vals (Zla C T)
 | .extract _ i => v1 vals (Zfv i)
 | .field T _ f => v1 vals (Zk9 C T f)
 | .call c => Zh8 C base c (vals.map YU)
 | .makeFunc (.func f) first _ => bif Nat.beq first.size 0 then .ret ⟨(match vals with | [] => .fn f | vs => .clo f vs),[]⟩ else .fail
 | _ => .fail
def Znj (C:Ctx) (base:Nat) (T:TypeId) (l c:AV):M Eff:=match l,c with
 | .val (.v (.int .i64 l)),.val (.v (.int .i64 c)) => match Yc C.P T with
  | some (e,.sl t) => bif Nat.ble (C.P.bytesOf e) 65536 && ZA4 e (.sl t) && Nat.ble 1 t.size then
    match zeroCells C.P e with
    | some [.slice none 0 0] => .need (decide (0 ≤ l ∧ l ≤ c ∧ c < 4294967296)) (QU base 1 (.ret ⟨.own base,[(base,.live (.nest t (List.replicate l.toNat []) none))]⟩))
    | _ => .fail
   else .fail
  | _ => .fail
 | _,_ => .fail
def ZHI (C:Ctx) (T:TypeId):Bool:=match C.P.underlying T with
 | some d => !Zib d && Nat.beq (C.P.cellsOf T) 1
 | none => false
def Zni (C:Ctx) (base:Nat) (T:TypeId) (r:Nat) (t:Ty) (i k:Nat):M Eff:=.get r fun
 | .live (.nest t' xss none) => if h:t' = t then (bif Nat.beq k 0 && ZHI C T then
   .need (decide (i < xss.length)) (QU base 1 (.ret ⟨.own base,[(r,.live (.nest t (h ▸ xss:List (List t.den)) (some i))),(base,.live (.arr t ((h ▸ xss:List (List t.den)).getD i []) true))]⟩)) else .fail) else .fail
 | _ => .fail
def Zi7 (C:Ctx) (T:TypeId) (r:Nat) (t:Ty) (i k:Nat) (x:AV):M Eff:=match x with
 | .own q => .get r fun
  | .live (.nest t' xss (some j)) => .get q fun
   | .live (.arr t'' xs _) => if h:t' = t then (if h':t'' = t then (bif Nat.beq k 0 && ZHI C T then
     .need (decide (i = j)) (.need (decide (i < xss.length)) (.ret ⟨.tup [],[(r,.live (.nest t ((h ▸ xss:List (List t.den)).set i (h' ▸ xs:List t.den)) none)),(q,.gone)]⟩)) else .fail) else .fail) else .fail
   | _ => .fail
  | _ => .fail
 | _ => .fail
class Gl where
 tab:Nat → IntKind × List Int
variable [Gl]
def ZsJ (C:Ctx) (T:TypeId) (g:Nat) (i:Int):M Eff:=match C.P.underlying T with
 | some (.array len e) => bif Nat.beq (C.P.cellsOf e) 1 && (C.P.info? e).isSome && Nat.beq len (Gl.tab g).2.length && Nat.ble 1 len then
   .need (decide (0 ≤ i ∧ i < len)) (.ret ⟨.sp [.v (.int (Gl.tab g).1 ((Gl.tab g).2.getD i.toNat 0))],[]⟩) else .fail
 | _ => .fail
def ZhW:Ty → Bool
 | .bool | .int _ | .fl _ | .cx _ | .str => true
 | _ => false
def ZyP (base:Nat):RV × List RV → M Eff
 | (.own t false ys,[]) => bif ZhW t then QU base 1 (.ret ⟨.own base,[(base,.live (.arr t ys false))]⟩) else .fail
 | (.view t x,[]) => bif ZhW t then .ret ⟨Zs1 t x,[]⟩ else .fail
 | _ => .fail
def Zi8:Q4 → Bool
 | [] => true
 | (_,.gone) :: _ => false
 | _ :: l => Zi8 l
def ZLa (C:Ctx) (base f:Nat) (args:List AV):M Eff:=match C.Φ f with
 | some cal => (takes cal.pk args).bind fun (rvs,u) => bif Zfj u && Zi8 u then .opt (cal.run C.k rvs) fun x => ZyP base (cal.enc x) else .fail
 | none => .fail
def ZsE (C:Ctx) (base:Nat) (op:Op) (vals:List AV):Option (M Eff):=match op,vals with
 | .call ⟨.value _,_,_⟩,.fn f :: args => bif (C.live 999998).any (Nat.beq f) then some (ZLa C base f args) else none
 | .indexAddr T (.global g) _,[_,.val (.v (.int _ i))] => some (ZsJ C T g i)
 | .load T _,[.el r (.pair .unit (.sl t)) i k] => some (Zni C base T r t i k)
 | .store T _ _,[.el r (.pair .unit (.sl t)) i k,x] => some (Zi7 C T r t i k x)
 | .makeSlice T _ _,[a,b] => bif (C.live 1).any (Nat.beq T) then some (Znj C base T a b) else none
 | _,_ => none
def Qs:Op → List Operand
 | .move x | .assign x | .load _ x | .nilCheck x | .unOp _ _ x | .convert _ _ x | .fieldAddr _ x _ | .extract x _ | .box _ x | .field _ x _ => [x]
 | .pick c a b => [c,a,b]
 | .build _ ps | .buildSlice _ _ ps => ps.toList.map (·.2)
 | .store _ a v | .binOp _ _ a v _ | .makeSlice _ a v | .indexAddr _ a v | .index _ a v => [a,v]
 | .slice _ x l h m => x :: (l.toList ++ h.toList ++ m.toList)
 | .makeFunc _ _ captured => captured.toList
 | .call c => match c.callee with
  | .value f => f :: c.args.toList
  | .builtin _ => c.args.toList
  | .invoke _ _ => []
 | _ => []
def Zad (env:Nat → AV):Operand → AV
 | .tmp t => env t
 | .const v => .val (.v v)
 | .func f => .fn f
 | .global _ => .dead
def ZvR (rid idx:Nat):Nat:=(rid * 1024 + idx) * 64 + 65536
def ZH2 (C:Ctx) (rid idx:Nat) (o:Oper) (env:Nat → AV):M Eff :=
 act C (ZvR rid idx) o.op ((Qs o.op).map (Zad env))
def ZnP (C:Ctx) (rid idx:Nat) (o:Oper) (env:Nat → AV):Option (M Eff) :=
 ZsE C (ZvR rid idx) o.op ((Qs o.op).map (Zad env))
def Zqk (C:Ctx) (rid idx:Nat) (o:Oper) (env:Nat → AV):M Eff:=match ZnP C rid idx o env with
 | some m => m
 | none => ZH2 C rid idx o env
mutual
def Zd:AV → List Nat
 | .own r => [r]
 | .bx r _ => [r]
 | .el r _ _ _ => [r]
 | .sub r _ _ _ => [r]
 | .me r _ => [r]
 | .agg cs => Zm cs
 | .tup cs => Zm cs
 | .clo _ cs => Zm cs
 | _ => []
def Zm:List AV → List Nat
 | [] => []
 | a :: l => Zd a ++ Zm l
end
def Zxa (r:Nat):Bool:=Nat.blt r Qb
def ZcE (l:List Nat):Bool:=l.all Zxa
def ZMh:RS → Bool
 | .live (.box cs) => ZcE (Zm cs)
 | _ => true
def Zab:RS → Bool
 | .live (.nest _ _ _) => false
 | _ => true
def ZjJ (sp:Bool) (e:Eff) (l:List Nat):Bool :=
 ZcE l && ZcE (Zd e.val) && e.ups.all fun p => Zxa p.1 && ZMh p.2 && (sp || Zab p.2)
def YM (ops:List Oper) (j:Nat):Option Nat:=match ops[j]? with
 | some o => o.dst
 | none => none
section
variable {R:Type}
abbrev Lg:=List Nat × List Nat          -- what was asked,what was written
def goK (C:Ctx) (rid idx:Nat) (o:Oper) (st:St) (K:St → Lg → Option R):Option R :=
 (Zqk C rid idx o st.env).runK st.tbl [] fun e l => bif ZjJ (ZnP C rid idx o st.env).isSome e l then K ⟨W8 st.env o.dst e.val,st.tbl.put e.ups⟩ (l,e.ups.map (·.1)) else none
def ZyZ (C:Ctx) (rid idx:Nat) (ops:List Oper) (o:Oper) (st:St) (K:St → Lg → Option R):Option R :=
 match o.guard with
 | none => goK C rid idx o st K
 | some (j,want) => match YM ops j with
  | none => none
  | some d => match st.env d with
   | .val (.v (.bool g)) => bif g
    then (let s:St:=⟨Zah st.env d (.val (.v (.bool true))),st.tbl⟩
       bif want then goK C rid idx o s K else K ⟨W8 s.env o.dst (.tup []),s.tbl⟩ ([],[]))
    else (let s:St:=⟨Zah st.env d (.val (.v (.bool false))),st.tbl⟩
       bif want then K ⟨W8 s.env o.dst (.tup []),s.tbl⟩ ([],[]) else goK C rid idx o s K)
   | .tup [] => K ⟨W8 st.env o.dst (.tup []),st.tbl⟩ ([],[])
   | _ => none
def ZHL (C:Ctx) (rid:Nat) (ops:List Oper):List Oper → (idx:Nat) → St → (St → Option R) → Option R
 | [],_,st,K => K st
 | o :: l,idx,st,K => ZyZ C rid idx ops o st fun st' _ => ZHL C rid ops l (idx + 1) st' K
def Zcy (o:Oper):List Nat:=(o.after.toList.filter (Region.binds .any)).map (·.on)
def Yu:List Oper → List Nat → List Nat
 | [],acc => acc
 | o :: l,acc => Yu l (acc ++ [(Zcy o).foldl (fun s p => s ||| 2 ^ p ||| acc.getD p 0) 0])
def Za6 (a b:List Nat):Bool:=a.all fun x => !(b.any (Nat.beq x))
def ZhY (ops:List Oper) (o:Oper):List Nat :=
 (Qs o.op).filterMap (fun | .tmp t => some t | _ => none) ++ (match o.guard with
  | some (j,_) => (match YM ops j with | some d => [d] | none => [])
  | none => [])
def ZlG (o:Oper):List Nat:=match o.dst with | some d => [d] | none => []
def ZpF (ops:List Oper) (x y:Oper) (a b:Lg):Bool :=
 Za6 (ZlG x) (ZhY ops y ++ ZlG y) && Za6 (ZlG y) (ZhY ops x) &&
 Za6 a.2 (b.1 ++ b.2) && Za6 b.2 a.1
def Kk (ops:List Oper) (ms:List Nat) (logs:List Lg):Bool :=
 (List.range ops.length).all fun j => (List.range j).all fun i =>
  Nat.testBit (ms.getD j 0) i || (match ops[i]?,ops[j]?,logs[i]?,logs[j]? with
   | some x,some y,some a,some b => ZpF ops x y a b
   | _,_,_,_ => false)
def ZlF (C:Ctx) (rid:Nat) (ops:List Oper):List Oper → (idx:Nat) → St → List Lg → (St → Option R) → Option R
 | [],_,st,logs,K => bif Kk ops (Yu ops []) logs then K st else none
 | o :: l,idx,st,logs,K => ZyZ C rid idx ops o st fun st' g => ZlF C rid ops l (idx + 1) st' (logs ++ [g]) K
def ZpS (T:Qh):Nat → List Nat → List Nat → List Nat
 | 0,_,acc => acc
 | _ + 1,[],acc => acc
 | f + 1,r :: l,acc => bif acc.any (Nat.beq r) then ZpS T f l acc else match T r with
  | .live (.box cs) => ZpS T f (Zm cs ++ l) (acc ++ [r])
  | .live (.arr _ _ _) => ZpS T f l (acc ++ [r])
  | .live (.nest _ _ _) => ZpS T f l (acc ++ [r])
  | _ => ZpS T f l acc
def number (kp:List Nat):Nat → List Nat → List (Nat × Nat)
 | _,[] => []
 | n,r :: l => bif kp.any (Nat.beq r) then (r,r) :: number kp n l else (r,n) :: number kp (n + 1) l
def fwd:List (Nat × Nat) → Nat → Option Nat
 | [],_ => none
 | (a,b) :: l,r => bif Nat.beq a r then some b else fwd l r
def bwd:List (Nat × Nat) → Nat → Option Nat
 | [],_ => none
 | (a,b) :: l,r => bif Nat.beq b r then some a else bwd l r
mutual
def ren (m:List (Nat × Nat)):AV → AV
 | .own r => match fwd m r with | some n => .own n | none => .dead
 | .bx r k => match fwd m r with | some n => .bx n k | none => .dead
 | .el r t i k => match fwd m r with | some n => .el n t i k | none => .dead
 | .sub r t i j => match fwd m r with | some n => .sub n t i j | none => .dead
 | .me r T => match fwd m r with | some n => .me n T | none => .dead
 | .agg cs => .agg (ZhR m cs)
 | .tup cs => .tup (ZhR m cs)
 | .clo f cs => .clo f (ZhR m cs)
 | .dead => .dead
 | .val p => .val p
 | .sp ps => .sp ps
 | .fn f => .fn f
 | .ns t xs => .ns t xs
def ZhR (m:List (Nat × Nat)):List AV → List AV
 | [] => []
 | a :: l => ren m a :: ZhR m l
end
def Xn (m:List (Nat × Nat)):RS → RS
 | .live (.box cs) => .live (.box (ZhR m cs))
 | x => x
inductive Pro where
 | slot (s:Nat) (t:Ty)
 | cell (s k:Nat) (t:Ty)
 | «show» (s:Nat)
 | see (s:Nat)
 | seen (s k:Nat)
structure Ann where
 live:List Nat
 pro:List Pro
def ZaG:RS → Bool
 | .fresh => true
 | _ => false
def Wj (n:Nat) (st:St):Pro → St
 | .slot s t => match st.env s with
  | .val (.v x) => bif K7 x && ZaG (st.tbl n) && Nat.ble 1 t.size then ⟨Zah st.env s (.own n),st.tbl.put [(n,.live (.arr t [] false))]⟩ else st
  | _ => st
 | .cell s k t => match st.env s with
  | .bx r 0 => match st.tbl r with
   | .live (.box cs) => match cs[k]? with
    | some (.val (.v x)) => bif K7 x && ZaG (st.tbl n) && Nat.ble 1 t.size then ⟨st.env,st.tbl.put [(n,.live (.arr t [] false)),(r,.live (.box (cs.set k (.own n))))]⟩ else st
    | _ => st
   | _ => st
  | _ => st
 | .«show» s => match st.env s with
  | .own r => match st.tbl r with
   | .live (.arr t xs _) => ⟨st.env,st.tbl.put [(r,.live (.arr t xs true))]⟩
   | _ => st
  | _ => st
 | .see s => match st.env s with
  | .own r => match st.tbl r with
   | .live (.arr t xs _) => ⟨Zah st.env s (.val (.sl t xs)),st.tbl.put [(r,.live (.arr t xs true))]⟩
   | _ => st
  | _ => st
 | .seen s k => match st.env s with
  | .bx r 0 => match st.tbl r with
   | .live (.box cs) => match cs[k]? with
    | some (.own n) => match st.tbl n with
     | .live (.arr t xs _) => ⟨st.env,st.tbl.put [(r,.live (.box (cs.set k (.val (.sl t xs))))),(n,.live (.arr t xs true))]⟩
     | _ => st
    | _ => st
   | _ => st
  | _ => st
def ZhQ:Nat → List Pro → St → St
 | _,[],st => st
 | n,p :: l,st => ZhQ (n + 1) l (Wj n st p)
def pick:List Nat → (Nat → AV) → List (Nat × AV)
 | [],_ => []
 | s :: l,e => (s,e s) :: pick l e
def ZE:List (Nat × AV) → Nat → AV
 | [],_ => .dead
 | (a,x) :: l,s => bif Nat.beq s a then x else ZE l s
def Zjh (m:List (Nat × Nat)):List (Nat × AV) → List (Nat × AV)
 | [] => []
 | (a,x) :: l => (a,ren m x) :: Zjh m l
def ZD:List (Nat × RS) → Qh
 | [],_ => .fresh
 | (a,x) :: l,r => bif Nat.beq a r then x else ZD l r
def Ze7 (m:List (Nat × Nat)) (T:Qh):List (Nat × Nat) → List (Nat × RS)
 | [] => []
 | (a,b) :: l => (b,Xn m (T a)) :: Ze7 m T l
def ZfZ:List Nat → Bool
 | [] => true
 | a :: l => !(l.any (Nat.beq a)) && ZfZ l
def ZE1 (m:List (Nat × Nat)) (r:Nat):Bool:=match fwd m r with | some n => Nat.beq n r | none => false
def Zog (kp:List Nat) (a:Ann) (st:St):Option St :=
 let st:=ZhQ 32768 a.pro st
 let m:=number kp 8192 (ZpS st.tbl 1000 (kp ++ Zm (a.live.map st.env)) [])
 bif ZfZ (m.map (·.1)) && ZfZ (m.map (·.2)) && kp.all (ZE1 m) && (ZcE (m.map (·.1)) && ZcE (m.map (·.2)) && Zxa (32768 + a.pro.length)) then some ⟨ZE (Zjh m (pick a.live st.env)),ZD (Ze7 m st.tbl m)⟩ else none
def ZyJ (st:St) (q:Nat):St:=match st.tbl q with
 | .live (.nest t xss none) => ⟨st.env,st.tbl.put [(q,.live (.arr (.sl t) xss false))]⟩
 | _ => st
def ZIH (st:St) (k r:Nat):St:=match st.tbl r with
 | .live (.box cs) => match cs[k]? with
  | some (.own q) => ZyJ st q
  | _ => st
 | _ => st
def ZfX (C:Ctx) (id:Nat) (st:St):St:=match C.live (id + 2) with
 | [s] => match st.env s with
  | .own q => ZyJ st q
  | _ => st
 | [s,k] => match st.env s with
  | .bx r 0 => ZIH st k r
  | _ => st
 | _ => st
inductive Ex where
 | normal | exit (id:Nat) | ret
def Qy:Code → Nat
 | .region id _ _ => id
 | .seq a b => match a with | .skip => Qy b | .label _ => Qy b | a => Qy a
 | .block _ c => Qy c
 | .loop c => Qy c
 | .scope c => Qy c
 | _ => 0
def Zfh (body:St → (Ex → St → Option R) → Option R) (nm:St → Option St):Nat → St → (Ex → St → Option R) → Option R
 | 0,_,_ => none
 | n + 1,st,K => body st fun e s => match e with
  | .normal => (nm s).bind fun s => Zfh body nm n s K
  | .exit i => K (.exit i) s
  | .ret => K .ret s
def ZEZ (next:St → Option R) (K:Ex → St → Option R):Ex → St → Option R:=fun e s => match e with
 | .normal => next s
 | .exit i => K (.exit i) s
 | .ret => K .ret s
def Zqq (id:Nat) (K:Ex → St → Option R):Ex → St → Option R:=fun e s => match e with
 | .exit i => bif Nat.beq i id then K .normal s else K (.exit i) s
 | .normal => K .normal s
 | .ret => K .ret s
def Xf (C:Ctx) (A:Nat → Ann) (kp:List Nat):Code → St → (Ex → St → Option R) → Option R
 | .skip,st,K => K .normal st
 | .region id ops d,st,K => bif d then ZlF C id ops.toList ops.toList 0 (ZfX C id st) [] (K .normal) else ZHL C id ops.toList ops.toList 0 (ZfX C id st) (K .normal)
 | .seq a b,st,K => Xf C A kp a st (ZEZ (fun s => Xf C A kp b s K) K)
 | .cond c a b,st,K => match Zad st.env c with
  | .val (.v (.bool t)) => bif t
   then Xf C A kp a (match c with | .tmp d => ⟨Zah st.env d (.val (.v (.bool true))),st.tbl⟩ | _ => st) K
   else Xf C A kp b (match c with | .tmp d => ⟨Zah st.env d (.val (.v (.bool false))),st.tbl⟩ | _ => st) K
  | _ => none
 | .block id c,st,K => Xf C A kp c st (Zqq id K)
 | .loop c,st,K => (Zog kp (A (Qy c)) st).bind fun s => Zfh (Xf C A kp c) (Zog kp (A (Qy c))) C.k s K
 | .exit id,st,K => K (.exit id) st
 | .scope c,st,K => Xf C A kp c st K
 | .label _,st,K => K .normal st
 | .ret,st,K => K .ret st
 | _,_,_ => none
def index:Nat → List AV → List (Nat × AV)
 | _,[] => []
 | i,x :: l => (i,x) :: index (i + 1) l
def enter (avs:List AV) (u:Q4):St:=⟨ZE (index 0 avs),ZD u⟩
def ZbO (C:Ctx) (st:St):ResultVar → M AV
 | .tmp t => .ret (st.env t)
 | .cell a T => (ZjZ C T (st.env a)).bind fun e => .ret e.val
def Yi (C:Ctx) (st:St):List ResultVar → M (List AV)
 | [] => .ret []
 | r :: l => (ZbO C st r).bind fun a => (Yi C st l).bind fun as => .ret (a :: as)
def nEq:List Nat → List Nat → Bool
 | [],[] => true
 | a :: l,b :: m => Nat.beq a b && nEq l m
 | _,_ => false
def XN:List Kd → List Kd
 | [] => []
 | .box ks :: l => .box ks :: XN l
 | .bld T :: l => .bld T :: XN l
 | _ :: l => XN l
def QC:List Kd → List AV → List AV
 | .box _ :: l,a :: as => a :: QC l as
 | .bld _ :: l,a :: as => a :: QC l as
 | _ :: l,_ :: as => QC l as
 | _,_ => []
def Wf:List AV → List Nat
 | [] => []
 | .bx r _ :: l => r :: Wf l
 | _ :: l => Wf l
def ZAZ:List (List Nat) → List (List Nat) → Bool
 | [],[] => true
 | a :: l,b :: m => nEq a b && ZAZ l m
 | _,_ => false
def KD (T:Qh):List Kd → List AV → List (List Nat)
 | .box ks :: l,.bx r 0 :: as => (bif Kx ks then (match T r with | .live (.box cs) => (match Zz ks cs with | some q => q | none => []) | _ => []) else []) :: KD T l as
 | _ :: l,_ :: as => KD T l as
 | _,_ => []
def Znb (C:Ctx) (rs:List ResultVar) (pk:List Kd) (la:List AV) (nm:List (List Nat)) (rk:Kd) (st:St):M (RV × List RV) :=
 (Yi C st rs).bind fun as => (take rk (match as with | [a] => a | as => .tup as)).bind fun (x,u) =>
  (takes (XN (ZQ pk)) la).bind fun (l,v) => (KE (XN (ZQ pk)) la).bind fun nm' =>
   bif Zfj (u ++ v) && ZAZ nm nm' then .ret (x,l) else .fail
def YP (C:Ctx) (rs:List ResultVar) (pk:List Kd) (la:List AV) (nm:List (List Nat)) (rk:Kd) (K:RV × List RV → Option R):Ex → St → Option R:=fun e st => match e with
 | .exit _ => none
 | .normal => (Znb C rs pk la nm rk st).runK st.tbl [] fun x l => bif ZcE l then K x else none
 | .ret => (Znb C rs pk la nm rk st).runK st.tbl [] fun x l => bif ZcE l then K x else none
def ZHH (pk:List Kd) (rvs:List RV) (n:Nat):Bool:=Nat.ble rvs.length n && Nat.ble (ZK 0 rvs).2.2 Qb && Xd pk (ZK 0 rvs).1
def Za2 (pk:List Kd) (rvs:List RV):List (List Nat):=KD (ZD (ZK 0 rvs).2.1) (XN (ZQ pk)) (QC (ZQ pk) (Ql pk (ZK 0 rvs).1))
def Zxn (C:Ctx) (A:Nat → Ann) (n:Nat) (body:Code) (rs:List ResultVar) (pk:List Kd) (rk:Kd) (rvs:List RV) (K:RV × List RV → Option R):Option R :=
 bif ZHH pk rvs n then
  Xf C A (Wf (QC (ZQ pk) (Ql pk (ZK 0 rvs).1)) ++ (Za2 pk rvs).flatten) body (enter (ZK 0 rvs).1 (ZK 0 rvs).2.1) (YP C rs pk (QC (ZQ pk) (Ql pk (ZK 0 rvs).1)) (Za2 pk rvs) rk K)
 else none
end
end Go.Sh
