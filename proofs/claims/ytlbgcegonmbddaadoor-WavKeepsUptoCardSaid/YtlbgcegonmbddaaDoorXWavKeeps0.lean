/-
  What the row needs, part 0.
-/
import Derived.Calls
import Derived.Laws.Sem
import Derived.Laws.World
import Derived.Orders
import Derived.Scope
import Derived.KernelRfl
import Derived.Laws.FloatArith
import Derived.Laws.ComplexArith
set_option linter.unusedSimpArgs false
set_option linter.unusedVariables false
set_option linter.unusedSectionVars false
open Go.FloatKind renaming f64→Je
open List renaming range→Jc,replicate→Jd
open Nat renaming beq→Ja,ble→Jb
namespace Go.Sh
open Go
inductive Ty where
 | bool | int (k:IntKind) | fl (k:FloatKind) | cx (k:FloatKind) | str | raw
 | sl (t:Ty) | unit | pair (a b:Ty)
 deriving DecidableEq
@[reducible] def Ty.den:Ty → Type
 | .bool => Bool
 | .int _ => Int
 | .fl _ => Nat
 | .cx _ => Nat × Nat
 | .str => ByteArray
 | .raw => Value
 | .sl t => List t.den
 | .unit => Unit
 | .pair a b => a.den × b.den
def Ty.size:Ty → Nat
 | .unit => 0
 | .pair a b => a.size + b.size
 | _ => 1
def Ty.dflt:(t:Ty) → t.den
 | .bool => false
 | .int _ => (0:Int)
 | .fl _ => (0:Nat)
 | .cx _ => ((0:Nat),(0:Nat))
 | .str => (⟨#[]⟩:ByteArray)
 | .raw => Value.pointer none
 | .sl _ => []
 | .unit => ()
 | .pair a b => (a.dflt,b.dflt)
def Zkp:TypeId:=5
def Ty.isU8:Ty → Bool
 | .int .u8 => true
 | _ => false
def okB (e:TypeId) (t:Ty):Bool:=bif t.isU8 then Ja e Zkp else true
def Zkc (e:TypeId) (t:Ty):Bool:=Jb 1 t.size && okB e t
theorem Xa {e:TypeId} {t:Ty} (h:Zkc e t = true):1 ≤ t.size ∧ okB e t = true:=by
 unfold Zkc at h
 simp_all
structure Fit (t:Ty) (T:TypeId) (n:Nat) (fz:Nat × Nat):Prop where
 free:∀ o,o < n → ¬ (fz.1 ≤ o ∧ o < fz.2)
 kind:okB T t = true
 ord:fz.1 ≤ fz.2
 big:n ≤ 9223372036854775807 * t.size
def Zb9 (n:Int):Bool:=decide (0 ≤ n) && Nat.blt n.toNat 2147483648
theorem Zdw {n:Int} (h:Zb9 n = true):0 ≤ n ∧ n < 2147483648:=by
 unfold Zb9 at h
 simp_all
theorem ZgX {n:Int} (h:0 ≤ n) (h2:n < 2147483648):Zb9 n = true:=by
 unfold Zb9
 simp_all
inductive PV where
 | v (x:Value)
 | sl (t:Ty) (xs:List t.den)
def Z8 (w:World) (b:Nat):Option TypeId:=match w.heap[b]? with
 | some (.cells _ T _) => some T
 | _ => none
def NF (w:World) (l:Nat → Nat) (w':World) (l':Nat → Nat):Prop := ∀ b o,o < l' b → w'.frozen? ⟨b,o,none⟩ = true → o < l b ∧ w.frozen? ⟨b,o,none⟩ = true
theorem KQ {w:World} {b:Nat} {vs:Array Value} {T:TypeId} {fz:Nat × Nat} (h:w.heap[b]? = some (.cells vs T fz)) {o:Nat} (hf:¬ (fz.1 ≤ o ∧ o < fz.2)):w.frozen? ⟨b,o,none⟩ = false:=by
 obtain ⟨lo,hi⟩:=fz
 simp only [World.frozen?,h]
 simpa using hf
theorem Qm {w w':World} {b:Nat} (h:w'.heap[b]? = w.heap[b]?) (o:Nat):w'.frozen? ⟨b,o,none⟩ = w.frozen? ⟨b,o,none⟩:=by simp only [World.frozen?,h]
theorem NF.row {w w':World} {lim:Nat → Nat} {b:Nat} {vs cs:Array Value} {T U:TypeId} {fz:Nat × Nat} (h:w.heap[b]? = some (.cells vs T fz)) (h':w'.heap[b]? = some (.cells cs U fz)) (ho:∀ c,c ≠ b → w'.heap[c]? = w.heap[c]?):NF w lim w' lim:=fun c o hc hf => by
 refine ⟨hc,?_⟩
 by_cases e:c = b
 ·subst e; obtain ⟨lo,hi⟩:=fz; simp only [World.frozen?,h,h'] at hf ⊢; exact hf
 ·rw [Qm (ho c e)] at hf; exact hf
theorem NF.keep {w w':World} {lim:Nat → Nat} (hlz:∀ b,w.heap.size ≤ b → lim b = 0) (h:∀ b,b < w.heap.size → w'.heap[b]? = w.heap[b]?):NF w lim w' lim:=fun b o ho hf => by
 rcases Nat.lt_or_ge b w.heap.size with h' | h'
 ·rw [Qm (h b h')] at hf; exact ⟨ho,hf⟩
 ·rw [hlz b h'] at ho; omega
structure Ext (w:World) (l:Nat → Nat) (w':World) (l':Nat → Nat):Prop where
 size:w.heap.size ≤ w'.heap.size
 cell:∀ b o,o < l b → w'.cell? ⟨b,o,none⟩ = w.cell? ⟨b,o,none⟩
 lim:∀ b o,o < l b → o < l' b
 typ:∀ b T,Z8 w b = some T → Z8 w' b = some T
 nf:NF w l w' l'
theorem Ext.refl (w:World) (lim:Nat → Nat):Ext w lim w lim:=⟨Nat.le_refl _,fun _ _ _ => rfl,fun _ _ h => h,fun _ _ h => h,fun _ _ h k => ⟨h,k⟩⟩
theorem Ext.trans {w w' w'':World} {l l' l'':Nat → Nat} (h:Ext w l w' l') (k:Ext w' l' w'' l''):Ext w l w'' l'' :=
 ⟨Nat.le_trans h.size k.size,fun b o ho => (k.cell b o (h.lim b o ho)).trans (h.cell b o ho),fun b o ho => k.lim b o (h.lim b o ho),fun b T hT => k.typ b T (h.typ b T hT),fun b o h1 h2 => let ⟨a,c⟩:=k.nf b o h1 h2; h.nf b o a c⟩
def Rt (w:World) (lim:Nat → Nat):(t:Ty) → t.den → List Value → Prop
 | .bool,b,cs => cs = [.bool b]
 | .int k,n,cs => cs = [.int k n]
 | .fl k,n,cs => cs = [.float k n]
 | .cx k,p,cs => cs = [.complex k p.1 p.2]
 | .str,s,cs => cs = [.string s]
 | .raw,x,cs => cs = [x] ∧ x.oneCell' = true
 | .sl t,xs,cs => ∃ A len cap,cs = [.slice A len cap] ∧ xs.length = len ∧ len ≤ cap ∧
   (xs = [] ∨ ∃ b off,A = some ⟨b,off,none⟩ ∧ ∀ i (h:i < xs.length),∃ c,Rt w lim t xs[i] c ∧
    ∀ j v,c[j]? = some v → w.cell? ⟨b,off + i * t.size + j,none⟩ = some v ∧ off + i * t.size + j < lim b)
 | .unit,_,cs => cs = []
 | .pair a b,x,cs => ∃ c d,cs = c ++ d ∧ Rt w lim a x.1 c ∧ Rt w lim b x.2 d
theorem Rt.length {w:World} {lim:Nat → Nat} : {t:Ty} → {x:t.den} → {cs:List Value} → Rt w lim t x cs → cs.length = t.size
 | .bool,_,_,h => by simp only [Rt] at h; subst h; rfl
 | .int _,_,_,h => by simp only [Rt] at h; subst h; rfl
 | .fl _,_,_,h => by simp only [Rt] at h; subst h; rfl
 | .cx _,_,_,h => by simp only [Rt] at h; subst h; rfl
 | .str,_,_,h => by simp only [Rt] at h; subst h; rfl
 | .raw,_,_,h => by simp only [Rt] at h; obtain ⟨rfl,_⟩:=h; rfl
 | .sl _,_,_,h => by simp only [Rt] at h; obtain ⟨A,len,cap,rfl,_⟩:=h; rfl
 | .unit,_,_,h => by simp only [Rt] at h; subst h; rfl
 | .pair a b,_,_,h => by
  simp only [Rt] at h; obtain ⟨c,d,rfl,h1,h2⟩:=h
  simp [Ty.size,Rt.length h1,Rt.length h2]
theorem Rt.mono {w w':World} {l l':Nat → Nat} (e:Ext w l w' l') : {t:Ty} → {x:t.den} → {cs:List Value} → Rt w l t x cs → Rt w' l' t x cs
 | .bool,_,_,h => h
 | .int _,_,_,h => h
 | .fl _,_,_,h => h
 | .cx _,_,_,h => h
 | .str,_,_,h => h
 | .raw,_,_,h => h
 | .unit,_,_,h => h
 | .pair a b,_,_,h => by
  simp only [Rt] at h ⊢; obtain ⟨c,d,rfl,h1,h2⟩:=h
  exact ⟨c,d,rfl,Rt.mono e h1,Rt.mono e h2⟩
 | .sl t,xs,_,h => by
  simp only [Rt] at h ⊢
  obtain ⟨A,len,cap,rfl,hl,hc,h⟩:=h
  refine ⟨A,len,cap,rfl,hl,hc,?_⟩
  rcases h with h | ⟨b,off,hA,h⟩
  ·exact .inl h
  ·refine .inr ⟨b,off,hA,fun i hi => ?_⟩
   obtain ⟨c,hr,hcell⟩:=h i hi
   refine ⟨c,Rt.mono e hr,fun j v hj => ?_⟩
   obtain ⟨h1,h2⟩:=hcell j v hj
   exact ⟨(e.cell _ _ h2).trans h1,e.lim _ _ h2⟩
def RP (w:World) (lim:Nat → Nat):PV → Value → Prop
 | .v x,v => v = x
 | .sl t xs,v => Rt w lim (.sl t) xs [v]
theorem RP.mono {w w':World} {l l':Nat → Nat} (e:Ext w l w' l') {p:PV} {v:Value} (h:RP w l p v):RP w' l' p v:=by
 cases p with
 | v x => exact h
 | sl t xs => exact Rt.mono e h
def Zv {α β:Type} (R:α → β → Prop):List α → List β → Prop
 | [],[] => True
 | a :: l,b :: m => R a b ∧ Zv R l m
 | _,_ => False
section all2
variable {α β:Type} {R S:α → β → Prop}
theorem Zv.length : {l:List α} → {m:List β} → Zv R l m → l.length = m.length
 | [],[],_ => rfl
 | _ :: _,_ :: _,h => by simp [Zv.length h.2]
theorem Zv.mono (h:∀ a b,R a b → S a b) : {l:List α} → {m:List β} → Zv R l m → Zv S l m
 | [],[],_ => trivial
 | _ :: _,_ :: _,k => ⟨h _ _ k.1,Zv.mono h k.2⟩
theorem Zv.append : {l:List α} → {m:List β} → {l':List α} → {m':List β} → Zv R l m → Zv R l' m' → Zv R (l ++ l') (m ++ m')
 | [],[],_,_,_,k => k
 | _ :: _,_ :: _,_,_,h,k => ⟨h.1,Zv.append h.2 k⟩
theorem Zv.get : {l:List α} → {m:List β} → Zv R l m → {i:Nat} → {a:α} → l[i]? = some a → ∃ b,m[i]? = some b ∧ R a b
 | [],[],_,_,_,h => by simp at h
 | x :: l,y :: m,k,0,a,h => by simp at h; subst h; exact ⟨y,rfl,k.1⟩
 | x :: l,y :: m,k,i + 1,a,h => by simp at h; obtain ⟨b,hb,hr⟩:=Zv.get k.2 h; exact ⟨b,by simpa using hb,hr⟩
theorem Zv.drop : {l:List α} → {m:List β} → (i:Nat) → Zv R l m → Zv R (l.drop i) (m.drop i)
 | [],[],i,_ => by simp [Zv]
 | _ :: _,_ :: _,0,h => h
 | _ :: _,_ :: _,i + 1,h => by simpa using Zv.drop i h.2
theorem Zv.take : {l:List α} → {m:List β} → (i:Nat) → Zv R l m → Zv R (l.take i) (m.take i)
 | [],[],i,_ => by simp [Zv]
 | _ :: _,_ :: _,0,_ => trivial
 | _ :: _,_ :: _,i + 1,h => ⟨h.1,Zv.take i h.2⟩
theorem Zv.set : {l:List α} → {m:List β} → {a:α} → {b:β} → (i:Nat) → Zv R l m → R a b → Zv R (l.set i a) (m.set i b)
 | [],[],_,_,_,_,_ => trivial
 | _ :: _,_ :: _,_,_,0,h,k => ⟨k,h.2⟩
 | _ :: _,_ :: _,_,_,i + 1,h,k => ⟨h.1,Zv.set i h.2 k⟩
theorem Zv.split : {l:List α} → {m:List β} → {l':List α} → Zv R (l ++ l') m → ∃ a b,m = a ++ b ∧ Zv R l a ∧ Zv R l' b
 | [],m,_,h => ⟨[],m,rfl,trivial,h⟩
 | _ :: _,[],_,h => h.elim
 | _ :: _,y :: m,_,h => by
  obtain ⟨a,b,rfl,h1,h2⟩:=Zv.split h.2
  exact ⟨y :: a,b,rfl,⟨h.1,h1⟩,h2⟩
theorem Zv.map_left {γ:Type} {f:γ → α} : {l:List γ} → {m:List β} → Zv (fun a b => R (f a) b) l m → Zv R (l.map f) m
 | [],[],_ => trivial
 | _ :: _,_ :: _,h => ⟨h.1,Zv.map_left h.2⟩
end all2
def cellsOf:(t:Ty) → t.den → List PV
 | .bool,b => [.v (.bool b)]
 | .int k,n => [.v (.int k n)]
 | .fl k,n => [.v (.float k n)]
 | .cx k,p => [.v (.complex k p.1 p.2)]
 | .str,s => [.v (.string s)]
 | .raw,x => [.v x]
 | .sl t,xs => [.sl t xs]
 | .unit,_ => []
 | .pair a b,x => cellsOf a x.1 ++ cellsOf b x.2
theorem QF {w:World} {lim:Nat → Nat} : {t:Ty} → {x:t.den} → {cs:List Value} → Rt w lim t x cs → Zv (RP w lim) (cellsOf t x) cs
 | .bool,_,_,h => by simp only [Rt] at h; subst h; exact ⟨rfl,trivial⟩
 | .int _,_,_,h => by simp only [Rt] at h; subst h; exact ⟨rfl,trivial⟩
 | .fl _,_,_,h => by simp only [Rt] at h; subst h; exact ⟨rfl,trivial⟩
 | .cx _,_,_,h => by simp only [Rt] at h; subst h; exact ⟨rfl,trivial⟩
 | .str,_,_,h => by simp only [Rt] at h; subst h; exact ⟨rfl,trivial⟩
 | .raw,_,_,h => by simp only [Rt] at h; obtain ⟨rfl,_⟩:=h; exact ⟨rfl,trivial⟩
 | .unit,_,_,h => by simp only [Rt] at h; subst h; exact trivial
 | .sl t,xs,cs,h => by
  have hl:cs.length = 1:=Rt.length h
  match cs,hl with
  | [c],_ => exact ⟨h,trivial⟩
 | .pair a b,x,_,h => by
  simp only [Rt] at h; obtain ⟨c,d,rfl,h1,h2⟩:=h
  exact Zv.append (QF h1) (QF h2)
def PV.asBool:PV → Option Bool
 | .v (.bool b) => some b
 | _ => none
def PV.asInt (k:IntKind):PV → Option Int
 | .v (.int k' n) => if k' = k then some n else none
 | _ => none
def PV.asFl (k:FloatKind):PV → Option Nat
 | .v (.float k' n) => if k' = k then some n else none
 | _ => none
def PV.asCx (k:FloatKind):PV → Option (Nat × Nat)
 | .v (.complex k' a b) => if k' = k then some (a,b) else none
 | _ => none
def PV.asStr:PV → Option ByteArray
 | .v (.string s) => some s
 | _ => none
def PV.asRaw:PV → Option Value
 | .v x => bif x.oneCell' then some x else none
 | _ => none
def W0:Value → Bool
 | .slice none 0 0 => true
 | _ => false
theorem WQ {x:Value} (h:W0 x = true):x = .slice none 0 0:=by
 unfold W0 at h
 split at h <;> simp_all
def PV.asSl (t:Ty):PV → Option (List t.den)
 | .sl t' xs => if h:t' = t then some (h ▸ xs) else none
 | .v x => if W0 x then some [] else none
def Zf7 {α:Type} (f:PV → Option α):List PV → Option (α × List PV)
 | [] => none
 | p :: r => match f p with
  | some x => some (x,r)
  | none => none
def XX:(t:Ty) → List PV → Option (t.den × List PV)
 | .bool,l => Zf7 PV.asBool l
 | .int k,l => Zf7 (PV.asInt k) l
 | .fl k,l => Zf7 (PV.asFl k) l
 | .cx k,l => Zf7 (PV.asCx k) l
 | .str,l => Zf7 PV.asStr l
 | .raw,l => Zf7 PV.asRaw l
 | .sl t,l => Zf7 (PV.asSl t) l
 | .unit,r => some ((),r)
 | .pair a b,l => match XX a l with
  | some (x,r) => (match XX b r with | some (y,r') => some ((x,y),r') | none => none)
  | none => none
theorem YU {α:Type} {f:PV → Option α} {w:World} {lim:Nat → Nat} {R:α → List Value → Prop} (hf:∀ p x v,f p = some x → RP w lim p v → R x [v])
  {ps:List PV} {x:α} {r:List PV} {cs:List Value} (h:Zf7 f ps = some (x,r)) (k:Zv (RP w lim) ps cs) :
  ∃ c d,cs = c ++ d ∧ R x c ∧ Zv (RP w lim) r d:=by
 match ps,cs,k with
 | p :: ps,c :: cs,k =>
  unfold Zf7 at h
  cases hp:f p with
  | none => simp [hp] at h
  | some y =>
   simp [hp] at h
   obtain ⟨rfl,rfl⟩:=h
   exact ⟨[c],cs,rfl,hf _ _ _ hp k.1,k.2⟩
theorem Zf5 {w:World} {lim:Nat → Nat} {t:Ty} {p:PV} {x:List t.den} {v:Value} (h:PV.asSl t p = some x) (k:RP w lim p v):Rt w lim (.sl t) x [v]:=by
 cases p with
 | v y =>
  simp only [PV.asSl] at h
  split at h
  ·rename_i hn
   simp at h; subst h
   have:=WQ hn; grind [RP,Rt]
  ·contradiction
 | sl t' xs =>
  simp only [PV.asSl] at h
  split at h
  ·rename_i ht
   subst ht
   simp at h; subst h
   exact k
  ·contradiction
theorem Zau {w:World} {lim:Nat → Nat} : {t:Ty} → {ps:List PV} → {x:t.den} → {r:List PV} → {cs:List Value} →
  XX t ps = some (x,r) → Zv (RP w lim) ps cs → ∃ c d,cs = c ++ d ∧ Rt w lim t x c ∧ Zv (RP w lim) r d
 | .bool,ps,x,r,cs,h,k => YU (f:=PV.asBool) (fun p x v hp hr => by
   unfold PV.asBool at hp; split at hp <;> simp at hp; subst hp; simp only [RP] at hr; subst hr; rfl) h k
 | .int kk,ps,x,r,cs,h,k => YU (f:=PV.asInt kk) (fun p x v hp hr => by
   unfold PV.asInt at hp; split at hp <;> simp at hp; obtain ⟨rfl,rfl⟩:=hp; simp only [RP] at hr; subst hr; rfl) h k
 | .fl kk,ps,x,r,cs,h,k => YU (f:=PV.asFl kk) (fun p x v hp hr => by
   unfold PV.asFl at hp; split at hp <;> simp at hp; obtain ⟨rfl,rfl⟩:=hp; simp only [RP] at hr; subst hr; rfl) h k
 | .cx kk,ps,x,r,cs,h,k => YU (f:=PV.asCx kk) (fun p x v hp hr => by
   unfold PV.asCx at hp; split at hp <;> simp at hp; obtain ⟨rfl,rfl⟩:=hp; simp only [RP] at hr; subst hr; rfl) h k
 | .str,ps,x,r,cs,h,k => YU (f:=PV.asStr) (fun p x v hp hr => by
   unfold PV.asStr at hp; split at hp <;> simp at hp; subst hp; simp only [RP] at hr; subst hr; rfl) h k
 | .raw,ps,x,r,cs,h,k => YU (f:=PV.asRaw) (fun p x v hp hr => by
   unfold PV.asRaw at hp
   split at hp
   ·rename_i y
    cases hy:y.oneCell' with
    | false => simp [hy] at hp
    | true => simp [hy] at hp; subst hp; simp only [RP] at hr; subst hr; exact ⟨rfl,hy⟩
   ·simp at hp) h k
 | .sl t,ps,x,r,cs,h,k => YU (f:=PV.asSl t) (R:=Rt w lim (.sl t)) (fun p x v hp hr => Zf5 hp hr) h k
 | .unit,ps,x,r,cs,h,k => by
   simp only [XX,Option.some.injEq,Prod.mk.injEq] at h
   obtain ⟨_,rfl⟩:=h
   exact ⟨[],cs,rfl,rfl,k⟩
 | .pair a b,ps,x,r,cs,h,k => by
   simp only [XX] at h
   cases ha:XX a ps with
   | none => simp [ha] at h
   | some q =>
    obtain ⟨y,r1⟩:=q
    simp only [ha] at h
    cases hb:XX b r1 with
    | none => simp [hb] at h
    | some q2 =>
     obtain ⟨z,r2⟩:=q2
     simp only [hb,Option.some.injEq,Prod.mk.injEq] at h
     obtain ⟨rfl,rfl⟩:=h
     obtain ⟨c,d,rfl,h1,h2⟩:=Zau ha k
     obtain ⟨c',d',rfl,h3,h4⟩:=Zau hb h2
     exact ⟨c ++ c',d',by simp,⟨c,c',rfl,h1,h3⟩,h4⟩
def XG (t:Ty) (ps:List PV):Option t.den :=
 match XX t ps with
 | some (x,[]) => some x
 | _ => none
theorem Yw {w:World} {lim:Nat → Nat} {t:Ty} {ps:List PV} {x:t.den} {cs:List Value} (h:XG t ps = some x) (k:Zv (RP w lim) ps cs):Rt w lim t x cs:=by
 unfold XG at h
 split at h
 ·rename_i y hy
  simp at h; subst h
  obtain ⟨c,d,rfl,h1,h2⟩:=Zau hy k
  match d,h2 with
  | [],_ => simpa using h1
 ·contradiction
def Ty.eqb:(t:Ty) → t.den → t.den → Bool
 | .bool,a,b => a == b
 | .int _,a,b => decide ((a:Int) = b)
 | .str,a,b => decide ((a:ByteArray) = b)
 | .pair s t,x,y => s.eqb x.1 y.1 && t.eqb x.2 y.2
 | .unit,_,_ => true
 | .fl _,_,_ => false
 | .cx _,_,_ => false
 | .raw,_,_ => false
 | .sl _,_,_ => false
end Go.Sh
namespace Go.Sh
open Go
inductive AV where
 | dead
 | val (p:PV)
 | own (r:Nat)                          -- a slice of one's own
 | bx (r k:Nat)                         -- the address of a cell of a box
 | el (r:Nat) (t:Ty) (i k:Nat)      -- the address of a cell of an element of a slice of one's own
 | sp (ps:List PV)                      -- an address of cells that stay
 | agg (cs:List AV)
 | tup (vs:List AV)
 | fn (f:Nat)
 | me (r:Nat) (T:TypeId)              -- nil,or the address of r,which is of this type
 | clo (f:Nat) (cs:List AV)           -- a function with what it captured
 | sub (r:Nat) (t:Ty) (i j:Nat)     -- a part of a slice of one's own
 | ns (t:Ty) (xs:List t.den)          -- a slice that is nil if it has no elements
 | vp (t:Ty) (xs:List t.den)          -- the address of a row that stays
inductive Res where
 | box (cs:List AV)
 | arr (t:Ty) (xs:List t.den) (shown:Bool)
 | nest (t:Ty) (xss:List (List t.den)) (h:Option Nat)      -- a row of slices of one's own (one may be taken out)
inductive RS where
 | fresh | gone
 | live (x:Res)
abbrev ZF:=Nat → RS
abbrev Qh:=List (Nat × RS)
def Zm:Qh → Nat → Option RS
 | [],_ => none
 | (i,x) :: l,r => bif Ja i r then some x else Zm l r
def ZD:Nat:=1152921504606846976
def Wa (r i:Nat):Nat:=(i + 1) * ZD + r
def ZF.put (T:ZF) (u:Qh):ZF:=fun r => match Zm u r with | some x => x | none => T r
structure St where
 env:Nat → AV
 tbl:ZF
def XP (e:Nat → AV) (d:Nat) (a:AV):Nat → AV:=fun s => bif Ja s d then a else e s
def Q9 (e:Nat → AV) (d:Option Nat) (a:AV):Nat → AV:=match d with | some d => XP e d a | none => e
inductive M (α:Type):Type 1 where
 | ret (a:α)
 | fail
 | get (r:Nat) (k:RS → M α)
 | need (b:Bool) (k:M α)
 | br (b:Bool) (k:Bool → M α)
 | opt {ρ:Type} (o:Option ρ) (k:ρ → M α)
namespace M
variable {α β R:Type}
def runK (T:ZF):M α → List Nat → (α → List Nat → Option R) → Option R
 | .ret a,l,K => K a l
 | .fail,_,_ => none
 | .get r k,l,K => runK T (k (T r)) (r :: l) K
 | .need b k,l,K => bif b then runK T k l K else none
 | .br b k,l,K => bif b then runK T (k true) l K else runK T (k false) l K
 | .opt o k,l,K => o.bind fun x => runK T (k x) l K
def run (T:ZF):M α → List Nat → Option (α × List Nat)
 | .ret a,l => some (a,l)
 | .fail,_ => none
 | .get r k,l => run T (k (T r)) (r :: l)
 | .need b k,l => bif b then run T k l else none
 | .br b k,l => run T (k b) l
 | .opt o k,l => o.bind fun x => run T (k x) l
def bind:M α → (α → M β) → M β
 | .ret a,f => f a
 | .fail,_ => .fail
 | .get r k,f => .get r fun x => bind (k x) f
 | .need b k,f => .need b (bind k f)
 | .br b k,f => .br b fun x => bind (k x) f
 | .opt o k,f => .opt o fun x => bind (k x) f
def ofOpt (o:Option α):M α:=match o with | some a => .ret a | none => .fail
end M
inductive Kd where
 | view (t:Ty) | own (t:Ty) (sh:Bool) | box (ks:List Kd) | agg (ks:List Kd) | tup (ks:List Kd) | fn (f:Nat) | bld (T:TypeId) | use (T:TypeId) | clo (f:Nat) (ks:List Kd) | ref (ks:List Kd) | ns (t:Ty) | vp (t:Ty)
inductive RV where
 | view (t:Ty) (x:t.den)
 | own (t:Ty) (sh:Bool) (xs:List t.den)
 | box (cs:List RV)
 | agg (cs:List RV)
 | tup (vs:List RV)
 | fn (f:Nat)
 | bld (T:TypeId) (xs:List Int)          -- a builder of bytes
 | clo (f:Nat) (cs:List RV)
 | ns (t:Ty) (xs:List t.den)
 | vp (t:Ty) (xs:List t.den)
structure Callee where
 ρ:Type
 pk:List Kd
 run:Nat → List RV → Option ρ
 enc:ρ → RV × List RV
structure Ctx where
 P:Program
 Φ:Nat → Option Callee
 k:Nat                                   -- rounds
 live:Nat → List Nat                     -- of a loop: which slots live at its head,and which of them hold a slice of one's own
def Ty.isAgg:Ty → Bool
 | .pair _ _ | .unit => true
 | _ => false
def Zgq (t:Ty) (x:t.den):AV :=
 bif t.isAgg then .agg ((cellsOf t x).map .val) else match cellsOf t x with | [p] => .val p | _ => .dead
def AV.cells? : AV → Option (List AV)
 | .agg cs => some cs
 | .dead | .tup _ => none
 | .val (.v x) => bif x.oneCell' then some [.val (.v x)] else none
 | a => some [a]
def Zgf (P:Program):Nat → TypeId → Option Ty
 | 0,_ => none
 | n + 1,t => match P.underlying t with
  | some .bool => some .bool
  | some (.int k) => some (.int k)
  | some (.float k) => some (.fl k)
  | some (.complex k) => some (.cx k)
  | some .string => some .str
  | some (.slice e) => (Zgf P n e).map .sl
  | some (.struct fs) => fs.toList.foldr (fun f acc => match Zgf P n f.type,acc with | some a,some b => some (.pair a b) | _,_ => none) (some .unit)
  | some (.array _ _) => none
  | some _ => some .raw
  | none => none
def depth:Nat:=12
def Y7:TypeDesc → Bool
 | .struct _ | .array _ _ => true
 | _ => false
def QV (P:Program) (t:TypeId):Option (TypeId × Ty):=match P.underlying t with
 | some (.slice e) => match Zgf P depth e with
  | some ty => bif Ja (P.cellsOf e) ty.size then some (e,ty) else none
  | none => none
 | _ => none
def zeroCells (P:Program) (t:TypeId):Option (List Value):=match P.info? t with
 | some i => i.zero.map fun v => v.cells.toList
 | none => none
def KO (P:Program) (t:TypeId):Option (Array Field):=match P.underlying t with
 | some (.struct fs) => some fs
 | _ => none
def Wr {α:Type} (P:Program):Sem α → Option α
 | .pure a => some a
 | .program k => Wr P (k P)
 | _ => none
def W9:AV → AV
 | .ns t xs => .val (.sl t xs)
 | a => a
def ZdQ (t:Ty):AV → M (List t.den)
 | .own r => .get r fun
  | .live (.arr t' xs _) => if h:t' = t then .ret (h ▸ xs) else .fail
  | _ => .fail
 | .val p => M.ofOpt (PV.asSl t p)
 | _ => .fail
def ZmR:AV → M (PV × Qh)
 | .val p => .ret (p,[])
 | .ns t xs => .ret (.sl t xs,[])
 | .own r => .get r fun
  | .live (.arr t xs _) => .ret (.sl t xs,[(r,.live (.arr t xs true))])
  | _ => .fail
 | .sub r t i j => .get r fun
  | .live (.arr t' xs _) => if t' = t then .need (decide (i ≤ j ∧ j ≤ xs.length)) (.ret (.sl t' ((xs.take j).drop i),[(r,.live (.arr t' xs true))])) else .fail
  | _ => .fail
 | _ => .fail
def Zhf:List AV → M (List PV × Qh)
 | [] => .ret ([],[])
 | a :: l => (ZmR a).bind fun (p,u) => (Zhf l).bind fun (ps,v) => .ret (p :: ps,u ++ v)
def Zjv (t:Ty) (a:AV):M (t.den × Qh) :=
 match a with
 | .agg cs => bif t.isAgg then (Zhf cs).bind fun (ps,u) => match XG t ps with | some x => .ret (x,u) | none => .fail else .fail
 | a => bif t.isAgg then .fail else (ZmR a).bind fun (p,u) => match XG t [p] with | some x => .ret (x,u) | none => .fail
def Zns (r:Nat) (T:TypeId):AV → Bool
 | .me q U => Ja q r && Ja U T
 | _ => false
def YW (t:Ty):AV → M (List t.den × Qh)
 | .own r => .get r fun
  | .live (.arr t' xs s) => if h:t' = t then (bif !s then .ret (h ▸ xs,[(r,.gone)]) else .fail) else .fail
  | _ => .fail
 | .val (.v x) => bif W0 x && Jb 1 t.size then .ret ([],[]) else .fail
 | _ => .fail
def Zig (t:Ty):AV → M (RV × Qh)
 | .ns t' xs => if h:t' = t then .ret (.ns t (h ▸ xs),[]) else .fail
 | .val (.v x) => bif W0 x then .ret (.ns t [],[]) else .fail
 | .own r => .get r fun
  | .live (.arr t' xs _) => if h:t' = t then .need (decide (0 < xs.length)) (.ret (.ns t (h ▸ xs),[(r,.live (.arr t' xs true))])) else .fail
  | _ => .fail
 | _ => .fail
def Zih (t:Ty):AV → M (RV × Qh)
 | .vp t' xs => if h:t' = t then .ret (.vp t (h ▸ xs),[]) else .fail
 | .el r u 0 0 => if u = t then .get r fun
  | .live (.arr t' xs _) => if h:t' = t then .need (decide (0 < xs.length)) (.ret (.vp t (h ▸ xs),[(r,.live (.arr t' xs true))])) else .fail
  | _ => .fail
  else .fail
 | _ => .fail
mutual

def take:Kd → AV → M (RV × Qh)
 | .view t,a => (Zjv t a).bind fun (x,u) => .ret (.view t x,u)
 | .own t sh,.own r => .get r fun
  | .live (.arr t' xs s) => if h:t' = t then (bif sh || !s then .ret (.own t sh (h ▸ xs),[(r,.gone)]) else .fail) else .fail
  | _ => .fail
 | .own t sh,.val (.v x) => bif W0 x && Jb 1 t.size then .ret (.own t sh [],[]) else .fail
 | .box ks,.bx r 0 => .get r fun
  | .live (.box cs) => (takes ks cs).bind fun (l,u) => .ret (.box l,(r,.gone) :: u)
  | _ => .fail
 | .ref ks,.bx r 0 => .get r fun
  | .live (.box cs) => (takes ks cs).bind fun (l,u) => .ret (.box l,(r,.gone) :: u)
  | _ => .fail
 | .agg ks,.agg cs => (takes ks cs).bind fun (l,u) => .ret (.agg l,u)
 | .tup ks,.tup cs => (takes ks cs).bind fun (l,u) => .ret (.tup l,u)
 | .fn f,.fn g => bif Ja f g then .ret (.fn f,[]) else .fail
 | .ns t,a => Zig t a
 | .vp t,a => Zih t a
 | .clo f ks,.clo g cs => bif Ja f g then (takes ks cs).bind fun (l,u) => .ret (.clo f l,u) else .fail
 | .bld T,.bx r 0 => .get r fun
  | .live (.box [c0,c1]) => bif Zns r T c0 then (YW (.int .u8) c1).bind fun (xs,u) => .ret (.bld T xs,(r,.gone) :: u) else .fail
  | _ => .fail
 | .use T,.bx r 0 => .get r fun
  | .live (.box [c0,c1]) => bif Zns r T c0 then (YW (.int .u8) c1).bind fun (xs,u) => .ret (.bld T xs,(r,.gone) :: u) else .fail
  | _ => .fail
 | _,_ => .fail
def takes:List Kd → List AV → M (List RV × Qh)
 | [],[] => .ret ([],[])
 | k :: ks,a :: as => (take k a).bind fun (x,u) => (takes ks as).bind fun (l,v) => .ret (x :: l,u ++ v)
 | _,_ => .fail
end
def Zcw:RS → RS → Bool
 | .live (.arr _ _ true),.live (.arr _ _ true) => true
 | _,_ => false
def Zaa:Qh → Bool
 | [] => true
 | (i,x) :: l => (l.all fun (j,y) => !(Ja i j) || Zcw x y) && Zaa l
mutual

def put (n:Nat):RV → AV × Qh × Nat
 | .view t x => (Zgq t x,[],n)
 | .own t sh xs => (.own n,[(n,.live (.arr t xs sh))],n + 1)
 | .box cs => (.bx n 0,(n,.live (.box (Zu (n + 1) cs).1)) :: (Zu (n + 1) cs).2.1,(Zu (n + 1) cs).2.2)
 | .agg cs => (.agg (Zu n cs).1,(Zu n cs).2.1,(Zu n cs).2.2)
 | .tup cs => (.tup (Zu n cs).1,(Zu n cs).2.1,(Zu n cs).2.2)
 | .fn f => (.fn f,[],n)
 | .ns t xs => (.ns t xs,[],n)
 | .vp t xs => (.vp t xs,[],n)
 | .bld T xs => (.bx n 0,[(n,.live (.box [.me n T,.own (n + 1)])),(n + 1,.live (.arr (.int .u8) xs false))],n + 2)
 | .clo f cs => (.clo f (Zu n cs).1,(Zu n cs).2.1,(Zu n cs).2.2)
def Zu (n:Nat):List RV → List AV × Qh × Nat
 | [] => ([],[],n)
 | x :: l => ((put n x).1 :: (Zu (put n x).2.2 l).1,(Zu (put n x).2.2 l).2.1 ++ (put n x).2.1,(Zu (put n x).2.2 l).2.2)
end
def Zt:List Kd → List Kd
 | [] => []
 | .clo _ ks :: l => ks ++ Zt l
 | k :: l => k :: Zt l
def ZM:List Kd → List AV → List AV
 | .clo _ _ :: l,.clo _ cs :: as => cs ++ ZM l as
 | _ :: l,a :: as => a :: ZM l as
 | _,_ => []
def Qx:List Kd → List Value → List Value
 | .clo _ _ :: l,.func _ _ cs :: vs => cs.toList ++ Qx l vs
 | _ :: l,v :: vs => v :: Qx l vs
 | _,_ => []
def QU:List Kd → List AV → Bool
 | [],[] => true
 | .clo _ ks :: l,.clo _ cs :: as => Ja ks.length cs.length && QU l as
 | .clo _ _ :: _,_ => false
 | _ :: l,_ :: as => QU l as
 | _,_ => false
def Zl:List Kd → List AV → Option (List Nat)
 | [],[] => some []
 | .ref _ :: ks,.bx r 0 :: as => match Zl ks as with | some q => some (r :: q) | none => none
 | .ref _ :: _,_ => none
 | _ :: ks,_ :: as => Zl ks as
 | _,_ => none
def Xo:List Kd → Bool
 | [] => false
 | .ref _ :: _ => true
 | _ :: l => Xo l
def YG (ks:List Kd) (r:Nat):M (List Nat):=bif Xo ks then .get r fun
  | .live (.box cs) => M.ofOpt (Zl ks cs)
  | _ => .fail
 else .ret []
def Xq:List Kd → List AV → M (List (List Nat))
 | .box ks :: l,.bx r 0 :: as => (YG ks r).bind fun q => (Xq l as).bind fun qs => .ret (q :: qs)
 | .box _ :: _,_ :: _ => .fail
 | _ :: l,_ :: as => Xq l as
 | _,_ => .ret []
def Zr (n:Nat):List Nat → List Kd → List RV → List AV × Qh × Nat
 | q :: qs,.ref _ :: ks,.box ds :: cs => (.bx q 0 :: (Zr (Zu n ds).2.2 qs ks cs).1,(Zr (Zu n ds).2.2 qs ks cs).2.1 ++ ((q,.live (.box (Zu n ds).1)) :: (Zu n ds).2.1),(Zr (Zu n ds).2.2 qs ks cs).2.2)
 | _ :: qs,.ref _ :: ks,x :: cs => ((put n x).1 :: (Zr (put n x).2.2 qs ks cs).1,(Zr (put n x).2.2 qs ks cs).2.1 ++ (put n x).2.1,(Zr (put n x).2.2 qs ks cs).2.2)
 | qs,_ :: ks,x :: cs => ((put n x).1 :: (Zr (put n x).2.2 qs ks cs).1,(Zr (put n x).2.2 qs ks cs).2.1 ++ (put n x).2.1,(Zr (put n x).2.2 qs ks cs).2.2)
 | _,_,cs => Zu n cs
def Zk (n:Nat):List (List Nat) → List Kd → List AV → List RV → Option (Qh × Nat)
 | _,[],[],[] => some ([],n)
 | qs :: nm,.box ks0 :: ks,.bx r 0 :: as,.box cs :: rs => match Zk (Zr n qs ks0 cs).2.2 nm ks as rs with
   | some (v,m') => some (v ++ (r,.live (.box (Zr n qs ks0 cs).1)) :: (Zr n qs ks0 cs).2.1,m')
   | none => none
 | _,.box _ :: _,_,_ => none
 | nm,.bld _ :: ks,.bx r 0 :: as,.bld T xs :: rs => match Zk (n + 1) nm ks as rs with
   | some (v,m') => some (v ++ [(r,.live (.box [.me r T,.own n])),(n,.live (.arr (.int .u8) xs false))],m')
   | none => none
 | _,.bld _ :: _,_,_ => none
 | nm,_ :: ks,_ :: as,rs => Zk n nm ks as rs
 | _,_,_,_ => none
def Z4 {α:Type}:(n m:Nat) → M α → M α
 | _,0,k => k
 | n,m + 1,k => .get n fun | .fresh => Z4 (n + 1) m k | _ => .fail
structure Eff where
 val:AV
 ups:Qh
def plain:Value → Bool
 | .bool _ | .int _ _ | .float _ _ | .complex _ _ _ | .string _ => true
 | _ => false
def bytesOf (l:List Int):ByteArray:=⟨(l.map fun n => UInt8.ofNat n.toNat).toArray⟩
def Zx (s:ByteArray):List Int:=s.data.toList.map fun b => (b.toNat:Int)
def bt (s:ByteArray) (i:Int):Int:=((s.data.toList.getD i.toNat 0).toNat:Int)
def Zbr (x y:Value) (f:IntKind → Int → IntKind → Int → M Eff) (g:M Eff):M Eff:=match x with
 | .int k a => (match y with | .int k' b => f k a k' b | _ => g)
 | _ => g
def Zhz (x y:Value) (f:ByteArray → ByteArray → M Eff) (g:M Eff):M Eff:=match x with
 | .string a => (match y with | .string b => f a b | _ => g)
 | _ => g
def KM (C:Ctx) (s:Sem Value):M Eff:=match Wr C.P s with
 | some v => bif plain v then .ret ⟨.val (.v v),[]⟩ else .fail
 | none => .fail
def Zht (C:Ctx) (op:BinOp) (T:TypeId) (x y:Value):M Eff :=
 bif plain x && plain y then
  match op with
  | .quo => Zbr x y (fun k a k' b => bif decide (k = k') then .need (decide (b ≠ 0)) (.ret ⟨.val (.v (.int k (k.wrap (a.tdiv b)))),[]⟩) else .fail) (KM C (binOp .quo T x y))
  | .rem => Zbr x y (fun k a k' b => bif decide (k = k') then .need (decide (b ≠ 0)) (.ret ⟨.val (.v (.int k (a.tmod b))),[]⟩) else .fail) .fail
  | .shl => Zbr x y (fun k a _ b => .need (decide (0 ≤ b)) (.ret ⟨.val (.v (.int k (k.wrap (a * 2 ^ (min b.toNat k.bits))))),[]⟩)) .fail
  | .shr => Zbr x y (fun k a _ b => .need (decide (0 ≤ b)) (.ret ⟨.val (.v (.int k (a.fdiv (2 ^ (min b.toNat k.bits))))),[]⟩)) .fail
  | .add => Zhz x y (fun a b => .need (decide (a.size + b.size < 1099511627776)) (.ret ⟨.val (.v (.string (a ++ b))),[]⟩)) (KM C (binOp .add T x y))
  | op => KM C (binOp op T x y)
 else .fail
def ZgU:Value → Bool
 | .pointer none => true
 | _ => false
def Kr (place:Nat → Option (Nat × Nat)) (cells:List AV):List (Nat × AV) → Option (List AV)
 | [] => some cells
 | (i,a) :: rest => match place i,a.cells? with
  | some (off,size),some cs =>
   bif Ja cs.length size && Jb (off + size) cells.length then Kr place (cells.take off ++ cs ++ cells.drop (off + size)) rest else none
  | _,_ => none
def dens (t:Ty):List AV → M (List t.den × Qh)
 | [] => .ret ([],[])
 | a :: l => (Zjv t a).bind fun (x,u) => (dens t l).bind fun (xs,v) => .ret (x :: xs,u ++ v)
def Zcn (C:Ctx) (t:Ty) (z:t.den) (U:TypeId) (x:AV) (k:List t.den → M Eff):M Eff:=match C.P.underlying U with
 | some .string => match x with
  | .val (.v (.string s)) => if h:t = .int .u8 then k (h ▸ Zx s) else .fail
  | _ => .fail
 | some (.int _) => match x with
  | .val (.v (.int .i64 n)) => .need (Zb9 n) (k (Jd n.toNat z))
  | _ => .fail
 | some (.slice _) => (ZdQ t x).bind k
 | _ => .fail
def Zim (base:Nat) (t:Ty) (u:Qh) (xs:List t.den) (shown:Bool) (ys:List t.den):M Eff :=
 .need (decide (xs.length + ys.length < 2147483648)) (Z4 base 1 (.ret ⟨.own base,(base,.live (.arr t (xs ++ ys) shown)) :: u⟩))
def Zbo (C:Ctx) (base:Nat) (argTypes:Array TypeId) (s x:AV):M Eff :=
 match argTypes.toList with
 | [T,U] => match QV C.P T with
  | some (e,t) => bif Jb (C.P.bytesOf e) 65536 && Zkc e t then
    match zeroCells C.P e with
    | some zs => match XG t (zs.map .v) with
     | some z => match s with
      | .own r => .get r fun
       | .live (.arr t' xs shown) => if h:t' = t then Zcn C t z U x (Zim base t [(r,.gone)] (h ▸ xs) shown) else .fail
       | _ => .fail
      | .val (.v v) => bif W0 v then Zcn C t z U x (Zim base t [] [] false) else .fail
      | _ => .fail
     | none => .fail
    | none => .fail
   else .fail
  | none => .fail
 | _ => .fail
def Zob (k:FloatKind) (x y:Nat):Option Nat:=match k.format.order x y with
 | none => none
 | some .lt => some y
 | some .gt => some x
 | some .eq => some (if (k.decode x).neg then y else x)
def Zfb (t:Ty) (y:AV) (k:List t.den → M Eff):M Eff:=match y with
 | .sub r u i j => .get r fun
  | .live (.arr t' ys _) => if h:t' = t then (if u = t then .need (decide (i ≤ j ∧ j ≤ ys.length)) (k (((h ▸ ys:List t.den).take j).drop i)) else .fail) else .fail
  | _ => .fail
 | _ => (ZdQ t y).bind k
def ZaG (r:Nat) (t:Ty) (xs:List t.den) (i j:Nat) (y:AV):M Eff :=
 Zfb t y fun ys => .ret ⟨.val (.v (.int .i64 ((min ys.length (j - i):Nat):Int))),[(r,.live (.arr t (xs.take i ++ ys.take (j - i) ++ xs.drop (i + min ys.length (j - i))) false))]⟩
def Ze1 (C:Ctx) (argTypes:Array TypeId) (x y:AV):M Eff:=match argTypes.toList with
 | [T,_] => match QV C.P T with
  | some (_,t) => match x with
   | .own r => .get r fun
    | .live (.arr t' xs false) => if t' = t then ZaG r t' xs 0 xs.length y else .fail
    | _ => .fail
   | .sub r u i j => .get r fun
    | .live (.arr t' xs false) => if t' = t then (if u = t then .need (decide (i ≤ j ∧ j ≤ xs.length)) (ZaG r t' xs i j y) else .fail) else .fail
    | _ => .fail
   | _ => .fail
  | none => .fail
 | _ => .fail
def QE (C:Ctx) (base:Nat) (b:Builtin) (argTypes:Array TypeId) (vals:List AV):M Eff :=
 match b,vals with
 | .len,[a] => match argTypes[0]? with
  | some T => match C.P.underlying T,a with
   | some .string,.val (.v (.string s)) => .ret ⟨.val (.v (.int .i64 s.size)),[]⟩
   | some (.slice _),.own r => .get r fun
    | .live (.arr _ xs _) => .ret ⟨.val (.v (.int .i64 xs.length)),[]⟩
    | .live (.nest _ xss _) => .ret ⟨.val (.v (.int .i64 xss.length)),[]⟩
    | _ => .fail
   | some (.slice _),.val (.sl _ xs) => .ret ⟨.val (.v (.int .i64 xs.length)),[]⟩
   | some (.slice _),.val (.v x) => bif W0 x then .ret ⟨.val (.v (.int .i64 0)),[]⟩ else .fail
   | _,_ => .fail
  | none => .fail
 | .append,[s,x] => Zbo C base argTypes s x
 | .copy,[x,y] => Ze1 C argTypes x y
 | .max,[.val (.v (.int k x)),.val (.v (.int k' y))] => bif decide (k = k') then .ret ⟨.val (.v (.int k (if y > x then y else x))),[]⟩ else .fail
 | .max,[.val (.v (.float k x)),.val (.v (.float k' y))] => bif decide (k = k') then .opt (Zob k x y) fun r => .ret ⟨.val (.v (.float k r)),[]⟩ else .fail
 | .complex,[.val (.v (.float k re)),.val (.v (.float k' im))] => bif decide (k = k') then .ret ⟨.val (.v (.complex k re im)),[]⟩ else .fail
 | .real,[.val (.v (.complex k re _))] => .ret ⟨.val (.v (.float k re)),[]⟩
 | .imag,[.val (.v (.complex k _ im))] => .ret ⟨.val (.v (.float k im)),[]⟩
 | .min,[.val (.v (.int k x)),.val (.v (.int k' y))] => bif decide (k = k') then .ret ⟨.val (.v (.int k (if y < x then y else x))),[]⟩ else .fail
 | _,_ => .fail
def Zcl (C:Ctx) (base:Nat) (f:Nat) (args:List AV):M Eff :=
 match C.Φ f with
 | none => .fail
 | some cal => (takes cal.pk args).bind fun (rvs,u) => (Xq (Zt cal.pk) (ZM cal.pk args)).bind fun nm =>
  bif Zaa u then .opt (cal.run C.k rvs) fun x =>
   match put base (cal.enc x).1 with
   | (a,v,n) => match Zk n nm (Zt cal.pk) (ZM cal.pk args) (cal.enc x).2 with
    | some (w,m) => Z4 base (m - base) (.ret ⟨a,w ++ (v ++ u)⟩)
    | none => .fail
  else .fail
def Kg (o:Option AV) (d:Int) (k:Int → M Eff):M Eff:=match o with
 | none => k d
 | some (.val (.v (.int _ n))) => k n
 | some _ => .fail
def ZmN (C:Ctx):AV → Bool
 | .own _ => (C.live 999999).any fun _ => true
 | _ => false
def Zhw (C:Ctx) (T:TypeId) (x:AV) (lo hi:Option AV):M Eff:=match x,QV C.P T with
 | .own r,some (_,t) => .get r fun
  | .live (.arr t' xs _) => if t' = t then Kg hi xs.length fun h => Kg lo 0 fun l =>
    .need (decide (0 ≤ l ∧ l ≤ h ∧ h ≤ xs.length)) (.ret ⟨.sub r t' l.toNat h.toNat,[]⟩) else .fail
  | _ => .fail
 | _,_ => .fail
def Yb (C:Ctx) (T:TypeId) (x:AV) (lo hi:Option AV):M Eff:=bif ZmN C x then Zhw C T x lo hi else
 match C.P.underlying T with
 | some .string => match x with
  | .val (.v (.string s)) => Kg hi s.size fun h => Kg lo 0 fun l =>
   .need (decide (0 ≤ l ∧ l ≤ h ∧ h ≤ s.size)) (.ret ⟨.val (.v (.string (s.extract l.toNat h.toNat))),[]⟩)
  | _ => .fail
 | some (.slice _) => match QV C.P T with
  | some (_,t) => (ZmR x).bind fun (p,u) => match PV.asSl t p with
   | some xs => Kg hi xs.length fun h => Kg lo 0 fun l =>
    .need (decide (0 ≤ l ∧ l ≤ h ∧ h ≤ xs.length)) (.ret ⟨.val (.sl t ((xs.take h.toNat).drop l.toNat)),u⟩)
   | none => .fail
  | none => .fail
 | _ => .fail
def Yz {α:Type} (l:List α) (k:Nat) (cs:List α):List α:=l.take k ++ cs ++ l.drop (k + cs.length)
def Yq:AV → Bool
 | .val (.v (.agg _)) | .val (.v (.tuple _)) | .agg _ | .tup _ | .dead => false
 | _ => true
def Ze5 (c a b:AV):M Eff:=match c with
 | .val (.v (.bool c)) => .br c fun c => .ret ⟨(bif c then a else b),[]⟩
 | _ => .fail
def ZbE:List Value → Bool
 | [.pointer none,_] => true
 | _ => false
def XA (C:Ctx) (base:Nat) (T:TypeId) (cs:List Value):List AV :=
 bif (C.live 0).any (Ja T) && ZbE cs then .me base T :: (cs.drop 1).map fun v => .val (.v v) else cs.map fun v => .val (.v v)
def Zcy (C:Ctx) (base:Nat) (T:TypeId):M Eff:=match zeroCells C.P T with
 | some cs => Z4 base 1 (.ret ⟨.bx base 0,[(base,.live (.box (XA C base T cs)))]⟩)
 | none => .fail
def Zhu (base:Nat) (a:AV):M Eff:=match a.cells? with
 | some cs => Z4 base 1 (.ret ⟨.bx base 0,[(base,.live (.box cs))]⟩)
 | none => .fail
def ZfZ (C:Ctx) (fs:Array Field) (i:Nat):Option (Nat × Nat):=match fs[i]? with
 | some f => some (f.offset,C.P.cellsOf f.type)
 | none => none
def Zcz (C:Ctx) (T:TypeId) (is:List Nat) (vals:List AV):M Eff:=match zeroCells C.P T,KO C.P T with
 | some zs,some fs => bif fs.toList.all (fun f => (C.P.info? f.type).isSome) then match Kr (ZfZ C fs) (zs.map fun v => .val (.v v)) (is.zip vals) with
  | some cs => .ret ⟨.agg cs,[]⟩
  | none => .fail
  else .fail
 | some zs,none => match C.P.underlying T with
  | some (.array _ e) => bif (C.P.info? e).isSome then match Kr (fun i => some (i * C.P.cellsOf e,C.P.cellsOf e)) (zs.map fun v => .val (.v v)) (is.zip vals) with
   | some cs => .ret ⟨.agg cs,[]⟩
   | none => .fail
   else .fail
  | _ => .fail
 | _,_ => .fail
def X4 (C:Ctx) (base:Nat) (T:TypeId) (len:Nat) (is:List Nat) (vals:List AV):M Eff:=match QV C.P T with
 | some (e,t) => bif (is == Jc len) && (zeroCells C.P e).isSome && Jb (len * t.size) 65536 && Zkc e t then
   (dens t vals).bind fun (xs,u) => bif Ja xs.length len then Z4 base 1 (.ret ⟨.own base,(base,.live (.arr t xs false)) :: u⟩) else .fail
  else .fail
 | none => .fail
def cut (C:Ctx) (T:TypeId) (cs:List AV):M Eff :=
 match C.P.underlying T with
 | none => .fail
 | some d => bif Y7 d
  then (bif Ja (cs.take (C.P.cellsOf T)).length (C.P.cellsOf T) then .ret ⟨.agg (cs.take (C.P.cellsOf T)),[]⟩ else .fail)
  else match cs with | a :: _ => .ret ⟨a,[]⟩ | [] => .fail
def Zcm (C:Ctx) (T:TypeId) (a:AV):M Eff:=match a with
 | .bx r k => .get r fun
  | .live (.box cs) => cut C T (cs.drop k)
  | _ => .fail
 | .sp cs => cut C T (cs.map .val)
 | .el r t i k => .get r fun
  | .live (.arr t' xs _) => if h:t' = t then .need (decide (i < xs.length)) (cut C T (((cellsOf t ((h ▸ xs:List t.den).getD i t.dflt)).drop k).map .val)) else .fail
  | _ => .fail
 | _ => .fail
def ZcD (C:Ctx) (T:TypeId) (a x:AV):M Eff:=match x.cells? with
 | none => .fail
 | some ws => bif Ja ws.length (C.P.cellsOf T) && ws.all Yq then (match a with
  | .bx r k => .get r fun
   | .live (.box cs) => bif Jb (k + ws.length) cs.length
    then .ret ⟨.tup [],[(r,.live (.box (Yz cs k ws)))]⟩ else .fail
   | _ => .fail
  | .el r t i k => .get r fun
   | .live (.arr t' xs false) => if h:t' = t then (Zhf ws).bind fun (ps,u) => .need (decide (i < xs.length)) (
     bif Jb (k + ws.length) t.size && u.all (fun y => !(Ja y.1 r)) then
      match XG t (Yz (cellsOf t ((h ▸ xs:List t.den).getD i t.dflt)) k ps) with
      | some y => .ret ⟨.tup [],(r,.live (.arr t ((h ▸ xs:List t.den).set i y) false)) :: u⟩
      | none => .fail
     else .fail) else .fail
   | _ => .fail
  | _ => .fail) else .fail
def Kc (a:AV):M Eff:=match a with
 | .bx r k => .ret ⟨.bx r k,[]⟩
 | .el r t i k => .ret ⟨.el r t i k,[]⟩
 | .sp ps => .ret ⟨.sp ps,[]⟩
 | .vp t xs => .ret ⟨.vp t xs,[]⟩
 | _ => .fail
def eqF (P:Program) (g:TypeId → Ty → Bool):Nat → List Field → Ty → Bool
 | _,[],.unit => true
 | off,f :: l,.pair a b => Ja f.offset off && (f.name != "_") && g f.type a && Ja (P.cellsOf f.type) a.size && eqF P g (off + a.size) l b
 | _,_,_ => false
def eqT (P:Program):Nat → TypeId → Ty → Bool
 | 0,_,_ => false
 | n + 1,T,t => match P.underlying T with
  | some .bool => (match t with | .bool => true | _ => false)
  | some (.int k) => (match t with | .int k' => decide (k = k') | _ => false)
  | some .string => (match t with | .str => true | _ => false)
  | some (.struct fs) => t.isAgg && !P.stoodInHeld T && Ja (P.cellsOf T) t.size && eqF P (eqT P n) 0 fs.toList t
  | _ => false
def pvs:List AV → Option (List PV)
 | [] => some []
 | .val p :: l => match pvs l with | some ps => some (p :: ps) | none => none
 | _ :: _ => none
def Ze2 (C:Ctx) (T:TypeId) (cs ds:List AV) (neg:Bool):M Eff:=match Zgf C.P depth T with
 | some t => bif t.isAgg && eqT C.P depth T t && !C.P.eqGuardType C.P.depth T then
   match pvs cs,pvs ds with
   | some ps,some qs => match XG t ps,XG t qs with
    | some x,some y => .ret ⟨.val (.v (.bool (bif neg then !(t.eqb x y) else t.eqb x y))),[]⟩
    | _,_ => .fail
   | _,_ => .fail
  else .fail
 | none => .fail
def Zky (op:BinOp) (x y:Value):Option (M Eff):=match x,y with
 | .float k a,.float k' b => match op with
  | .add | .sub | .mul | .quo => some (bif decide (k = k') then .opt (floatBits op k a b) fun r => .ret ⟨.val (.v (.float k r)),[]⟩ else .fail)
  | _ => none
 | .complex .f64 a b,.complex .f64 c d => match op with
  | .mul => some (.opt (cMulBits a b c d) fun r => .ret ⟨.val (.v (.complex .f64 r.1 r.2)),[]⟩)
  | _ => none
 | _,_ => none
def Ze0 (C:Ctx) (op:BinOp) (T:TypeId) (a b:AV):M Eff:=match a,b with
 | .agg cs,.agg ds => (match op with
  | .eql => Ze2 C T cs ds false
  | .neq => Ze2 C T cs ds true
  | _ => .fail)
 | .val (.v x),.val (.v y) => (match Zky op x y with | some m => m | none => Zht C op T x y)
 | .bx _ _,.val (.v y) => bif ZgU y && (match C.P.underlying T with | some (.pointer _) => true | _ => false) then (match op with
  | .eql => .ret ⟨.val (.v (.bool false)),[]⟩
  | .neq => .ret ⟨.val (.v (.bool true)),[]⟩
  | _ => .fail) else .fail
 | .ns _ xs,.val (.v y) => bif W0 y && (match C.P.underlying T with | some (.slice _) => true | _ => false) then (match op with
  | .eql => .ret ⟨.val (.v (.bool xs.isEmpty)),[]⟩
  | .neq => .ret ⟨.val (.v (.bool (!xs.isEmpty))),[]⟩
  | _ => .fail) else .fail
 | _,_ => .fail
def Zkz (C:Ctx) (op:UnOp) (a:AV):M Eff:=match a with
 | .val (.v x) => match Wr C.P (Op.unary op x) with
  | some v => bif plain x && plain v then .ret ⟨.val (.v v),[]⟩ else .fail
  | none => .fail
 | _ => .fail
def Y0 (P:Program) (e:TypeId):Bool:=match P.underlying e with
 | some (.int .u8) => Ja (P.cellsOf e) 1
 | _ => false
def Zai (C:Ctx) (base:Nat) (src dst:TypeId) (a:AV):M Eff:=match C.P.underlying src,C.P.underlying dst with
 | some (.slice _),some (.slice e) => match a with
  | .own r => bif Ja src dst && Y0 C.P e then .get r fun
   | .live (.arr t xs sh) => bif Jb 1 xs.length then .ret ⟨.own r,[(r,.live (.arr t xs sh))]⟩ else .fail
   | _ => .fail
   else .fail
  | _ => .fail
 | some (.slice e),some .string => bif Y0 C.P e then (ZdQ (.int .u8) a).bind fun xs => .ret ⟨.val (.v (.string (bytesOf xs))),[]⟩ else .fail
 | some .string,some (.slice e) => match a with
  | .val (.v (.string s)) => bif Y0 C.P e && Ja e Zkp then .need (decide (s.size < 1099511627776)) (Z4 base 1 (.ret ⟨.own base,[(base,.live (.arr (.int .u8) (Zx s) false))]⟩)) else .fail
  | _ => .fail
 | some (.float _),some (.int k) => match a with
  | .val (.v (.float s b)) => .opt (floatToIntVal s b k) fun n => .ret ⟨.val (.v (.int k n)),[]⟩
  | _ => .fail
 | _,some _ => match a with
  | .val (.v x) => match Wr C.P (convert src dst x) with
   | some v => bif plain x && plain v then .ret ⟨.val (.v v),[]⟩ else .fail
   | none => .fail
  | _ => .fail
 | _,none => .fail
def Ze3 (C:Ctx) (base:Nat) (T:TypeId) (l c:AV):M Eff:=match l,c with
 | .val (.v (.int .i64 l)),.val (.v (.int .i64 c)) => match QV C.P T with
  | some (e,t) => bif Jb (C.P.bytesOf e) 65536 && Zkc e t then
    match zeroCells C.P e with
    | some zs => match XG t (zs.map .v) with
     | some z => .need (decide (0 ≤ l ∧ l ≤ c ∧ c < 4294967296)) (Z4 base 1 (.ret ⟨.own base,[(base,.live (.arr t (Jd l.toNat z) false))]⟩))
     | none => .fail
    | none => .fail
   else .fail
  | none => .fail
 | _,_ => .fail
def ZcC (C:Ctx) (T:TypeId) (lo hi mx:Bool) (vals:List AV):M Eff:=match lo,hi,mx,vals with
 | false,false,false,[x] => Yb C T x none none
 | true,false,false,[x,a] => Yb C T x (some a) none
 | false,true,false,[x,b] => Yb C T x none (some b)
 | true,true,false,[x,a,b] => Yb C T x (some a) (some b)
 | _,_,_,_ => .fail
def YE (C:Ctx) (T:TypeId) (f:Nat) (a:AV):M Eff:=match KO C.P T with
 | none => .fail
 | some fs => match fs[f]? with
  | none => .fail
  | some fd => bif Ja (C.P.cellsOf fd.type) 0 then .fail else match a with
   | .bx r k => .ret ⟨.bx r (k + fd.offset),[]⟩
   | .el r t i k => .ret ⟨.el r t i (k + fd.offset),[]⟩
   | .sp ps => .ret ⟨.sp (ps.drop fd.offset),[]⟩
   | _ => .fail
def YF (C:Ctx) (T:TypeId) (a i:AV):M Eff:=match i with
 | .val (.v (.int _ i)) => match QV C.P T with
  | some (_,t) => match a with
   | .own r => .get r fun
    | .live (.arr t' xs _) => if t' = t then .need (decide (0 ≤ i ∧ i < xs.length)) (.ret ⟨.el r t i.toNat 0,[]⟩) else .fail
    | .live (.nest t' xss _) => if .sl t' = t then .need (decide (0 ≤ i ∧ i < xss.length)) (.ret ⟨.el r (.pair .unit (.sl t')) i.toNat 0,[]⟩) else .fail
    | _ => .fail
   | .sub r u i0 j0 => .get r fun
    | .live (.arr t' xs _) => if t' = t then (if u = t then .need (decide (i0 ≤ j0 ∧ j0 ≤ xs.length ∧ 0 ≤ i ∧ i.toNat < j0 - i0)) (.ret ⟨.el r t (i0 + i.toNat) 0,[]⟩) else .fail) else .fail
    | _ => .fail
   | .val (.sl t' xs) => if h:t' = t then .need (decide (0 ≤ i ∧ i < xs.length)) (.ret ⟨.sp (cellsOf t ((h ▸ xs:List t.den).getD i.toNat t.dflt)),[]⟩) else .fail
   | _ => .fail
  | none => .fail
 | _ => .fail
def Kx:List AV → Option (IntKind × List Int)
 | [.val (.v (.int k n))] => some (k,[n])
 | .val (.v (.int k n)) :: l => match Kx l with
  | some (k',ns) => if k = k' then some (k,n :: ns) else none
  | none => none
 | _ => none
def ZeK:List AV → Option (FloatKind × List Nat)
 | [.val (.v (.float k n))] => some (k,[n])
 | .val (.v (.float k n)) :: l => match ZeK l with
  | some (k',ns) => if k = k' then some (k,n :: ns) else none
  | none => none
 | _ => none
def ZcA (C:Ctx) (T:TypeId) (f:Nat) (a:AV):M Eff:=match a with
 | .agg cs => match KO C.P T with
  | some fs => match fs[f]? with
   | some fd => match C.P.underlying fd.type with
    | some d => bif Y7 d then (bif Jb (fd.offset + C.P.cellsOf fd.type) cs.length then .ret ⟨.agg ((cs.drop fd.offset).take (C.P.cellsOf fd.type)),[]⟩ else .fail)
     else match cs[fd.offset]? with | some a => .ret ⟨a,[]⟩ | none => .fail
    | none => .fail
   | none => .fail
  | none => .fail
 | _ => .fail
def ZcB (C:Ctx) (T:TypeId) (a i:AV):M Eff:=match a,i with
 | .agg cs,.val (.v (.int _ i)) => match C.P.underlying T with
  | some (.array len e) => match C.P.underlying e with
   | some d => bif !Y7 d && Ja (C.P.cellsOf e) 1 && Ja cs.length len then (match Kx cs with
    | some (k,ns) => .need (decide (0 ≤ i ∧ i < len)) (.ret ⟨.val (.v (.int k (ns.getD i.toNat 0))),[]⟩)
    | none => match ZeK cs with
     | some (k,ns) => .need (decide (0 ≤ i ∧ i < len)) (.ret ⟨.val (.v (.float k (ns.getD i.toNat 0))),[]⟩)
     | none => .fail) else .fail
   | none => .fail
  | _ => .fail
 | .val (.v (.string s)),.val (.v (.int _ i)) => match C.P.underlying T with
  | some .string => .need (decide (0 ≤ i ∧ i < s.size)) (.ret ⟨.val (.v (.int .u8 (bt s i))),[]⟩)
  | _ => .fail
 | _,_ => .fail
def Zaj (i:Nat) (a:AV):M Eff:=match a with
 | .tup vs => match vs[i]? with
  | some a => .ret ⟨a,[]⟩
  | none => .fail
 | _ => .fail
def Zff (s:String):Option Nat :=
 bif s == "math.Float64bits" then some 0 else bif s == "math.Float64frombits" then some 1 else bif s == "math.archFloor" then some 2 else bif s == "math.archTrunc" then some 3 else none
def ZkR (C:Ctx) (f:Nat):Option Nat:=match C.P.funcs[f]? with
 | some fn => bif fn.body.isNone && (fn.origin == "") then Zff fn.name else none
 | none => none
def YM (way:Ieee.Toward) (x:Nat):Option Nat:=match Je.decode x with
 | .nan _ _ => none
 | d => some (Je.encode (d.integral way))
def Zbq (b:Nat) (args:List AV):M Eff:=match b,args with
 | 0,[.val (.v (.float .f64 x))] => .ret ⟨.val (.v (.int .u64 x)),[]⟩
 | 1,[.val (.v (.int .u64 n))] => .ret ⟨.val (.v (.float .f64 n.toNat)),[]⟩
 | 2,[.val (.v (.float .f64 x))] => .opt (YM .down x) fun r => .ret ⟨.val (.v (.float .f64 r)),[]⟩
 | 3,[.val (.v (.float .f64 x))] => .opt (YM .zero x) fun r => .ret ⟨.val (.v (.float .f64 r)),[]⟩
 | _,_ => .fail
def Zbp (C:Ctx) (base:Nat) (c:Call) (vals:List AV):M Eff:=match c.callee with
 | .value _ => match vals with
  | .fn f :: args => (match ZkR C f with | some b => Zbq b args | none => Zcl C base f args)
  | .clo f cs :: args => Zcl C base f (args ++ cs)
  | _ => .fail
 | .builtin b => QE C base b c.argTypes vals
 | .invoke _ _ => .fail
def v1 (vals:List AV) (f:AV → M Eff):M Eff:=match vals with
 | [a] => f a
 | _ => .fail
def v2 (vals:List AV) (f:AV → AV → M Eff):M Eff:=match vals with
 | [a,b] => f a b
 | _ => .fail
def v3 (vals:List AV) (f:AV → AV → AV → M Eff):M Eff:=match vals with
 | [a,b,c] => f a b c
 | _ => .fail
def Zm5 (C:Ctx) (T:TypeId):Option (Nat × TypeId):=match C.P.underlying T with
 | some (.array n e) => bif (C.P.info? e).isSome then some (n,e) else none
 | _ => none
def ZcG (C:Ctx) (base:Nat) (T:TypeId):M Eff:=match zeroCells C.P T with
 | some cs => match Kx (cs.map fun v => .val (.v v)) with
  | some (k,ns) => bif Jb ns.length 1048576 && (!(Ty.int k).isU8 && Jb 1 ns.length) then Z4 base 1 (.ret ⟨.el base (.int k) 0 0,[(base,.live (.arr (.int k) ns false))]⟩) else .fail
  | none => .fail
 | none => .fail
def ZcH (C:Ctx) (T:TypeId) (a i:AV):M Eff:=match Zm5 C T,i with
 | some (n,e),.val (.v (.int _ i)) => (match a with
  | .el r t j 0 => bif Ja t.size 1 then .need (decide (0 ≤ i ∧ i < n)) (bif Ja (C.P.cellsOf e) 1 then .ret ⟨.el r t (i.toNat + j) 0,[]⟩ else bif Ja (C.P.cellsOf e) 4 then .ret ⟨.el r t (i.toNat * 4 + j) 0,[]⟩ else .fail) else .fail
  | .bx r k => .need (decide (0 ≤ i ∧ i < n)) (.ret ⟨.bx r (k + i.toNat * C.P.cellsOf e),[]⟩)
  | .vp t xs => bif Ja (C.P.cellsOf e) t.size then .need (decide (0 ≤ i ∧ i < n ∧ i.toNat < xs.length)) (.ret ⟨.sp (cellsOf t (xs.getD i.toNat t.dflt)),[]⟩) else .fail
  | _ => .fail)
 | _,_ => .fail
def ZcJ (C:Ctx) (T:TypeId) (a x:AV):M Eff:=match a,x with
 | .el r t 0 0,.agg cs => bif Ja cs.length (C.P.cellsOf T) then (match Kx cs with
  | some (k,ns) => .get r fun
   | .live (.arr t' xs false) => if t = .int k then (if t' = .int k then .need (decide (xs.length = ns.length)) (.ret ⟨.tup [],[(r,.live (.arr (.int k) ns true))]⟩) else .fail) else .fail
   | _ => .fail
  | none => .fail) else .fail
 | _,_ => .fail
def ZfR (C:Ctx) (T:TypeId):Bool:=match C.P.underlying T with
 | some (.array _ _) => true
 | _ => false
def Zph:List AV → Bool
 | .el _ _ 0 0 :: _ => true
 | _ => false
def act (C:Ctx) (base:Nat) (op:Op) (vals:List AV):M Eff :=
 match op with
 | .move _ => v1 vals fun a => .ret ⟨a,[]⟩
 | .assign _ => v1 vals fun a => .ret ⟨a,[]⟩
 | .pick _ _ _ => v3 vals Ze5
 | .alloc T => bif (C.live 999997).any (Ja T) then ZcG C base T else Zcy C base T
 | .box _ _ => v1 vals (Zhu base)
 | .build T ps => Zcz C T (ps.toList.map (·.1)) vals
 | .buildSlice T len ps => X4 C base T len (ps.toList.map (·.1)) vals
 | .load T _ => v1 vals (Zcm C T)
 | .store T _ _ => bif ZfR C T && Zph vals then v2 vals (ZcJ C T) else v2 vals (ZcD C T)
 | .nilCheck _ => v1 vals Kc
 | .binOp op T _ _ _ => v2 vals (Ze0 C op T)
 | .unOp op _ _ => v1 vals (Zkz C op)
 | .convert src dst _ => v1 vals (Zai C base src dst)
 | .makeSlice T _ _ => v2 vals (Ze3 C base T)
 | .slice T _ lo hi mx => ZcC C T lo.isSome hi.isSome mx.isSome (vals.map W9)
 | .fieldAddr T _ f => v1 vals (YE C T f)
 | .indexAddr T _ _ => bif ZfR C T then v2 vals (ZcH C T) else v2 (vals.map W9) (YF C T)
 | .index T _ _ => v2 vals (ZcB C T)
 | .extract _ i => v1 vals (Zaj i)
 | .field T _ f => v1 vals (ZcA C T f)
 | .call c => Zbp C base c (vals.map W9)
 | .makeFunc (.func f) first _ => bif Ja first.size 0 then .ret ⟨(match vals with | [] => .fn f | vs => .clo f vs),[]⟩ else .fail
 | _ => .fail
def ZdE (C:Ctx) (base:Nat) (T:TypeId) (l c:AV):M Eff:=match l,c with
 | .val (.v (.int .i64 l)),.val (.v (.int .i64 c)) => match QV C.P T with
  | some (e,.sl t) => bif Jb (C.P.bytesOf e) 65536 && Zkc e (.sl t) && Jb 1 t.size then
    match zeroCells C.P e with
    | some [.slice none 0 0] => .need (decide (0 ≤ l ∧ l ≤ c ∧ c < 4294967296)) (Z4 base 1 (.ret ⟨.own base,[(base,.live (.nest t (Jd l.toNat []) none))]⟩))
    | _ => .fail
   else .fail
  | _ => .fail
 | _,_ => .fail
def Znv (C:Ctx) (T:TypeId):Bool:=match C.P.underlying T with
 | some d => !Y7 d && Ja (C.P.cellsOf T) 1
 | none => false
def ZdD (C:Ctx) (base:Nat) (T:TypeId) (r:Nat) (t:Ty) (i k:Nat):M Eff:=.get r fun
 | .live (.nest t' xss none) => if h:t' = t then (bif Ja k 0 && Znv C T then
   .need (decide (i < xss.length)) (Z4 base 1 (.ret ⟨.own base,[(r,.live (.nest t (h ▸ xss:List (List t.den)) (some i))),(base,.live (.arr t ((h ▸ xss:List (List t.den)).getD i []) true))]⟩)) else .fail) else .fail
 | _ => .fail
def ZbH (C:Ctx) (T:TypeId) (r:Nat) (t:Ty) (i k:Nat) (x:AV):M Eff:=match x with
 | .own q => .get r fun
  | .live (.nest t' xss (some j)) => .get q fun
   | .live (.arr t'' xs _) => if h:t' = t then (if h':t'' = t then (bif Ja k 0 && Znv C T then
     .need (decide (i = j)) (.need (decide (i < xss.length)) (.ret ⟨.tup [],[(r,.live (.nest t ((h ▸ xss:List (List t.den)).set i (h' ▸ xs:List t.den)) none)),(q,.gone)]⟩)) else .fail) else .fail) else .fail
   | _ => .fail
  | _ => .fail
 | _ => .fail
class Gl where
 tab:Nat → IntKind × List Int
variable [Gl]
def Zgb (C:Ctx) (T:TypeId) (g:Nat) (i:Int):M Eff:=match C.P.underlying T with
 | some (.array len e) => bif Ja (C.P.cellsOf e) 1 && (C.P.info? e).isSome && Ja len (Gl.tab g).2.length && Jb 1 len then
   .need (decide (0 ≤ i ∧ i < len)) (.ret ⟨.sp [.v (.int (Gl.tab g).1 ((Gl.tab g).2.getD i.toNat 0))],[]⟩) else .fail
 | _ => .fail
def Zbj:Ty → Bool
 | .bool | .int _ | .fl _ | .cx _ | .str => true
 | _ => false
def Zje (base:Nat):RV × List RV → M Eff
 | (.own t false ys,[]) => bif Zbj t then Z4 base 1 (.ret ⟨.own base,[(base,.live (.arr t ys false))]⟩) else .fail
 | (.view t x,[]) => bif Zbj t then .ret ⟨Zgq t x,[]⟩ else .fail
 | _ => .fail
def ZbI:Qh → Bool
 | [] => true
 | (_,.gone) :: _ => false
 | _ :: l => ZbI l
def ZoV (C:Ctx) (base f:Nat) (args:List AV):M Eff:=match C.Φ f with
 | some cal => (takes cal.pk args).bind fun (rvs,u) => bif Zaa u && ZbI u then .opt (cal.run C.k rvs) fun x => Zje base (cal.enc x) else .fail
 | none => .fail
def Zf9 (C:Ctx) (base:Nat) (op:Op) (vals:List AV):Option (M Eff):=match op,vals with
 | .call ⟨.value _,_,_⟩,.fn f :: args => bif (C.live 999998).any (Ja f) then some (ZoV C base f args) else none
 | .indexAddr T (.global g) _,[_,.val (.v (.int _ i))] => some (Zgb C T g i)
 | .load T _,[.el r (.pair .unit (.sl t)) i k] => some (ZdD C base T r t i k)
 | .store T _ _,[.el r (.pair .unit (.sl t)) i k,x] => some (ZbH C T r t i k x)
 | .makeSlice T _ _,[a,b] => bif (C.live 1).any (Ja T) then some (ZdE C base T a b) else none
 | _,_ => none
def ZK:Op → List Operand
 | .move x | .assign x | .load _ x | .nilCheck x | .unOp _ _ x | .convert _ _ x | .fieldAddr _ x _ | .extract x _ | .box _ x | .field _ x _ => [x]
 | .pick c a b => [c,a,b]
 | .build _ ps | .buildSlice _ _ ps => ps.toList.map (·.2)
 | .store _ a v | .binOp _ _ a v _ | .makeSlice _ a v | .indexAddr _ a v | .index _ a v => [a,v]
 | .slice _ x l h m => x :: (l.toList ++ h.toList ++ m.toList)
 | .makeFunc _ _ captured => captured.toList
 | .call c => match c.callee with
  | .value f => f :: c.args.toList
  | .builtin _ => c.args.toList
  | .invoke _ _ => []
 | _ => []
def Xv (env:Nat → AV):Operand → AV
 | .tmp t => env t
 | .const v => .val (.v v)
 | .func f => .fn f
 | .global _ => .dead
def ZhB (rid idx:Nat):Nat:=(rid * 1024 + idx) * 64 + 65536
def ZnK (C:Ctx) (rid idx:Nat) (o:Oper) (env:Nat → AV):M Eff :=
 act C (ZhB rid idx) o.op ((ZK o.op).map (Xv env))
def ZdW (C:Ctx) (rid idx:Nat) (o:Oper) (env:Nat → AV):Option (M Eff) :=
 Zf9 C (ZhB rid idx) o.op ((ZK o.op).map (Xv env))
def Ze4 (C:Ctx) (rid idx:Nat) (o:Oper) (env:Nat → AV):M Eff:=match ZdW C rid idx o env with
 | some m => m
 | none => ZnK C rid idx o env
mutual
def Za:AV → List Nat
 | .own r => [r]
 | .bx r _ => [r]
 | .el r _ _ _ => [r]
 | .sub r _ _ _ => [r]
 | .me r _ => [r]
 | .agg cs => Zd cs
 | .tup cs => Zd cs
 | .clo _ cs => Zd cs
 | _ => []
def Zd:List AV → List Nat
 | [] => []
 | a :: l => Za a ++ Zd l
end
def Zh1 (r:Nat):Bool:=Nat.blt r ZD
def K2 (l:List Nat):Bool:=l.all Zh1
def ZpU:RS → Bool
 | .live (.box cs) => K2 (Zd cs)
 | _ => true
def XE:RS → Bool
 | .live (.nest _ _ _) => false
 | _ => true
def Zcd (sp:Bool) (e:Eff) (l:List Nat):Bool :=
 K2 l && K2 (Za e.val) && e.ups.all fun p => Zh1 p.1 && ZpU p.2 && (sp || XE p.2)
def W3 (ops:List Oper) (j:Nat):Option Nat:=match ops[j]? with
 | some o => o.dst
 | none => none
section
variable {R:Type}
abbrev Lg:=List Nat × List Nat          -- what was asked,what was written
def goK (C:Ctx) (rid idx:Nat) (o:Oper) (st:St) (K:St → Lg → Option R):Option R :=
 (Ze4 C rid idx o st.env).runK st.tbl [] fun e l => bif Zcd (ZdW C rid idx o st.env).isSome e l then K ⟨Q9 st.env o.dst e.val,st.tbl.put e.ups⟩ (l,e.ups.map (·.1)) else none
def Zjt (C:Ctx) (rid idx:Nat) (ops:List Oper) (o:Oper) (st:St) (K:St → Lg → Option R):Option R :=
 match o.guard with
 | none => goK C rid idx o st K
 | some (j,want) => match W3 ops j with
  | none => none
  | some d => match st.env d with
   | .val (.v (.bool g)) => bif g
    then (let s:St:=⟨XP st.env d (.val (.v (.bool true))),st.tbl⟩
       bif want then goK C rid idx o s K else K ⟨Q9 s.env o.dst (.tup []),s.tbl⟩ ([],[]))
    else (let s:St:=⟨XP st.env d (.val (.v (.bool false))),st.tbl⟩
       bif want then K ⟨Q9 s.env o.dst (.tup []),s.tbl⟩ ([],[]) else goK C rid idx o s K)
   | .tup [] => K ⟨Q9 st.env o.dst (.tup []),st.tbl⟩ ([],[])
   | _ => none
def Znx (C:Ctx) (rid:Nat) (ops:List Oper):List Oper → (idx:Nat) → St → (St → Option R) → Option R
 | [],_,st,K => K st
 | o :: l,idx,st,K => Zjt C rid idx ops o st fun st' _ => Znx C rid ops l (idx + 1) st' K
def Z0 (o:Oper):List Nat:=(o.after.toList.filter (Region.binds .any)).map (·.on)
def W1:List Oper → List Nat → List Nat
 | [],acc => acc
 | o :: l,acc => W1 l (acc ++ [(Z0 o).foldl (fun s p => s ||| 2 ^ p ||| acc.getD p 0) 0])
def Ye (a b:List Nat):Bool:=a.all fun x => !(b.any (Ja x))
def Zbk (ops:List Oper) (o:Oper):List Nat :=
 (ZK o.op).filterMap (fun | .tmp t => some t | _ => none) ++ (match o.guard with
  | some (j,_) => (match W3 ops j with | some d => [d] | none => [])
  | none => [])
def ZcT (o:Oper):List Nat:=match o.dst with | some d => [d] | none => []
def ZeN (ops:List Oper) (x y:Oper) (a b:Lg):Bool :=
 Ye (ZcT x) (Zbk ops y ++ ZcT y) && Ye (ZcT y) (Zbk ops x) &&
 Ye a.2 (b.1 ++ b.2) && Ye b.2 a.1
def XD (ops:List Oper) (ms:List Nat) (logs:List Lg):Bool :=
 (Jc ops.length).all fun j => (Jc j).all fun i =>
  Nat.testBit (ms.getD j 0) i || (match ops[i]?,ops[j]?,logs[i]?,logs[j]? with
   | some x,some y,some a,some b => ZeN ops x y a b
   | _,_,_,_ => false)
def ZcS (C:Ctx) (rid:Nat) (ops:List Oper):List Oper → (idx:Nat) → St → List Lg → (St → Option R) → Option R
 | [],_,st,logs,K => bif XD ops (W1 ops []) logs then K st else none
 | o :: l,idx,st,logs,K => Zjt C rid idx ops o st fun st' g => ZcS C rid ops l (idx + 1) st' (logs ++ [g]) K
def ZeQ (T:ZF):Nat → List Nat → List Nat → List Nat
 | 0,_,acc => acc
 | _ + 1,[],acc => acc
 | f + 1,r :: l,acc => bif acc.any (Ja r) then ZeQ T f l acc else match T r with
  | .live (.box cs) => ZeQ T f (Zd cs ++ l) (acc ++ [r])
  | .live (.arr _ _ _) => ZeQ T f l (acc ++ [r])
  | .live (.nest _ _ _) => ZeQ T f l (acc ++ [r])
  | _ => ZeQ T f l acc
def ZfW (kp:List Nat):Nat → List Nat → List (Nat × Nat)
 | _,[] => []
 | n,r :: l => bif kp.any (Ja r) then (r,r) :: ZfW kp n l else (r,n) :: ZfW kp (n + 1) l
def fwd:List (Nat × Nat) → Nat → Option Nat
 | [],_ => none
 | (a,b) :: l,r => bif Ja a r then some b else fwd l r
def bwd:List (Nat × Nat) → Nat → Option Nat
 | [],_ => none
 | (a,b) :: l,r => bif Ja b r then some a else bwd l r
mutual
def Ya (m:List (Nat × Nat)):AV → AV
 | .own r => match fwd m r with | some n => .own n | none => .dead
 | .bx r k => match fwd m r with | some n => .bx n k | none => .dead
 | .el r t i k => match fwd m r with | some n => .el n t i k | none => .dead
 | .sub r t i j => match fwd m r with | some n => .sub n t i j | none => .dead
 | .me r T => match fwd m r with | some n => .me n T | none => .dead
 | .agg cs => .agg (Zbg m cs)
 | .tup cs => .tup (Zbg m cs)
 | .clo f cs => .clo f (Zbg m cs)
 | .dead => .dead
 | .val p => .val p
 | .sp ps => .sp ps
 | .fn f => .fn f
 | .ns t xs => .ns t xs
 | .vp t xs => .vp t xs
def Zbg (m:List (Nat × Nat)):List AV → List AV
 | [] => []
 | a :: l => Ya m a :: Zbg m l
end
def Q1 (m:List (Nat × Nat)):RS → RS
 | .live (.box cs) => .live (.box (Zbg m cs))
 | x => x
inductive Pro where
 | slot (s:Nat) (t:Ty)
 | cell (s k:Nat) (t:Ty)
 | «show» (s:Nat)
 | see (s:Nat)
 | seen (s k:Nat)
structure Ann where
 live:List Nat
 pro:List Pro
def XV:RS → Bool
 | .fresh => true
 | _ => false
def Qq (n:Nat) (st:St):Pro → St
 | .slot s t => match st.env s with
  | .val (.v x) => bif W0 x && XV (st.tbl n) && Jb 1 t.size then ⟨XP st.env s (.own n),st.tbl.put [(n,.live (.arr t [] false))]⟩ else st
  | _ => st
 | .cell s k t => match st.env s with
  | .bx r 0 => match st.tbl r with
   | .live (.box cs) => match cs[k]? with
    | some (.val (.v x)) => bif W0 x && XV (st.tbl n) && Jb 1 t.size then ⟨st.env,st.tbl.put [(n,.live (.arr t [] false)),(r,.live (.box (cs.set k (.own n))))]⟩ else st
    | _ => st
   | _ => st
  | _ => st
 | .«show» s => match st.env s with
  | .own r => match st.tbl r with
   | .live (.arr t xs _) => ⟨st.env,st.tbl.put [(r,.live (.arr t xs true))]⟩
   | _ => st
  | _ => st
 | .see s => match st.env s with
  | .own r => match st.tbl r with
   | .live (.arr t xs _) => ⟨XP st.env s (.val (.sl t xs)),st.tbl.put [(r,.live (.arr t xs true))]⟩
   | _ => st
  | _ => st
 | .seen s k => match st.env s with
  | .bx r 0 => match st.tbl r with
   | .live (.box cs) => match cs[k]? with
    | some (.own n) => match st.tbl n with
     | .live (.arr t xs _) => ⟨st.env,st.tbl.put [(r,.live (.box (cs.set k (.val (.sl t xs))))),(n,.live (.arr t xs true))]⟩
     | _ => st
    | _ => st
   | _ => st
  | _ => st
def Zbd:Nat → List Pro → St → St
 | _,[],st => st
 | n,p :: l,st => Zbd (n + 1) l (Qq n st p)
def pick:List Nat → (Nat → AV) → List (Nat × AV)
 | [],_ => []
 | s :: l,e => (s,e s) :: pick l e
def Ql:List (Nat × AV) → Nat → AV
 | [],_ => .dead
 | (a,x) :: l,s => bif Ja s a then x else Ql l s
def ZbP (m:List (Nat × Nat)):List (Nat × AV) → List (Nat × AV)
 | [] => []
 | (a,x) :: l => (a,Ya m x) :: ZbP m l
def Z1:List (Nat × RS) → ZF
 | [],_ => .fresh
 | (a,x) :: l,r => bif Ja a r then x else Z1 l r
def K3 (m:List (Nat × Nat)) (T:ZF):List (Nat × Nat) → List (Nat × RS)
 | [] => []
 | (a,b) :: l => (b,Q1 m (T a)) :: K3 m T l
def KB:List Nat → Bool
 | [] => true
 | a :: l => !(l.any (Ja a)) && KB l
def stays (m:List (Nat × Nat)) (r:Nat):Bool:=match fwd m r with | some n => Ja n r | none => false
def Zej (kp:List Nat) (a:Ann) (st:St):Option St :=
 let st:=Zbd 32768 a.pro st
 let m:=ZfW kp 8192 (ZeQ st.tbl 1000 (kp ++ Zd (a.live.map st.env)) [])
 bif KB (m.map (·.1)) && KB (m.map (·.2)) && kp.all (stays m) && (K2 (m.map (·.1)) && K2 (m.map (·.2)) && Zh1 (32768 + a.pro.length)) then some ⟨Ql (ZbP m (pick a.live st.env)),Z1 (K3 m st.tbl m)⟩ else none
def Zi9 (st:St) (q:Nat):St:=match st.tbl q with
 | .live (.nest t xss none) => ⟨st.env,st.tbl.put [(q,.live (.arr (.sl t) xss false))]⟩
 | _ => st
def Zod (st:St) (k r:Nat):St:=match st.tbl r with
 | .live (.box cs) => match cs[k]? with
  | some (.own q) => Zi9 st q
  | _ => st
 | _ => st
def Zap (C:Ctx) (id:Nat) (st:St):St:=match C.live (id + 2) with
 | [s] => match st.env s with
  | .own q => Zi9 st q
  | _ => st
 | [s,k] => match st.env s with
  | .bx r 0 => Zod st k r
  | _ => st
 | _ => st
inductive Ex where
 | normal | exit (id:Nat) | ret
def ZQ:Code → Nat
 | .region id _ _ => id
 | .seq a b => match a with | .skip => ZQ b | .label _ => ZQ b | a => ZQ a
 | .block _ c => ZQ c
 | .loop c => ZQ c
 | .scope c => ZQ c
 | _ => 0
def K8 (body:St → (Ex → St → Option R) → Option R) (nm:St → Option St):Nat → St → (Ex → St → Option R) → Option R
 | 0,_,_ => none
 | n + 1,st,K => body st fun e s => match e with
  | .normal => (nm s).bind fun s => K8 body nm n s K
  | .exit i => K (.exit i) s
  | .ret => K .ret s
def Zp2 (next:St → Option R) (K:Ex → St → Option R):Ex → St → Option R:=fun e s => match e with
 | .normal => next s
 | .exit i => K (.exit i) s
 | .ret => K .ret s
def Ze7 (id:Nat) (K:Ex → St → Option R):Ex → St → Option R:=fun e s => match e with
 | .exit i => bif Ja i id then K .normal s else K (.exit i) s
 | .normal => K .normal s
 | .ret => K .ret s
def WM (C:Ctx) (A:Nat → Ann) (kp:List Nat):Code → St → (Ex → St → Option R) → Option R
 | .skip,st,K => K .normal st
 | .region id ops d,st,K => bif d then ZcS C id ops.toList ops.toList 0 (Zap C id st) [] (K .normal) else Znx C id ops.toList ops.toList 0 (Zap C id st) (K .normal)
 | .seq a b,st,K => WM C A kp a st (Zp2 (fun s => WM C A kp b s K) K)
 | .cond c a b,st,K => match Xv st.env c with
  | .val (.v (.bool t)) => bif t
   then WM C A kp a (match c with | .tmp d => ⟨XP st.env d (.val (.v (.bool true))),st.tbl⟩ | _ => st) K
   else WM C A kp b (match c with | .tmp d => ⟨XP st.env d (.val (.v (.bool false))),st.tbl⟩ | _ => st) K
  | _ => none
 | .block id c,st,K => WM C A kp c st (Ze7 id K)
 | .loop c,st,K => (Zej kp (A (ZQ c)) st).bind fun s => K8 (WM C A kp c) (Zej kp (A (ZQ c))) C.k s K
 | .exit id,st,K => K (.exit id) st
 | .scope c,st,K => WM C A kp c st K
 | .label _,st,K => K .normal st
 | .ret,st,K => K .ret st
 | _,_,_ => none
def index:Nat → List AV → List (Nat × AV)
 | _,[] => []
 | i,x :: l => (i,x) :: index (i + 1) l
def enter (avs:List AV) (u:Qh):St:=⟨Ql (index 0 avs),Z1 u⟩
def Yu (C:Ctx) (st:St):ResultVar → M AV
 | .tmp t => .ret (st.env t)
 | .cell a T => (Zcm C T (st.env a)).bind fun e => .ret e.val
def WF (C:Ctx) (st:St):List ResultVar → M (List AV)
 | [] => .ret []
 | r :: l => (Yu C st r).bind fun a => (WF C st l).bind fun as => .ret (a :: as)
def nEq:List Nat → List Nat → Bool
 | [],[] => true
 | a :: l,b :: m => Ja a b && nEq l m
 | _,_ => false
def Wj:List Kd → List Kd
 | [] => []
 | .box ks :: l => .box ks :: Wj l
 | .bld T :: l => .bld T :: Wj l
 | _ :: l => Wj l
def ZW:List Kd → List AV → List AV
 | .box _ :: l,a :: as => a :: ZW l as
 | .bld _ :: l,a :: as => a :: ZW l as
 | _ :: l,_ :: as => ZW l as
 | _,_ => []
def Qy:List AV → List Nat
 | [] => []
 | .bx r _ :: l => r :: Qy l
 | _ :: l => Qy l
def Zj7:List (List Nat) → List (List Nat) → Bool
 | [],[] => true
 | a :: l,b :: m => nEq a b && Zj7 l m
 | _,_ => false
def XZ (T:ZF):List Kd → List AV → List (List Nat)
 | .box ks :: l,.bx r 0 :: as => (bif Xo ks then (match T r with | .live (.box cs) => (match Zl ks cs with | some q => q | none => []) | _ => []) else []) :: XZ T l as
 | _ :: l,_ :: as => XZ T l as
 | _,_ => []
def Zdv (C:Ctx) (rs:List ResultVar) (pk:List Kd) (la:List AV) (nm:List (List Nat)) (rk:Kd) (st:St):M (RV × List RV) :=
 (WF C st rs).bind fun as => (take rk (match as with | [a] => a | as => .tup as)).bind fun (x,u) =>
  (takes (Wj (Zt pk)) la).bind fun (l,v) => (Xq (Wj (Zt pk)) la).bind fun nm' =>
   bif Zaa (u ++ v) && Zj7 nm nm' then .ret (x,l) else .fail
def Zdu (C:Ctx) (rs:List ResultVar) (pk:List Kd) (la:List AV) (nm:List (List Nat)) (rk:Kd) (K:RV × List RV → Option R):Ex → St → Option R:=fun e st => match e with
 | .exit _ => none
 | .normal => (Zdv C rs pk la nm rk st).runK st.tbl [] fun x l => bif K2 l then K x else none
 | .ret => (Zdv C rs pk la nm rk st).runK st.tbl [] fun x l => bif K2 l then K x else none
def Znu (pk:List Kd) (rvs:List RV) (n:Nat):Bool:=Jb rvs.length n && Jb (Zu 0 rvs).2.2 ZD && QU pk (Zu 0 rvs).1
def YT (pk:List Kd) (rvs:List RV):List (List Nat):=XZ (Z1 (Zu 0 rvs).2.1) (Wj (Zt pk)) (ZW (Zt pk) (ZM pk (Zu 0 rvs).1))
def Zic (C:Ctx) (A:Nat → Ann) (n:Nat) (body:Code) (rs:List ResultVar) (pk:List Kd) (rk:Kd) (rvs:List RV) (K:RV × List RV → Option R):Option R :=
 bif Znu pk rvs n then
  WM C A (Qy (ZW (Zt pk) (ZM pk (Zu 0 rvs).1)) ++ (YT pk rvs).flatten) body (enter (Zu 0 rvs).1 (Zu 0 rvs).2.1) (Zdu C rs pk (ZW (Zt pk) (ZM pk (Zu 0 rvs).1)) (YT pk rvs) rk K)
 else none
end
end Go.Sh
