/-
  The machine, part 1: typed values, how they lie in memory, and what keeps them.
-/
import Derived.Calls
import Derived.Laws.Sem
import Derived.Laws.World
import Derived.Orders
import Derived.Scope
import Derived.KernelRfl
import Derived.Laws.Sem
namespace Go.Sh
open Go

/-- the types of values: structs are pairs of their cells -/
inductive Ty where
  | bool | int (k : IntKind) | fl (k : FloatKind) | cx (k : FloatKind) | str | raw
  | sl (t : Ty) | unit | pair (a b : Ty)
  deriving DecidableEq

@[reducible] def Ty.den : Ty → Type
  | .bool => Bool
  | .int _ => Int
  | .fl _ => Nat
  | .cx _ => Nat × Nat
  | .str => ByteArray
  | .raw => Value
  | .sl t => List t.den
  | .unit => Unit
  | .pair a b => a.den × b.den

def Ty.size : Ty → Nat
  | .unit => 0
  | .pair a b => a.size + b.size
  | _ => 1

def Ty.dflt : (t : Ty) → t.den
  | .bool => false
  | .int _ => (0 : Int)
  | .fl _ => (0 : Nat)
  | .cx _ => ((0 : Nat), (0 : Nat))
  | .str => (⟨#[]⟩ : ByteArray)
  | .raw => Value.pointer none
  | .sl _ => []
  | .unit => ()
  | .pair a b => (a.dflt, b.dflt)

/-- rows of bytes are of Go's own type of bytes -/
def u8Id : TypeId := 5
def Ty.isU8 : Ty → Bool
  | .int .u8 => true
  | _ => false
def okB (e : TypeId) (t : Ty) : Bool := bif t.isU8 then Nat.beq e u8Id else true
def posB (e : TypeId) (t : Ty) : Bool := Nat.ble 1 t.size && okB e t
theorem posB_spec {e : TypeId} {t : Ty} (h : posB e t = true) : 1 ≤ t.size ∧ okB e t = true := by
  unfold posB at h
  simp only [Bool.and_eq_true] at h
  exact ⟨Nat.le_of_ble_eq_true h.1, h.2⟩
/-- which cells may be written, and of which type they are -/
structure Fit (t : Ty) (T : TypeId) (n : Nat) (fz : Nat × Nat) : Prop where
  free : ∀ o, o < n → ¬ (fz.1 ≤ o ∧ o < fz.2)
  kind : okB T t = true
  ord : fz.1 ≤ fz.2

/-- not below nought, and not too many -/
def lim31 (n : Int) : Bool := decide (0 ≤ n) && Nat.blt n.toNat 2147483648
theorem lim31_spec {n : Int} (h : lim31 n = true) : 0 ≤ n ∧ n < 2147483648 := by
  unfold lim31 at h
  rw [Bool.and_eq_true] at h
  have h1 := of_decide_eq_true h.1
  have h2 := Nat.le_of_ble_eq_true h.2
  omega
theorem lim31_mk {n : Int} (h : 0 ≤ n) (h2 : n < 2147483648) : lim31 n = true := by
  unfold lim31
  rw [Bool.and_eq_true]
  exact ⟨decide_eq_true h, Nat.ble_eq_true_of_le (by omega)⟩

/-- values of one cell -/
inductive PV where
  | v (x : Value)
  | sl (t : Ty) (xs : List t.den)

/-- the type that a block was made of -/
def typeAt (w : World) (b : Nat) : Option TypeId := match w.heap[b]? with
  | some (.cells _ T _) => some T
  | _ => none
/-- what stays: below 'lim b' the cells of block b are not written any more -/
structure Ext (w : World) (lim : Nat → Nat) (w' : World) (lim' : Nat → Nat) : Prop where
  size : w.heap.size ≤ w'.heap.size
  cell : ∀ b o, o < lim b → w'.cell? ⟨b, o, none⟩ = w.cell? ⟨b, o, none⟩
  lim : ∀ b o, o < lim b → o < lim' b
  typ : ∀ b T, typeAt w b = some T → typeAt w' b = some T

theorem Ext.refl (w : World) (lim : Nat → Nat) : Ext w lim w lim := ⟨Nat.le_refl _, fun _ _ _ => rfl, fun _ _ h => h, fun _ _ h => h⟩
theorem Ext.trans {w w' w'' : World} {l l' l'' : Nat → Nat} (h : Ext w l w' l') (k : Ext w' l' w'' l'') : Ext w l w'' l'' :=
  ⟨Nat.le_trans h.size k.size, fun b o ho => (k.cell b o (h.lim b o ho)).trans (h.cell b o ho), fun b o ho => k.lim b o (h.lim b o ho), fun b T hT => k.typ b T (h.typ b T hT)⟩

/-- how a value of a type lies in cells -/
def Rt (w : World) (lim : Nat → Nat) : (t : Ty) → t.den → List Value → Prop
  | .bool, b, cs => cs = [.bool b]
  | .int k, n, cs => cs = [.int k n]
  | .fl k, n, cs => cs = [.float k n]
  | .cx k, p, cs => cs = [.complex k p.1 p.2]
  | .str, s, cs => cs = [.string s]
  | .raw, x, cs => cs = [x] ∧ x.oneCell' = true
  | .sl t, xs, cs => ∃ A len cap, cs = [.slice A len cap] ∧ xs.length = len ∧ len ≤ cap ∧
      (xs = [] ∨ ∃ b off, A = some ⟨b, off, none⟩ ∧ ∀ i (h : i < xs.length), ∃ c, Rt w lim t xs[i] c ∧
        ∀ j v, c[j]? = some v → w.cell? ⟨b, off + i * t.size + j, none⟩ = some v ∧ off + i * t.size + j < lim b)
  | .unit, _, cs => cs = []
  | .pair a b, x, cs => ∃ c d, cs = c ++ d ∧ Rt w lim a x.1 c ∧ Rt w lim b x.2 d

theorem Rt.length {w : World} {lim : Nat → Nat} : {t : Ty} → {x : t.den} → {cs : List Value} → Rt w lim t x cs → cs.length = t.size
  | .bool, _, _, h => by simp only [Rt] at h; subst h; rfl
  | .int _, _, _, h => by simp only [Rt] at h; subst h; rfl
  | .fl _, _, _, h => by simp only [Rt] at h; subst h; rfl
  | .cx _, _, _, h => by simp only [Rt] at h; subst h; rfl
  | .str, _, _, h => by simp only [Rt] at h; subst h; rfl
  | .raw, _, _, h => by simp only [Rt] at h; obtain ⟨rfl, _⟩ := h; rfl
  | .sl _, _, _, h => by simp only [Rt] at h; obtain ⟨A, len, cap, rfl, _⟩ := h; rfl
  | .unit, _, _, h => by simp only [Rt] at h; subst h; rfl
  | .pair a b, _, _, h => by
    simp only [Rt] at h; obtain ⟨c, d, rfl, h1, h2⟩ := h
    simp [Ty.size, Rt.length h1, Rt.length h2]

theorem Rt.mono {w w' : World} {l l' : Nat → Nat} (e : Ext w l w' l') : {t : Ty} → {x : t.den} → {cs : List Value} → Rt w l t x cs → Rt w' l' t x cs
  | .bool, _, _, h => h
  | .int _, _, _, h => h
  | .fl _, _, _, h => h
  | .cx _, _, _, h => h
  | .str, _, _, h => h
  | .raw, _, _, h => h
  | .unit, _, _, h => h
  | .pair a b, _, _, h => by
    simp only [Rt] at h ⊢; obtain ⟨c, d, rfl, h1, h2⟩ := h
    exact ⟨c, d, rfl, Rt.mono e h1, Rt.mono e h2⟩
  | .sl t, xs, _, h => by
    simp only [Rt] at h ⊢
    obtain ⟨A, len, cap, rfl, hl, hc, h⟩ := h
    refine ⟨A, len, cap, rfl, hl, hc, ?_⟩
    rcases h with h | ⟨b, off, hA, h⟩
    · exact .inl h
    · refine .inr ⟨b, off, hA, fun i hi => ?_⟩
      obtain ⟨c, hr, hcell⟩ := h i hi
      refine ⟨c, Rt.mono e hr, fun j v hj => ?_⟩
      obtain ⟨h1, h2⟩ := hcell j v hj
      exact ⟨(e.cell _ _ h2).trans h1, e.lim _ _ h2⟩

/-- of one cell -/
def RP (w : World) (lim : Nat → Nat) : PV → Value → Prop
  | .v x, v => v = x
  | .sl t xs, v => Rt w lim (.sl t) xs [v]

theorem RP.mono {w w' : World} {l l' : Nat → Nat} (e : Ext w l w' l') {p : PV} {v : Value} (h : RP w l p v) : RP w' l' p v := by
  cases p with
  | v x => exact h
  | sl t xs => exact Rt.mono e h

/-- lists in step -/
def All2 {α β : Type} (R : α → β → Prop) : List α → List β → Prop
  | [], [] => True
  | a :: l, b :: m => R a b ∧ All2 R l m
  | _, _ => False

section all2
variable {α β : Type} {R S : α → β → Prop}
theorem All2.length : {l : List α} → {m : List β} → All2 R l m → l.length = m.length
  | [], [], _ => rfl
  | _ :: _, _ :: _, h => by simp [All2.length h.2]
theorem All2.mono (h : ∀ a b, R a b → S a b) : {l : List α} → {m : List β} → All2 R l m → All2 S l m
  | [], [], _ => trivial
  | _ :: _, _ :: _, k => ⟨h _ _ k.1, All2.mono h k.2⟩
theorem All2.mono_mem : {l : List α} → {m : List β} → (∀ a b, a ∈ l → R a b → S a b) → All2 R l m → All2 S l m
  | [], [], _, _ => trivial
  | _ :: _, _ :: _, h, k => ⟨h _ _ (List.mem_cons_self ..) k.1, All2.mono_mem (fun a b ha => h a b (List.mem_cons_of_mem _ ha)) k.2⟩
theorem All2.append : {l : List α} → {m : List β} → {l' : List α} → {m' : List β} → All2 R l m → All2 R l' m' → All2 R (l ++ l') (m ++ m')
  | [], [], _, _, _, k => k
  | _ :: _, _ :: _, _, _, h, k => ⟨h.1, All2.append h.2 k⟩
theorem All2.get : {l : List α} → {m : List β} → All2 R l m → {i : Nat} → {a : α} → l[i]? = some a → ∃ b, m[i]? = some b ∧ R a b
  | [], [], _, _, _, h => by simp at h
  | x :: l, y :: m, k, 0, a, h => by simp at h; subst h; exact ⟨y, rfl, k.1⟩
  | x :: l, y :: m, k, i + 1, a, h => by simp at h; obtain ⟨b, hb, hr⟩ := All2.get k.2 h; exact ⟨b, by simpa using hb, hr⟩
theorem All2.drop : {l : List α} → {m : List β} → (i : Nat) → All2 R l m → All2 R (l.drop i) (m.drop i)
  | [], [], i, _ => by simp [All2]
  | _ :: _, _ :: _, 0, h => h
  | _ :: _, _ :: _, i + 1, h => by simpa using All2.drop i h.2
theorem All2.take : {l : List α} → {m : List β} → (i : Nat) → All2 R l m → All2 R (l.take i) (m.take i)
  | [], [], i, _ => by simp [All2]
  | _ :: _, _ :: _, 0, _ => trivial
  | _ :: _, _ :: _, i + 1, h => ⟨h.1, All2.take i h.2⟩
theorem All2.set : {l : List α} → {m : List β} → {a : α} → {b : β} → (i : Nat) → All2 R l m → R a b → All2 R (l.set i a) (m.set i b)
  | [], [], _, _, _, _, _ => trivial
  | _ :: _, _ :: _, _, _, 0, h, k => ⟨k, h.2⟩
  | _ :: _, _ :: _, _, _, i + 1, h, k => ⟨h.1, All2.set i h.2 k⟩
theorem All2.split : {l : List α} → {m : List β} → {l' : List α} → All2 R (l ++ l') m → ∃ a b, m = a ++ b ∧ All2 R l a ∧ All2 R l' b
  | [], m, _, h => ⟨[], m, rfl, trivial, h⟩
  | _ :: _, [], _, h => h.elim
  | _ :: _, y :: m, _, h => by
    obtain ⟨a, b, rfl, h1, h2⟩ := All2.split h.2
    exact ⟨y :: a, b, rfl, ⟨h.1, h1⟩, h2⟩
theorem All2.map_left {γ : Type} {f : γ → α} : {l : List γ} → {m : List β} → All2 (fun a b => R (f a) b) l m → All2 R (l.map f) m
  | [], [], _ => trivial
  | _ :: _, _ :: _, h => ⟨h.1, All2.map_left h.2⟩
theorem All2.of_map_left {γ : Type} {f : γ → α} : {l : List γ} → {m : List β} → All2 R (l.map f) m → All2 (fun a b => R (f a) b) l m
  | [], [], _ => trivial
  | [], _ :: _, h => h.elim
  | _ :: _, [], h => h.elim
  | _ :: _, _ :: _, h => ⟨h.1, All2.of_map_left h.2⟩
end all2

/-- a value's cells -/
def cellsOf : (t : Ty) → t.den → List PV
  | .bool, b => [.v (.bool b)]
  | .int k, n => [.v (.int k n)]
  | .fl k, n => [.v (.float k n)]
  | .cx k, p => [.v (.complex k p.1 p.2)]
  | .str, s => [.v (.string s)]
  | .raw, x => [.v x]
  | .sl t, xs => [.sl t xs]
  | .unit, _ => []
  | .pair a b, x => cellsOf a x.1 ++ cellsOf b x.2

theorem cellsOf_length : (t : Ty) → (x : t.den) → (cellsOf t x).length = t.size
  | .bool, _ => rfl
  | .int _, _ => rfl
  | .fl _, _ => rfl
  | .cx _, _ => rfl
  | .str, _ => rfl
  | .raw, _ => rfl
  | .sl _, _ => rfl
  | .unit, _ => rfl
  | .pair a b, x => by simp [cellsOf, Ty.size, cellsOf_length a, cellsOf_length b]

theorem all2_cellsOf {w : World} {lim : Nat → Nat} : {t : Ty} → {x : t.den} → {cs : List Value} → Rt w lim t x cs → All2 (RP w lim) (cellsOf t x) cs
  | .bool, _, _, h => by simp only [Rt] at h; subst h; exact ⟨rfl, trivial⟩
  | .int _, _, _, h => by simp only [Rt] at h; subst h; exact ⟨rfl, trivial⟩
  | .fl _, _, _, h => by simp only [Rt] at h; subst h; exact ⟨rfl, trivial⟩
  | .cx _, _, _, h => by simp only [Rt] at h; subst h; exact ⟨rfl, trivial⟩
  | .str, _, _, h => by simp only [Rt] at h; subst h; exact ⟨rfl, trivial⟩
  | .raw, _, _, h => by simp only [Rt] at h; obtain ⟨rfl, _⟩ := h; exact ⟨rfl, trivial⟩
  | .unit, _, _, h => by simp only [Rt] at h; subst h; exact trivial
  | .sl t, xs, cs, h => by
    have hl : cs.length = 1 := Rt.length h
    match cs, hl with
    | [c], _ => exact ⟨h, trivial⟩
  | .pair a b, x, _, h => by
    simp only [Rt] at h; obtain ⟨c, d, rfl, h1, h2⟩ := h
    exact All2.append (all2_cellsOf h1) (all2_cellsOf h2)

def PV.asBool : PV → Option Bool
  | .v (.bool b) => some b
  | _ => none
def PV.asInt (k : IntKind) : PV → Option Int
  | .v (.int k' n) => if k' = k then some n else none
  | _ => none
def PV.asFl (k : FloatKind) : PV → Option Nat
  | .v (.float k' n) => if k' = k then some n else none
  | _ => none
def PV.asCx (k : FloatKind) : PV → Option (Nat × Nat)
  | .v (.complex k' a b) => if k' = k then some (a, b) else none
  | _ => none
def PV.asStr : PV → Option ByteArray
  | .v (.string s) => some s
  | _ => none
def PV.asRaw : PV → Option Value
  | .v x => bif x.oneCell' then some x else none
  | _ => none
def isNil : Value → Bool
  | .slice none 0 0 => true
  | _ => false
theorem isNil_eq {x : Value} (h : isNil x = true) : x = .slice none 0 0 := by
  unfold isNil at h
  split at h <;> simp_all
def PV.asSl (t : Ty) : PV → Option (List t.den)
  | .sl t' xs => if h : t' = t then some (h ▸ xs) else none
  | .v x => if isNil x then some [] else none

def scal {α : Type} (f : PV → Option α) : List PV → Option (α × List PV)
  | [] => none
  | p :: r => match f p with
    | some x => some (x, r)
    | none => none

/-- a value out of cells: what is left behind it -/
def ofCells : (t : Ty) → List PV → Option (t.den × List PV)
  | .bool, l => scal PV.asBool l
  | .int k, l => scal (PV.asInt k) l
  | .fl k, l => scal (PV.asFl k) l
  | .cx k, l => scal (PV.asCx k) l
  | .str, l => scal PV.asStr l
  | .raw, l => scal PV.asRaw l
  | .sl t, l => scal (PV.asSl t) l
  | .unit, r => some ((), r)
  | .pair a b, l => match ofCells a l with
    | some (x, r) => (match ofCells b r with | some (y, r') => some ((x, y), r') | none => none)
    | none => none

theorem rt_scal {α : Type} {f : PV → Option α} {w : World} {lim : Nat → Nat} {R : α → List Value → Prop} (hf : ∀ p x v, f p = some x → RP w lim p v → R x [v])
    {ps : List PV} {x : α} {r : List PV} {cs : List Value} (h : scal f ps = some (x, r)) (k : All2 (RP w lim) ps cs) :
    ∃ c d, cs = c ++ d ∧ R x c ∧ All2 (RP w lim) r d := by
  match ps, cs, k with
  | p :: ps, c :: cs, k =>
    unfold scal at h
    cases hp : f p with
    | none => simp [hp] at h
    | some y =>
      simp [hp] at h
      obtain ⟨rfl, rfl⟩ := h
      exact ⟨[c], cs, rfl, hf _ _ _ hp k.1, k.2⟩

theorem rt_asSl {w : World} {lim : Nat → Nat} {t : Ty} {p : PV} {x : List t.den} {v : Value} (h : PV.asSl t p = some x) (k : RP w lim p v) : Rt w lim (.sl t) x [v] := by
  cases p with
  | v y =>
    simp only [PV.asSl] at h
    split at h
    · rename_i hn
      simp at h; subst h
      have := isNil_eq hn; subst this
      simp only [RP] at k; subst k
      simp only [Rt]
      exact ⟨none, 0, 0, rfl, rfl, Nat.le_refl _, .inl trivial⟩
    · contradiction
  | sl t' xs =>
    simp only [PV.asSl] at h
    split at h
    · rename_i ht
      subst ht
      simp at h; subst h
      exact k
    · contradiction

theorem rt_ofCells {w : World} {lim : Nat → Nat} : {t : Ty} → {ps : List PV} → {x : t.den} → {r : List PV} → {cs : List Value} →
    ofCells t ps = some (x, r) → All2 (RP w lim) ps cs → ∃ c d, cs = c ++ d ∧ Rt w lim t x c ∧ All2 (RP w lim) r d
  | .bool, ps, x, r, cs, h, k => rt_scal (f := PV.asBool) (fun p x v hp hr => by
      unfold PV.asBool at hp; split at hp <;> simp at hp; subst hp; simp only [RP] at hr; subst hr; rfl) h k
  | .int kk, ps, x, r, cs, h, k => rt_scal (f := PV.asInt kk) (fun p x v hp hr => by
      unfold PV.asInt at hp; split at hp <;> simp at hp; obtain ⟨rfl, rfl⟩ := hp; simp only [RP] at hr; subst hr; rfl) h k
  | .fl kk, ps, x, r, cs, h, k => rt_scal (f := PV.asFl kk) (fun p x v hp hr => by
      unfold PV.asFl at hp; split at hp <;> simp at hp; obtain ⟨rfl, rfl⟩ := hp; simp only [RP] at hr; subst hr; rfl) h k
  | .cx kk, ps, x, r, cs, h, k => rt_scal (f := PV.asCx kk) (fun p x v hp hr => by
      unfold PV.asCx at hp; split at hp <;> simp at hp; obtain ⟨rfl, rfl⟩ := hp; simp only [RP] at hr; subst hr; rfl) h k
  | .str, ps, x, r, cs, h, k => rt_scal (f := PV.asStr) (fun p x v hp hr => by
      unfold PV.asStr at hp; split at hp <;> simp at hp; subst hp; simp only [RP] at hr; subst hr; rfl) h k
  | .raw, ps, x, r, cs, h, k => rt_scal (f := PV.asRaw) (fun p x v hp hr => by
      unfold PV.asRaw at hp
      split at hp
      · rename_i y
        cases hy : y.oneCell' with
        | false => simp [hy] at hp
        | true => simp [hy] at hp; subst hp; simp only [RP] at hr; subst hr; exact ⟨rfl, hy⟩
      · simp at hp) h k
  | .sl t, ps, x, r, cs, h, k => rt_scal (f := PV.asSl t) (R := Rt w lim (.sl t)) (fun p x v hp hr => rt_asSl hp hr) h k
  | .unit, ps, x, r, cs, h, k => by
      simp only [ofCells, Option.some.injEq, Prod.mk.injEq] at h
      obtain ⟨_, rfl⟩ := h
      exact ⟨[], cs, rfl, rfl, k⟩
  | .pair a b, ps, x, r, cs, h, k => by
      simp only [ofCells] at h
      cases ha : ofCells a ps with
      | none => simp [ha] at h
      | some q =>
        obtain ⟨y, r1⟩ := q
        simp only [ha] at h
        cases hb : ofCells b r1 with
        | none => simp [hb] at h
        | some q2 =>
          obtain ⟨z, r2⟩ := q2
          simp only [hb, Option.some.injEq, Prod.mk.injEq] at h
          obtain ⟨rfl, rfl⟩ := h
          obtain ⟨c, d, rfl, h1, h2⟩ := rt_ofCells ha k
          obtain ⟨c', d', rfl, h3, h4⟩ := rt_ofCells hb h2
          exact ⟨c ++ c', d', by simp, ⟨c, c', rfl, h1, h3⟩, h4⟩

/-- a value of all these cells -/
def ofAll (t : Ty) (ps : List PV) : Option t.den :=
  match ofCells t ps with
  | some (x, []) => some x
  | _ => none

theorem rt_ofAll {w : World} {lim : Nat → Nat} {t : Ty} {ps : List PV} {x : t.den} {cs : List Value} (h : ofAll t ps = some x) (k : All2 (RP w lim) ps cs) : Rt w lim t x cs := by
  unfold ofAll at h
  split at h
  · rename_i y hy
    simp at h; subst h
    obtain ⟨c, d, rfl, h1, h2⟩ := rt_ofCells hy k
    match d, h2 with
    | [], _ => simpa using h1
  · contradiction
/-- two values are the same -/
def Ty.eqb : (t : Ty) → t.den → t.den → Bool
  | .bool, a, b => a == b
  | .int _, a, b => decide ((a : Int) = b)
  | .str, a, b => decide ((a : ByteArray) = b)
  | .pair s t, x, y => s.eqb x.1 y.1 && t.eqb x.2 y.2
  | .unit, _, _ => true
  | .fl _, _, _ => false
  | .cx _, _, _ => false
  | .raw, _, _ => false
  | .sl _, _, _ => false
def Ty.scalar : Ty → Bool
  | .bool | .int _ | .str => true
  | _ => false
end Go.Sh
