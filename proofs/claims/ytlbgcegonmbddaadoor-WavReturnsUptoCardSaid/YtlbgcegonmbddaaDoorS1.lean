/-
  The machine, part 17: what is handed in, as typed values.
-/
import Derived.Test.YtlbgcegonmbddaaDoorM15
import Derived.ChangeArms
import Derived.ChangeShapes
import Derived.WideShapes
import Derived.ReadAgain
import Derived.Below
import Derived.ChangeSame
import Derived.RowKit
set_option linter.unusedSimpArgs false
set_option linter.unusedVariables false
namespace Go.Sh
open Go Go.RowKit Go.WideShapes Go.ChangeShapes

/-- a type of the program is laid as a type of the machine -/
def fitsF (P : Program) (g : TypeId → Ty → Bool) : Nat → List Field → Ty → Bool
  | _, [], .unit => true
  | off, f :: l, .pair a b => Nat.beq f.offset off && g f.type a && Nat.beq (P.cellsOf f.type) a.size && fitsF P g (off + a.size) l b
  | _, _, _ => false
def fitsT (P : Program) : Nat → TypeId → Ty → Bool
  | 0, _, _ => false
  | n + 1, T, t => match P.underlying T, t with
    | some .bool, .bool => true
    | some (.int k), .int k' => decide (k = k')
    | some .string, .str => true
    | some (.slice e), .sl t => fitsT P n e t && Nat.beq (P.cellsOf e) t.size && Nat.ble 1 t.size
    | some (.struct fs), .pair a b => fitsF P (fitsT P n) 0 fs.toList (.pair a b) && Nat.beq (P.cellsOf T) (Ty.size (.pair a b))
    | some (.struct fs), .unit => fitsF P (fitsT P n) 0 fs.toList .unit && Nat.beq (P.cellsOf T) 0
    | _, _ => false

/-- how much it is -/
def Ty.bulk : (t : Ty) → t.den → Nat
  | .str, s => s.size + 1
  | .sl t, xs => (xs.map t.bulk).sum + 1
  | .pair a b, x => a.bulk x.1 + b.bulk x.2
  | .unit, _ => 0
  | .bool, _ => 1
  | .int _, _ => 1
  | .fl _, _ => 1
  | .cx _, _ => 1
  | .raw, _ => 1
/-- its numbers are of their kinds -/
def Ty.ok : (t : Ty) → t.den → Prop
  | .int k, n => k.min ≤ n ∧ n ≤ k.max
  | .sl t, xs => ∀ x ∈ xs, t.ok x
  | .pair a b, x => a.ok x.1 ∧ b.ok x.2
  | .bool, _ => True
  | .str, _ => True
  | .fl _, _ => True
  | .cx _, _ => True
  | .raw, _ => True
  | .unit, _ => True

mutual
def bulkD {H : Type} : DataW H → Nat
  | .lit (.string bytes) => bytes.length + 1
  | .lit _ => 1
  | .nil => 1
  | .ptr d => bulkD d + 1
  | .slice elems spare => bulkDs elems + bulkDs spare + 1
  | .agg parts => bulkDs parts + 1
  | .iface _ d => bulkD d + 1
  | .map entries => bulkEs entries + 1
  | .held _ => 1
def bulkDs {H : Type} : List (DataW H) → Nat
  | [] => 0
  | d :: r => bulkD d + bulkDs r
def bulkEs {H : Type} : List (Lit × DataW H) → Nat
  | [] => 0
  | x :: r => bulkE x + bulkEs r
def bulkE {H : Type} : Lit × DataW H → Nat
  | (.string bytes, d) => bytes.length + bulkD d + 1
  | (_, d) => bulkD d + 1
end
theorem bulkDs_append {H : Type} (l r : List (DataW H)) : bulkDs (l ++ r) = bulkDs l + bulkDs r := by
  induction l with
  | nil => simp [bulkDs]
  | cons x l ih => simp only [List.cons_append, bulkDs, ih]; omega
theorem bulkDs_le {H : Type} (l r : List (DataW H)) : bulkDs l ≤ bulkDs (l ++ r) := by rw [bulkDs_append]; omega

/-- how much of a block there is -/
def whole (w : World) (b : Nat) : Nat := match w.heap[b]? with
  | some (.cells c _ _) => c.size
  | _ => 0
theorem whole_lt {w : World} {b o : Nat} {v : Value} (h : w.cell? ⟨b, o, none⟩ = some v) : o < whole w b := by
  unfold World.cell? at h
  unfold whole
  split at h
  · rename_i c _ _ hb
    simp only at hb
    rw [hb]
    simp only [Option.isSome_none, Bool.false_eq_true, if_false] at h
    exact (Array.getElem?_eq_some_iff.1 h).1
  · cases h
theorem whole_lz (w : World) : ∀ b, w.heap.size ≤ b → whole w b = 0 := by
  intro b hb
  unfold whole
  rw [Array.getElem?_eq_none hb]

theorem cells?_at {w : World} {base n : Nat} {a : Addr} {cs : List Value} (h : w.cells? base a n = some cs) : cs.length = n ∧ ∀ i v, cs[i]? = some v → w.cell? (a.add i) = some v := by
  unfold World.cells? at h
  split at h
  · have hl := mapM_some_length h
    simp only [List.length_range] at hl
    refine ⟨hl, fun i v hi => ?_⟩
    have hlt : i < n := by have := (List.getElem?_eq_some_iff.1 hi).1; omega
    have := mapM_some_get h i i (by simp [hlt])
    rw [this, hi]
  · cases h

section
variable {H : Type} {enc : TypeId × Value → H} {P : Program} {w : World} {base : Nat} {spare : Nat → Bool} {held : Bool}

theorem fitsF_get {g : TypeId → Ty → Bool} : ∀ {l : List Field} {t : Ty} {off : Nat}, fitsF P g off l t = true → ∀ f ∈ l, off ≤ f.offset
  | [], _, _, _, f, hf => by cases hf
  | f :: l, t, off, h, f', hf => by
    match t, h with
    | .pair a b, h =>
      simp only [fitsF, Bool.and_eq_true] at h
      obtain ⟨⟨⟨h1, h2⟩, h3⟩, h4⟩ := h
      rcases List.mem_cons.1 hf with rfl | hf
      · exact Nat.le_of_eq (beq_eq h1).symm
      · have := fitsF_get h4 f' hf; omega

theorem rt_fields {n n' : Nat} (ih : ∀ (T : TypeId) (t : Ty) (cs : List Value) (x : DataW H × List MemPlace), fitsT P n T t = true → DataW.trod enc P w base spare held n' T cs = some x → ∃ y, Rt w (whole w) t y cs ∧ t.ok y ∧ t.bulk y ≤ bulkD x.1) :
    ∀ (l : List Field) (t : Ty) (off : Nat) (cs : List Value) (xs : List (DataW H × List MemPlace)), fitsF P (fitsT P n) off l t = true → cs.length = off + t.size →
      (∀ (i : Nat) (f : Field), l[i]? = some f → DataW.trod enc P w base spare held n' f.type ((cs.drop f.offset).take (P.cellsOf f.type)) = xs[i]?) → xs.length = l.length →
      ∃ y, Rt w (whole w) t y (cs.drop off) ∧ t.ok y ∧ t.bulk y ≤ bulkDs (xs.map (·.1))
  | [], t, off, cs, xs, h, hl, hx, hn => by
    match t, h with
    | .unit, h =>
      refine ⟨(), ?_, trivial, Nat.zero_le _⟩
      simp only [Rt, List.drop_eq_nil_iff]
      simp [Ty.size] at hl; omega
  | f :: l, t, off, cs, xs, h, hl, hx, hn => by
    match t, h with
    | .pair a b, h =>
      simp only [fitsF, Bool.and_eq_true] at h
      obtain ⟨⟨⟨h1, h2⟩, h3⟩, h4⟩ := h
      match xs, hn with
      | x :: xs, hn =>
        have h0 := hx 0 f rfl
        rw [beq_eq h1, beq_eq h3] at h0
        simp only [List.getElem?_cons_zero] at h0
        obtain ⟨y, e1, e2, e3⟩ := ih f.type a _ x h2 h0
        simp only [Ty.size] at hl
        obtain ⟨z, g1, g2, g3⟩ := rt_fields ih l b (off + a.size) cs xs h4 (by omega) (fun i f' hf' => by simpa using hx (i + 1) f' (by simpa using hf')) (by simpa using hn)
        refine ⟨(y, z), ?_, ⟨e2, g2⟩, ?_⟩
        · simp only [Rt]
          refine ⟨_, _, ?_, e1, g1⟩
          rw [← List.drop_drop, List.take_append_drop]
        · simp only [Ty.bulk, List.map_cons, bulkDs]; omega

theorem rt_of_trod : ∀ (n m : Nat) (T : TypeId) (t : Ty) (cs : List Value) (x : DataW H × List MemPlace), fitsT P m T t = true → DataW.trod enc P w base spare held n T cs = some x →
    ∃ y, Rt w (whole w) t y cs ∧ t.ok y ∧ t.bulk y ≤ bulkD x.1
  | 0, _, _, _, _, _, _, h => by simp [DataW.trod] at h
  | n + 1, 0, _, _, _, _, hf, _ => by simp [fitsT] at hf
  | n + 1, m + 1, T, t, cs, x, hf, h => by
    unfold fitsT at hf
    split at hf
    · rename_i hu
      obtain ⟨b, rfl, rfl⟩ := DataW.trod_bool hu h
      exact ⟨b, rfl, trivial, Nat.le_refl _⟩
    · rename_i k k' hu
      obtain rfl : k = k' := of_decide_eq_true hf
      obtain ⟨v, rfl, rfl, hw⟩ := DataW.trod_int hu h
      refine ⟨v, rfl, ?_, Nat.le_refl _⟩
      simpa [Ty.ok, Lit.wf] using hw
    · rename_i hu
      obtain ⟨s, rfl, rfl, _⟩ := DataW.trod_string hu h
      refine ⟨s, rfl, trivial, ?_⟩
      simp only [Ty.bulk, bulkD, Array.length_toList]
      exact Nat.le_refl _
    · rename_i e t hu
      simp only [Bool.and_eq_true] at hf
      obtain ⟨⟨hf, hsz⟩, hpos⟩ := hf
      have hsz := beq_eq hsz
      have hpos : 1 ≤ t.size := Nat.le_of_ble_eq_true hpos
      rcases DataW.trod_slice hu h with ⟨rfl, rfl⟩ | ⟨a, len, cap, elems, rest, n', hn', rfl, rfl, hb, hlc, _, hlen, hel, _⟩
      · refine ⟨[], ?_, (by simp [Ty.ok] : Ty.ok (.sl t) []), (by simp [Ty.bulk, bulkD])⟩
        simp only [Rt]
        exact ⟨none, 0, 0, rfl, rfl, Nat.le_refl _, .inl trivial⟩
      · obtain rfl : n' = n := by omega
        have each : ∀ i (hi : i < elems.length), ∃ cs', w.cells? base (a.add (i * P.cellsOf e)) (P.cellsOf e) = some cs' ∧ ∃ y, Rt w (whole w) t y cs' ∧ t.ok y ∧ t.bulk y ≤ bulkD elems[i].1 := by
          intro i hi
          have h1 := hel i (by omega)
          rw [List.getElem?_eq_getElem hi] at h1
          obtain ⟨cs', h2, h3⟩ := Option.bind_eq_some_iff.1 h1
          exact ⟨cs', h2, rt_of_trod n' m e t cs' _ hf h3⟩
        -- the list
        have all : ∀ (l : List (DataW H × List MemPlace)), (∀ i (hi : i < l.length), ∃ y, (∃ cs', w.cells? base (a.add ((elems.length - l.length + i) * P.cellsOf e)) (P.cellsOf e) = some cs' ∧ Rt w (whole w) t y cs') ∧ t.ok y ∧ t.bulk y ≤ bulkD l[i].1) →
            l.length ≤ elems.length → ∃ ys : List t.den, ys.length = l.length ∧ (∀ y ∈ ys, t.ok y) ∧ (ys.map t.bulk).sum ≤ bulkDs (l.map (·.1)) ∧
              ∀ i (hi : i < ys.length), ∃ cs', w.cells? base (a.add ((elems.length - l.length + i) * P.cellsOf e)) (P.cellsOf e) = some cs' ∧ Rt w (whole w) t ys[i] cs' := by
          intro l
          induction l with
          | nil => intro _ _; exact ⟨[], rfl, by simp, by simp [bulkDs], fun i hi => by simp at hi⟩
          | cons p l ih =>
            intro hp hle
            simp only [List.length_cons] at hle
            obtain ⟨y, ⟨cs', c1, c2⟩, y1, y2⟩ := hp 0 (by simp)
            obtain ⟨ys, k1, k2, k3, k4⟩ := ih (fun i hi => by
              obtain ⟨y, ⟨cs', c1, c2⟩, y1, y2⟩ := hp (i + 1) (by simpa using hi)
              refine ⟨y, ⟨cs', ?_, c2⟩, y1, by simpa using y2⟩
              rw [← c1]; congr 3; simp only [List.length_cons]; omega) (by omega)
            refine ⟨y :: ys, by simp [k1], ?_, ?_, ?_⟩
            · intro z hz
              rcases List.mem_cons.1 hz with rfl | hz
              · exact y1
              · exact k2 z hz
            · simp only [List.map_cons, List.sum_cons, bulkDs]
              simp only [List.getElem_cons_zero] at y2
              omega
            · intro i hi
              cases i with
              | zero => exact ⟨cs', c1, c2⟩
              | succ i =>
                obtain ⟨cs'', d1, d2⟩ := k4 i (by simpa using hi)
                refine ⟨cs'', ?_, by simpa using d2⟩
                rw [← d1]; congr 3; simp only [List.length_cons]; omega
        obtain ⟨ys, k1, k2, k3, k4⟩ := all elems (fun i hi => by
          obtain ⟨cs', c1, y, c2, c3, c4⟩ := each i hi
          exact ⟨y, ⟨cs', by simpa using c1, c2⟩, c3, c4⟩) (Nat.le_refl _)
        simp only [Nat.sub_self, Nat.zero_add] at k4
        refine ⟨ys, ?_, k2, ?_⟩
        · simp only [Rt]
          refine ⟨some a, len, cap, rfl, by omega, hlc, ?_⟩
          by_cases hnil : ys = []
          · exact .inl hnil
          · right
            have h0 : 0 < ys.length := List.length_pos_iff.2 hnil
            obtain ⟨c0, z1, z2⟩ := k4 0 h0
            obtain ⟨zl, zc⟩ := cells?_at z1
            obtain ⟨v0, hv0⟩ : ∃ v0, c0[0]? = some v0 := ⟨c0[0]'(by omega), List.getElem?_eq_getElem _⟩
            have hs := zc 0 v0 hv0
            simp only [Nat.zero_mul, Addr.add, if_true] at hs
            obtain ⟨b, off, spot⟩ := a
            have hspot : spot = none := by
              cases spot with
              | none => rfl
              | some s =>
                unfold World.cell? at hs
                split at hs
                · simp at hs
                · cases hs
            subst hspot
            refine ⟨b, off, rfl, fun i hi => ?_⟩
            obtain ⟨cs', d1, d2⟩ := k4 i hi
            refine ⟨cs', d2, fun j v hj => ?_⟩
            obtain ⟨_, zc⟩ := cells?_at d1
            have hc := zc j v hj
            have e : ((⟨b, off, none⟩ : Addr).add (i * P.cellsOf e)).add j = ⟨b, off + i * t.size + j, none⟩ := by
              rw [hsz]
              unfold Addr.add
              split <;> split <;> simp_all <;> omega
            rw [e] at hc
            exact ⟨hc, whole_lt hc⟩
        · simp only [Ty.bulk, bulkD]
          omega
    · rename_i fs a b hu
      simp only [Bool.and_eq_true] at hf
      obtain ⟨hf, hsz⟩ := hf
      obtain ⟨xs, n', hn', rfl, hl, hxs, hget⟩ := DataW.trod_struct hu h
      obtain rfl : n' = n := by omega
      obtain ⟨y, e1, e2, e3⟩ := rt_fields (n := m) (n' := n') (fun T t cs x h1 h2 => rt_of_trod n' m T t cs x h1 h2) fs.toList (.pair a b) 0 cs xs hf (by rw [hl, beq_eq hsz]; omega) (fun i f hi => hget i f (by simpa using hi)) (by simpa using hxs)
      exact ⟨y, by simpa using e1, e2, by simp only [bulkD]; omega⟩
    · rename_i fs hu
      simp only [Bool.and_eq_true] at hf
      obtain ⟨hf, hsz⟩ := hf
      obtain ⟨xs, n', hn', rfl, hl, hxs, hget⟩ := DataW.trod_struct hu h
      refine ⟨(), ?_, trivial, Nat.zero_le _⟩
      simp only [Rt]
      rw [beq_eq hsz] at hl
      exact List.length_eq_zero_iff.1 hl
    · cases hf
end
end Go.Sh
