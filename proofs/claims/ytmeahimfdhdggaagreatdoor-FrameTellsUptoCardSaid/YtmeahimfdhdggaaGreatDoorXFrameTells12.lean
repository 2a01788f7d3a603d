/-
  What the row needs, part 12.
-/
import Derived.Test.YtmeahimfdhdggaaGreatDoorXFrameTells11
import Derived.ChangeArms
import Derived.ChangeShapes
import Derived.WideShapes
import Derived.ReadAgain
import Derived.Below
import Derived.ChangeSame
import Derived.RowKit
set_option linter.unusedSimpArgs false
set_option linter.unusedVariables false
set_option linter.unusedSectionVars false
namespace Go.Sh
open Go Go.RowKit Go.WideShapes Go.ChangeShapes
def fitsF (P : Program) (g : TypeId → Ty → Bool) : Nat → List Field → Ty → Bool
  | _, [], .unit => true
  | off, f :: l, .pair a b => Nat.beq f.offset off && g f.type a && Nat.beq (P.cellsOf f.type) a.size && fitsF P g (off + a.size) l b
  | _, _, _ => false
def fitsT (P : Program) : Nat → TypeId → Ty → Bool
  | 0, _, _ => false
  | n + 1, T, t => match P.underlying T, t with
    | some .bool, .bool => true
    | some (.int k), .int k' => decide (k = k')
    | some .string, .str => true
    | some (.slice e), .sl t => fitsT P n e t && Nat.beq (P.cellsOf e) t.size && Nat.ble 1 t.size
    | some (.struct fs), .pair a b => fitsF P (fitsT P n) 0 fs.toList (.pair a b) && Nat.beq (P.cellsOf T) (Ty.size (.pair a b))
    | some (.struct fs), .unit => fitsF P (fitsT P n) 0 fs.toList .unit && Nat.beq (P.cellsOf T) 0
    | _, _ => false
def Ty.bulk : (t : Ty) → t.den → Nat
  | .str, s => s.size + 1
  | .sl t, xs => (xs.map t.bulk).sum + 1
  | .pair a b, x => a.bulk x.1 + b.bulk x.2
  | .unit, _ => 0
  | .bool, _ => 1
  | .int _, _ => 1
  | .fl _, _ => 1
  | .cx _, _ => 1
  | .raw, _ => 1
def Ty.ok : (t : Ty) → t.den → Prop
  | .int k, n => k.min ≤ n ∧ n ≤ k.max
  | .sl t, xs => ∀ x ∈ xs, t.ok x
  | .pair a b, x => a.ok x.1 ∧ b.ok x.2
  | .bool, _ => True
  | .str, _ => True
  | .fl _, _ => True
  | .cx _, _ => True
  | .raw, _ => True
  | .unit, _ => True
mutual
def bulkD {H : Type} : DataW H → Nat
  | .lit (.string bytes) => bytes.length + 1
  | .lit _ => 1
  | .nil => 1
  | .ptr d => bulkD d + 1
  | .slice elems spare => bulkDs elems + bulkDs spare + 1
  | .agg parts => bulkDs parts + 1
  | .iface _ d => bulkD d + 1
  | .map entries => bulkEs entries + 1
  | .held _ => 1
def bulkDs {H : Type} : List (DataW H) → Nat
  | [] => 0
  | d :: r => bulkD d + bulkDs r
def bulkEs {H : Type} : List (Lit × DataW H) → Nat
  | [] => 0
  | x :: r => bulkE x + bulkEs r
def bulkE {H : Type} : Lit × DataW H → Nat
  | (.string bytes, d) => bytes.length + bulkD d + 1
  | (_, d) => bulkD d + 1
end
def whole (w : World) (b : Nat) : Nat := match w.heap[b]? with
  | some (.cells c _ _) => c.size
  | _ => 0
theorem whole_lt {w : World} {b o : Nat} {v : Value} (h : w.cell? ⟨b, o, none⟩ = some v) : o < whole w b := by
  unfold World.cell? at h
  unfold whole
  split at h
  · rename_i c _ _ hb
    simp only at hb
    rw [hb]
    simp only [Option.isSome_none, Bool.false_eq_true, if_false] at h
    exact (Array.getElem?_eq_some_iff.1 h).1
  · cases h
theorem whole_lz (w : World) : ∀ b, w.heap.size ≤ b → whole w b = 0 := by
  intro b hb
  unfold whole
  rw [Array.getElem?_eq_none hb]
theorem cells?_at {w : World} {base n : Nat} {a : Addr} {cs : List Value} (h : w.cells? base a n = some cs) : cs.length = n ∧ ∀ i v, cs[i]? = some v → w.cell? (a.add i) = some v := by
  unfold World.cells? at h
  split at h
  · have hl := mapM_some_length h
    simp only [List.length_range] at hl
    refine ⟨hl, fun i v hi => ?_⟩
    have hlt : i < n := by have := (List.getElem?_eq_some_iff.1 hi).1; omega
    have := mapM_some_get h i i (by simp [hlt])
    rw [this, hi]
  · cases h
section
variable {H : Type} {enc : TypeId × Value → H} {P : Program} {w : World} {base : Nat} {spare : Nat → Bool} {held : Bool}
theorem rt_fields {n n' : Nat} (ih : ∀ (T : TypeId) (t : Ty) (cs : List Value) (x : DataW H × List MemPlace), fitsT P n T t = true → DataW.trod enc P w base spare held n' T cs = some x → ∃ y, Rt w (whole w) t y cs ∧ t.ok y ∧ t.bulk y ≤ bulkD x.1) :
    ∀ (l : List Field) (t : Ty) (off : Nat) (cs : List Value) (xs : List (DataW H × List MemPlace)), fitsF P (fitsT P n) off l t = true → cs.length = off + t.size →
      (∀ (i : Nat) (f : Field), l[i]? = some f → DataW.trod enc P w base spare held n' f.type ((cs.drop f.offset).take (P.cellsOf f.type)) = xs[i]?) → xs.length = l.length →
      ∃ y, Rt w (whole w) t y (cs.drop off) ∧ t.ok y ∧ t.bulk y ≤ bulkDs (xs.map (·.1))
  | [], t, off, cs, xs, h, hl, hx, hn => by
    match t, h with
    | .unit, h =>
      refine ⟨(), ?_, trivial, Nat.zero_le _⟩
      simp only [Rt, List.drop_eq_nil_iff]
      simp [Ty.size] at hl; omega
  | f :: l, t, off, cs, xs, h, hl, hx, hn => by
    match t, h with
    | .pair a b, h =>
      simp only [fitsF, Bool.and_eq_true] at h
      obtain ⟨⟨⟨h1, h2⟩, h3⟩, h4⟩ := h
      match xs, hn with
      | x :: xs, hn =>
        have h0 := hx 0 f rfl
        rw [beq_eq h1, beq_eq h3] at h0
        simp only [List.getElem?_cons_zero] at h0
        obtain ⟨y, e1, e2, e3⟩ := ih f.type a _ x h2 h0
        simp only [Ty.size] at hl
        obtain ⟨z, g1, g2, g3⟩ := rt_fields ih l b (off + a.size) cs xs h4 (by omega) (fun i f' hf' => by simpa using hx (i + 1) f' (by simpa using hf')) (by simpa using hn)
        refine ⟨(y, z), ?_, ⟨e2, g2⟩, ?_⟩
        · simp only [Rt]
          refine ⟨_, _, ?_, e1, g1⟩
          rw [← List.drop_drop, List.take_append_drop]
        · simp only [Ty.bulk, List.map_cons, bulkDs]; omega
theorem rt_of_trod : ∀ (n m : Nat) (T : TypeId) (t : Ty) (cs : List Value) (x : DataW H × List MemPlace), fitsT P m T t = true → DataW.trod enc P w base spare held n T cs = some x →
    ∃ y, Rt w (whole w) t y cs ∧ t.ok y ∧ t.bulk y ≤ bulkD x.1
  | 0, _, _, _, _, _, _, h => by simp [DataW.trod] at h
  | n + 1, 0, _, _, _, _, hf, _ => by simp [fitsT] at hf
  | n + 1, m + 1, T, t, cs, x, hf, h => by
    unfold fitsT at hf
    split at hf
    · rename_i hu
      obtain ⟨b, rfl, rfl⟩ := DataW.trod_bool hu h
      exact ⟨b, rfl, trivial, Nat.le_refl _⟩
    · rename_i k k' hu
      obtain rfl : k = k' := of_decide_eq_true hf
      obtain ⟨v, rfl, rfl, hw⟩ := DataW.trod_int hu h
      refine ⟨v, rfl, ?_, Nat.le_refl _⟩
      simpa [Ty.ok, Lit.wf] using hw
    · rename_i hu
      obtain ⟨s, rfl, rfl, _⟩ := DataW.trod_string hu h
      refine ⟨s, rfl, trivial, ?_⟩
      simp only [Ty.bulk, bulkD, Array.length_toList]
      exact Nat.le_refl _
    · rename_i e t hu
      simp only [Bool.and_eq_true] at hf
      obtain ⟨⟨hf, hsz⟩, hpos⟩ := hf
      have hsz := beq_eq hsz
      have hpos : 1 ≤ t.size := Nat.le_of_ble_eq_true hpos
      rcases DataW.trod_slice hu h with ⟨rfl, rfl⟩ | ⟨a, len, cap, elems, rest, n', hn', rfl, rfl, hb, hlc, _, hlen, hel, _⟩
      · refine ⟨[], ?_, (by simp [Ty.ok] : Ty.ok (.sl t) []), (by simp [Ty.bulk, bulkD])⟩
        simp only [Rt]
        exact ⟨none, 0, 0, rfl, rfl, Nat.le_refl _, .inl trivial⟩
      · obtain rfl : n' = n := by omega
        have each : ∀ i (hi : i < elems.length), ∃ cs', w.cells? base (a.add (i * P.cellsOf e)) (P.cellsOf e) = some cs' ∧ ∃ y, Rt w (whole w) t y cs' ∧ t.ok y ∧ t.bulk y ≤ bulkD elems[i].1 := by
          intro i hi
          have h1 := hel i (by omega)
          rw [List.getElem?_eq_getElem hi] at h1
          obtain ⟨cs', h2, h3⟩ := Option.bind_eq_some_iff.1 h1
          exact ⟨cs', h2, rt_of_trod n' m e t cs' _ hf h3⟩
        -- the list
        have all : ∀ (l : List (DataW H × List MemPlace)), (∀ i (hi : i < l.length), ∃ y, (∃ cs', w.cells? base (a.add ((elems.length - l.length + i) * P.cellsOf e)) (P.cellsOf e) = some cs' ∧ Rt w (whole w) t y cs') ∧ t.ok y ∧ t.bulk y ≤ bulkD l[i].1) →
            l.length ≤ elems.length → ∃ ys : List t.den, ys.length = l.length ∧ (∀ y ∈ ys, t.ok y) ∧ (ys.map t.bulk).sum ≤ bulkDs (l.map (·.1)) ∧
              ∀ i (hi : i < ys.length), ∃ cs', w.cells? base (a.add ((elems.length - l.length + i) * P.cellsOf e)) (P.cellsOf e) = some cs' ∧ Rt w (whole w) t ys[i] cs' := by
          intro l
          induction l with
          | nil => intro _ _; exact ⟨[], rfl, by simp, by simp [bulkDs], fun i hi => by simp at hi⟩
          | cons p l ih =>
            intro hp hle
            simp only [List.length_cons] at hle
            obtain ⟨y, ⟨cs', c1, c2⟩, y1, y2⟩ := hp 0 (by simp)
            obtain ⟨ys, k1, k2, k3, k4⟩ := ih (fun i hi => by
              obtain ⟨y, ⟨cs', c1, c2⟩, y1, y2⟩ := hp (i + 1) (by simpa using hi)
              refine ⟨y, ⟨cs', ?_, c2⟩, y1, by simpa using y2⟩
              rw [← c1]; congr 3; simp only [List.length_cons]; omega) (by omega)
            refine ⟨y :: ys, by simp [k1], ?_, ?_, ?_⟩
            · intro z hz
              rcases List.mem_cons.1 hz with rfl | hz
              · exact y1
              · exact k2 z hz
            · simp only [List.map_cons, List.sum_cons, bulkDs]
              simp only [List.getElem_cons_zero] at y2
              omega
            · intro i hi
              cases i with
              | zero => exact ⟨cs', c1, c2⟩
              | succ i =>
                obtain ⟨cs'', d1, d2⟩ := k4 i (by simpa using hi)
                refine ⟨cs'', ?_, by simpa using d2⟩
                rw [← d1]; congr 3; simp only [List.length_cons]; omega
        obtain ⟨ys, k1, k2, k3, k4⟩ := all elems (fun i hi => by
          obtain ⟨cs', c1, y, c2, c3, c4⟩ := each i hi
          exact ⟨y, ⟨cs', by simpa using c1, c2⟩, c3, c4⟩) (Nat.le_refl _)
        simp only [Nat.sub_self, Nat.zero_add] at k4
        refine ⟨ys, ?_, k2, ?_⟩
        · simp only [Rt]
          refine ⟨some a, len, cap, rfl, by omega, hlc, ?_⟩
          by_cases hnil : ys = []
          · exact .inl hnil
          · right
            have h0 : 0 < ys.length := List.length_pos_iff.2 hnil
            obtain ⟨c0, z1, z2⟩ := k4 0 h0
            obtain ⟨zl, zc⟩ := cells?_at z1
            obtain ⟨v0, hv0⟩ : ∃ v0, c0[0]? = some v0 := ⟨c0[0]'(by omega), List.getElem?_eq_getElem _⟩
            have hs := zc 0 v0 hv0
            simp only [Nat.zero_mul, Addr.add, if_true] at hs
            obtain ⟨b, off, spot⟩ := a
            have hspot : spot = none := by
              cases spot with
              | none => rfl
              | some s =>
                unfold World.cell? at hs
                split at hs
                · simp at hs
                · cases hs
            subst hspot
            refine ⟨b, off, rfl, fun i hi => ?_⟩
            obtain ⟨cs', d1, d2⟩ := k4 i hi
            refine ⟨cs', d2, fun j v hj => ?_⟩
            obtain ⟨_, zc⟩ := cells?_at d1
            have hc := zc j v hj
            have e : ((⟨b, off, none⟩ : Addr).add (i * P.cellsOf e)).add j = ⟨b, off + i * t.size + j, none⟩ := by
              rw [hsz]
              unfold Addr.add
              split <;> split <;> simp_all <;> omega
            rw [e] at hc
            exact ⟨hc, whole_lt hc⟩
        · simp only [Ty.bulk, bulkD]
          omega
    · rename_i fs a b hu
      simp only [Bool.and_eq_true] at hf
      obtain ⟨hf, hsz⟩ := hf
      obtain ⟨xs, n', hn', rfl, hl, hxs, hget⟩ := DataW.trod_struct hu h
      obtain rfl : n' = n := by omega
      obtain ⟨y, e1, e2, e3⟩ := rt_fields (n := m) (n' := n') (fun T t cs x h1 h2 => rt_of_trod n' m T t cs x h1 h2) fs.toList (.pair a b) 0 cs xs hf (by rw [hl, beq_eq hsz]; omega) (fun i f hi => hget i f (by simpa using hi)) (by simpa using hxs)
      exact ⟨y, by simpa using e1, e2, by simp only [bulkD]; omega⟩
    · rename_i fs hu
      simp only [Bool.and_eq_true] at hf
      obtain ⟨hf, hsz⟩ := hf
      obtain ⟨xs, n', hn', rfl, hl, hxs, hget⟩ := DataW.trod_struct hu h
      refine ⟨(), ?_, trivial, Nat.zero_le _⟩
      simp only [Rt]
      rw [beq_eq hsz] at hl
      exact List.length_eq_zero_iff.1 hl
    · cases hf
end
end Go.Sh
namespace Go.Sh
open Go Go.RowKit Go.WideShapes Go.ChangeShapes
def viewKs (tys : List Ty) : List Kd := tys.map .view
def okAll : (tys : List Ty) → Kd.dens (viewKs tys) → Prop
  | [], _ => True
  | t :: l, x => t.ok x.1 ∧ okAll l x.2
def bulkAll : (tys : List Ty) → Kd.dens (viewKs tys) → Nat
  | [], _ => 0
  | t :: l, x => t.bulk x.1 + bulkAll l x.2
def fitsTs (P : Program) : List TypeId → List Ty → Bool
  | [], [] => true
  | T :: Ts, t :: ts => fitsT P 16 T t && fitsTs P Ts ts
  | _, _ => false
section
variable {H : Type} {enc : TypeId × Value → H} {P : Program} {w : World} {base : Nat} {spare : Nat → Bool} {held : Bool}
theorem cells_noAgg {v : Value} (h : ∀ cs, v ≠ .agg cs) : v.cells = #[v] := by
  cases v <;> first | rfl | (exact absurd rfl (h _))
theorem view_of_trod {b0 n : Nat} {r : Reach} {T : TypeId} {t : Ty} {v : Value} {d : DataW H} {ps : List MemPlace} (hval : Value.okWide P w r b0 T v) (h : DataW.Trod enc P w base spare held T v d ps) (hf : fitsT P n T t = true) :
    ∃ y, viewT w (whole w) t y v ∧ t.ok y ∧ t.bulk y ≤ bulkD d := by
  obtain ⟨m, hm⟩ := h
  obtain ⟨y, h1, h2, h3⟩ := rt_of_trod m n T t _ _ hf hm
  refine ⟨y, ⟨_, h1, ?_⟩, h2, h3⟩
  cases n with
  | zero => simp [fitsT] at hf
  | succ n =>
    unfold Value.okWide at hval
    unfold fitsT at hf
    split at hf <;> rename_i hu <;> try (cases hf; done)
    all_goals
      rw [hu] at hval
      simp only at hval
    · refine .inr ⟨rfl, ?_⟩
      rw [cells_noAgg]; rintro cs rfl; simp [Cell.okWide, Cell.ok, hu] at hval
    · refine .inr ⟨rfl, ?_⟩
      rw [cells_noAgg]; rintro cs rfl; simp [Cell.okWide, Cell.ok, hu] at hval
    · refine .inr ⟨rfl, ?_⟩
      rw [cells_noAgg]; rintro cs rfl; simp [Cell.okWide, Cell.ok, hu] at hval
    · refine .inr ⟨rfl, ?_⟩
      rw [cells_noAgg]; rintro cs rfl; simp [Cell.okWide, Cell.ok, hu] at hval
    · obtain ⟨cs, rfl, _⟩ := hval
      exact .inl ⟨rfl, rfl⟩
    · obtain ⟨cs, rfl, _⟩ := hval
      exact .inl ⟨rfl, rfl⟩
theorem views_of_trods {b0 : Nat} {r : Reach} : ∀ {Ts : List TypeId} {tys : List Ty} {vs : List Value} {ds : List (DataW H)} {ps : List MemPlace}, fitsTs P Ts tys = true →
    (∀ (j : Nat) t v, Ts[j]? = some t → vs[j]? = some v → Value.okWide P w r b0 t v) → DataW.TrodAll enc P w base spare held Ts vs ds ps →
    ∃ x : Kd.dens (viewKs tys), TTs w (whole w) (encs (viewKs tys) x) vs [] ∧ okAll tys x ∧ bulkAll tys x ≤ bulkDs ds
  | [], [], vs, ds, ps, _, _, h => by
    obtain ⟨rfl, rfl, rfl⟩ := trodAll_nil h
    exact ⟨(), rfl, trivial, Nat.le_refl _⟩
  | T :: Ts, t :: tys, vs, ds, ps, hf, hval, h => by
    simp only [fitsTs, Bool.and_eq_true] at hf
    obtain ⟨v, vs', d, ds', p, q, rfl, rfl, rfl, h1, h2⟩ := trodAll_cons h
    obtain ⟨y, e1, e2, e3⟩ := view_of_trod (hval 0 T v rfl rfl) h1 hf.1
    obtain ⟨x, g1, g2, g3⟩ := views_of_trods hf.2 (fun j t v ht hv => hval (j + 1) t v (by simpa using ht) (by simpa using hv)) h2
    refine ⟨(y, x), ?_, ⟨e2, g2⟩, ?_⟩
    · exact ⟨[], [], rfl, ⟨e1, rfl⟩, g1⟩
    · simp only [bulkAll, bulkDs]; omega
  | [], _ :: _, _, _, _, hf, _, _ => by simp [fitsTs] at hf
  | _ :: _, [], _, _, _, hf, _, _ => by simp [fitsTs] at hf
end
section
variable {H : Type} {enc : TypeId × Value → H} {P : Program}
theorem post_of_below' {f : Func} {s : ChangeSpec} {apart fresh handsOn again : Bool} {W W' : World} {args : Array Value} {v : Value} {ds gs : List (DataW H)} {before pa pv : List MemPlace}
    (hW : DataW.Whole enc P f.params.toList s.vars apart W args.toList ds gs before)
    (hres : ∀ (b : Nat) (sp : Nat → Bool) (hd : Bool), DataW.TrodAll enc P W' b sp hd f.resultTypes.toList (v.resultList f.resultTypes.size) (s.fn H (ds ++ gs)).results [])
    (hargs : ∀ sp : Nat → Bool, (∀ p ∈ before, sp p.block = true) → DataW.TrodAll enc P W' 0 sp true f.params.toList args.toList (s.fn H (ds ++ gs)).args pa)
    (hvars : ∀ sp : Nat → Bool, (∀ p ∈ before, sp p.block = true) → DataW.TrodVars enc P W' sp s.vars (s.fn H (ds ++ gs)).vars pv)
    (hps : before = pa ++ pv) (hb : Below W.heap.size W W')
    (hok : ∀ (j : Nat) (t : TypeId) (r : Value), f.resultTypes[j]? = some t → (v.resultList f.resultTypes.size)[j]? = some r → Value.okWide P W' .any 0 t r) :
    s.post enc P f apart fresh handsOn again W args v W' := by
  have hlt : ∀ p ∈ before, p.block < W.heap.size := fun p hp => hW.lt p hp
  have hold : ∀ p ∈ before, (fun b => decide (b < W.heap.size)) p.block = true := fun p hp => by simpa using hlt p hp
  refine ⟨ds, gs, before, [], pa, pv, hW, hres _ _ _, hargs _ hold, hvars _ hold, World.keptBut_mono (fun p hp => ⟨hp, ?_⟩) (hb.frame (· ∈ before)), fun _ => ?_⟩
  · rw [hps, List.mem_append] at hp
    exact Or.inr hp
  · obtain ⟨_, _, _, _, _, hz, hn⟩ := hW
    refine ⟨hok, _, _, ([] ++ pa) ++ pv, ⟨[] ++ pa, pv, trodAll_append (hargs _ (fun _ _ => rfl)) (hres _ _ _), hvars _ (fun _ _ => rfl), rfl, ?_, ?_⟩, ?_⟩
    · intro b off hp
      have hin : MemPlace.cell b off ∈ before := by rw [hps]; simpa using hp
      rw [hb.frozen (hlt _ hin)]
      exact hz b off hin
    · intro ha
      have := hn ha
      rw [hps] at this
      simpa using this
    · intro p hp _
      rw [hps]
      simpa using hp
theorem trodAll_carry {w w' : World} {base : Nat} {spare : Nat → Bool} {held : Bool} : ∀ {ts : List TypeId} {vs : List Value} {ds : List (DataW H)} {ps : List MemPlace},
    DataW.TrodAll enc P w base spare held ts vs ds ps → (∀ p ∈ ps, w.sameAt w' p) → DataW.TrodAll enc P w' base spare held ts vs ds ps
  | [], [], [], _, h, _ => h
  | _ :: _, _ :: _, _ :: _, _, ⟨p, q, ⟨n, h1⟩, h2, e⟩, hs => ⟨p, q, ⟨n, DataW.trod_carry n _ _ _ h1 (fun x hx => hs x (by rw [e]; exact List.mem_append_left _ hx))⟩,
      trodAll_carry h2 (fun x hx => hs x (by rw [e]; exact List.mem_append_right _ hx)), e⟩
variable [Gl]
theorem law_contract {K : FuncId} {fn : Func} {spec : ChangeSpec} {B : TypeId} (tys : List Ty) {F : Nat → Kd.dens (viewKs tys) → Option (Ans (viewKs tys) (.view .bool))} {bound : Nat}
    (hl : laidOutB P = true) (hm : mapsRowed P = true) (hz : ((List.range P.types.size).all fun t => match P.underlying t with | some (.slice e) => decide (0 < P.cellsOf e) | _ => true) = true)
    (hts : fn.params.toList.all (fun t => decide (t < P.types.size)) = true) (hfit : fitsTs P fn.params.toList tys = true) (hres : fn.resultTypes = #[B]) (hB : P.underlying B = some .bool)
    (hvars : spec.vars = []) (hspec : ∀ (H : Type) (ds : List (DataW H)), ds.length = tys.length → spec.fn H ds = { results := [.lit (.bool true)], args := ds })
    (hctr : ∀ k, Ctr P k K (mk (viewKs tys) (.view .bool) F)) (plain : ∀ x : Kd.dens (viewKs tys), okAll tys x → bulkAll tys x ≤ bound → ∃ k u, F k x = some (true, u))
    (enc : TypeId × Value → H) (W : World) (b0 : Nat) (args : Array Value) (ds gs : List (DataW H)) (before : List MemPlace)
    (hval : ∀ (j : Nat) t v, fn.params[j]? = some t → args[j]? = some v → Value.okWide P W .any b0 t v)
    (hW : DataW.Whole enc P fn.params.toList spec.vars false W args.toList ds gs before) (hk : bulkDs (ds ++ gs) ≤ bound) (hgl : Lies W (whole W)) :
    Calls P K args W fun e W' => ∃ v, e = .returned v ∧ spec.post enc P fn false true false false W args v W' := by
  have hW' := hW
  obtain ⟨p, q, hA, hV, he, hfz, hnd⟩ := hW
  rw [hvars] at hV
  have hgs : gs = [] ∧ q = [] := by
    match gs, hV with
    | [], hV => exact ⟨rfl, hV⟩
    | _ :: _, hV => exact hV.elim
  obtain ⟨rfl, rfl⟩ := hgs
  simp only [List.append_nil] at he hk
  obtain rfl : p = before := he.symm
  obtain ⟨x, h1, h2, h3⟩ := views_of_trods (tys := tys) hfit (fun j t v ht hv => hval j t v (by simpa using ht) (by simpa using hv)) hA
  obtain ⟨k, u, hF⟩ := plain x h2 (by omega)
  have hlen : ds.length = tys.length := by
    have e1 : ∀ {Ts : List TypeId} {tys : List Ty} {vs : List Value} {ds : List (DataW H)} {ps : List MemPlace}, fitsTs P Ts tys = true → DataW.TrodAll enc P W 0 (fun _ => true) true Ts vs ds ps → ds.length = tys.length := by
      intro Ts
      induction Ts with
      | nil =>
        intro tys vs ds ps hf h
        obtain ⟨rfl, rfl, rfl⟩ := trodAll_nil h
        cases tys with
        | nil => rfl
        | cons => simp [fitsTs] at hf
      | cons T Ts ih =>
        intro tys vs ds ps hf h
        obtain ⟨v, vs', d, ds', p, q, rfl, rfl, rfl, h1, h2⟩ := trodAll_cons h
        cases tys with
        | nil => simp [fitsTs] at hf
        | cons t tys =>
          simp only [fitsTs, Bool.and_eq_true] at hf
          simp [ih hf.2 h2]
    exact e1 hfit hA
  have hcall := (hctr k).calls (encs (viewKs tys) x) (true, u) (by
    have hd : decs (viewKs tys) (encs (viewKs tys) x) = some x := by
      have e2 : ∀ (l : List Ty) (x : Kd.dens (viewKs l)), decs (viewKs l) (encs (viewKs l) x) = some x := by
        intro l
        induction l with
        | nil => intro x; rfl
        | cons t l ih =>
          intro x
          obtain ⟨y, ys⟩ := x
          show ((asView t (.view t y)).bind fun y => (decs (viewKs l) (encs (viewKs l) ys)).bind fun ys => some (y, ys)) = _
          rw [ih ys]
          simp only [asView, dite_true]
          rfl
      exact e2 tys x
    show (decs (viewKs tys) (encs (viewKs tys) x)).bind (F k) = some (true, u)
    rw [hd]; exact hF) W (whole W) args.toList [] (whole_lz W) hgl h1 List.nodup_nil (by simp)
  rw [Array.toArray_toList] at hcall
  refine hcall.mono fun e W' h => ?_
  obtain ⟨v, lim', b1, b2, rfl, hE, _, ⟨ho, ht, hout⟩, hold, hT, _⟩ := h
  have hv : v = .bool true := by
    have hT : viewT W' lim' .bool true v ∧ b1 = [] := hT
    obtain ⟨⟨cs, c1, c2⟩, _⟩ := hT
    rcases c2 with ⟨c2, _⟩ | ⟨_, c2⟩
    · cases c2
    · simp only [Rt] at c1
      subst c2
      simpa using c1
  subst hv
  have hBel : Below W.heap.size W W' := ⟨ho, ht, hout, hE.size, fun b hb => (hold b hb (by simp)).1⟩
  have hlt : ∀ x ∈ p, x.block < W.heap.size := fun x hx => hW'.lt x hx
  refine ⟨_, rfl, post_of_below' (pa := p) (pv := []) hW' (fun b sp hd => ?_) (fun sp hsp => ?_) (fun sp hsp => ?_) (by simp) hBel ?_⟩
  · rw [List.append_nil, hspec H ds hlen, hres]
    exact ⟨[], [], ⟨1, by simp [DataW.trod, Value.cells, hB]⟩, rfl, rfl⟩
  · rw [List.append_nil, hspec H ds hlen]
    refine trodAll_carry (w := W) (DataW.TrodAll.respare (kids_rows hl hm) (slices_full_of P hz) (fun t ht => ?_) hA hsp) (fun y hy => hBel.same (hlt y hy))
    simpa using List.all_eq_true.1 hts t ht
  · rw [List.append_nil, hspec H ds hlen, hvars]
    rfl
  · exact ok_one hres rfl (okWide_bool_mk hB true)
end
end Go.Sh
namespace Go.Sh
open Go Go.Proofs
theorem known_write : writeS 1 8 44100 0 [[5, 5, 5]] = ([255, 248, 96, 0, 0, 2, 228, 0, 5, 227, 208], 0) := by decide +kernel
theorem known_read : readS 1 8 44100 [255, 248, 96, 0, 0, 2, 228, 0, 5, 227, 208] = ((0, [[5, 5, 5]]), 11, 0) := by decide +kernel
theorem f10_spec (k : Nat) (hk : 200000 < k) : f10_F k () = some (true, ()) := by
  show f10_raw0 k _ = _
  simp only [f10_raw0]
  refine (bind_of (f14_spec k (by omega) 1 8 44100 0 [[5, 5, 5]]) _).trans ?_
  rw [known_write]
  simp only
  rw [show ((0 : Int) != 0) = false from rfl]
  simp only [cond_false]
  rw [show (Int.ofNat [(255 : Int), 248, 96, 0, 0, 2, 228, 0, 5, 227, 208].length != 11) = false from rfl]
  simp only [cond_false]
  rw [cpos (by simp)]
  rw [show (!(ByteArray.mk (List.map (fun n => UInt8.ofNat n.toNat) (List.drop 0 (List.take 6 [(255 : Int), 248, 96, 0, 0, 2, 228, 0, 5, 227, 208]))).toArray).toList == (ByteArray.mk #[255, 248, 96, 0, 0, 2]).toList) = false from by rw [ba_beq]; decide +kernel]
  simp only [cond_false]
  refine (bind_of (f18_spec k 1 8 44100 (b := [255, 248, 96, 0, 0, 2, 228, 0, 5, 227, 208]) (by decide) (by simp) (by simp; omega)) _).trans ?_
  rw [known_read]
  rfl
def Sm (ch : List (List Int)) : Prop := ch.length ≤ 1048576 ∧ ∀ l ∈ ch, l.length ≤ 1048576
theorem f15_spec (k : Nat) (hk : 2000000 < k) (n : Int) {ch : List (List Int)} (h : Sm ch) : f15_F k ((n, ch, ()), ()) = some ((n, ch, ()), ()) := by
  show f15_raw0 k (f15_L1 k) _ = _
  simp only [f15_raw0]
  have hs := h.1
  have := iter_list_inv (A := List (List Int)) (R := (Int × List (List Int) × Unit) × Unit) (step := fun L1 => f15_raw1 k L1) (fun i out => (Int.ofNat i, n, ch, n, out, (0 : Int))) ch
    (fun l' out => some ((n, out ++ l', ()), ())) (fun i out => out.length = i)
    (fun L out _ => by simp only [f15_raw1]; rw [cneg (nltR _), List.append_nil])
    (fun L i hi out ho hL => by
      have hl := h.2 ch[i] (List.getElem_mem hi)
      simp only [f15_raw1]
      rw [cpos (ltR hi), cpos (inR hi), getD_at hi]
      have e1 : IntKind.i64.wrap (Int.ofNat (List.length ch[i]) + 2) = ((ch[i].length + 2 : Nat) : Int) := by rw [w64 (by simp only [Int.ofNat_eq_natCast]; omega)]; rfl
      rw [e1, cpos (by omega), cpos (inR hi), cpos (by omega), cpos (by simp only [List.length_singleton]; omega), wnext hi (by omega), hL _ (by simp; omega)]
      simp)
    k 0 [] rfl (by omega) (Nat.zero_le _)
  rw [List.drop_zero, List.nil_append] at this
  exact this
theorem byte_bit : ∀ (a b c d e f g h : Bool) (j : Fin 8), (a.toNat * 128 + b.toNat * 64 + c.toNat * 32 + d.toNat * 16 + e.toNat * 8 + f.toNat * 4 + g.toNat * 2 + h.toNat).testBit (7 - j.val) = [a, b, c, d, e, f, g, h].getD j.val false := by decide +kernel
theorem byteN_bit (f : Nat → Bool) {j : Nat} (hj : j < 8) : (byteN f).testBit (7 - j) = f j := by
  have := byte_bit (f 0) (f 1) (f 2) (f 3) (f 4) (f 5) (f 6) (f 7) ⟨j, hj⟩
  simp only at this
  unfold byteN
  rw [this]
  match j, hj with
  | 0, _ => rfl
  | 1, _ => rfl
  | 2, _ => rfl
  | 3, _ => rfl
  | 4, _ => rfl
  | 5, _ => rfl
  | 6, _ => rfl
  | 7, _ => rfl
theorem bitsL_pack {B : List Bool} (h : B.length % 8 = 0) : bitsL (pack B) = B := by
  have hl : (pack B).length = B.length / 8 := by rw [pack_len]; omega
  apply List.ext_getElem
  · rw [bitsL_len, hl]; omega
  · intro i h1 h2
    rw [bitsL_get (by rw [hl]; omega), pack_get, Int.toNat_natCast]
    unfold byteAt
    rw [byteN_bit _ (Nat.mod_lt _ (by omega)), show 8 * (i / 8) + i % 8 = i by omega, getD_of h2]
theorem byte_val : ∀ x : Fin 256, byteN (fun j => x.val.testBit (7 - j)) = x.val := by decide +kernel
theorem pack_bitsL {b : List Int} (h : bytesN b = true) : pack (bitsL b) = b := by
  apply List.ext_getElem
  · rw [pack_len, bitsL_len]; omega
  · intro i h1 h2
    obtain ⟨x, hx, hxe⟩ := bytesN_get h h2
    rw [pack_get, hxe]
    have : byteAt (bitsL b) i = byteN (fun j => x.testBit (7 - j)) := by
      have key : ∀ j, j < 8 → (bitsL b).getD (8 * i + j) false = x.testBit (7 - j) := by
        intro j hj
        rw [getD_of (by rw [bitsL_len]; omega), bitsL_get (by omega)]
        have : (8 * i + j) / 8 = i := by omega
        simp only [this, hxe, Int.toNat_natCast]
        congr 1
        omega
      unfold byteAt byteN
      simp only
      rw [key 0 (by omega), key 1 (by omega), key 2 (by omega), key 3 (by omega), key 4 (by omega), key 5 (by omega), key 6 (by omega), key 7 (by omega)]
    rw [this]
    have := byte_val ⟨x, hx⟩
    simp only at this
    rw [this]
theorem padded_len (B : List Bool) : (padded B).length % 8 = 0 ∧ (padded B).length = B.length + padN B.length := by
  unfold padded
  rw [List.length_append, List.length_replicate]
  unfold padN
  omega
theorem closed_len (B : List Bool) : (closed B).length % 8 = 0 ∧ (closed B).length = B.length + padN B.length + 16 := by
  have := padded_len B
  unfold closed
  rw [List.length_append, bitsOf_len]
  omega
theorem bitsOf_split (c a w : Nat) : bitsOf c (a + w) = bitsOf (c / 2 ^ w) a ++ bitsOf c w := by
  induction a with
  | zero => simp [bitsOf]
  | succ a ih =>
    rw [show a + 1 + w = (a + w) + 1 by omega]
    simp only [bitsOf, List.cons_append]
    rw [ih, Nat.testBit_div_two_pow]
theorem closed_bytes (B : List Bool) : pack (closed B) = pack (padded B) ++ [((crc16 (pack (padded B)) / 256 : Nat) : Int), ((crc16 (pack (padded B)) % 256 : Nat) : Int)] := by
  have hc := crc16_lt (pack_bytes (padded B))
  generalize hC : crc16 (pack (padded B)) = c at hc
  have hb : bytesN (pack (padded B) ++ [((c / 256 : Nat) : Int), ((c % 256 : Nat) : Int)]) = true := by
    refine List.all_eq_true.2 fun x hx => ?_
    rcases List.mem_append.1 hx with hx | hx
    · exact List.all_eq_true.1 (pack_bytes (padded B)) x hx
    · simp only [List.mem_cons, List.mem_nil_iff, or_false] at hx
      rw [Bool.and_eq_true, decide_eq_true_eq, decide_eq_true_eq]
      rcases hx with rfl | rfl <;> omega
  rw [← pack_bitsL hb, bitsL_append, bitsL_pack (padded_len B).1]
  unfold closed
  rw [hC]
  congr 2
  simp only [bitsL, List.flatMap_cons, List.flatMap_nil, Int.toNat_natCast, List.append_nil]
  rw [show (16 : Nat) = 8 + 8 from rfl, bitsOf_split c 8 8, show (c % 256) = c % 2 ^ 8 from rfl, bitsOf_mod c 8 8 (by omega)]
theorem crcBit_inj {r r' : Nat} (h1 : r < 2 ^ 16) (h2 : r' < 2 ^ 16) (h : crcBit 16 32773 r = crcBit 16 32773 r') : r = r' := by
  unfold crcBit at h
  have e : ∀ r : Nat, r < 2 ^ 16 → ((2 * r) % 2 ^ 16 ^^^ r / 2 ^ (16 - 1) % 2 * 32773) % 2 = r / 2 ^ (16 - 1) % 2 := by
    intro r hr
    have h2 := Nat.xor_mod_two_pow (a := (2 * r) % 2 ^ 16) (b := r / 2 ^ (16 - 1) % 2 * 32773) (n := 1)
    rw [Nat.pow_one] at h2
    rw [h2]
    have ht : r / 2 ^ (16 - 1) % 2 < 2 := Nat.mod_lt _ (by omega)
    have e0 : (2 * r) % 2 ^ 16 % 2 = 0 := by omega
    rw [e0]
    generalize r / 2 ^ (16 - 1) % 2 = t at ht ⊢
    match t, ht with
    | 0, _ => rfl
    | 1, _ => rfl
  have e1 := e r h1
  have e2 := e r' h2
  rw [h, e2] at e1
  rw [e1] at h
  have h3 := congrArg (fun z => z ^^^ r / 2 ^ (16 - 1) % 2 * 32773) h
  simp only [Nat.xor_assoc, Nat.xor_self, Nat.xor_zero] at h3
  omega
theorem crcBits_inj : ∀ (n r r' : Nat), r < 2 ^ 16 → r' < 2 ^ 16 → crcBits 16 32773 n r = crcBits 16 32773 n r' → r = r'
  | 0, _, _, _, _, h => h
  | n + 1, r, r', h1, h2, h => crcBit_inj h1 h2 (crcBits_inj n _ _ (crcBit_lt (by omega)) (crcBit_lt (by omega)) h)
theorem crcByte_inj {r r' x : Nat} (h1 : r < 2 ^ 16) (h2 : r' < 2 ^ 16) (hx : x < 256) (h : crcByte 16 32773 r x = crcByte 16 32773 r' x) : r = r' := by
  unfold crcByte at h
  have hx2 : x * 2 ^ (16 - 8) < 2 ^ 16 := by omega
  have := crcBits_inj 8 _ _ (Nat.xor_lt_two_pow h1 hx2) (Nat.xor_lt_two_pow h2 hx2) h
  have h3 := congrArg (fun z => z ^^^ x * 2 ^ (16 - 8)) this
  simpa only [Nat.xor_assoc, Nat.xor_self, Nat.xor_zero] using h3
theorem mul256 {x : Nat} (hx : x < 256) : x * 2 ^ (16 - 8) < 2 ^ 16 := by omega
theorem mul_cancel256 {x y : Nat} (h : x * 2 ^ (16 - 8) = y * 2 ^ (16 - 8)) : x = y := by omega
theorem crcByte_inj2 {r x y : Nat} (h1 : r < 2 ^ 16) (hx : x < 256) (hy : y < 256) (h : crcByte 16 32773 r x = crcByte 16 32773 r y) : x = y := by
  have hx2 := mul256 hx
  have hy2 := mul256 hy
  unfold crcByte at h
  have := crcBits_inj 8 _ _ (Nat.xor_lt_two_pow h1 hx2) (Nat.xor_lt_two_pow h1 hy2) h
  have h3 := congrArg (fun z => r ^^^ z) this
  simp only [← Nat.xor_assoc, Nat.xor_self, Nat.zero_xor] at h3
  exact mul_cancel256 h3
theorem fold_inj : ∀ (l : List Nat) (r r' : Nat), (∀ x ∈ l, x < 256) → r < 2 ^ 16 → r' < 2 ^ 16 → l.foldl (crcByte 16 32773) r = l.foldl (crcByte 16 32773) r' → r = r'
  | [], _, _, _, _, _, h => h
  | x :: l, r, r', hl, h1, h2, h => by
    have hx := hl x (List.mem_cons_self ..)
    exact crcByte_inj h1 h2 hx (fold_inj l _ _ (fun y hy => hl y (List.mem_cons_of_mem _ hy)) (crcByte_lt (by omega) (by omega) h1 hx) (crcByte_lt (by omega) (by omega) h2 hx) h)
theorem crc_differ : ∀ (l : List Nat) (r i v : Nat) (hi : i < l.length), (∀ x ∈ l, x < 256) → v < 256 → r < 2 ^ 16 → v ≠ l[i] → (l.set i v).foldl (crcByte 16 32773) r ≠ l.foldl (crcByte 16 32773) r
  | x :: l, r, 0, v, _, hl, hv, hr, hne => by
    simp only [List.set_cons_zero, List.foldl_cons]
    intro h
    have hx := hl x (List.mem_cons_self ..)
    have := fold_inj l _ _ (fun y hy => hl y (List.mem_cons_of_mem _ hy)) (crcByte_lt (by omega) (by omega) hr hv) (crcByte_lt (by omega) (by omega) hr hx) h
    exact hne (crcByte_inj2 hr hv hx this)
  | x :: l, r, i + 1, v, hi, hl, hv, hr, hne => by
    simp only [List.set_cons_succ, List.foldl_cons]
    exact crc_differ l _ i v (by simpa using hi) (fun y hy => hl y (List.mem_cons_of_mem _ hy)) hv (crcByte_lt (by omega) (by omega) hr (hl x (List.mem_cons_self ..))) (by simpa using hne)
theorem crcBits_low : ∀ (n v : Nat), v < 2 ^ (16 - n) → n ≤ 16 → crcBits 16 32773 n v = v * 2 ^ n
  | 0, v, _, _ => by simp [crcBits]
  | n + 1, v, hv, hn => by
    have h16 : 2 ^ (16 - (n + 1)) ≤ 2 ^ 15 := Nat.pow_le_pow_right (by omega) (by omega)
    have e : crcBit 16 32773 v = 2 * v := by
      unfold crcBit
      rw [Nat.div_eq_of_lt (by omega), Nat.mod_eq_of_lt (by omega)]
      simp
    show crcBits 16 32773 n (crcBit 16 32773 v) = _
    have hp : 2 ^ (16 - n) = 2 * 2 ^ (16 - (n + 1)) := by rw [show 16 - n = (16 - (n + 1)) + 1 by omega, Nat.pow_succ]; omega
    rw [e, crcBits_low n (2 * v) (by omega) (by omega), Nat.pow_succ]
    rw [Nat.mul_comm 2 v, Nat.mul_assoc, Nat.mul_comm 2]
theorem crc_zero {l : List Nat} {x y : Nat} (hx : x < 256) (hy : y < 256) (h : crcS 16 32773 l = x * 256 + y) : crcS 16 32773 (l ++ [x, y]) = 0 := by
  unfold crcS at h ⊢
  rw [List.foldl_append, h]
  simp only [List.foldl_cons, List.foldl_nil]
  have e1 : (x * 256 + y) ^^^ x * 2 ^ (16 - 8) = y := by
    have := Nat.shiftLeft_add_eq_or_of_lt (i := 8) (show y < 2 ^ 8 from hy) x
    rw [Nat.shiftLeft_eq] at this
    have e2 : x * 2 ^ 8 + y = x * 2 ^ 8 ^^^ y := by
      apply Nat.eq_of_testBit_eq
      intro i
      rw [this, Nat.testBit_or, Nat.testBit_xor]
      by_cases hi : i < 8
      · have : (x * 2 ^ 8).testBit i = false := by
          rw [Nat.testBit_mul_two_pow]; simp; omega
        rw [this]; simp
      · have h28 : 2 ^ 8 ≤ 2 ^ i := Nat.pow_le_pow_right (by decide) (by omega)
        have hyi : y < 2 ^ i := Nat.lt_of_lt_of_le hy h28
        have : y.testBit i = false := Nat.testBit_lt_two_pow hyi
        rw [this]; simp
    rw [show x * 256 = x * 2 ^ 8 from rfl, e2, Nat.xor_comm (x * 2 ^ 8) y, Nat.xor_assoc, Nat.xor_self, Nat.xor_zero]
  unfold crcByte
  rw [e1, crcBits_low 8 y hy (by omega), show (16 - 8 : Nat) = 8 from rfl, Nat.xor_self]
  rfl
end Go.Sh
namespace Go.Sh
open Go Go.Proofs
theorem out_err {c d r num : Int} {pos : Nat} {out : List (List Int)} : ((outS c d r num pos out).2.2 ≠ 0 → (outS c d r num pos out).2.1 = 0) ∧ ((outS c d r num pos out).2.2 = 0 → (outS c d r num pos out).2.1 = ((pos / 8 : Nat) : Int)) := by
  unfold outS
  split
  · rename_i h; exact ⟨fun _ => rfl, fun e => absurd e h⟩
  · exact ⟨fun e => absurd rfl e, fun _ => rfl⟩
theorem pair_err {c d r num : Int} {pos : Nat} {m : Int} {A B : List Int} : ((pairS c d r num pos m A B).2.2 ≠ 0 → (pairS c d r num pos m A B).2.1 = 0) ∧ ((pairS c d r num pos m A B).2.2 = 0 → (pairS c d r num pos m A B).2.1 = ((pos / 8 : Nat) : Int)) := by
  unfold pairS
  split
  · rename_i h; exact ⟨fun _ => rfl, fun e => absurd e h⟩
  · exact out_err
theorem sumI_ok {of : List Int → Nat} {b : List Int} {w : Nat} {t : IS} (h : (sumI of b w t).2 = 0) : t.2 = 0 ∧ w ≤ t.1.length ∧ (sumI of b w t).1 = t.1.drop w ∧ bitVal (t.1.take w) = of (b.take (posR b t.1 / 8)) := by
  unfold sumI at h ⊢
  have h0 : (gI w t).2.2 = 0 := by
    split at h
    · exact h
    · exact ((mI_zero (by decide)).1 h).1
  rw [if_neg (by simpa using h0)] at h ⊢
  have hb := ((mI_zero (by decide)).1 h).2
  have ht := gI_zero h0
  have hm : (mI ((gI w t).1 == of (b.take (posR b t.1 / 8))) (gI w t).2 16) = (gI w t).2 := by rw [hb, mI_true]
  rw [hm]
  unfold gI at hb h0 ⊢
  rw [if_pos ht] at hb h0 ⊢
  unfold getS at hb h0 ⊢
  by_cases hw : w ≤ t.1.length
  · rw [if_pos hw] at hb ⊢
    exact ⟨ht, hw, rfl, by simpa using hb⟩
  · rw [if_neg hw] at h0
    simp at h0
theorem alS_ok {rr : List Bool} (h : (alS rr).1 = 0) : (alS rr).2.length % 8 = 0 := by
  unfold alS at h ⊢
  split at h
  · rename_i hh
    rw [if_pos hh]
    rw [List.length_drop]
    omega
  · simp at h
theorem fin_err {c d r : Int} {b : List Int} {mode num : Nat} {chs : List (List Int)} {rr : List Bool} : ((finS c d r b mode num chs rr).2.2 ≠ 0 → (finS c d r b mode num chs rr).2.1 = 0) ∧
    ((finS c d r b mode num chs rr).2.2 = 0 → (sumI crc16 b 16 ((alS rr).2, (alS rr).1)).2 = 0 ∧ (finS c d r b mode num chs rr).2.1 = ((posR b (sumI crc16 b 16 ((alS rr).2, (alS rr).1)).1 / 8 : Nat) : Int)) := by
  unfold finS
  split
  · rename_i h; exact ⟨fun _ => rfl, fun e => absurd e h⟩
  · rename_i h
    have h0 : (sumI crc16 b 16 ((alS rr).2, (alS rr).1)).2 = 0 := by simpa using h
    split
    · exact ⟨pair_err.1, fun e => ⟨h0, pair_err.2 e⟩⟩
    · exact ⟨out_err.1, fun e => ⟨h0, out_err.2 e⟩⟩
theorem read_err {c d r : Int} {b : List Int} (h : (readS c d r b).2.2 ≠ 0) : (readS c d r b).2.1 = 0 := by
  unfold readS at h ⊢
  split
  · rfl
  · rename_i h1
    rw [if_neg h1] at h
    unfold afterS at h ⊢
    split
    · rfl
    · rename_i h2
      rw [if_neg h2] at h
      split
      · rfl
      · rename_i h3
        rw [if_neg h3] at h
        exact fin_err.1 h
theorem headI_rest (c : Int) (b : List Int) {s : IS} (hs : IsRest b s.1) : IsRest b (headI c b s).2.2.2.1 := by
  unfold headI hdT2 hdT3 hdT4 hdT5
  exact sumI_rest (hd6_rest (numI_rest (mI_rest (gI_rest (mI_rest (gI_rest (mI_rest (gI_rest (mI_rest (gI_rest (mI_rest (gI_rest (mI_rest (gI_rest hs _) _ _) _) _ _) _) _ _) _) _ _) _) _ _) _) _ _)) _) _
theorem natsOf_append (a b : List Int) : natsOf (a ++ b) = natsOf a ++ natsOf b := by unfold natsOf; rw [List.map_append]
theorem read_crc {c d r : Int} {b : List Int} (hb : bytesN b = true) (h : (readS c d r b).2.2 = 0) (hn : (readS c d r b).2.1 = (b.length : Int)) : crc16 b = 0 := by
  unfold readS at h hn
  split at h
  · simp at h
  · rename_i h1
    rw [if_neg h1] at hn
    unfold afterS at h hn
    split at h
    · rename_i h2; exact absurd h h2
    · rename_i h2
      rw [if_neg h2] at hn
      split at h
      · rename_i h3; exact absurd h h3
      · rename_i h3
        rw [if_neg h3] at hn
        obtain ⟨h4, h5⟩ := fin_err.2 h
        rw [h5] at hn
        have hr := chsS_rest (b := b) (n := (headI c b (bitsL b, 0)).2.2.1) (depthsS c d (headI c b (bitsL b, 0)).1) (headI c b (bitsL b, 0)).2.2.2.1 [] (headI_rest c b (rest_all b))
        generalize (chsS (headI c b (bitsL b, 0)).2.2.1 (depthsS c d (headI c b (bitsL b, 0)).1) (headI c b (bitsL b, 0)).2.2.2.1 []).2.2 = rr at h4 hn hr
        obtain ⟨k1, k2, k3, k4⟩ := sumI_ok h4
        have k5 := alS_ok k1
        have hr2 := alS_rest hr
        rw [k3] at hn
        generalize (alS rr).2 = t at k2 k4 k5 hr2 hn
        simp only at k2 k4 hn
        have hlen := hr2.len
        rw [posR_drop hr2 k2] at hn
        have hpos : posR b t = 8 * b.length - t.length := rfl
        have ht : t.length = 16 := by omega
        have hbl : 2 ≤ b.length := by omega
        have hdiv : posR b t / 8 = b.length - 2 := by omega
        have hpe : posR b t = 8 * (b.length - 2) := by omega
        have hte := hr2.eq
        rw [hpe, bitsL_drop] at hte
        have h0 : b.length - 2 < b.length := by omega
        have h1' : b.length - 2 + 1 < b.length := by omega
        have hd : b.drop (b.length - 2) = [b[b.length - 2], b[b.length - 2 + 1]] := by
          rw [List.drop_eq_getElem_cons h0, List.drop_eq_getElem_cons h1', List.drop_eq_nil_of_le (by omega)]
        obtain ⟨x, hx, hxe⟩ := bytesN_get hb h0
        obtain ⟨y, hy, hye⟩ := bytesN_get hb h1'
        rw [hxe, hye] at hd
        rw [List.take_of_length_le (by omega), hdiv, hte, hd, show bitsL [(x : Int), (y : Int)] = bitsOf x 8 ++ bitsOf y 8 from by simp [bitsL], bitVal_append, bitVal_bitsOf, bitVal_bitsOf, bitsOf_len, Nat.mod_eq_of_lt hx, Nat.mod_eq_of_lt hy] at k4
        unfold crc16 at k4 ⊢
        have hsplit : b = b.take (b.length - 2) ++ [(x : Int), (y : Int)] := by rw [← hd, List.take_append_drop]
        have hz := crc_zero hx hy k4.symm
        have hnat : natsOf b = natsOf (b.take (b.length - 2)) ++ [x, y] := by
          conv => lhs; rw [hsplit]
          rw [natsOf_append]
          rfl
        rw [hnat]
        exact hz
theorem write_crc (B : List Bool) : crc16 (pack (closed B)) = 0 := by
  rw [closed_bytes]
  have hc := crc16_lt (pack_bytes (padded B))
  unfold crc16 at hc ⊢
  generalize hC : crcS 16 32773 (natsOf (pack (padded B))) = c at hc
  rw [natsOf_append]
  exact crc_zero (x := c / 256) (y := c % 256) (by omega) (Nat.mod_lt _ (by omega)) (by omega)
theorem flip_tab : ∀ (x : Fin 256) (j : Fin 8), IntKind.u8.wrap (Int.ofNat (BitVec.ofInt 8 (x.val : Int) ^^^ BitVec.ofInt 8 (IntKind.u8.wrap ((1 : Int) * (2 : Int) ^ min j.val 8))).toNat) = ((x.val ^^^ 2 ^ j.val : Nat) : Int) ∧ x.val ^^^ 2 ^ j.val < 256 ∧ x.val ^^^ 2 ^ j.val ≠ x.val := by decide +kernel
theorem write_bytes (c d r n : Int) (ch : List (List Int)) : bytesN (writeS c d r n ch).1 = true := by
  unfold writeS
  split
  · exact pack_bytes _
  · rfl
theorem write_len (c d r n : Int) (ch : List (List Int)) : (writeS c d r n ch).1.length ≤ 5000 := by
  unfold writeS
  split
  · rename_i h
    obtain ⟨hs, hn, hc, hlen, hsg⟩ := check_zero h
    obtain ⟨hlay, _, _⟩ := lay_ok h
    have h2 : 1 ≤ (ch.headD []).length ∧ (ch.headD []).length ≤ 512 := by
      have : 0 < ch.length := by omega
      match ch, this with
      | l :: _, _ => exact (hlen l (by simp)).2
    have h1 := chBits_len hlay h2.1 h2.2 (by omega) (by omega)
    have h3 := preBits_len (layS ch).2.toNat n.toNat (ch.headD []).length
    have h4 := codeL_len n.toNat
    have h5 := kindN_or (ch.headD []).length
    have h6 := closed_len (hdBits (layS ch).2.toNat n.toNat (ch.headD []).length ++ chBits (layS ch).1 (depthsS c d (layS ch).2))
    have h7 : padN (hdBits (layS ch).2.toNat n.toNat (ch.headD []).length ++ chBits (layS ch).1 (depthsS c d (layS ch).2)).length < 8 := by unfold padN; omega
    simp only
    rw [pack_len]
    rw [List.length_append] at h6 h7
    unfold hdBits at h6 h7 ⊢
    rw [List.length_append, bitsOf_len] at h6 h7
    omega
  · simp
theorem f6_spec (k : Nat) (hk : 3000000 < k) (c d r n : Int) {ch : List (List Int)} (h : Sm ch) (at_ : Int) : f6_F k ((c, d, r, ()), (n, ch, ()), at_, ()) = some (true, ()) := by
  show f6_raw0 k _ = _
  simp only [f6_raw0]
  refine (bind_of (f10_spec k (by omega)) _).trans ?_
  simp only [Bool.not_true, cond_false]
  refine (bind_of (f15_spec k (by omega) n h) _).trans ?_
  refine (bind_of (f14_spec k (by omega) c d r n ch) _).trans ?_
  simp only
  rw [int_bne]
  have hbytes := write_bytes c d r n ch
  have hlen := write_len c d r n ch
  have hcrc : checkS c d r n ch = 0 → crc16 (writeS c d r n ch).1 = 0 ∧ 1 ≤ (writeS c d r n ch).1.length := by
    intro h0
    unfold writeS
    rw [if_pos h0]
    refine ⟨write_crc _, ?_⟩
    rw [closed_bytes]
    simp
  have hce : checkS c d r n ch = (writeS c d r n ch).2 := by
    unfold writeS
    split
    · rename_i h; exact h
    · rfl
  rw [hce] at hcrc
  generalize (writeS c d r n ch) = W at hbytes hlen hcrc
  obtain ⟨b, e⟩ := W
  simp only at hbytes hlen hcrc ⊢
  by_cases he : e = 0
  · rw [cneg (by simpa using he)]
    obtain ⟨hz, h1⟩ := hcrc he
    have e1 : IntKind.u64.wrap (IntKind.i64.wrap ((8 : Int) * Int.ofNat b.length)) = ((8 * b.length : Nat) : Int) := by
      simp only [Int.ofNat_eq_natCast]
      rw [w64 (by omega), IntKind.wrap_u64]
      omega
    simp only [e1]
    obtain ⟨kn, hk1, hk2⟩ : ∃ kn : Nat, (IntKind.u64.wrap at_).tmod ((8 * b.length : Nat) : Int) = (kn : Int) ∧ kn < 8 * b.length := by
      have h0 : 0 ≤ IntKind.u64.wrap at_ := by rw [IntKind.wrap_u64]; omega
      rw [Int.tmod_eq_emod_of_nonneg h0]
      have hp : (0 : Int) < ((8 * b.length : Nat) : Int) := by omega
      have h3 := Int.emod_nonneg (IntKind.u64.wrap at_) (show ((8 * b.length : Nat) : Int) ≠ 0 by omega)
      have h4 := Int.emod_lt_of_pos (IntKind.u64.wrap at_) hp
      generalize (IntKind.u64.wrap at_) % ((8 * b.length : Nat) : Int) = z at h3 h4
      exact ⟨z.toNat, by omega, by omega⟩
    have e2 : IntKind.i64.wrap (kn : Int) = (kn : Int) := w64 (by omega)
    simp only [hk1, e2]
    have e3 : IntKind.i64.wrap (((kn : Nat) : Int).tdiv 8) = ((kn / 8 : Nat) : Int) := by rw [tdiv8, w64 (by omega)]
    simp only [e3, tmod8, Int.toNat_natCast]
    have hq : kn / 8 < b.length := by omega
    rw [cpos (by omega), cpos (by simp only [Int.ofNat_eq_natCast]; omega), cpos hq, cpos (by omega), cpos (by simp only [Int.ofNat_eq_natCast]; omega), cpos hq]
    obtain ⟨x, hx, hxe⟩ := bytesN_get hbytes hq
    rw [getD_of hq, hxe]
    have hft := flip_tab ⟨x, hx⟩ ⟨kn % 8, Nat.mod_lt _ (by omega)⟩
    simp only at hft
    obtain ⟨f1, f2, f3⟩ := hft
    rw [f1]
    generalize x ^^^ 2 ^ (kn % 8) = v at f2 f3
    have hb' : bytesN (b.set (kn / 8) (v : Int)) = true := by
      refine List.all_eq_true.2 fun y hy => ?_
      rcases List.mem_or_eq_of_mem_set hy with hy | rfl
      · exact List.all_eq_true.1 hbytes y hy
      · rw [Bool.and_eq_true, decide_eq_true_eq, decide_eq_true_eq]; omega
    have hl' : (b.set (kn / 8) (v : Int)).length = b.length := List.length_set
    have hcrc' : crc16 (b.set (kn / 8) (v : Int)) ≠ 0 := by
      rw [← hz]
      unfold crc16
      have hne : natsOf (b.set (kn / 8) (v : Int)) = (natsOf b).set (kn / 8) v := by
        unfold natsOf
        rw [List.map_set]
        simp
      rw [hne]
      have hnl : kn / 8 < (natsOf b).length := by unfold natsOf; rw [List.length_map]; exact hq
      have hng : (natsOf b)[kn / 8] = x := by
        have e : (natsOf b)[kn / 8] = (b[kn / 8]).toNat := List.getElem_map (h := hnl) Int.toNat
        rw [e, hxe, Int.toNat_natCast]
      exact crc_differ (natsOf b) 0 (kn / 8) v hnl (natsOf_lt hbytes) f2 (by omega) (by rw [hng]; exact f3)
    refine (bind_of (f18_spec k c d r hb' (by omega) (by omega)) _).trans ?_
    have hre := read_err (c := c) (d := d) (r := r) (b := b.set (kn / 8) (v : Int))
    have hrc := read_crc (c := c) (d := d) (r := r) hb'
    rw [hl'] at hrc ⊢
    generalize readS c d r (b.set (kn / 8) (v : Int)) = R at hre hrc
    unfold packR
    simp only
    rw [int_bne]
    by_cases h0 : R.2.2 = 0
    · rw [cneg (by simpa using h0), int_bne, decide_eq_true]
      intro hh
      exact hcrc' (hrc h0 hh)
    · rw [cpos h0, int_beq, cpos (hre h0)]
  · rw [cpos he]
end Go.Sh
namespace Go.Sh
open Go Go.Proofs
theorem sum_le {α : Type} (f : α → Nat) : ∀ (l : List α), (∀ x ∈ l, 1 ≤ f x) → l.length ≤ (l.map f).sum ∧ ∀ x ∈ l, f x ≤ (l.map f).sum
  | [], _ => ⟨Nat.le_refl _, by simp⟩
  | a :: l, h => by
    obtain ⟨h1, h2⟩ := sum_le f l fun x hx => h x (List.mem_cons_of_mem _ hx)
    have h3 := h a (List.mem_cons_self ..)
    simp only [List.length_cons, List.map_cons, List.sum_cons]
    refine ⟨by omega, fun x hx => ?_⟩
    rcases List.mem_cons.1 hx with rfl | hx
    · omega
    · have := h2 x hx; omega
theorem frame_small {n : Int} {ch : List (List Int)} (h : Ty.bulk frameT (n, ch, ()) ≤ 1048576) : Sm ch := by
  have h1 : (1 : Nat) + (((ch.map (Ty.bulk (.sl (.int .i64)))).sum + 1) + 0) ≤ 1048576 := h
  have s := sum_le (Ty.bulk (.sl (.int .i64))) ch (fun x _ => by simp only [Ty.bulk]; omega)
  refine ⟨by omega, fun x hx => ?_⟩
  have h2 := s.2 x hx
  have h3 : Ty.bulk (.sl (.int .i64)) x = (x.map (Ty.bulk (.int .i64))).sum + 1 := rfl
  have h4 := sum_le (Ty.bulk (.int .i64)) x (fun y _ => by simp only [Ty.bulk]; omega)
  omega
theorem tells_plain : ∀ x : Kd.dens (viewKs [shapeT, frameT, .int .i64]), okAll [shapeT, frameT, .int .i64] x → bulkAll [shapeT, frameT, .int .i64] x ≤ 1048576 → ∃ k u, f6_F k x = some (true, u) := by
  rintro ⟨⟨c, d, r, ⟨⟩⟩, ⟨n, ch, ⟨⟩⟩, at_, ⟨⟩⟩ _ hb
  have hb : _ + (Ty.bulk frameT (n, ch, ()) + _) ≤ 1048576 := hb
  exact ⟨4000000, (), f6_spec 4000000 (by omega) c d r n (frame_small (n := n) (by omega)) at_⟩
end Go.Sh
