/-
  What the row needs, part 12.
-/
import Derived.Test.YtmeahimfdhdggaaGreatDoorXFrameSmall11
import Derived.ChangeArms
import Derived.ChangeShapes
import Derived.WideShapes
import Derived.ReadAgain
import Derived.Below
import Derived.ChangeSame
import Derived.RowKit
set_option linter.unusedSimpArgs false
set_option linter.unusedVariables false
set_option linter.unusedSectionVars false
namespace Go.Sh
open Go Go.RowKit Go.WideShapes Go.ChangeShapes
def fitsF (P : Program) (g : TypeId → Ty → Bool) : Nat → List Field → Ty → Bool
  | _, [], .unit => true
  | off, f :: l, .pair a b => Nat.beq f.offset off && g f.type a && Nat.beq (P.cellsOf f.type) a.size && fitsF P g (off + a.size) l b
  | _, _, _ => false
def fitsT (P : Program) : Nat → TypeId → Ty → Bool
  | 0, _, _ => false
  | n + 1, T, t => match P.underlying T, t with
    | some .bool, .bool => true
    | some (.int k), .int k' => decide (k = k')
    | some .string, .str => true
    | some (.slice e), .sl t => fitsT P n e t && Nat.beq (P.cellsOf e) t.size && Nat.ble 1 t.size
    | some (.struct fs), .pair a b => fitsF P (fitsT P n) 0 fs.toList (.pair a b) && Nat.beq (P.cellsOf T) (Ty.size (.pair a b))
    | some (.struct fs), .unit => fitsF P (fitsT P n) 0 fs.toList .unit && Nat.beq (P.cellsOf T) 0
    | _, _ => false
def Ty.bulk : (t : Ty) → t.den → Nat
  | .str, s => s.size + 1
  | .sl t, xs => (xs.map t.bulk).sum + 1
  | .pair a b, x => a.bulk x.1 + b.bulk x.2
  | .unit, _ => 0
  | .bool, _ => 1
  | .int _, _ => 1
  | .fl _, _ => 1
  | .cx _, _ => 1
  | .raw, _ => 1
def Ty.ok : (t : Ty) → t.den → Prop
  | .int k, n => k.min ≤ n ∧ n ≤ k.max
  | .sl t, xs => ∀ x ∈ xs, t.ok x
  | .pair a b, x => a.ok x.1 ∧ b.ok x.2
  | .bool, _ => True
  | .str, _ => True
  | .fl _, _ => True
  | .cx _, _ => True
  | .raw, _ => True
  | .unit, _ => True
mutual
def bulkD {H : Type} : DataW H → Nat
  | .lit (.string bytes) => bytes.length + 1
  | .lit _ => 1
  | .nil => 1
  | .ptr d => bulkD d + 1
  | .slice elems spare => bulkDs elems + bulkDs spare + 1
  | .agg parts => bulkDs parts + 1
  | .iface _ d => bulkD d + 1
  | .map entries => bulkEs entries + 1
  | .held _ => 1
def bulkDs {H : Type} : List (DataW H) → Nat
  | [] => 0
  | d :: r => bulkD d + bulkDs r
def bulkEs {H : Type} : List (Lit × DataW H) → Nat
  | [] => 0
  | x :: r => bulkE x + bulkEs r
def bulkE {H : Type} : Lit × DataW H → Nat
  | (.string bytes, d) => bytes.length + bulkD d + 1
  | (_, d) => bulkD d + 1
end
def whole (w : World) (b : Nat) : Nat := match w.heap[b]? with
  | some (.cells c _ _) => c.size
  | _ => 0
theorem whole_lt {w : World} {b o : Nat} {v : Value} (h : w.cell? ⟨b, o, none⟩ = some v) : o < whole w b := by
  unfold World.cell? at h
  unfold whole
  split at h
  · rename_i c _ _ hb
    simp only at hb
    rw [hb]
    simp only [Option.isSome_none, Bool.false_eq_true, if_false] at h
    exact (Array.getElem?_eq_some_iff.1 h).1
  · cases h
theorem whole_lz (w : World) : ∀ b, w.heap.size ≤ b → whole w b = 0 := by
  intro b hb
  unfold whole
  rw [Array.getElem?_eq_none hb]
theorem cells?_at {w : World} {base n : Nat} {a : Addr} {cs : List Value} (h : w.cells? base a n = some cs) : cs.length = n ∧ ∀ i v, cs[i]? = some v → w.cell? (a.add i) = some v := by
  unfold World.cells? at h
  split at h
  · have hl := mapM_some_length h
    simp only [List.length_range] at hl
    refine ⟨hl, fun i v hi => ?_⟩
    have hlt : i < n := by have := (List.getElem?_eq_some_iff.1 hi).1; omega
    have := mapM_some_get h i i (by simp [hlt])
    rw [this, hi]
  · cases h
section
variable {H : Type} {enc : TypeId × Value → H} {P : Program} {w : World} {base : Nat} {spare : Nat → Bool} {held : Bool}
theorem rt_fields {n n' : Nat} (ih : ∀ (T : TypeId) (t : Ty) (cs : List Value) (x : DataW H × List MemPlace), fitsT P n T t = true → DataW.trod enc P w base spare held n' T cs = some x → ∃ y, Rt w (whole w) t y cs ∧ t.ok y ∧ t.bulk y ≤ bulkD x.1) :
    ∀ (l : List Field) (t : Ty) (off : Nat) (cs : List Value) (xs : List (DataW H × List MemPlace)), fitsF P (fitsT P n) off l t = true → cs.length = off + t.size →
      (∀ (i : Nat) (f : Field), l[i]? = some f → DataW.trod enc P w base spare held n' f.type ((cs.drop f.offset).take (P.cellsOf f.type)) = xs[i]?) → xs.length = l.length →
      ∃ y, Rt w (whole w) t y (cs.drop off) ∧ t.ok y ∧ t.bulk y ≤ bulkDs (xs.map (·.1))
  | [], t, off, cs, xs, h, hl, hx, hn => by
    match t, h with
    | .unit, h =>
      refine ⟨(), ?_, trivial, Nat.zero_le _⟩
      simp only [Rt, List.drop_eq_nil_iff]
      simp [Ty.size] at hl; omega
  | f :: l, t, off, cs, xs, h, hl, hx, hn => by
    match t, h with
    | .pair a b, h =>
      simp only [fitsF, Bool.and_eq_true] at h
      obtain ⟨⟨⟨h1, h2⟩, h3⟩, h4⟩ := h
      match xs, hn with
      | x :: xs, hn =>
        have h0 := hx 0 f rfl
        rw [beq_eq h1, beq_eq h3] at h0
        simp only [List.getElem?_cons_zero] at h0
        obtain ⟨y, e1, e2, e3⟩ := ih f.type a _ x h2 h0
        simp only [Ty.size] at hl
        obtain ⟨z, g1, g2, g3⟩ := rt_fields ih l b (off + a.size) cs xs h4 (by omega) (fun i f' hf' => by simpa using hx (i + 1) f' (by simpa using hf')) (by simpa using hn)
        refine ⟨(y, z), ?_, ⟨e2, g2⟩, ?_⟩
        · simp only [Rt]
          refine ⟨_, _, ?_, e1, g1⟩
          rw [← List.drop_drop, List.take_append_drop]
        · simp only [Ty.bulk, List.map_cons, bulkDs]; omega
theorem rt_of_trod : ∀ (n m : Nat) (T : TypeId) (t : Ty) (cs : List Value) (x : DataW H × List MemPlace), fitsT P m T t = true → DataW.trod enc P w base spare held n T cs = some x →
    ∃ y, Rt w (whole w) t y cs ∧ t.ok y ∧ t.bulk y ≤ bulkD x.1
  | 0, _, _, _, _, _, _, h => by simp [DataW.trod] at h
  | n + 1, 0, _, _, _, _, hf, _ => by simp [fitsT] at hf
  | n + 1, m + 1, T, t, cs, x, hf, h => by
    unfold fitsT at hf
    split at hf
    · rename_i hu
      obtain ⟨b, rfl, rfl⟩ := DataW.trod_bool hu h
      exact ⟨b, rfl, trivial, Nat.le_refl _⟩
    · rename_i k k' hu
      obtain rfl : k = k' := of_decide_eq_true hf
      obtain ⟨v, rfl, rfl, hw⟩ := DataW.trod_int hu h
      refine ⟨v, rfl, ?_, Nat.le_refl _⟩
      simpa [Ty.ok, Lit.wf] using hw
    · rename_i hu
      obtain ⟨s, rfl, rfl, _⟩ := DataW.trod_string hu h
      refine ⟨s, rfl, trivial, ?_⟩
      simp only [Ty.bulk, bulkD, Array.length_toList]
      exact Nat.le_refl _
    · rename_i e t hu
      simp only [Bool.and_eq_true] at hf
      obtain ⟨⟨hf, hsz⟩, hpos⟩ := hf
      have hsz := beq_eq hsz
      have hpos : 1 ≤ t.size := Nat.le_of_ble_eq_true hpos
      rcases DataW.trod_slice hu h with ⟨rfl, rfl⟩ | ⟨a, len, cap, elems, rest, n', hn', rfl, rfl, hb, hlc, _, hlen, hel, _⟩
      · refine ⟨[], ?_, (by simp [Ty.ok] : Ty.ok (.sl t) []), (by simp [Ty.bulk, bulkD])⟩
        simp only [Rt]
        exact ⟨none, 0, 0, rfl, rfl, Nat.le_refl _, .inl trivial⟩
      · obtain rfl : n' = n := by omega
        have each : ∀ i (hi : i < elems.length), ∃ cs', w.cells? base (a.add (i * P.cellsOf e)) (P.cellsOf e) = some cs' ∧ ∃ y, Rt w (whole w) t y cs' ∧ t.ok y ∧ t.bulk y ≤ bulkD elems[i].1 := by
          intro i hi
          have h1 := hel i (by omega)
          rw [List.getElem?_eq_getElem hi] at h1
          obtain ⟨cs', h2, h3⟩ := Option.bind_eq_some_iff.1 h1
          exact ⟨cs', h2, rt_of_trod n' m e t cs' _ hf h3⟩
        -- the list
        have all : ∀ (l : List (DataW H × List MemPlace)), (∀ i (hi : i < l.length), ∃ y, (∃ cs', w.cells? base (a.add ((elems.length - l.length + i) * P.cellsOf e)) (P.cellsOf e) = some cs' ∧ Rt w (whole w) t y cs') ∧ t.ok y ∧ t.bulk y ≤ bulkD l[i].1) →
            l.length ≤ elems.length → ∃ ys : List t.den, ys.length = l.length ∧ (∀ y ∈ ys, t.ok y) ∧ (ys.map t.bulk).sum ≤ bulkDs (l.map (·.1)) ∧
              ∀ i (hi : i < ys.length), ∃ cs', w.cells? base (a.add ((elems.length - l.length + i) * P.cellsOf e)) (P.cellsOf e) = some cs' ∧ Rt w (whole w) t ys[i] cs' := by
          intro l
          induction l with
          | nil => intro _ _; exact ⟨[], rfl, by simp, by simp [bulkDs], fun i hi => by simp at hi⟩
          | cons p l ih =>
            intro hp hle
            simp only [List.length_cons] at hle
            obtain ⟨y, ⟨cs', c1, c2⟩, y1, y2⟩ := hp 0 (by simp)
            obtain ⟨ys, k1, k2, k3, k4⟩ := ih (fun i hi => by
              obtain ⟨y, ⟨cs', c1, c2⟩, y1, y2⟩ := hp (i + 1) (by simpa using hi)
              refine ⟨y, ⟨cs', ?_, c2⟩, y1, by simpa using y2⟩
              rw [← c1]; congr 3; simp only [List.length_cons]; omega) (by omega)
            refine ⟨y :: ys, by simp [k1], ?_, ?_, ?_⟩
            · intro z hz
              rcases List.mem_cons.1 hz with rfl | hz
              · exact y1
              · exact k2 z hz
            · simp only [List.map_cons, List.sum_cons, bulkDs]
              simp only [List.getElem_cons_zero] at y2
              omega
            · intro i hi
              cases i with
              | zero => exact ⟨cs', c1, c2⟩
              | succ i =>
                obtain ⟨cs'', d1, d2⟩ := k4 i (by simpa using hi)
                refine ⟨cs'', ?_, by simpa using d2⟩
                rw [← d1]; congr 3; simp only [List.length_cons]; omega
        obtain ⟨ys, k1, k2, k3, k4⟩ := all elems (fun i hi => by
          obtain ⟨cs', c1, y, c2, c3, c4⟩ := each i hi
          exact ⟨y, ⟨cs', by simpa using c1, c2⟩, c3, c4⟩) (Nat.le_refl _)
        simp only [Nat.sub_self, Nat.zero_add] at k4
        refine ⟨ys, ?_, k2, ?_⟩
        · simp only [Rt]
          refine ⟨some a, len, cap, rfl, by omega, hlc, ?_⟩
          by_cases hnil : ys = []
          · exact .inl hnil
          · right
            have h0 : 0 < ys.length := List.length_pos_iff.2 hnil
            obtain ⟨c0, z1, z2⟩ := k4 0 h0
            obtain ⟨zl, zc⟩ := cells?_at z1
            obtain ⟨v0, hv0⟩ : ∃ v0, c0[0]? = some v0 := ⟨c0[0]'(by omega), List.getElem?_eq_getElem _⟩
            have hs := zc 0 v0 hv0
            simp only [Nat.zero_mul, Addr.add, if_true] at hs
            obtain ⟨b, off, spot⟩ := a
            have hspot : spot = none := by
              cases spot with
              | none => rfl
              | some s =>
                unfold World.cell? at hs
                split at hs
                · simp at hs
                · cases hs
            subst hspot
            refine ⟨b, off, rfl, fun i hi => ?_⟩
            obtain ⟨cs', d1, d2⟩ := k4 i hi
            refine ⟨cs', d2, fun j v hj => ?_⟩
            obtain ⟨_, zc⟩ := cells?_at d1
            have hc := zc j v hj
            have e : ((⟨b, off, none⟩ : Addr).add (i * P.cellsOf e)).add j = ⟨b, off + i * t.size + j, none⟩ := by
              rw [hsz]
              unfold Addr.add
              split <;> split <;> simp_all <;> omega
            rw [e] at hc
            exact ⟨hc, whole_lt hc⟩
        · simp only [Ty.bulk, bulkD]
          omega
    · rename_i fs a b hu
      simp only [Bool.and_eq_true] at hf
      obtain ⟨hf, hsz⟩ := hf
      obtain ⟨xs, n', hn', rfl, hl, hxs, hget⟩ := DataW.trod_struct hu h
      obtain rfl : n' = n := by omega
      obtain ⟨y, e1, e2, e3⟩ := rt_fields (n := m) (n' := n') (fun T t cs x h1 h2 => rt_of_trod n' m T t cs x h1 h2) fs.toList (.pair a b) 0 cs xs hf (by rw [hl, beq_eq hsz]; omega) (fun i f hi => hget i f (by simpa using hi)) (by simpa using hxs)
      exact ⟨y, by simpa using e1, e2, by simp only [bulkD]; omega⟩
    · rename_i fs hu
      simp only [Bool.and_eq_true] at hf
      obtain ⟨hf, hsz⟩ := hf
      obtain ⟨xs, n', hn', rfl, hl, hxs, hget⟩ := DataW.trod_struct hu h
      refine ⟨(), ?_, trivial, Nat.zero_le _⟩
      simp only [Rt]
      rw [beq_eq hsz] at hl
      exact List.length_eq_zero_iff.1 hl
    · cases hf
end
end Go.Sh
namespace Go.Sh
open Go Go.RowKit Go.WideShapes Go.ChangeShapes
def viewKs (tys : List Ty) : List Kd := tys.map .view
def okAll : (tys : List Ty) → Kd.dens (viewKs tys) → Prop
  | [], _ => True
  | t :: l, x => t.ok x.1 ∧ okAll l x.2
def bulkAll : (tys : List Ty) → Kd.dens (viewKs tys) → Nat
  | [], _ => 0
  | t :: l, x => t.bulk x.1 + bulkAll l x.2
def fitsTs (P : Program) : List TypeId → List Ty → Bool
  | [], [] => true
  | T :: Ts, t :: ts => fitsT P 16 T t && fitsTs P Ts ts
  | _, _ => false
section
variable {H : Type} {enc : TypeId × Value → H} {P : Program} {w : World} {base : Nat} {spare : Nat → Bool} {held : Bool}
theorem cells_noAgg {v : Value} (h : ∀ cs, v ≠ .agg cs) : v.cells = #[v] := by
  cases v <;> first | rfl | (exact absurd rfl (h _))
theorem view_of_trod {b0 n : Nat} {r : Reach} {T : TypeId} {t : Ty} {v : Value} {d : DataW H} {ps : List MemPlace} (hval : Value.okWide P w r b0 T v) (h : DataW.Trod enc P w base spare held T v d ps) (hf : fitsT P n T t = true) :
    ∃ y, viewT w (whole w) t y v ∧ t.ok y ∧ t.bulk y ≤ bulkD d := by
  obtain ⟨m, hm⟩ := h
  obtain ⟨y, h1, h2, h3⟩ := rt_of_trod m n T t _ _ hf hm
  refine ⟨y, ⟨_, h1, ?_⟩, h2, h3⟩
  cases n with
  | zero => simp [fitsT] at hf
  | succ n =>
    unfold Value.okWide at hval
    unfold fitsT at hf
    split at hf <;> rename_i hu <;> try (cases hf; done)
    all_goals
      rw [hu] at hval
      simp only at hval
    · refine .inr ⟨rfl, ?_⟩
      rw [cells_noAgg]; rintro cs rfl; simp [Cell.okWide, Cell.ok, hu] at hval
    · refine .inr ⟨rfl, ?_⟩
      rw [cells_noAgg]; rintro cs rfl; simp [Cell.okWide, Cell.ok, hu] at hval
    · refine .inr ⟨rfl, ?_⟩
      rw [cells_noAgg]; rintro cs rfl; simp [Cell.okWide, Cell.ok, hu] at hval
    · refine .inr ⟨rfl, ?_⟩
      rw [cells_noAgg]; rintro cs rfl; simp [Cell.okWide, Cell.ok, hu] at hval
    · obtain ⟨cs, rfl, _⟩ := hval
      exact .inl ⟨rfl, rfl⟩
    · obtain ⟨cs, rfl, _⟩ := hval
      exact .inl ⟨rfl, rfl⟩
theorem views_of_trods {b0 : Nat} {r : Reach} : ∀ {Ts : List TypeId} {tys : List Ty} {vs : List Value} {ds : List (DataW H)} {ps : List MemPlace}, fitsTs P Ts tys = true →
    (∀ (j : Nat) t v, Ts[j]? = some t → vs[j]? = some v → Value.okWide P w r b0 t v) → DataW.TrodAll enc P w base spare held Ts vs ds ps →
    ∃ x : Kd.dens (viewKs tys), TTs w (whole w) (encs (viewKs tys) x) vs [] ∧ okAll tys x ∧ bulkAll tys x ≤ bulkDs ds
  | [], [], vs, ds, ps, _, _, h => by
    obtain ⟨rfl, rfl, rfl⟩ := trodAll_nil h
    exact ⟨(), rfl, trivial, Nat.le_refl _⟩
  | T :: Ts, t :: tys, vs, ds, ps, hf, hval, h => by
    simp only [fitsTs, Bool.and_eq_true] at hf
    obtain ⟨v, vs', d, ds', p, q, rfl, rfl, rfl, h1, h2⟩ := trodAll_cons h
    obtain ⟨y, e1, e2, e3⟩ := view_of_trod (hval 0 T v rfl rfl) h1 hf.1
    obtain ⟨x, g1, g2, g3⟩ := views_of_trods hf.2 (fun j t v ht hv => hval (j + 1) t v (by simpa using ht) (by simpa using hv)) h2
    refine ⟨(y, x), ?_, ⟨e2, g2⟩, ?_⟩
    · exact ⟨[], [], rfl, ⟨e1, rfl⟩, g1⟩
    · simp only [bulkAll, bulkDs]; omega
  | [], _ :: _, _, _, _, hf, _, _ => by simp [fitsTs] at hf
  | _ :: _, [], _, _, _, hf, _, _ => by simp [fitsTs] at hf
end
section
variable {H : Type} {enc : TypeId × Value → H} {P : Program}
theorem post_of_below' {f : Func} {s : ChangeSpec} {apart fresh handsOn again : Bool} {W W' : World} {args : Array Value} {v : Value} {ds gs : List (DataW H)} {before pa pv : List MemPlace}
    (hW : DataW.Whole enc P f.params.toList s.vars apart W args.toList ds gs before)
    (hres : ∀ (b : Nat) (sp : Nat → Bool) (hd : Bool), DataW.TrodAll enc P W' b sp hd f.resultTypes.toList (v.resultList f.resultTypes.size) (s.fn H (ds ++ gs)).results [])
    (hargs : ∀ sp : Nat → Bool, (∀ p ∈ before, sp p.block = true) → DataW.TrodAll enc P W' 0 sp true f.params.toList args.toList (s.fn H (ds ++ gs)).args pa)
    (hvars : ∀ sp : Nat → Bool, (∀ p ∈ before, sp p.block = true) → DataW.TrodVars enc P W' sp s.vars (s.fn H (ds ++ gs)).vars pv)
    (hps : before = pa ++ pv) (hb : Below W.heap.size W W')
    (hok : ∀ (j : Nat) (t : TypeId) (r : Value), f.resultTypes[j]? = some t → (v.resultList f.resultTypes.size)[j]? = some r → Value.okWide P W' .any 0 t r) :
    s.post enc P f apart fresh handsOn again W args v W' := by
  have hlt : ∀ p ∈ before, p.block < W.heap.size := fun p hp => hW.lt p hp
  have hold : ∀ p ∈ before, (fun b => decide (b < W.heap.size)) p.block = true := fun p hp => by simpa using hlt p hp
  refine ⟨ds, gs, before, [], pa, pv, hW, hres _ _ _, hargs _ hold, hvars _ hold, World.keptBut_mono (fun p hp => ⟨hp, ?_⟩) (hb.frame (· ∈ before)), fun _ => ?_⟩
  · rw [hps, List.mem_append] at hp
    exact Or.inr hp
  · obtain ⟨_, _, _, _, _, hz, hn⟩ := hW
    refine ⟨hok, _, _, ([] ++ pa) ++ pv, ⟨[] ++ pa, pv, trodAll_append (hargs _ (fun _ _ => rfl)) (hres _ _ _), hvars _ (fun _ _ => rfl), rfl, ?_, ?_⟩, ?_⟩
    · intro b off hp
      have hin : MemPlace.cell b off ∈ before := by rw [hps]; simpa using hp
      rw [hb.frozen (hlt _ hin)]
      exact hz b off hin
    · intro ha
      have := hn ha
      rw [hps] at this
      simpa using this
    · intro p hp _
      rw [hps]
      simpa using hp
theorem trodAll_carry {w w' : World} {base : Nat} {spare : Nat → Bool} {held : Bool} : ∀ {ts : List TypeId} {vs : List Value} {ds : List (DataW H)} {ps : List MemPlace},
    DataW.TrodAll enc P w base spare held ts vs ds ps → (∀ p ∈ ps, w.sameAt w' p) → DataW.TrodAll enc P w' base spare held ts vs ds ps
  | [], [], [], _, h, _ => h
  | _ :: _, _ :: _, _ :: _, _, ⟨p, q, ⟨n, h1⟩, h2, e⟩, hs => ⟨p, q, ⟨n, DataW.trod_carry n _ _ _ h1 (fun x hx => hs x (by rw [e]; exact List.mem_append_left _ hx))⟩,
      trodAll_carry h2 (fun x hx => hs x (by rw [e]; exact List.mem_append_right _ hx)), e⟩
variable [Gl]
theorem law_contract {K : FuncId} {fn : Func} {spec : ChangeSpec} {B : TypeId} (tys : List Ty) {F : Nat → Kd.dens (viewKs tys) → Option (Ans (viewKs tys) (.view .bool))} {bound : Nat}
    (hl : laidOutB P = true) (hm : mapsRowed P = true) (hz : ((List.range P.types.size).all fun t => match P.underlying t with | some (.slice e) => decide (0 < P.cellsOf e) | _ => true) = true)
    (hts : fn.params.toList.all (fun t => decide (t < P.types.size)) = true) (hfit : fitsTs P fn.params.toList tys = true) (hres : fn.resultTypes = #[B]) (hB : P.underlying B = some .bool)
    (hvars : spec.vars = []) (hspec : ∀ (H : Type) (ds : List (DataW H)), ds.length = tys.length → spec.fn H ds = { results := [.lit (.bool true)], args := ds })
    (hctr : ∀ k, Ctr P k K (mk (viewKs tys) (.view .bool) F)) (plain : ∀ x : Kd.dens (viewKs tys), okAll tys x → bulkAll tys x ≤ bound → ∃ k u, F k x = some (true, u))
    (enc : TypeId × Value → H) (W : World) (b0 : Nat) (args : Array Value) (ds gs : List (DataW H)) (before : List MemPlace)
    (hval : ∀ (j : Nat) t v, fn.params[j]? = some t → args[j]? = some v → Value.okWide P W .any b0 t v)
    (hW : DataW.Whole enc P fn.params.toList spec.vars false W args.toList ds gs before) (hk : bulkDs (ds ++ gs) ≤ bound) (hgl : Lies W (whole W)) :
    Calls P K args W fun e W' => ∃ v, e = .returned v ∧ spec.post enc P fn false true false false W args v W' := by
  have hW' := hW
  obtain ⟨p, q, hA, hV, he, hfz, hnd⟩ := hW
  rw [hvars] at hV
  have hgs : gs = [] ∧ q = [] := by
    match gs, hV with
    | [], hV => exact ⟨rfl, hV⟩
    | _ :: _, hV => exact hV.elim
  obtain ⟨rfl, rfl⟩ := hgs
  simp only [List.append_nil] at he hk
  obtain rfl : p = before := he.symm
  obtain ⟨x, h1, h2, h3⟩ := views_of_trods (tys := tys) hfit (fun j t v ht hv => hval j t v (by simpa using ht) (by simpa using hv)) hA
  obtain ⟨k, u, hF⟩ := plain x h2 (by omega)
  have hlen : ds.length = tys.length := by
    have e1 : ∀ {Ts : List TypeId} {tys : List Ty} {vs : List Value} {ds : List (DataW H)} {ps : List MemPlace}, fitsTs P Ts tys = true → DataW.TrodAll enc P W 0 (fun _ => true) true Ts vs ds ps → ds.length = tys.length := by
      intro Ts
      induction Ts with
      | nil =>
        intro tys vs ds ps hf h
        obtain ⟨rfl, rfl, rfl⟩ := trodAll_nil h
        cases tys with
        | nil => rfl
        | cons => simp [fitsTs] at hf
      | cons T Ts ih =>
        intro tys vs ds ps hf h
        obtain ⟨v, vs', d, ds', p, q, rfl, rfl, rfl, h1, h2⟩ := trodAll_cons h
        cases tys with
        | nil => simp [fitsTs] at hf
        | cons t tys =>
          simp only [fitsTs, Bool.and_eq_true] at hf
          simp [ih hf.2 h2]
    exact e1 hfit hA
  have hcall := (hctr k).calls (encs (viewKs tys) x) (true, u) (by
    have hd : decs (viewKs tys) (encs (viewKs tys) x) = some x := by
      have e2 : ∀ (l : List Ty) (x : Kd.dens (viewKs l)), decs (viewKs l) (encs (viewKs l) x) = some x := by
        intro l
        induction l with
        | nil => intro x; rfl
        | cons t l ih =>
          intro x
          obtain ⟨y, ys⟩ := x
          show ((asView t (.view t y)).bind fun y => (decs (viewKs l) (encs (viewKs l) ys)).bind fun ys => some (y, ys)) = _
          rw [ih ys]
          simp only [asView, dite_true]
          rfl
      exact e2 tys x
    show (decs (viewKs tys) (encs (viewKs tys) x)).bind (F k) = some (true, u)
    rw [hd]; exact hF) W (whole W) args.toList [] (whole_lz W) hgl h1 List.nodup_nil (by simp)
  rw [Array.toArray_toList] at hcall
  refine hcall.mono fun e W' h => ?_
  obtain ⟨v, lim', b1, b2, rfl, hE, _, ⟨ho, ht, hout⟩, hold, hT, _⟩ := h
  have hv : v = .bool true := by
    have hT : viewT W' lim' .bool true v ∧ b1 = [] := hT
    obtain ⟨⟨cs, c1, c2⟩, _⟩ := hT
    rcases c2 with ⟨c2, _⟩ | ⟨_, c2⟩
    · cases c2
    · simp only [Rt] at c1
      subst c2
      simpa using c1
  subst hv
  have hBel : Below W.heap.size W W' := ⟨ho, ht, hout, hE.size, fun b hb => (hold b hb (by simp)).1⟩
  have hlt : ∀ x ∈ p, x.block < W.heap.size := fun x hx => hW'.lt x hx
  refine ⟨_, rfl, post_of_below' (pa := p) (pv := []) hW' (fun b sp hd => ?_) (fun sp hsp => ?_) (fun sp hsp => ?_) (by simp) hBel ?_⟩
  · rw [List.append_nil, hspec H ds hlen, hres]
    exact ⟨[], [], ⟨1, by simp [DataW.trod, Value.cells, hB]⟩, rfl, rfl⟩
  · rw [List.append_nil, hspec H ds hlen]
    refine trodAll_carry (w := W) (DataW.TrodAll.respare (kids_rows hl hm) (slices_full_of P hz) (fun t ht => ?_) hA hsp) (fun y hy => hBel.same (hlt y hy))
    simpa using List.all_eq_true.1 hts t ht
  · rw [List.append_nil, hspec H ds hlen, hvars]
    rfl
  · exact ok_one hres rfl (okWide_bool_mk hB true)
end
end Go.Sh
namespace Go.Sh
open Go Go.Proofs
theorem known_write : writeS 1 8 44100 0 [[5, 5, 5]] = ([255, 248, 96, 0, 0, 2, 228, 0, 5, 227, 208], 0) := by decide +kernel
theorem known_read : readS 1 8 44100 [255, 248, 96, 0, 0, 2, 228, 0, 5, 227, 208] = ((0, [[5, 5, 5]]), 11, 0) := by decide +kernel
theorem f10_spec (k : Nat) (hk : 200000 < k) : f10_F k () = some (true, ()) := by
  show f10_raw0 k _ = _
  simp only [f10_raw0]
  refine (bind_of (f14_spec k (by omega) 1 8 44100 0 [[5, 5, 5]]) _).trans ?_
  rw [known_write]
  simp only
  rw [show ((0 : Int) != 0) = false from rfl]
  simp only [cond_false]
  rw [show (Int.ofNat [(255 : Int), 248, 96, 0, 0, 2, 228, 0, 5, 227, 208].length != 11) = false from rfl]
  simp only [cond_false]
  rw [cpos (by simp)]
  rw [show (!(ByteArray.mk (List.map (fun n => UInt8.ofNat n.toNat) (List.drop 0 (List.take 6 [(255 : Int), 248, 96, 0, 0, 2, 228, 0, 5, 227, 208]))).toArray).toList == (ByteArray.mk #[255, 248, 96, 0, 0, 2]).toList) = false from by rw [ba_beq]; decide +kernel]
  simp only [cond_false]
  refine (bind_of (f18_spec k 1 8 44100 (b := [255, 248, 96, 0, 0, 2, 228, 0, 5, 227, 208]) (by decide) (by simp) (by simp; omega)) _).trans ?_
  rw [known_read]
  rfl
def Sm (ch : List (List Int)) : Prop := ch.length ≤ 1048576 ∧ ∀ l ∈ ch, l.length ≤ 1048576
theorem f15_spec (k : Nat) (hk : 2000000 < k) (n : Int) {ch : List (List Int)} (h : Sm ch) : f15_F k ((n, ch, ()), ()) = some ((n, ch, ()), ()) := by
  show f15_raw0 k (f15_L1 k) _ = _
  simp only [f15_raw0]
  have hs := h.1
  have := iter_list_inv (A := List (List Int)) (R := (Int × List (List Int) × Unit) × Unit) (step := fun L1 => f15_raw1 k L1) (fun i out => (Int.ofNat i, n, ch, n, out, (0 : Int))) ch
    (fun l' out => some ((n, out ++ l', ()), ())) (fun i out => out.length = i)
    (fun L out _ => by simp only [f15_raw1]; rw [cneg (nltR _), List.append_nil])
    (fun L i hi out ho hL => by
      have hl := h.2 ch[i] (List.getElem_mem hi)
      simp only [f15_raw1]
      rw [cpos (ltR hi), cpos (inR hi), getD_at hi]
      have e1 : IntKind.i64.wrap (Int.ofNat (List.length ch[i]) + 2) = ((ch[i].length + 2 : Nat) : Int) := by rw [w64 (by simp only [Int.ofNat_eq_natCast]; omega)]; rfl
      rw [e1, cpos (by omega), cpos (inR hi), cpos (by omega), cpos (by simp only [List.length_singleton]; omega), wnext hi (by omega), hL _ (by simp; omega)]
      simp)
    k 0 [] rfl (by omega) (Nat.zero_le _)
  rw [List.drop_zero, List.nil_append] at this
  exact this
theorem padded_len (B : List Bool) : (padded B).length % 8 = 0 ∧ (padded B).length = B.length + padN B.length := by
  unfold padded
  rw [List.length_append, List.length_replicate]
  unfold padN
  omega
theorem closed_len (B : List Bool) : (closed B).length % 8 = 0 ∧ (closed B).length = B.length + padN B.length + 16 := by
  have := padded_len B
  unfold closed
  rw [List.length_append, bitsOf_len]
  omega
end Go.Sh
namespace Go.Sh
open Go Go.Proofs
theorem sum_le {α : Type} (f : α → Nat) : ∀ (l : List α), (∀ x ∈ l, 1 ≤ f x) → l.length ≤ (l.map f).sum ∧ ∀ x ∈ l, f x ≤ (l.map f).sum
  | [], _ => ⟨Nat.le_refl _, by simp⟩
  | a :: l, h => by
    obtain ⟨h1, h2⟩ := sum_le f l fun x hx => h x (List.mem_cons_of_mem _ hx)
    have h3 := h a (List.mem_cons_self ..)
    simp only [List.length_cons, List.map_cons, List.sum_cons]
    refine ⟨by omega, fun x hx => ?_⟩
    rcases List.mem_cons.1 hx with rfl | hx
    · omega
    · have := h2 x hx; omega
theorem frame_small {n : Int} {ch : List (List Int)} (h : Ty.bulk frameT (n, ch, ()) ≤ 1048576) : Sm ch := by
  have h1 : (1 : Nat) + (((ch.map (Ty.bulk (.sl (.int .i64)))).sum + 1) + 0) ≤ 1048576 := h
  have s := sum_le (Ty.bulk (.sl (.int .i64))) ch (fun x _ => by simp only [Ty.bulk]; omega)
  refine ⟨by omega, fun x hx => ?_⟩
  have h2 := s.2 x hx
  have h3 : Ty.bulk (.sl (.int .i64)) x = (x.map (Ty.bulk (.int .i64))).sum + 1 := rfl
  have h4 := sum_le (Ty.bulk (.int .i64)) x (fun y _ => by simp only [Ty.bulk]; omega)
  omega
end Go.Sh
namespace Go.Sh
open Go Go.Proofs
theorem fixF_le {s : List Int} {d : Nat} : ∀ (e o : Nat) (b : Option Cand) (y : Cand), b = some y → ∃ z, fixF s d e o b = some z ∧ z.2.2.2.2 ≤ y.2.2.2.2
  | 0, _, b, y, h => ⟨y, h, Int.le_refl _⟩
  | e + 1, o, b, y, h => by
    obtain ⟨z, h1, h2⟩ := (takeC_le (x := fixC s d o)).1 y h
    obtain ⟨z', h3, h4⟩ := fixF_le e (o + 1) _ z h1
    exact ⟨z', h3, by omega⟩
theorem chooseC_first {s : List Int} {d : Nat} {y : Cand} (h : firstC s d = some y) : ∃ z, chooseC s d = some z ∧ z.2.2.2.2 ≤ y.2.2.2.2 := by
  obtain ⟨z0, h0, l0⟩ := (takeC_le (b := none) (x := firstC s d)).2 y h
  obtain ⟨z1, h1, l1⟩ := fixF_le (s := s) (d := d) (min 4 s.length + 1) 0 _ z0 h0
  obtain ⟨z2, h2, l2⟩ := (takeC_le (x := lpcC s d 2)).1 z1 h1
  obtain ⟨z3, h3, l3⟩ := (takeC_le (x := lpcC s d 4)).1 z2 h2
  obtain ⟨z4, h4, l4⟩ := (takeC_le (x := lpcC s d 8)).1 z3 h3
  obtain ⟨z5, h5, l5⟩ := (takeC_le (x := verbC s d)).1 z4 h4
  exact ⟨z5, h5, by omega⟩
theorem anyN_zeros : ∀ n v : Nat, v = 0 → (List.replicate n (0 : Int)).foldl (fun v x => v ||| lowW x) v = 0
  | 0, v, h => h
  | n + 1, v, h => by
    rw [List.replicate_succ, List.foldl_cons]
    exact anyN_zeros n _ (by rw [h]; rfl)
theorem wasted_zeros (n : Nat) : wastedS (List.replicate n 0) = 0 := by
  unfold wastedS
  rw [if_pos (show anyN (List.replicate n 0) = 0 from anyN_zeros n 0 rfl)]
theorem shift_zeros (n : Nat) : shiftS (List.replicate n 0) = List.replicate n 0 := by
  unfold shiftS
  rw [List.map_replicate, Int.zero_fdiv]
theorem sub_zeros {n d : Nat} (h1 : 1 ≤ n) (h2 : n ≤ 512) : (subBits (List.replicate n 0) d).length ≤ 8 + d := by
  obtain ⟨x, hx, _, _, hl, _⟩ := subBits_some (List.replicate n 0) d (by simpa using h1) (by simpa using h2)
  rw [wasted_zeros] at hx hl
  rw [shift_zeros, Nat.sub_zero] at hx
  have hf : firstC (List.replicate n 0) d = some (0, [], 0, [], (d : Int)) := by
    unfold firstC
    rw [if_pos]
    rw [List.all_eq_true]
    intro y hy
    obtain ⟨m, rfl⟩ : ∃ m, n = m + 1 := ⟨n - 1, by omega⟩
    have := List.eq_of_mem_replicate hy
    rw [decide_eq_true_eq, this]
    rfl
  obtain ⟨z, h3, h4⟩ := chooseC_first hf
  rw [hx] at h3
  obtain rfl := Option.some.inj h3
  simp only at h4
  omega
theorem write_bits {c d r n : Int} {ch : List (List Int)} (h : checkS c d r n ch = 0) {X : Nat} (hX : (chBits (layS ch).1 (depthsS c d (layS ch).2)).length ≤ X) :
    (writeS c d r n ch).1.length ≤ 16 + (X + 7) / 8 := by
  unfold writeS
  rw [if_pos h]
  have h3 := preBits_len (layS ch).2.toNat n.toNat (ch.headD []).length
  have h4 := codeL_len n.toNat
  have h5 := kindN_or (ch.headD []).length
  have h6 := closed_len (hdBits (layS ch).2.toNat n.toNat (ch.headD []).length ++ chBits (layS ch).1 (depthsS c d (layS ch).2))
  have h7 : (hdBits (layS ch).2.toNat n.toNat (ch.headD []).length ++ chBits (layS ch).1 (depthsS c d (layS ch).2)).length + padN (hdBits (layS ch).2.toNat n.toNat (ch.headD []).length ++ chBits (layS ch).1 (depthsS c d (layS ch).2)).length ≤ (hdBits (layS ch).2.toNat n.toNat (ch.headD []).length ++ chBits (layS ch).1 (depthsS c d (layS ch).2)).length + 7 := by unfold padN; omega
  simp only
  rw [pack_len]
  have h8 : (hdBits (layS ch).2.toNat n.toNat (ch.headD []).length).length = 8 * ((hdBits (layS ch).2.toNat n.toNat (ch.headD []).length).length / 8) := by
    unfold hdBits
    rw [List.length_append, bitsOf_len]
    omega
  have h9 : (hdBits (layS ch).2.toNat n.toNat (ch.headD []).length).length ≤ 112 := by
    unfold hdBits
    rw [List.length_append, bitsOf_len]
    omega
  rw [List.length_append] at h6 h7
  omega
theorem one_channel {n d : Nat} {ls : List (List Int)} {ds : List Int} (h : LayOk n d ls ds) (hn : 1 ≤ n) (hn2 : n ≤ 512) (hd1 : 4 ≤ d) (hd2 : d ≤ 24) : (chBits ls ds).length ≤ ls.length * (8 + n * (d + 1)) := by
  have one : ∀ (i : Nat) (h1 : i < ls.length) (h2 : i < ds.length), (subBits ls[i] ds[i].toNat).length ≤ 8 + n * (d + 1) := by
    intro i h1 h2
    obtain ⟨a, b, c⟩ := h.all i h1 h2
    have hw := wasted_lt (d := ds[i].toNat) (by omega) c
    have := subBits_len (s := ls[i]) (by omega) (by omega) hw
    have hm : ls[i].length * ds[i].toNat ≤ n * (d + 1) := Nat.mul_le_mul (by omega) (by omega)
    omega
  unfold chBits
  have hl := h.len
  rcases h.two with h2 | h2
  · match ls, ds, h2, hl, one with
    | [a], [x], _, _, one =>
      have := one 0 (by simp) (by simp)
      simp at this ⊢
      omega
  · match ls, ds, h2, hl, one with
    | [a, b], [x, y], _, _, one =>
      have h1 := one 0 (by simp) (by simp)
      have h2 := one 1 (by simp) (by simp)
      simp at h1 h2 ⊢
      omega
theorem apart_zeros (m : Int) (n : Nat) : apartA m (List.replicate n 0) (List.replicate n 0) = List.replicate n 0 ∧ apartB m (List.replicate n 0) (List.replicate n 0) = List.replicate n 0 := by
  have hz : (List.replicate n (0 : Int)).zip (List.replicate n (0 : Int)) = List.replicate n (0, 0) := by rw [List.zip_replicate, Nat.min_self]
  unfold apartA apartB
  rw [hz, List.map_replicate, List.map_replicate]
  refine ⟨?_, ?_⟩
  · congr 1
    unfold apA
    repeat' split
    all_goals rfl
  · congr 1
    unfold apB
    repeat' split
    all_goals rfl
theorem sgn_zero (d : Nat) (h : 1 ≤ d) : sgn 0 d = true := by
  unfold sgn
  rw [if_neg (by omega), decide_eq_true_eq]
  have : (0 : Int) < 2 ^ (d - 1) := Int.pow_pos (by omega)
  omega
theorem check_quiet {c d r n : Int} {ch : List (List Int)} (h : checkS c d r n ch = 0) : checkS c d r n (List.replicate c.toNat (List.replicate (ch.headD []).length 0)) = 0 := by
  obtain ⟨hs, hn, hc, hlen, hsg⟩ := check_zero h
  have hN : 1 ≤ (ch.headD []).length ∧ (ch.headD []).length ≤ 512 := by
    have : 0 < ch.length := by omega
    match ch, this with
    | l :: _, _ => exact (hlen l (by simp)).2
  generalize (ch.headD []).length = N at hN
  obtain ⟨cn, hcn⟩ := Int.eq_ofNat_of_zero_le (show 0 ≤ c by omega)
  unfold checkS
  have hsh : shapeB c d r = true := decide_eq_true hs
  rw [if_neg (by rw [hsh]; simp), if_neg (by rw [List.length_replicate]; omega)]
  have hhd : (List.replicate c.toNat (List.replicate N (0 : Int))).headD [] = List.replicate N 0 := by
    obtain ⟨m, hm⟩ : ∃ m, c.toNat = m + 1 := ⟨c.toNat - 1, by omega⟩
    rw [hm]; rfl
  rw [hhd, List.length_replicate]
  have e1 : (List.replicate c.toNat (List.replicate N (0 : Int))).all (lenOkB N) = true := by
    rw [List.all_eq_true]
    intro x hx
    rw [List.eq_of_mem_replicate hx]
    unfold lenOkB
    rw [decide_eq_true_eq, List.length_replicate]
    omega
  have e2 : (List.replicate c.toNat (List.replicate N (0 : Int))).all (fun l => l.all fun x => sgn x d.toNat) = true := by
    rw [List.all_eq_true]
    intro x hx
    rw [List.eq_of_mem_replicate hx, List.all_eq_true]
    intro y hy
    rw [List.eq_of_mem_replicate hy]
    exact sgn_zero _ (by omega)
  rw [if_neg (by rw [e1]; simp), if_neg (by rw [e2]; simp)]
theorem quiet_bits {c d r n : Int} {N : Nat} (h1 : 1 ≤ N) (h2 : N ≤ 512) (hc : c = 1 ∨ c = 2) (hd : 4 ≤ d ∧ d ≤ 24) :
    (chBits (layS (List.replicate c.toNat (List.replicate N 0))).1 (depthsS c d (layS (List.replicate c.toNat (List.replicate N 0))).2)).length ≤ 66 := by
  obtain ⟨dn, rfl⟩ := Int.eq_ofNat_of_zero_le (show 0 ≤ d by omega)
  have hz : ∀ e : Nat, e ≤ 25 → (subBits (List.replicate N 0) e).length ≤ 33 := fun e he => by
    have := sub_zeros (d := e) h1 h2; omega
  rcases hc with rfl | rfl
  · show (chBits [List.replicate N 0] [(dn : Int)]).length ≤ 66
    have := hz dn (by omega)
    unfold chBits
    simp
    omega
  · obtain ⟨ea, eb⟩ := apart_zeros (chooseM (List.replicate N 0) (List.replicate N 0)) N
    show (chBits [apartA (chooseM (List.replicate N 0) (List.replicate N 0)) (List.replicate N 0) (List.replicate N 0), apartB (chooseM (List.replicate N 0) (List.replicate N 0)) (List.replicate N 0) (List.replicate N 0)] (depthsS 2 dn (if chooseM (List.replicate N 0) (List.replicate N 0) = 0 then 1 else chooseM (List.replicate N 0) (List.replicate N 0)))).length ≤ 66
    rw [ea, eb]
    have hd' : ∀ m, ∃ x y : Nat, depthsS 2 (dn : Int) m = [(x : Int), (y : Int)] ∧ x ≤ 25 ∧ y ≤ 25 := by
      intro m
      unfold depthsS
      rw [if_neg (by omega)]
      split
      · exact ⟨dn, dn + 1, rfl, by omega, by omega⟩
      · split
        · exact ⟨dn + 1, dn, rfl, by omega, by omega⟩
        · exact ⟨dn, dn, rfl, by omega, by omega⟩
    obtain ⟨x, y, hxy, hx, hy⟩ := hd' (if chooseM (List.replicate N 0) (List.replicate N 0) = 0 then 1 else chooseM (List.replicate N 0) (List.replicate N 0))
    rw [hxy]
    have e1 := hz x hx
    have e2 := hz y hy
    unfold chBits
    simp
    omega
theorem write_err (c d r n : Int) (ch : List (List Int)) : (writeS c d r n ch).2 = checkS c d r n ch := by
  unfold writeS
  split
  · rename_i h; rw [h]
  · rfl
theorem f7_spec (k : Nat) (hk : 3000000 < k) (c d r n : Int) {ch : List (List Int)} (h : Sm ch) : f7_F k ((c, d, r, ()), (n, ch, ()), ()) = some (true, ()) := by
  show f7_raw0 k (f7_L1 k) _ = _
  simp only [f7_raw0]
  refine (bind_of (f10_spec k (by omega)) _).trans ?_
  simp only [Bool.not_true, cond_false]
  refine (bind_of (f15_spec k (by omega) n h) _).trans ?_
  refine (bind_of (f14_spec k (by omega) c d r n ch) _).trans ?_
  simp only
  rw [int_bne, write_err]
  by_cases he : checkS c d r n ch = 0
  · rw [cneg (by simpa using he)]
    obtain ⟨hs, hn, hc, hlen, hsg⟩ := check_zero he
    have hpos : 0 < ch.length := by omega
    have hN : (ch.getD 0 []) = ch.headD [] ∧ 1 ≤ (ch.headD []).length ∧ (ch.headD []).length ≤ 512 := by
      match ch, hpos with
      | l :: _, _ => exact ⟨rfl, (hlen l (by simp)).2⟩
    rw [cpos (by simp only [Int.ofNat_eq_natCast]; omega), hN.1]
    have hq := check_quiet he
    obtain ⟨hlay, _, _⟩ := lay_ok he
    have hll : (layS ch).1.length = ch.length := by
      match ch with
      | [] => rfl
      | [_] => rfl
      | [_, _] => rfl
      | _ :: _ :: _ :: _ => rfl
    have hlenb : (writeS c d r n ch).1.length ≤ ((ch.headD []).length * ch.length * (d.toNat + 1) + 7) / 8 + 24 := by
      have h1 := one_channel hlay hN.2.1 hN.2.2 (by omega) (by omega)
      have h2 := write_bits he h1
      rw [hll] at h2
      have e : ch.length * (8 + (ch.headD []).length * (d.toNat + 1)) = 8 * ch.length + (ch.headD []).length * ch.length * (d.toNat + 1) := by
        rw [Nat.mul_add, Nat.mul_comm ch.length 8, Nat.mul_comm (ch.headD []).length ch.length, Nat.mul_assoc]
      rw [e] at h2
      have : ch.length ≤ 2 := by omega
      generalize (ch.headD []).length * ch.length * (d.toNat + 1) = Z at h2 ⊢
      omega
    have hcl : ch.length = c.toNat := by omega
    rw [hcl] at hlenb
    obtain ⟨cn, hcn⟩ := Int.eq_ofNat_of_zero_le (show 0 ≤ c by omega)
    obtain ⟨dn, hdn⟩ := Int.eq_ofNat_of_zero_le (show 0 ≤ d by omega)
    have hqb := quiet_bits (c := c) (d := d) (r := r) (n := n) hN.2.1 hN.2.2 (by omega) (by omega)
    generalize hb : (writeS c d r n ch).1 = b at hlenb
    generalize hNN : (ch.headD []).length = N at hlenb hN hq hqb
    subst hcn
    subst hdn
    simp only [Int.toNat_natCast] at hlenb hq hqb
    have fin : ∀ (e j i : Nat), i + e = cn → e < j → iter (fun L1 => f7_raw1 k L1) j ((i : Int), Int.ofNat N, (cn : Int), (dn : Int), r, n, List.replicate i (List.replicate N (0 : Int)), b) = some (true, ()) := by
      intro e
      induction e with
      | zero =>
        intro j i hi hj
        obtain ⟨j, rfl⟩ := pos_of_lt hj
        obtain rfl : i = cn := by omega
        rw [iter_succ]
        simp only [f7_raw1]
        have hsm : Sm (List.replicate i (List.replicate N (0 : Int))) := ⟨by rw [List.length_replicate]; omega, fun l hl => by rw [List.eq_of_mem_replicate hl, List.length_replicate]; omega⟩
        rw [cneg (by omega)]
        refine (bind_of (f15_spec k (by omega) n hsm) _).trans ?_
        refine (bind_of (f14_spec k (by omega) i dn r n _) _).trans ?_
        simp only
        have hwl := write_bits hq hqb
        rw [int_beq, write_err, cpos hq, cpos (by simp only [Int.ofNat_eq_natCast]; omega)]
        have hm1 : N * i ≤ 512 * 2 := Nat.mul_le_mul (by omega) (by omega)
        have hm2 : N * i * (dn + 1) ≤ 1024 * 25 := Nat.mul_le_mul (by omega) (by omega)
        have e1 : IntKind.i64.wrap (IntKind.i64.wrap ((IntKind.i64.wrap (IntKind.i64.wrap (IntKind.i64.wrap (Int.ofNat N * (i : Int)) * IntKind.i64.wrap ((dn : Int) + (1 : Int))) + (7 : Int))).tdiv (8 : Int)) + (24 : Int)) = (((N * i * (dn + 1) + 7) / 8 + 24 : Nat) : Int) := by
          have a1 : IntKind.i64.wrap (Int.ofNat N * (i : Int)) = ((N * i : Nat) : Int) := by
            rw [show Int.ofNat N * (i : Int) = ((N * i : Nat) : Int) from by simp only [Int.ofNat_eq_natCast]; push_cast; rfl, w64 (by omega)]
          have a2 : IntKind.i64.wrap ((dn : Int) + 1) = ((dn + 1 : Nat) : Int) := by rw [w64 (by omega)]; rfl
          rw [a1, a2, ← Int.natCast_mul]
          generalize N * i * (dn + 1) = Z at hm2
          rw [w64 (n := ((Z : Nat) : Int)) (by omega), w64 (n := ((Z : Nat) : Int) + 7) (by omega), show ((Z : Nat) : Int) + 7 = ((Z + 7 : Nat) : Int) from rfl, tdiv8, w64 (n := (((Z + 7) / 8 : Nat) : Int)) (by omega), w64 (by omega)]
          rfl
        rw [e1, decide_eq_true (by simp only [Int.ofNat_eq_natCast]; omega)]
      | succ e ih =>
        intro j i hi hj
        obtain ⟨j, rfl⟩ := pos_of_lt (show 0 < j by omega)
        rw [iter_succ]
        simp only [f7_raw1]
        have e2 : IntKind.i64.wrap ((i : Int) + 1) = ((i + 1 : Nat) : Int) := by rw [w64 (by omega)]; rfl
        rw [cpos (by omega), cpos (by simp only [Int.ofNat_eq_natCast]; omega), cpos (by simp only [List.length_replicate, List.length_singleton]; omega), e2]
        have := ih j (i + 1) (by omega) (by omega)
        rw [List.replicate_succ' (n := i)] at this
        exact this
    have := fin cn k 0 (by omega) (by omega)
    exact this
  · rw [cpos he]
theorem small_plain : ∀ x : Kd.dens (viewKs [shapeT, frameT]), okAll [shapeT, frameT] x → bulkAll [shapeT, frameT] x ≤ 1048576 → ∃ k u, f7_F k x = some (true, u) := by
  rintro ⟨⟨c, d, r, ⟨⟩⟩, ⟨n, ch, ⟨⟩⟩, ⟨⟩⟩ _ hb
  have hb : _ + (Ty.bulk frameT (n, ch, ()) + _) ≤ 1048576 := hb
  exact ⟨4000000, (), f7_spec 4000000 (by omega) c d r n (frame_small (n := n) (by omega))⟩
end Go.Sh
