/-
  What the row needs, part 12.
-/
import Derived.Test.YtmeahimfdhdggaaGreatDoorXFrameNumbers11
import Derived.ChangeArms
import Derived.ChangeShapes
import Derived.WideShapes
import Derived.ReadAgain
import Derived.Below
import Derived.ChangeSame
import Derived.RowKit
set_option linter.unusedSimpArgs false
set_option linter.unusedVariables false
set_option linter.unusedSectionVars false
namespace Go.Sh
open Go Go.RowKit Go.WideShapes Go.ChangeShapes
def ZwD (P : Program) (g : TypeId → Ty → Bool) : Nat → List Field → Ty → Bool
  | _, [], .unit => true
  | off, f :: l, .pair a b => Nat.beq f.offset off && g f.type a && Nat.beq (P.cellsOf f.type) a.size && ZwD P g (off + a.size) l b
  | _, _, _ => false
def ZbL (P : Program) : Nat → TypeId → Ty → Bool
  | 0, _, _ => false
  | n + 1, T, t => match P.underlying T, t with
    | some .bool, .bool => true
    | some (.int k), .int k' => decide (k = k')
    | some .string, .str => true
    | some (.slice e), .sl t => ZbL P n e t && Nat.beq (P.cellsOf e) t.size && Nat.ble 1 t.size
    | some (.struct fs), .pair a b => ZwD P (ZbL P n) 0 fs.toList (.pair a b) && Nat.beq (P.cellsOf T) (Ty.size (.pair a b))
    | some (.struct fs), .unit => ZwD P (ZbL P n) 0 fs.toList .unit && Nat.beq (P.cellsOf T) 0
    | _, _ => false
def Ty.bulk : (t : Ty) → t.den → Nat
  | .str, s => s.size + 1
  | .sl t, xs => (xs.map t.bulk).sum + 1
  | .pair a b, x => a.bulk x.1 + b.bulk x.2
  | .unit, _ => 0
  | .bool, _ => 1
  | .int _, _ => 1
  | .fl _, _ => 1
  | .cx _, _ => 1
  | .raw, _ => 1
def Ty.ok : (t : Ty) → t.den → Prop
  | .int k, n => k.min ≤ n ∧ n ≤ k.max
  | .sl t, xs => ∀ x ∈ xs, t.ok x
  | .pair a b, x => a.ok x.1 ∧ b.ok x.2
  | .bool, _ => True
  | .str, _ => True
  | .fl _, _ => True
  | .cx _, _ => True
  | .raw, _ => True
  | .unit, _ => True
mutual
def bulkD {H : Type} : DataW H → Nat
  | .lit (.string bytes) => bytes.length + 1
  | .lit _ => 1
  | .nil => 1
  | .ptr d => bulkD d + 1
  | .slice elems spare => bulkDs elems + bulkDs spare + 1
  | .agg parts => bulkDs parts + 1
  | .iface _ d => bulkD d + 1
  | .map entries => bulkEs entries + 1
  | .held _ => 1
def bulkDs {H : Type} : List (DataW H) → Nat
  | [] => 0
  | d :: r => bulkD d + bulkDs r
def bulkEs {H : Type} : List (Lit × DataW H) → Nat
  | [] => 0
  | x :: r => bulkE x + bulkEs r
def bulkE {H : Type} : Lit × DataW H → Nat
  | (.string bytes, d) => bytes.length + bulkD d + 1
  | (_, d) => bulkD d + 1
end
def whole (w : World) (b : Nat) : Nat := match w.heap[b]? with
  | some (.cells c _ _) => c.size
  | _ => 0
theorem Zu3 {w : World} {b o : Nat} {v : Value} (h : w.cell? ⟨b, o, none⟩ = some v) : o < whole w b := by
  unfold World.cell? at h
  unfold whole
  split at h
  · rename_i c _ _ hb
    simp only at hb
    rw [hb]
    simp only [Option.isSome_none, Bool.false_eq_true, if_false] at h
    exact (Array.getElem?_eq_some_iff.1 h).1
  · cases h
theorem ZFk (w : World) : ∀ b, w.heap.size ≤ b → whole w b = 0 := by
  intro b hb
  unfold whole
  rw [Array.getElem?_eq_none hb]
theorem cells?_at {w : World} {base n : Nat} {a : Addr} {cs : List Value} (h : w.cells? base a n = some cs) : cs.length = n ∧ ∀ i v, cs[i]? = some v → w.cell? (a.add i) = some v := by
  unfold World.cells? at h
  split at h
  · have hl := mapM_some_length h
    simp only [List.length_range] at hl
    refine ⟨hl, fun i v hi => ?_⟩
    have hlt : i < n := by have := (List.getElem?_eq_some_iff.1 hi).1; omega
    have := mapM_some_get h i i (by simp [hlt])
    rw [this, hi]
  · cases h
section
variable {H : Type} {enc : TypeId × Value → H} {P : Program} {w : World} {base : Nat} {spare : Nat → Bool} {held : Bool}
theorem Zpf {n n' : Nat} (ih : ∀ (T : TypeId) (t : Ty) (cs : List Value) (x : DataW H × List MemPlace), ZbL P n T t = true → DataW.trod enc P w base spare held n' T cs = some x → ∃ y, Rt w (whole w) t y cs ∧ t.ok y ∧ t.bulk y ≤ bulkD x.1) :
    ∀ (l : List Field) (t : Ty) (off : Nat) (cs : List Value) (xs : List (DataW H × List MemPlace)), ZwD P (ZbL P n) off l t = true → cs.length = off + t.size →
      (∀ (i : Nat) (f : Field), l[i]? = some f → DataW.trod enc P w base spare held n' f.type ((cs.drop f.offset).take (P.cellsOf f.type)) = xs[i]?) → xs.length = l.length →
      ∃ y, Rt w (whole w) t y (cs.drop off) ∧ t.ok y ∧ t.bulk y ≤ bulkDs (xs.map (·.1))
  | [], t, off, cs, xs, h, hl, hx, hn => by
    match t, h with
    | .unit, h =>
      refine ⟨(), ?_, trivial, Nat.zero_le _⟩
      simp only [Rt, List.drop_eq_nil_iff]
      simp [Ty.size] at hl; omega
  | f :: l, t, off, cs, xs, h, hl, hx, hn => by
    match t, h with
    | .pair a b, h =>
      simp only [ZwD, Bool.and_eq_true] at h
      obtain ⟨⟨⟨h1, h2⟩, h3⟩, h4⟩ := h
      match xs, hn with
      | x :: xs, hn =>
        have h0 := hx 0 f rfl
        rw [ZU h1, ZU h3] at h0
        simp only [List.getElem?_cons_zero] at h0
        obtain ⟨y, e1, e2, e3⟩ := ih f.type a _ x h2 h0
        simp only [Ty.size] at hl
        obtain ⟨z, g1, g2, g3⟩ := Zpf ih l b (off + a.size) cs xs h4 (by omega) (fun i f' hf' => by simpa using hx (i + 1) f' (by simpa using hf')) (by simpa using hn)
        refine ⟨(y, z), ?_, ⟨e2, g2⟩, ?_⟩
        · simp only [Rt]
          refine ⟨_, _, ?_, e1, g1⟩
          rw [← List.drop_drop, List.take_append_drop]
        · simp only [Ty.bulk, List.map_cons, bulkDs]; omega
theorem Zfk : ∀ (n m : Nat) (T : TypeId) (t : Ty) (cs : List Value) (x : DataW H × List MemPlace), ZbL P m T t = true → DataW.trod enc P w base spare held n T cs = some x →
    ∃ y, Rt w (whole w) t y cs ∧ t.ok y ∧ t.bulk y ≤ bulkD x.1
  | 0, _, _, _, _, _, _, h => by simp [DataW.trod] at h
  | n + 1, 0, _, _, _, _, hf, _ => by simp [ZbL] at hf
  | n + 1, m + 1, T, t, cs, x, hf, h => by
    unfold ZbL at hf
    split at hf
    · rename_i hu
      obtain ⟨b, rfl, rfl⟩ := DataW.trod_bool hu h
      exact ⟨b, rfl, trivial, Nat.le_refl _⟩
    · rename_i k k' hu
      obtain rfl : k = k' := of_decide_eq_true hf
      obtain ⟨v, rfl, rfl, hw⟩ := DataW.trod_int hu h
      refine ⟨v, rfl, ?_, Nat.le_refl _⟩
      simpa [Ty.ok, Lit.wf] using hw
    · rename_i hu
      obtain ⟨s, rfl, rfl, _⟩ := DataW.trod_string hu h
      refine ⟨s, rfl, trivial, ?_⟩
      simp only [Ty.bulk, bulkD, Array.length_toList]
      exact Nat.le_refl _
    · rename_i e t hu
      simp only [Bool.and_eq_true] at hf
      obtain ⟨⟨hf, hsz⟩, hpos⟩ := hf
      have hsz := ZU hsz
      have hpos : 1 ≤ t.size := Nat.le_of_ble_eq_true hpos
      rcases DataW.trod_slice hu h with ⟨rfl, rfl⟩ | ⟨a, len, cap, elems, rest, n', hn', rfl, rfl, hb, hlc, _, hlen, hel, _⟩
      · refine ⟨[], ?_, (by simp [Ty.ok] : Ty.ok (.sl t) []), (by simp [Ty.bulk, bulkD])⟩
        simp only [Rt]
        exact ⟨none, 0, 0, rfl, rfl, Nat.le_refl _, .inl trivial⟩
      · obtain rfl : n' = n := by omega
        have each : ∀ i (hi : i < elems.length), ∃ cs', w.cells? base (a.add (i * P.cellsOf e)) (P.cellsOf e) = some cs' ∧ ∃ y, Rt w (whole w) t y cs' ∧ t.ok y ∧ t.bulk y ≤ bulkD elems[i].1 := by
          intro i hi
          have h1 := hel i (by omega)
          rw [List.getElem?_eq_getElem hi] at h1
          obtain ⟨cs', h2, h3⟩ := Option.bind_eq_some_iff.1 h1
          exact ⟨cs', h2, Zfk n' m e t cs' _ hf h3⟩
        -- the list
        have all : ∀ (l : List (DataW H × List MemPlace)), (∀ i (hi : i < l.length), ∃ y, (∃ cs', w.cells? base (a.add ((elems.length - l.length + i) * P.cellsOf e)) (P.cellsOf e) = some cs' ∧ Rt w (whole w) t y cs') ∧ t.ok y ∧ t.bulk y ≤ bulkD l[i].1) →
            l.length ≤ elems.length → ∃ ys : List t.den, ys.length = l.length ∧ (∀ y ∈ ys, t.ok y) ∧ (ys.map t.bulk).sum ≤ bulkDs (l.map (·.1)) ∧
              ∀ i (hi : i < ys.length), ∃ cs', w.cells? base (a.add ((elems.length - l.length + i) * P.cellsOf e)) (P.cellsOf e) = some cs' ∧ Rt w (whole w) t ys[i] cs' := by
          intro l
          induction l with
          | nil => intro _ _; exact ⟨[], rfl, by simp, by simp [bulkDs], fun i hi => by simp at hi⟩
          | cons p l ih =>
            intro hp hle
            simp only [List.length_cons] at hle
            obtain ⟨y, ⟨cs', c1, c2⟩, y1, y2⟩ := hp 0 (by simp)
            obtain ⟨ys, k1, k2, k3, k4⟩ := ih (fun i hi => by
              obtain ⟨y, ⟨cs', c1, c2⟩, y1, y2⟩ := hp (i + 1) (by simpa using hi)
              refine ⟨y, ⟨cs', ?_, c2⟩, y1, by simpa using y2⟩
              rw [← c1]; congr 3; simp only [List.length_cons]; omega) (by omega)
            refine ⟨y :: ys, by simp [k1], ?_, ?_, ?_⟩
            · intro z hz
              rcases List.mem_cons.1 hz with rfl | hz
              · exact y1
              · exact k2 z hz
            · simp only [List.map_cons, List.sum_cons, bulkDs]
              simp only [List.getElem_cons_zero] at y2
              omega
            · intro i hi
              cases i with
              | zero => exact ⟨cs', c1, c2⟩
              | succ i =>
                obtain ⟨cs'', d1, d2⟩ := k4 i (by simpa using hi)
                refine ⟨cs'', ?_, by simpa using d2⟩
                rw [← d1]; congr 3; simp only [List.length_cons]; omega
        obtain ⟨ys, k1, k2, k3, k4⟩ := all elems (fun i hi => by
          obtain ⟨cs', c1, y, c2, c3, c4⟩ := each i hi
          exact ⟨y, ⟨cs', by simpa using c1, c2⟩, c3, c4⟩) (Nat.le_refl _)
        simp only [Nat.sub_self, Nat.zero_add] at k4
        refine ⟨ys, ?_, k2, ?_⟩
        · simp only [Rt]
          refine ⟨some a, len, cap, rfl, by omega, hlc, ?_⟩
          by_cases hnil : ys = []
          · exact .inl hnil
          · right
            have h0 : 0 < ys.length := List.length_pos_iff.2 hnil
            obtain ⟨c0, z1, z2⟩ := k4 0 h0
            obtain ⟨zl, zc⟩ := cells?_at z1
            obtain ⟨v0, hv0⟩ : ∃ v0, c0[0]? = some v0 := ⟨c0[0]'(by omega), List.getElem?_eq_getElem _⟩
            have hs := zc 0 v0 hv0
            simp only [Nat.zero_mul, Addr.add, if_true] at hs
            obtain ⟨b, off, spot⟩ := a
            have hspot : spot = none := by
              cases spot with
              | none => rfl
              | some s =>
                unfold World.cell? at hs
                split at hs
                · simp at hs
                · cases hs
            subst hspot
            refine ⟨b, off, rfl, fun i hi => ?_⟩
            obtain ⟨cs', d1, d2⟩ := k4 i hi
            refine ⟨cs', d2, fun j v hj => ?_⟩
            obtain ⟨_, zc⟩ := cells?_at d1
            have hc := zc j v hj
            have e : ((⟨b, off, none⟩ : Addr).add (i * P.cellsOf e)).add j = ⟨b, off + i * t.size + j, none⟩ := by
              rw [hsz]
              unfold Addr.add
              split <;> split <;> simp_all <;> omega
            rw [e] at hc
            exact ⟨hc, Zu3 hc⟩
        · simp only [Ty.bulk, bulkD]
          omega
    · rename_i fs a b hu
      simp only [Bool.and_eq_true] at hf
      obtain ⟨hf, hsz⟩ := hf
      obtain ⟨xs, n', hn', rfl, hl, hxs, hget⟩ := DataW.trod_struct hu h
      obtain rfl : n' = n := by omega
      obtain ⟨y, e1, e2, e3⟩ := Zpf (n := m) (n' := n') (fun T t cs x h1 h2 => Zfk n' m T t cs x h1 h2) fs.toList (.pair a b) 0 cs xs hf (by rw [hl, ZU hsz]; omega) (fun i f hi => hget i f (by simpa using hi)) (by simpa using hxs)
      exact ⟨y, by simpa using e1, e2, by simp only [bulkD]; omega⟩
    · rename_i fs hu
      simp only [Bool.and_eq_true] at hf
      obtain ⟨hf, hsz⟩ := hf
      obtain ⟨xs, n', hn', rfl, hl, hxs, hget⟩ := DataW.trod_struct hu h
      refine ⟨(), ?_, trivial, Nat.zero_le _⟩
      simp only [Rt]
      rw [ZU hsz] at hl
      exact List.length_eq_zero_iff.1 hl
    · cases hf
end
end Go.Sh
namespace Go.Sh
open Go Go.RowKit Go.WideShapes Go.ChangeShapes
def Wi (tys : List Ty) : List Kd := tys.map .view
def Zz9 : (tys : List Ty) → Kd.dens (Wi tys) → Prop
  | [], _ => True
  | t :: l, x => t.ok x.1 ∧ Zz9 l x.2
def ZgK : (tys : List Ty) → Kd.dens (Wi tys) → Nat
  | [], _ => 0
  | t :: l, x => t.bulk x.1 + ZgK l x.2
def K3 (P : Program) : List TypeId → List Ty → Bool
  | [], [] => true
  | T :: Ts, t :: ts => ZbL P 16 T t && K3 P Ts ts
  | _, _ => false
section
variable {H : Type} {enc : TypeId × Value → H} {P : Program} {w : World} {base : Nat} {spare : Nat → Bool} {held : Bool}
theorem K0 {v : Value} (h : ∀ cs, v ≠ .agg cs) : v.cells = #[v] := by
  cases v <;> first | rfl | (exact absurd rfl (h _))
theorem Zud {b0 n : Nat} {r : Reach} {T : TypeId} {t : Ty} {v : Value} {d : DataW H} {ps : List MemPlace} (hval : Value.okWide P w r b0 T v) (h : DataW.Trod enc P w base spare held T v d ps) (hf : ZbL P n T t = true) :
    ∃ y, Zqg w (whole w) t y v ∧ t.ok y ∧ t.bulk y ≤ bulkD d := by
  obtain ⟨m, hm⟩ := h
  obtain ⟨y, h1, h2, h3⟩ := Zfk m n T t _ _ hf hm
  refine ⟨y, ⟨_, h1, ?_⟩, h2, h3⟩
  cases n with
  | zero => simp [ZbL] at hf
  | succ n =>
    unfold Value.okWide at hval
    unfold ZbL at hf
    split at hf <;> rename_i hu <;> try (cases hf; done)
    all_goals
      rw [hu] at hval
      simp only at hval
    · refine .inr ⟨rfl, ?_⟩
      rw [K0]; rintro cs rfl; simp [Cell.okWide, Cell.ok, hu] at hval
    · refine .inr ⟨rfl, ?_⟩
      rw [K0]; rintro cs rfl; simp [Cell.okWide, Cell.ok, hu] at hval
    · refine .inr ⟨rfl, ?_⟩
      rw [K0]; rintro cs rfl; simp [Cell.okWide, Cell.ok, hu] at hval
    · refine .inr ⟨rfl, ?_⟩
      rw [K0]; rintro cs rfl; simp [Cell.okWide, Cell.ok, hu] at hval
    · obtain ⟨cs, rfl, _⟩ := hval
      exact .inl ⟨rfl, rfl⟩
    · obtain ⟨cs, rfl, _⟩ := hval
      exact .inl ⟨rfl, rfl⟩
theorem Zcc {b0 : Nat} {r : Reach} : ∀ {Ts : List TypeId} {tys : List Ty} {vs : List Value} {ds : List (DataW H)} {ps : List MemPlace}, K3 P Ts tys = true →
    (∀ (j : Nat) t v, Ts[j]? = some t → vs[j]? = some v → Value.okWide P w r b0 t v) → DataW.TrodAll enc P w base spare held Ts vs ds ps →
    ∃ x : Kd.dens (Wi tys), TTs w (whole w) (WD (Wi tys) x) vs [] ∧ Zz9 tys x ∧ ZgK tys x ≤ bulkDs ds
  | [], [], vs, ds, ps, _, _, h => by
    obtain ⟨rfl, rfl, rfl⟩ := trodAll_nil h
    exact ⟨(), rfl, trivial, Nat.le_refl _⟩
  | T :: Ts, t :: tys, vs, ds, ps, hf, hval, h => by
    simp only [K3, Bool.and_eq_true] at hf
    obtain ⟨v, vs', d, ds', p, q, rfl, rfl, rfl, h1, h2⟩ := trodAll_cons h
    obtain ⟨y, e1, e2, e3⟩ := Zud (hval 0 T v rfl rfl) h1 hf.1
    obtain ⟨x, g1, g2, g3⟩ := Zcc hf.2 (fun j t v ht hv => hval (j + 1) t v (by simpa using ht) (by simpa using hv)) h2
    refine ⟨(y, x), ?_, ⟨e2, g2⟩, ?_⟩
    · exact ⟨[], [], rfl, ⟨e1, rfl⟩, g1⟩
    · simp only [ZgK, bulkDs]; omega
  | [], _ :: _, _, _, _, hf, _, _ => by simp [K3] at hf
  | _ :: _, [], _, _, _, hf, _, _ => by simp [K3] at hf
end
section
variable {H : Type} {enc : TypeId × Value → H} {P : Program}
theorem Zn1 {f : Func} {s : ChangeSpec} {apart fresh handsOn again : Bool} {W W' : World} {args : Array Value} {v : Value} {ds gs : List (DataW H)} {before pa pv : List MemPlace}
    (hW : DataW.Whole enc P f.params.toList s.vars apart W args.toList ds gs before)
    (hres : ∀ (b : Nat) (sp : Nat → Bool) (hd : Bool), DataW.TrodAll enc P W' b sp hd f.resultTypes.toList (v.resultList f.resultTypes.size) (s.fn H (ds ++ gs)).results [])
    (hargs : ∀ sp : Nat → Bool, (∀ p ∈ before, sp p.block = true) → DataW.TrodAll enc P W' 0 sp true f.params.toList args.toList (s.fn H (ds ++ gs)).args pa)
    (hvars : ∀ sp : Nat → Bool, (∀ p ∈ before, sp p.block = true) → DataW.TrodVars enc P W' sp s.vars (s.fn H (ds ++ gs)).vars pv)
    (hps : before = pa ++ pv) (hb : Below W.heap.size W W')
    (hok : ∀ (j : Nat) (t : TypeId) (r : Value), f.resultTypes[j]? = some t → (v.resultList f.resultTypes.size)[j]? = some r → Value.okWide P W' .any 0 t r) :
    s.post enc P f apart fresh handsOn again W args v W' := by
  have hlt : ∀ p ∈ before, p.block < W.heap.size := fun p hp => hW.lt p hp
  have hold : ∀ p ∈ before, (fun b => decide (b < W.heap.size)) p.block = true := fun p hp => by simpa using hlt p hp
  refine ⟨ds, gs, before, [], pa, pv, hW, hres _ _ _, hargs _ hold, hvars _ hold, World.keptBut_mono (fun p hp => ⟨hp, ?_⟩) (hb.frame (· ∈ before)), fun _ => ?_⟩
  · rw [hps, List.mem_append] at hp
    exact Or.inr hp
  · obtain ⟨_, _, _, _, _, hz, hn⟩ := hW
    refine ⟨hok, _, _, ([] ++ pa) ++ pv, ⟨[] ++ pa, pv, trodAll_append (hargs _ (fun _ _ => rfl)) (hres _ _ _), hvars _ (fun _ _ => rfl), rfl, ?_, ?_⟩, ?_⟩
    · intro b off hp
      have hin : MemPlace.cell b off ∈ before := by rw [hps]; simpa using hp
      rw [hb.frozen (hlt _ hin)]
      exact hz b off hin
    · intro ha
      have := hn ha
      rw [hps] at this
      simpa using this
    · intro p hp _
      rw [hps]
      simpa using hp
theorem Zem {w w' : World} {base : Nat} {spare : Nat → Bool} {held : Bool} : ∀ {ts : List TypeId} {vs : List Value} {ds : List (DataW H)} {ps : List MemPlace},
    DataW.TrodAll enc P w base spare held ts vs ds ps → (∀ p ∈ ps, w.sameAt w' p) → DataW.TrodAll enc P w' base spare held ts vs ds ps
  | [], [], [], _, h, _ => h
  | _ :: _, _ :: _, _ :: _, _, ⟨p, q, ⟨n, h1⟩, h2, e⟩, hs => ⟨p, q, ⟨n, DataW.trod_carry n _ _ _ h1 (fun x hx => hs x (by rw [e]; exact List.mem_append_left _ hx))⟩,
      Zem h2 (fun x hx => hs x (by rw [e]; exact List.mem_append_right _ hx)), e⟩
variable [Gl]
theorem law_contract {K : FuncId} {fn : Func} {spec : ChangeSpec} {B : TypeId} (tys : List Ty) {F : Nat → Kd.dens (Wi tys) → Option (Ans (Wi tys) (.view .bool))} {bound : Nat}
    (hl : laidOutB P = true) (hm : mapsRowed P = true) (hz : ((List.range P.types.size).all fun t => match P.underlying t with | some (.slice e) => decide (0 < P.cellsOf e) | _ => true) = true)
    (hts : fn.params.toList.all (fun t => decide (t < P.types.size)) = true) (hfit : K3 P fn.params.toList tys = true) (hres : fn.resultTypes = #[B]) (hB : P.underlying B = some .bool)
    (hvars : spec.vars = []) (hspec : ∀ (H : Type) (ds : List (DataW H)), ds.length = tys.length → spec.fn H ds = { results := [.lit (.bool true)], args := ds })
    (hctr : ∀ k, Ctr P k K (mk (Wi tys) (.view .bool) F)) (plain : ∀ x : Kd.dens (Wi tys), Zz9 tys x → ZgK tys x ≤ bound → ∃ k u, F k x = some (true, u))
    (enc : TypeId × Value → H) (W : World) (b0 : Nat) (args : Array Value) (ds gs : List (DataW H)) (before : List MemPlace)
    (hval : ∀ (j : Nat) t v, fn.params[j]? = some t → args[j]? = some v → Value.okWide P W .any b0 t v)
    (hW : DataW.Whole enc P fn.params.toList spec.vars false W args.toList ds gs before) (hk : bulkDs (ds ++ gs) ≤ bound) (hgl : ZqN W (whole W)) :
    Calls P K args W fun e W' => ∃ v, e = .returned v ∧ spec.post enc P fn false true false false W args v W' := by
  have hW' := hW
  obtain ⟨p, q, hA, hV, he, hfz, hnd⟩ := hW
  rw [hvars] at hV
  have hgs : gs = [] ∧ q = [] := by
    match gs, hV with
    | [], hV => exact ⟨rfl, hV⟩
    | _ :: _, hV => exact hV.elim
  obtain ⟨rfl, rfl⟩ := hgs
  simp only [List.append_nil] at he hk
  obtain rfl : p = before := he.symm
  obtain ⟨x, h1, h2, h3⟩ := Zcc (tys := tys) hfit (fun j t v ht hv => hval j t v (by simpa using ht) (by simpa using hv)) hA
  obtain ⟨k, u, hF⟩ := plain x h2 (by omega)
  have hlen : ds.length = tys.length := by
    have e1 : ∀ {Ts : List TypeId} {tys : List Ty} {vs : List Value} {ds : List (DataW H)} {ps : List MemPlace}, K3 P Ts tys = true → DataW.TrodAll enc P W 0 (fun _ => true) true Ts vs ds ps → ds.length = tys.length := by
      intro Ts
      induction Ts with
      | nil =>
        intro tys vs ds ps hf h
        obtain ⟨rfl, rfl, rfl⟩ := trodAll_nil h
        cases tys with
        | nil => rfl
        | cons => simp [K3] at hf
      | cons T Ts ih =>
        intro tys vs ds ps hf h
        obtain ⟨v, vs', d, ds', p, q, rfl, rfl, rfl, h1, h2⟩ := trodAll_cons h
        cases tys with
        | nil => simp [K3] at hf
        | cons t tys =>
          simp only [K3, Bool.and_eq_true] at hf
          simp [ih hf.2 h2]
    exact e1 hfit hA
  have hcall := (hctr k).calls (WD (Wi tys) x) (true, u) (by
    have hd : Zeg (Wi tys) (WD (Wi tys) x) = some x := by
      have e2 : ∀ (l : List Ty) (x : Kd.dens (Wi l)), Zeg (Wi l) (WD (Wi l) x) = some x := by
        intro l
        induction l with
        | nil => intro x; rfl
        | cons t l ih =>
          intro x
          obtain ⟨y, ys⟩ := x
          show ((Zng t (.view t y)).bind fun y => (Zeg (Wi l) (WD (Wi l) ys)).bind fun ys => some (y, ys)) = _
          rw [ih ys]
          simp only [Zng, dite_true]
          rfl
      exact e2 tys x
    show (Zeg (Wi tys) (WD (Wi tys) x)).bind (F k) = some (true, u)
    rw [hd]; exact hF) W (whole W) args.toList [] (ZFk W) hgl h1 List.nodup_nil (by simp)
  rw [Array.toArray_toList] at hcall
  refine hcall.mono fun e W' h => ?_
  obtain ⟨v, lim', b1, b2, rfl, hE, _, ⟨ho, ht, hout⟩, hold, hT, _⟩ := h
  have hv : v = .bool true := by
    have hT : Zqg W' lim' .bool true v ∧ b1 = [] := hT
    obtain ⟨⟨cs, c1, c2⟩, _⟩ := hT
    rcases c2 with ⟨c2, _⟩ | ⟨_, c2⟩
    · cases c2
    · simp only [Rt] at c1
      subst c2
      simpa using c1
  subst hv
  have hBel : Below W.heap.size W W' := ⟨ho, ht, hout, hE.size, fun b hb => (hold b hb (by simp)).1⟩
  have hlt : ∀ x ∈ p, x.block < W.heap.size := fun x hx => hW'.lt x hx
  refine ⟨_, rfl, Zn1 (pa := p) (pv := []) hW' (fun b sp hd => ?_) (fun sp hsp => ?_) (fun sp hsp => ?_) (by simp) hBel ?_⟩
  · rw [List.append_nil, hspec H ds hlen, hres]
    exact ⟨[], [], ⟨1, by simp [DataW.trod, Value.cells, hB]⟩, rfl, rfl⟩
  · rw [List.append_nil, hspec H ds hlen]
    refine Zem (w := W) (DataW.TrodAll.respare (kids_rows hl hm) (slices_full_of P hz) (fun t ht => ?_) hA hsp) (fun y hy => hBel.same (hlt y hy))
    simpa using List.all_eq_true.1 hts t ht
  · rw [List.append_nil, hspec H ds hlen, hvars]
    rfl
  · exact ok_one hres rfl (okWide_bool_mk hB true)
end
end Go.Sh
namespace Go.Sh
open Go Go.Proofs
theorem ZuX : X6 1 8 44100 0 [[5, 5, 5]] = ([255, 248, 96, 0, 0, 2, 228, 0, 5, 227, 208], 0) := by decide +kernel
theorem Zyu : ZDj 1 8 44100 [255, 248, 96, 0, 0, 2, 228, 0, 5, 227, 208] = ((0, [[5, 5, 5]]), 11, 0) := by decide +kernel
theorem ZDM (k : Nat) (hk : 200000 < k) : Zqv k () = some (true, ()) := by
  show ZgD k _ = _
  simp only [ZgD]
  refine (Zg (Zog k (by omega) 1 8 44100 0 [[5, 5, 5]]) _).trans ?_
  rw [ZuX]
  simp only
  rw [show ((0 : Int) != 0) = false from rfl]
  simp only [cond_false]
  rw [show (Int.ofNat [(255 : Int), 248, 96, 0, 0, 2, 228, 0, 5, 227, 208].length != 11) = false from rfl]
  simp only [cond_false]
  rw [Zb (by simp)]
  rw [show (!(ByteArray.mk (List.map (fun n => UInt8.ofNat n.toNat) (List.drop 0 (List.take 6 [(255 : Int), 248, 96, 0, 0, 2, 228, 0, 5, 227, 208]))).toArray).toList == (ByteArray.mk #[255, 248, 96, 0, 0, 2]).toList) = false from by rw [Zsu]; decide +kernel]
  simp only [cond_false]
  refine (Zg (ZCu k 1 8 44100 (b := [255, 248, 96, 0, 0, 2, 228, 0, 5, 227, 208]) (by decide) (by simp) (by simp; omega)) _).trans ?_
  rw [Zyu]
  rfl
def Sm (ch : List (List Int)) : Prop := ch.length ≤ 1048576 ∧ ∀ l ∈ ch, l.length ≤ 1048576
theorem Zwq (k : Nat) (hk : 2000000 < k) (n : Int) {ch : List (List Int)} (h : Sm ch) : Zjf k ((n, ch, ()), ()) = some ((n, ch, ()), ()) := by
  show Zgs k (Ztf k) _ = _
  simp only [Zgs]
  have hs := h.1
  have := Zz (A := List (List Int)) (R := (Int × List (List Int) × Unit) × Unit) (step := fun L1 => ZaG k L1) (fun i out => (Int.ofNat i, n, ch, n, out, (0 : Int))) ch
    (fun l' out => some ((n, out ++ l', ()), ())) (fun i out => out.length = i)
    (fun L out _ => by simp only [ZaG]; rw [Zj (WB _), List.append_nil])
    (fun L i hi out ho hL => by
      have hl := h.2 ch[i] (List.getElem_mem hi)
      simp only [ZaG]
      rw [Zb (ltR hi), Zb (inR hi), ZR hi]
      have e1 : IntKind.i64.wrap (Int.ofNat (List.length ch[i]) + 2) = ((ch[i].length + 2 : Nat) : Int) := by rw [Z8 (by simp only [Int.ofNat_eq_natCast]; omega)]; rfl
      rw [e1, Zb (by omega), Zb (inR hi), Zb (by omega), Zb (by simp only [List.length_singleton]; omega), QK hi (by omega), hL _ (by simp; omega)]
      simp)
    k 0 [] rfl (by omega) (Nat.zero_le _)
  rw [List.drop_zero, List.nil_append] at this
  exact this
theorem ZE3 : ∀ (a b c d e f g h : Bool) (j : Fin 8), (a.toNat * 128 + b.toNat * 64 + c.toNat * 32 + d.toNat * 16 + e.toNat * 8 + f.toNat * 4 + g.toNat * 2 + h.toNat).testBit (7 - j.val) = [a, b, c, d, e, f, g, h].getD j.val false := by decide +kernel
theorem ZCd (f : Nat → Bool) {j : Nat} (hj : j < 8) : (XM f).testBit (7 - j) = f j := by
  have := ZE3 (f 0) (f 1) (f 2) (f 3) (f 4) (f 5) (f 6) (f 7) ⟨j, hj⟩
  simp only at this
  unfold XM
  rw [this]
  match j, hj with
  | 0, _ => rfl
  | 1, _ => rfl
  | 2, _ => rfl
  | 3, _ => rfl
  | 4, _ => rfl
  | 5, _ => rfl
  | 6, _ => rfl
  | 7, _ => rfl
theorem Zxy {B : List Bool} (h : B.length % 8 = 0) : Qu (ZJ B) = B := by
  have hl : (ZJ B).length = B.length / 8 := by rw [Qm]; omega
  apply List.ext_getElem
  · rw [QQ, hl]; omega
  · intro i h1 h2
    rw [ZhU (by rw [hl]; omega), WX, Int.toNat_natCast]
    unfold QC
    rw [ZCd _ (Nat.mod_lt _ (by omega)), show 8 * (i / 8) + i % 8 = i by omega, YG h2]
theorem ZF3 : ∀ x : Fin 256, XM (fun j => x.val.testBit (7 - j)) = x.val := by decide +kernel
theorem Znz {b : List Int} (h : ZN b = true) : ZJ (Qu b) = b := by
  apply List.ext_getElem
  · rw [Qm, QQ]; omega
  · intro i h1 h2
    obtain ⟨x, hx, hxe⟩ := W6 h h2
    rw [WX, hxe]
    have : QC (Qu b) i = XM (fun j => x.testBit (7 - j)) := by
      have key : ∀ j, j < 8 → (Qu b).getD (8 * i + j) false = x.testBit (7 - j) := by
        intro j hj
        rw [YG (by rw [QQ]; omega), ZhU (by omega)]
        have : (8 * i + j) / 8 = i := by omega
        simp only [this, hxe, Int.toNat_natCast]
        congr 1
        omega
      unfold QC XM
      simp only
      rw [key 0 (by omega), key 1 (by omega), key 2 (by omega), key 3 (by omega), key 4 (by omega), key 5 (by omega), key 6 (by omega), key 7 (by omega)]
    rw [this]
    have := ZF3 ⟨x, hx⟩
    simp only at this
    rw [this]
theorem ZnD (B : List Bool) : (Qv B).length % 8 = 0 ∧ (Qv B).length = B.length + XJ B.length := by
  unfold Qv
  rw [List.length_append, List.length_replicate]
  unfold XJ
  omega
theorem Zyb (B : List Bool) : (WS B).length % 8 = 0 ∧ (WS B).length = B.length + XJ B.length + 16 := by
  have := ZnD B
  unfold WS
  rw [List.length_append, Zu]
  omega
theorem Zth (c a w : Nat) : Ze c (a + w) = Ze (c / 2 ^ w) a ++ Ze c w := by
  induction a with
  | zero => simp [Ze]
  | succ a ih =>
    rw [show a + 1 + w = (a + w) + 1 by omega]
    simp only [Ze, List.cons_append]
    rw [ih, Nat.testBit_div_two_pow]
theorem ZtG (B : List Bool) : ZJ (WS B) = ZJ (Qv B) ++ [((Yj (ZJ (Qv B)) / 256 : Nat) : Int), ((Yj (ZJ (Qv B)) % 256 : Nat) : Int)] := by
  have hc := ZuV (XT (Qv B))
  generalize hC : Yj (ZJ (Qv B)) = c at hc
  have hb : ZN (ZJ (Qv B) ++ [((c / 256 : Nat) : Int), ((c % 256 : Nat) : Int)]) = true := by
    refine List.all_eq_true.2 fun x hx => ?_
    rcases List.mem_append.1 hx with hx | hx
    · exact List.all_eq_true.1 (XT (Qv B)) x hx
    · simp only [List.mem_cons, List.mem_nil_iff, or_false] at hx
      rw [Bool.and_eq_true, decide_eq_true_eq, decide_eq_true_eq]
      rcases hx with rfl | rfl <;> omega
  rw [← Znz hb, Zsi, Zxy (ZnD B).1]
  unfold WS
  rw [hC]
  congr 2
  simp only [Qu, List.flatMap_cons, List.flatMap_nil, Int.toNat_natCast, List.append_nil]
  rw [show (16 : Nat) = 8 + 8 from rfl, Zth c 8 8, show (c % 256) = c % 2 ^ 8 from rfl, Zfj c 8 8 (by omega)]
end Go.Sh
namespace Go.Sh
open Go Go.Proofs
theorem Zjs (c d r n : Int) (ch : List (List Int)) : ZN (X6 c d r n ch).1 = true := by
  unfold X6
  split
  · exact XT _
  · rfl
theorem ZA7 (c d r n : Int) (ch : List (List Int)) : (X6 c d r n ch).1.length ≤ 5000 := by
  unfold X6
  split
  · rename_i h
    obtain ⟨hs, hn, hc, hlen, hsg⟩ := Za9 h
    obtain ⟨hlay, _, _⟩ := Zyi h
    have h2 : 1 ≤ (ch.headD []).length ∧ (ch.headD []).length ≤ 512 := by
      have : 0 < ch.length := by omega
      match ch, this with
      | l :: _, _ => exact (hlen l (by simp)).2
    have h1 := Znc hlay h2.1 h2.2 (by omega) (by omega)
    have h3 := Zcm (Xs ch).2.toNat n.toNat (ch.headD []).length
    have h4 := Zpn n.toNat
    have h5 := ZfS (ch.headD []).length
    have h6 := Zyb (Q5 (Xs ch).2.toNat n.toNat (ch.headD []).length ++ Wh (Xs ch).1 (ZY c d (Xs ch).2))
    have h7 : XJ (Q5 (Xs ch).2.toNat n.toNat (ch.headD []).length ++ Wh (Xs ch).1 (ZY c d (Xs ch).2)).length < 8 := by unfold XJ; omega
    simp only
    rw [Qm]
    rw [List.length_append] at h6 h7
    unfold Q5 at h6 h7 ⊢
    rw [List.length_append, Zu] at h6 h7
    omega
  · simp
end Go.Sh
namespace Go.Sh
open Go Go.Proofs
theorem Zyh {α : Type} (f : α → Nat) : ∀ (l : List α), (∀ x ∈ l, 1 ≤ f x) → l.length ≤ (l.map f).sum ∧ ∀ x ∈ l, f x ≤ (l.map f).sum
  | [], _ => ⟨Nat.le_refl _, by simp⟩
  | a :: l, h => by
    obtain ⟨h1, h2⟩ := Zyh f l fun x hx => h x (List.mem_cons_of_mem _ hx)
    have h3 := h a (List.mem_cons_self ..)
    simp only [List.length_cons, List.map_cons, List.sum_cons]
    refine ⟨by omega, fun x hx => ?_⟩
    rcases List.mem_cons.1 hx with rfl | hx
    · omega
    · have := h2 x hx; omega
theorem Zvb {n : Int} {ch : List (List Int)} (h : Ty.bulk frameT (n, ch, ()) ≤ 1048576) : Sm ch := by
  have h1 : (1 : Nat) + (((ch.map (Ty.bulk (.sl (.int .i64)))).sum + 1) + 0) ≤ 1048576 := h
  have s := Zyh (Ty.bulk (.sl (.int .i64))) ch (fun x _ => by simp only [Ty.bulk]; omega)
  refine ⟨by omega, fun x hx => ?_⟩
  have h2 := s.2 x hx
  have h3 : Ty.bulk (.sl (.int .i64)) x = (x.map (Ty.bulk (.int .i64))).sum + 1 := rfl
  have h4 := Zyh (Ty.bulk (.int .i64)) x (fun y _ => by simp only [Ty.bulk]; omega)
  omega
end Go.Sh
namespace Go.Sh
open Go Go.Proofs
theorem ZpF (c d r n : Int) (ch : List (List Int)) : (X6 c d r n ch).2 = We c d r n ch := by
  unfold X6
  split
  · rename_i h; rw [h]
  · rfl
end Go.Sh
namespace Go.Sh
open Go Go.Proofs
theorem KU {A X : List Bool} (h : A.length % 8 = 0) : ZJ (A ++ X) = ZJ A ++ ZJ X := by
  have hA : (ZJ A).length = A.length / 8 := by rw [Qm]; omega
  apply List.ext_getElem
  · rw [List.length_append, Qm, Qm, Qm, List.length_append]; omega
  · intro i h1 h2
    rw [WX]
    by_cases hi : i < (ZJ A).length
    · rw [List.getElem_append_left hi, WX]
      congr 1
      unfold QC XM
      have : ∀ j, j < 8 → (A ++ X).getD (8 * i + j) false = A.getD (8 * i + j) false := by
        intro j hj
        simp only [List.getD_eq_getElem?_getD]
        rw [List.getElem?_append_left (by omega)]
      simp only []
      rw [this 0 (by omega), this 1 (by omega), this 2 (by omega), this 3 (by omega), this 4 (by omega), this 5 (by omega), this 6 (by omega), this 7 (by omega)]
    · rw [List.getElem_append_right (by omega), WX]
      congr 1
      unfold QC XM
      have : ∀ j, j < 8 → (A ++ X).getD (8 * i + j) false = X.getD (8 * (i - (ZJ A).length) + j) false := by
        intro j hj
        simp only [List.getD_eq_getElem?_getD]
        rw [List.getElem?_append_right (by omega)]
        congr 2
        omega
      simp only []
      rw [this 0 (by omega), this 1 (by omega), this 2 (by omega), this 3 (by omega), this 4 (by omega), this 5 (by omega), this 6 (by omega), this 7 (by omega)]
theorem ZnO (x : Nat) (h : x < 256) : ZJ (Ze x 8) = [(x : Int)] := by
  have := Znz (b := [(x : Int)]) (by unfold ZN; simp; omega)
  rw [← this]
  simp [Qu]
theorem Zwz {s : List Int} {d : Nat} (h1 : 1 ≤ s.length) (h2 : s.length ≤ 512) : 8 ≤ (QU s d).length := by
  obtain ⟨x, _, hok, _, h4, _⟩ := Zbs s d h1 h2
  have := Zf4 (by rw [XW]; exact h1) (by rw [XW]; exact h2) hok
  omega
theorem Zw6 {n d : Nat} {ls : List (List Int)} {ds : List Int} (h : LayOk n d ls ds) (hn : 1 ≤ n) (hn2 : n ≤ 512) : 8 ≤ (Wh ls ds).length := by
  have h0 : 0 < ls.length := by have := h.two; omega
  have hl := h.len
  obtain ⟨a, b, c⟩ := h.all 0 h0 (by omega)
  match ls, ds, h0, hl, a with
  | l :: ls, x :: ds, _, _, a =>
    simp only [List.getElem_cons_zero] at a
    have := Zwz (s := l) (d := x.toNat) (by omega) (by omega)
    unfold Wh
    simp only [List.zip_cons_cons, List.flatMap_cons, List.length_append]
    omega
theorem ZpR {mode num N : Nat} (hm : mode < 256) (hnum : num < 128) (hN : 1 ≤ N ∧ N ≤ 512) (X : List Bool) : ∃ (w4 mid P tl : List Int), w4.length = 4 ∧ mid.length = Ql N - 5 ∧ tl.length = 2 ∧
    w4 = ZJ (Ze 16382 14 ++ (Ze (Ql N) 6 ++ (Ze mode 8 ++ Ze 0 4))) ∧ mid = ZJ (Ze (N - 1) (8 * (Ql N - 5))) ∧ P = ZJ (X ++ List.replicate (XJ X.length) false) ∧
    ZJ (WS (Q5 mode num N ++ X)) = w4 ++ (num : Int) :: (mid ++ ((Zwx (ZJ (QD mode num N)) : Nat) : Int) :: (P ++ tl)) := by
  have hk := ZfS N
  have hcode : Qx num = [num] := by unfold Qx; rw [if_pos hnum]
  have hpl : (QD mode num N).length = 40 + 8 * (Ql N - 5) := by rw [Zcm, hcode, List.length_singleton]
  have hhl : (Q5 mode num N).length % 8 = 0 := by unfold Q5; rw [List.length_append, Zu]; omega
  have hpad : Qv (Q5 mode num N ++ X) = Q5 mode num N ++ (X ++ List.replicate (XJ X.length) false) := by
    unfold Qv
    have : XJ (Q5 mode num N ++ X).length = XJ X.length := by rw [List.length_append]; unfold XJ; omega
    rw [this, List.append_assoc]
  have h4 : (Ze 16382 14 ++ (Ze (Ql N) 6 ++ (Ze mode 8 ++ Ze 0 4))).length = 32 := by simp only [List.length_append, Zu]
  refine ⟨ZJ (Ze 16382 14 ++ (Ze (Ql N) 6 ++ (Ze mode 8 ++ Ze 0 4))), ZJ (Ze (N - 1) (8 * (Ql N - 5))), ZJ (X ++ List.replicate (XJ X.length) false), [((Yj (ZJ (Qv (Q5 mode num N ++ X))) / 256 : Nat) : Int), ((Yj (ZJ (Qv (Q5 mode num N ++ X))) % 256 : Nat) : Int)], ?_, ?_, ?_, rfl, rfl, rfl, ?_⟩
  · rw [Qm, h4]
  · rw [Qm, Zu]; omega
  · rfl
  · rw [ZtG]
    generalize [((Yj (ZJ (Qv (Q5 mode num N ++ X))) / 256 : Nat) : Int), ((Yj (ZJ (Qv (Q5 mode num N ++ X))) % 256 : Nat) : Int)] = tl
    rw [hpad, KU hhl]
    have hc8 := ZAe (XT (QD mode num N))
    generalize hC : Zwx (ZJ (QD mode num N)) = c8 at hc8
    have e1 : ZJ (Q5 mode num N) = ZJ (QD mode num N) ++ [(c8 : Int)] := by
      unfold Q5
      rw [KU (by omega), hC, ZnO c8 hc8]
    have e2 : QD mode num N = (Ze 16382 14 ++ (Ze (Ql N) 6 ++ (Ze mode 8 ++ Ze 0 4))) ++ (Ze num 8 ++ Ze (N - 1) (8 * (Ql N - 5))) := by
      unfold QD
      rw [hcode]
      simp only [List.flatMap_cons, List.flatMap_nil, List.append_nil, List.append_assoc]
    have e3 : ZJ (QD mode num N) = ZJ (Ze 16382 14 ++ (Ze (Ql N) 6 ++ (Ze mode 8 ++ Ze 0 4))) ++ ((num : Int) :: ZJ (Ze (N - 1) (8 * (Ql N - 5)))) := by
      rw [e2, KU (by rw [h4]), KU (A := Ze num 8) (by rw [Zu]), ZnO num (by omega)]
      rfl
    rw [e1, e3]
    simp only [List.append_assoc, List.cons_append, List.nil_append]
abbrev ZwK (l : List Int) : ByteArray := ByteArray.mk (List.map (fun n => UInt8.ofNat n.toNat) l).toArray
theorem ZCY {a b : List Int} (ha : ZN a = true) (hb : ZN b = true) (h : ZwK a = ZwK b) : a = b := by
  have h1 : List.map (fun (n : Int) => UInt8.ofNat n.toNat) a = List.map (fun (n : Int) => UInt8.ofNat n.toNat) b := by
    have := congrArg (fun x => x.data.toList) h
    simpa using this
  have hl : a.length = b.length := by have := congrArg List.length h1; simpa using this
  apply List.ext_getElem hl
  intro i h2 h3
  obtain ⟨x, hx, hxe⟩ := W6 ha h2
  obtain ⟨y, hy, hye⟩ := W6 hb h3
  have h4 : (List.map (fun (n : Int) => UInt8.ofNat n.toNat) a)[i]? = (List.map (fun (n : Int) => UInt8.ofNat n.toNat) b)[i]? := by rw [h1]
  rw [List.getElem?_map, List.getElem?_map, List.getElem?_eq_getElem h2, List.getElem?_eq_getElem h3, hxe, hye] at h4
  simp only [Option.map_some, Option.some.injEq, Int.toNat_natCast] at h4
  have h5 := congrArg UInt8.toNat h4
  rw [UInt8.toNat_ofNat', UInt8.toNat_ofNat', Nat.mod_eq_of_lt hx, Nat.mod_eq_of_lt hy] at h5
  rw [hxe, hye, h5]
def ZqV (H2 H : Int) (Hn : Nat) (b c : List Int) (q : Bool) : Option (Bool × Unit) :=
  bif Int.ofNat (List.length b) == Int.ofNat (List.length c) then bif decide (H2 < Int.ofNat (List.length b)) then bif decide ((0 : Int) ≤ (0 : Int) ∧ (0 : Int) ≤ (4 : Int) ∧ (4 : Int) ≤ Int.ofNat (List.length b)) then bif decide ((0 : Int) ≤ (0 : Int) ∧ (0 : Int) ≤ (4 : Int) ∧ (4 : Int) ≤ Int.ofNat (List.length c)) then
    bif (ZwK (List.drop (0 : Nat) (List.take (4 : Nat) b))).toList == (ZwK (List.drop (0 : Nat) (List.take (4 : Nat) c))).toList then bif decide ((0 : Int) ≤ H ∧ H ≤ IntKind.i64.wrap (Int.ofNat (List.length b) - (2 : Int)) ∧ IntKind.i64.wrap (Int.ofNat (List.length b) - (2 : Int)) ≤ Int.ofNat (List.length b)) then bif decide ((0 : Int) ≤ H ∧ H ≤ IntKind.i64.wrap (Int.ofNat (List.length b) - (2 : Int)) ∧ IntKind.i64.wrap (Int.ofNat (List.length b) - (2 : Int)) ≤ Int.ofNat (List.length c)) then
    bif (ZwK (List.drop Hn (List.take (IntKind.i64.wrap (Int.ofNat (List.length b) - (2 : Int))).toNat b))).toList == (ZwK (List.drop Hn (List.take (IntKind.i64.wrap (Int.ofNat (List.length b) - (2 : Int))).toNat c))).toList then some (((ZwK b).toList == (ZwK c).toList) == q, ()) else some (false, ()) else none else none else some (false, ()) else none else none else some (false, ()) else some (false, ())
theorem Zjv {w4 mid P t1 t2 : List Int} {n1 n2 : Nat} {c1 c2 : Int} {Hn : Nat} (h4 : w4.length = 4) (hm : mid.length + 6 = Hn) (hP : 1 ≤ P.length) (ht1 : t1.length = 2) (ht2 : t2.length = 2) {b c : List Int}
    (hb : b = w4 ++ (n1 : Int) :: (mid ++ c1 :: (P ++ t1))) (hc : c = w4 ++ (n2 : Int) :: (mid ++ c2 :: (P ++ t2))) (hbb : ZN b = true) (hcb : ZN c = true) (hlen : b.length ≤ 5000) (hsame : n1 = n2 → b = c) :
    ZqV ((Hn + 2 : Nat) : Int) ((Hn : Nat) : Int) Hn b c (decide (n1 = n2)) = some (true, ()) := by
  have hbl : b.length = Hn + P.length + 2 := by rw [hb]; simp; omega
  have hcl : c.length = Hn + P.length + 2 := by rw [hc]; simp; omega
  unfold ZqV
  have e0 : (Int.ofNat b.length == Int.ofNat c.length) = true := by rw [hbl, hcl]; simp
  rw [e0]
  simp only [cond_true]
  have e1 : IntKind.i64.wrap (Int.ofNat b.length - 2) = ((b.length - 2 : Nat) : Int) := by simp only [Int.ofNat_eq_natCast]; rw [Z8 (by omega)]; omega
  rw [e1, Zb (by simp only [Int.ofNat_eq_natCast]; omega), Zb (by simp only [Int.ofNat_eq_natCast]; omega), Zb (by simp only [Int.ofNat_eq_natCast]; omega)]
  have e2 : List.drop 0 (List.take 4 b) = w4 := by rw [hb, List.drop_zero, List.take_append_of_le_length (by omega), List.take_of_length_le (by omega)]
  have e3 : List.drop 0 (List.take 4 c) = w4 := by rw [hc, List.drop_zero, List.take_append_of_le_length (by omega), List.take_of_length_le (by omega)]
  rw [e2, e3, Zsu, Zb rfl, Zb (by simp only [Int.ofNat_eq_natCast]; omega), Zb (by simp only [Int.ofNat_eq_natCast]; omega), Int.toNat_natCast]
  have key : ∀ (n : Nat) (cc : Int) (t : List Int), t.length = 2 → List.drop Hn (List.take (Hn + P.length) (w4 ++ (n : Int) :: (mid ++ cc :: (P ++ t)))) = P := by
    intro n cc t ht
    have e : w4 ++ (n : Int) :: (mid ++ cc :: (P ++ t)) = (w4 ++ (n : Int) :: (mid ++ [cc])) ++ (P ++ t) := by simp
    have hl : (w4 ++ (n : Int) :: (mid ++ [cc])).length = Hn := by simp; omega
    rw [e, List.take_append, hl, show Hn + P.length - Hn = P.length by omega, List.take_of_length_le (by omega), List.drop_append, hl, Nat.sub_self, List.drop_zero, List.drop_eq_nil_of_le (by omega), List.nil_append, List.take_append_of_le_length (Nat.le_refl _), List.take_length]
  have e4 : List.drop Hn (List.take (b.length - 2) b) = P := by
    rw [show b.length - 2 = Hn + P.length by omega, hb]
    exact key n1 c1 t1 ht1
  have e5 : List.drop Hn (List.take (b.length - 2) c) = P := by
    rw [show b.length - 2 = Hn + P.length by omega, hc]
    exact key n2 c2 t2 ht2
  rw [e4, e5, Zsu, Zb rfl, Zsu]
  congr 2
  by_cases hn : n1 = n2
  · rw [decide_eq_true hn, decide_eq_true (by rw [hsame hn])]
    rfl
  · rw [decide_eq_false hn, decide_eq_false]
    · rfl
    · intro h
      have := ZCY hbb hcb h
      apply hn
      rw [hb, hc] at this
      have h5 := congrArg (fun l => l[4]?) this
      simp only [List.getElem?_append_right (show w4.length ≤ 4 by omega), h4, Nat.sub_self, List.getElem?_cons_zero, Option.some.injEq] at h5
      omega
theorem ZE1 (k : Nat) (n : Int) (ch : List (List Int)) (a2 a3 : Int) : f9_F k ((n, ch, ()), a2, a3, ()) = (Zqv k ()).bind fun y => bif !y.1 then some (false, ()) else (Zjf k ((IntKind.i64.wrap ((IntKind.u64.wrap n).tmod (128 : Int)), ch, ()), ())).bind fun y => (Zf9 k ((Int.ofNat ch.length, IntKind.i64.wrap ((4 : Int) + IntKind.i64.wrap ((IntKind.u64.wrap a3).tmod (21 : Int))), (8000 : Int), ()), (y.1.1, y.1.2.1, ()), ())).bind fun y => (Zjf k ((IntKind.i64.wrap ((IntKind.u64.wrap a2).tmod (128 : Int)), ch, ()), ())).bind fun y_1 => (Zf9 k ((Int.ofNat ch.length, IntKind.i64.wrap ((4 : Int) + IntKind.i64.wrap ((IntKind.u64.wrap a3).tmod (21 : Int))), (8000 : Int), ()), (y_1.1.1, y_1.1.2.1, ()), ())).bind fun y_2 => bif y.1.2.1 != y_2.1.2.1 then some (false, ()) else bif y.1.2.1 != (0 : Int) then bif Int.ofNat (List.length y.1.1) == (0 : Int) then some (Int.ofNat (List.length y_2.1.1) == (0 : Int), ()) else some (false, ()) else bif decide ((0 : Int) ≤ (0 : Int) ∧ (0 : Int) < Int.ofNat ch.length) then bif decide ((256 : Int) < Int.ofNat (List.length (ch.getD (0 : Nat) []))) then
    ZqV 10 8 8 y.1.1 y_2.1.1 (IntKind.i64.wrap ((IntKind.u64.wrap n).tmod (128 : Int)) == IntKind.i64.wrap ((IntKind.u64.wrap a2).tmod (128 : Int))) else ZqV 9 7 7 y.1.1 y_2.1.1 (IntKind.i64.wrap ((IntKind.u64.wrap n).tmod (128 : Int)) == IntKind.i64.wrap ((IntKind.u64.wrap a2).tmod (128 : Int))) else none := rfl
theorem ZqB (x : Int) (m : Nat) (h0 : 1 ≤ m) (hm : m ≤ 1000) : ∃ v : Nat, IntKind.i64.wrap ((IntKind.u64.wrap x).tmod (m : Int)) = (v : Int) ∧ v < m := by
  have h1 : 0 ≤ IntKind.u64.wrap x := by rw [IntKind.wrap_u64]; omega
  rw [Int.tmod_eq_emod_of_nonneg h1]
  have h3 := Int.emod_nonneg (IntKind.u64.wrap x) (show (m : Int) ≠ 0 by omega)
  have h4 := Int.emod_lt_of_pos (IntKind.u64.wrap x) (show (0 : Int) < (m : Int) by omega)
  generalize IntKind.u64.wrap x % (m : Int) = z at h3 h4
  exact ⟨z.toNat, by rw [Z8 (by omega)]; omega, by omega⟩
theorem ZiX {c d r : Int} {n1 n2 : Nat} {ch : List (List Int)} (h1 : n1 < 128) (h2 : n2 < 128) : We c d r n1 ch = We c d r n2 ch := by
  unfold We
  have : ((n1 : Int) < 0 ∨ 2147483647 < (n1 : Int) ∨ (ch.length : Int) ≠ c) ↔ ((n2 : Int) < 0 ∨ 2147483647 < (n2 : Int) ∨ (ch.length : Int) ≠ c) := by omega
  by_cases hs : Zcd c d r = false
  · rw [if_pos hs, if_pos hs]
  · rw [if_neg hs, if_neg hs]
    by_cases hh : ((n1 : Int) < 0 ∨ 2147483647 < (n1 : Int) ∨ (ch.length : Int) ≠ c)
    · rw [if_pos hh, if_pos (this.1 hh)]
    · rw [if_neg hh, if_neg (fun h => hh (this.2 h))]
theorem ZH2 (k : Nat) (hk : 3000000 < k) (n : Int) {ch : List (List Int)} (h : Sm ch) (a2 a3 : Int) : f9_F k ((n, ch, ()), a2, a3, ()) = some (true, ()) := by
  rw [ZE1]
  refine (Zg (ZDM k (by omega)) _).trans ?_
  simp only [Bool.not_true, cond_false]
  obtain ⟨v1, e1, l1⟩ := ZqB n 128 (by omega) (by omega)
  obtain ⟨v2, e2, l2⟩ := ZqB a2 128 (by omega) (by omega)
  rw [show ((128 : Nat) : Int) = 128 from rfl] at e1 e2
  rw [e1, e2]
  generalize IntKind.i64.wrap ((4 : Int) + IntKind.i64.wrap ((IntKind.u64.wrap a3).tmod (21 : Int))) = d
  refine (Zg (Zwq k (by omega) (v1 : Int) h) _).trans ?_
  refine (Zg (Zog k (by omega) (Int.ofNat ch.length) d 8000 (v1 : Int) ch) _).trans ?_
  refine (Zg (Zwq k (by omega) (v2 : Int) h) _).trans ?_
  refine (Zg (Zog k (by omega) (Int.ofNat ch.length) d 8000 (v2 : Int) ch) _).trans ?_
  have hb1 := Zjs (Int.ofNat ch.length) d 8000 v1 ch
  have hb2 := Zjs (Int.ofNat ch.length) d 8000 v2 ch
  have hlen := ZA7 (Int.ofNat ch.length) d 8000 v1 ch
  simp only
  rw [ZpF, ZpF, ZiX (n1 := v1) (n2 := v2) l1 l2, ZT, Zj (by simp), ZT]
  by_cases he : We (Int.ofNat ch.length) d 8000 v2 ch = 0
  · rw [Zj (by simpa using he)]
    have he1 : We (Int.ofNat ch.length) d 8000 v1 ch = 0 := by rw [ZiX (n1 := v1) (n2 := v2) l1 l2]; exact he
    obtain ⟨hs, hn, hc, hl, hsg⟩ := Za9 he1
    have hpos : 0 < ch.length := by simp only [Int.ofNat_eq_natCast] at hs; omega
    have hN : (ch.getD 0 []) = ch.headD [] ∧ 1 ≤ (ch.headD []).length ∧ (ch.headD []).length ≤ 512 := by
      match ch, hpos with
      | l :: _, _ => exact ⟨rfl, (hl l (by simp)).2⟩
    obtain ⟨hlay, ⟨mode, hmode, hmc⟩, _⟩ := Zyi he1
    have hcp := Zw6 hlay hN.2.1 hN.2.2
    have hw : ∀ v : Nat, v < 128 → We (Int.ofNat ch.length) d 8000 v ch = 0 → (X6 (Int.ofNat ch.length) d 8000 v ch).1 = ZJ (WS (Q5 mode v (ch.headD []).length ++ Wh (Xs ch).1 (ZY (Int.ofNat ch.length) d (Xs ch).2))) := by
      intro v hv hz
      unfold X6
      rw [if_pos hz, hmode, Int.toNat_natCast, Int.toNat_natCast]
    rw [hw v1 l1 he1] at hb1 hlen ⊢
    rw [hw v2 l2 he] at hb2 ⊢
    generalize Wh (Xs ch).1 (ZY (Int.ofNat ch.length) d (Xs ch).2) = X at hcp hb1 hb2 hlen ⊢
    generalize hNN : (ch.headD []).length = N at hN hb1 hb2 hlen ⊢
    obtain ⟨w4, mid, P, t1, x1, x2, x3, x4, x5, x6, x7⟩ := ZpR (mode := mode) (num := v1) (N := N) (by omega) l1 hN.2 X
    obtain ⟨w4', mid', P', t2, y1, y2, y3, y4, y5, y6, y7⟩ := ZpR (mode := mode) (num := v2) (N := N) (by omega) l2 hN.2 X
    obtain rfl : w4' = w4 := y4.trans x4.symm
    obtain rfl : mid' = mid := y5.trans x5.symm
    obtain rfl : P' = P := y6.trans x6.symm
    have hPl : 1 ≤ P'.length := by rw [x6, Qm, List.length_append]; omega
    rw [Zb (by simp only [Int.ofNat_eq_natCast]; omega), hN.1, hNN]
    have hq : (((v1 : Nat) : Int) == ((v2 : Nat) : Int)) = decide (v1 = v2) := by
      rw [ZI]
      by_cases h : v1 = v2
      · rw [decide_eq_true h, decide_eq_true (by omega)]
      · rw [decide_eq_false h, decide_eq_false (by omega)]
    rw [hq]
    by_cases h256 : 256 < N
    · have hk7 : Ql N = 7 := by unfold Ql; rw [if_pos h256]
      rw [Zb (by simp only [Int.ofNat_eq_natCast]; omega)]
      exact Zjv (Hn := 8) x1 (by omega) hPl x3 y3 x7 y7 hb1 hb2 hlen (fun h => by rw [h])
    · have hk6 : Ql N = 6 := by unfold Ql; rw [if_neg h256]
      rw [Zj (by simp only [Int.ofNat_eq_natCast]; omega)]
      exact Zjv (Hn := 7) x1 (by omega) hPl x3 y3 x7 y7 hb1 hb2 hlen (fun h => by rw [h])
  · have he1 : We (Int.ofNat ch.length) d 8000 v1 ch ≠ 0 := by rw [ZiX (n1 := v1) (n2 := v2) l1 l2]; exact he
    rw [Zb he]
    unfold X6
    rw [if_neg he, if_neg he1]
    rfl
theorem numbers_plain : ∀ x : Kd.dens (Wi [frameT, .int .i64, .int .i64]), Zz9 [frameT, .int .i64, .int .i64] x → ZgK [frameT, .int .i64, .int .i64] x ≤ 1048576 → ∃ k u, f9_F k x = some (true, u) := by
  rintro ⟨⟨n, ch, ⟨⟩⟩, a2, a3, ⟨⟩⟩ _ hb
  have hb : Ty.bulk frameT (n, ch, ()) + _ ≤ 1048576 := hb
  exact ⟨4000000, (), ZH2 4000000 (by omega) n (Zvb (n := n) (by omega)) a2 a3⟩
end Go.Sh
