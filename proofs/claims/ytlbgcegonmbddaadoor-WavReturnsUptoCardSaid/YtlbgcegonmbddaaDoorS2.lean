/-
  The machine, part 18: from a contract of a law to its statement.
-/
import Derived.Test.YtlbgcegonmbddaaDoorS1
set_option linter.unusedSimpArgs false
set_option linter.unusedVariables false
namespace Go.Sh
open Go Go.RowKit Go.WideShapes Go.ChangeShapes

def viewKs (tys : List Ty) : List Kd := tys.map .view
def okAll : (tys : List Ty) → Kd.dens (viewKs tys) → Prop
  | [], _ => True
  | t :: l, x => t.ok x.1 ∧ okAll l x.2
def bulkAll : (tys : List Ty) → Kd.dens (viewKs tys) → Nat
  | [], _ => 0
  | t :: l, x => t.bulk x.1 + bulkAll l x.2
def fitsTs (P : Program) : List TypeId → List Ty → Bool
  | [], [] => true
  | T :: Ts, t :: ts => fitsT P 16 T t && fitsTs P Ts ts
  | _, _ => false

section
variable {H : Type} {enc : TypeId × Value → H} {P : Program} {w : World} {base : Nat} {spare : Nat → Bool} {held : Bool}

theorem cells_noAgg {v : Value} (h : ∀ cs, v ≠ .agg cs) : v.cells = #[v] := by
  cases v <;> first | rfl | (exact absurd rfl (h _))

theorem view_of_trod {b0 n : Nat} {r : Reach} {T : TypeId} {t : Ty} {v : Value} {d : DataW H} {ps : List MemPlace} (hval : Value.okWide P w r b0 T v) (h : DataW.Trod enc P w base spare held T v d ps) (hf : fitsT P n T t = true) :
    ∃ y, viewT w (whole w) t y v ∧ t.ok y ∧ t.bulk y ≤ bulkD d := by
  obtain ⟨m, hm⟩ := h
  obtain ⟨y, h1, h2, h3⟩ := rt_of_trod m n T t _ _ hf hm
  refine ⟨y, ⟨_, h1, ?_⟩, h2, h3⟩
  cases n with
  | zero => simp [fitsT] at hf
  | succ n =>
    unfold Value.okWide at hval
    unfold fitsT at hf
    split at hf <;> rename_i hu <;> try (cases hf; done)
    all_goals
      rw [hu] at hval
      simp only at hval
    · refine .inr ⟨rfl, ?_⟩
      rw [cells_noAgg]; rintro cs rfl; simp [Cell.okWide, Cell.ok, hu] at hval
    · refine .inr ⟨rfl, ?_⟩
      rw [cells_noAgg]; rintro cs rfl; simp [Cell.okWide, Cell.ok, hu] at hval
    · refine .inr ⟨rfl, ?_⟩
      rw [cells_noAgg]; rintro cs rfl; simp [Cell.okWide, Cell.ok, hu] at hval
    · refine .inr ⟨rfl, ?_⟩
      rw [cells_noAgg]; rintro cs rfl; simp [Cell.okWide, Cell.ok, hu] at hval
    · obtain ⟨cs, rfl, _⟩ := hval
      exact .inl ⟨rfl, rfl⟩
    · obtain ⟨cs, rfl, _⟩ := hval
      exact .inl ⟨rfl, rfl⟩

theorem views_of_trods {b0 : Nat} {r : Reach} : ∀ {Ts : List TypeId} {tys : List Ty} {vs : List Value} {ds : List (DataW H)} {ps : List MemPlace}, fitsTs P Ts tys = true →
    (∀ (j : Nat) t v, Ts[j]? = some t → vs[j]? = some v → Value.okWide P w r b0 t v) → DataW.TrodAll enc P w base spare held Ts vs ds ps →
    ∃ x : Kd.dens (viewKs tys), TTs w (whole w) (encs (viewKs tys) x) vs [] ∧ okAll tys x ∧ bulkAll tys x ≤ bulkDs ds
  | [], [], vs, ds, ps, _, _, h => by
    obtain ⟨rfl, rfl, rfl⟩ := trodAll_nil h
    exact ⟨(), rfl, trivial, Nat.le_refl _⟩
  | T :: Ts, t :: tys, vs, ds, ps, hf, hval, h => by
    simp only [fitsTs, Bool.and_eq_true] at hf
    obtain ⟨v, vs', d, ds', p, q, rfl, rfl, rfl, h1, h2⟩ := trodAll_cons h
    obtain ⟨y, e1, e2, e3⟩ := view_of_trod (hval 0 T v rfl rfl) h1 hf.1
    obtain ⟨x, g1, g2, g3⟩ := views_of_trods hf.2 (fun j t v ht hv => hval (j + 1) t v (by simpa using ht) (by simpa using hv)) h2
    refine ⟨(y, x), ?_, ⟨e2, g2⟩, ?_⟩
    · exact ⟨[], [], rfl, ⟨e1, rfl⟩, g1⟩
    · simp only [bulkAll, bulkDs]; omega
  | [], _ :: _, _, _, _, hf, _, _ => by simp [fitsTs] at hf
  | _ :: _, [], _, _, _, hf, _, _ => by simp [fitsTs] at hf
end

section
variable {H : Type} {enc : TypeId × Value → H} {P : Program}
theorem post_of_below' {f : Func} {s : ChangeSpec} {apart fresh handsOn again : Bool} {W W' : World} {args : Array Value} {v : Value} {ds gs : List (DataW H)} {before pa pv : List MemPlace}
    (hW : DataW.Whole enc P f.params.toList s.vars apart W args.toList ds gs before)
    (hres : ∀ (b : Nat) (sp : Nat → Bool) (hd : Bool), DataW.TrodAll enc P W' b sp hd f.resultTypes.toList (v.resultList f.resultTypes.size) (s.fn H (ds ++ gs)).results [])
    (hargs : ∀ sp : Nat → Bool, (∀ p ∈ before, sp p.block = true) → DataW.TrodAll enc P W' 0 sp true f.params.toList args.toList (s.fn H (ds ++ gs)).args pa)
    (hvars : ∀ sp : Nat → Bool, (∀ p ∈ before, sp p.block = true) → DataW.TrodVars enc P W' sp s.vars (s.fn H (ds ++ gs)).vars pv)
    (hps : before = pa ++ pv) (hb : Below W.heap.size W W')
    (hok : ∀ (j : Nat) (t : TypeId) (r : Value), f.resultTypes[j]? = some t → (v.resultList f.resultTypes.size)[j]? = some r → Value.okWide P W' .any 0 t r) :
    s.post enc P f apart fresh handsOn again W args v W' := by
  have hlt : ∀ p ∈ before, p.block < W.heap.size := fun p hp => hW.lt p hp
  have hold : ∀ p ∈ before, (fun b => decide (b < W.heap.size)) p.block = true := fun p hp => by simpa using hlt p hp
  refine ⟨ds, gs, before, [], pa, pv, hW, hres _ _ _, hargs _ hold, hvars _ hold, World.keptBut_mono (fun p hp => ⟨hp, ?_⟩) (hb.frame (· ∈ before)), fun _ => ?_⟩
  · rw [hps, List.mem_append] at hp
    exact Or.inr hp
  · obtain ⟨_, _, _, _, _, hz, hn⟩ := hW
    refine ⟨hok, _, _, ([] ++ pa) ++ pv, ⟨[] ++ pa, pv, trodAll_append (hargs _ (fun _ _ => rfl)) (hres _ _ _), hvars _ (fun _ _ => rfl), rfl, ?_, ?_⟩, ?_⟩
    · intro b off hp
      have hin : MemPlace.cell b off ∈ before := by rw [hps]; simpa using hp
      rw [hb.frozen (hlt _ hin)]
      exact hz b off hin
    · intro ha
      have := hn ha
      rw [hps] at this
      simpa using this
    · intro p hp _
      rw [hps]
      simpa using hp

theorem trodAll_carry {w w' : World} {base : Nat} {spare : Nat → Bool} {held : Bool} : ∀ {ts : List TypeId} {vs : List Value} {ds : List (DataW H)} {ps : List MemPlace},
    DataW.TrodAll enc P w base spare held ts vs ds ps → (∀ p ∈ ps, w.sameAt w' p) → DataW.TrodAll enc P w' base spare held ts vs ds ps
  | [], [], [], _, h, _ => h
  | _ :: _, _ :: _, _ :: _, _, ⟨p, q, ⟨n, h1⟩, h2, e⟩, hs => ⟨p, q, ⟨n, DataW.trod_carry n _ _ _ h1 (fun x hx => hs x (by rw [e]; exact List.mem_append_left _ hx))⟩,
      trodAll_carry h2 (fun x hx => hs x (by rw [e]; exact List.mem_append_right _ hx)), e⟩

/-- where a law of plain data has a contract, and answers true -/
theorem law_contract {K : FuncId} {fn : Func} {spec : ChangeSpec} {B : TypeId} (tys : List Ty) {F : Nat → Kd.dens (viewKs tys) → Option (Ans (viewKs tys) (.view .bool))} {bound : Nat}
    (hl : laidOutB P = true) (hm : mapsRowed P = true) (hz : ((List.range P.types.size).all fun t => match P.underlying t with | some (.slice e) => decide (0 < P.cellsOf e) | _ => true) = true)
    (hts : fn.params.toList.all (fun t => decide (t < P.types.size)) = true) (hfit : fitsTs P fn.params.toList tys = true) (hres : fn.resultTypes = #[B]) (hB : P.underlying B = some .bool)
    (hvars : spec.vars = []) (hspec : ∀ (H : Type) (ds : List (DataW H)), ds.length = tys.length → spec.fn H ds = { results := [.lit (.bool true)], args := ds })
    (hctr : ∀ k, Ctr P k K (mk (viewKs tys) (.view .bool) F)) (plain : ∀ x : Kd.dens (viewKs tys), okAll tys x → bulkAll tys x ≤ bound → ∃ k u, F k x = some (true, u))
    (enc : TypeId × Value → H) (W : World) (b0 : Nat) (args : Array Value) (ds gs : List (DataW H)) (before : List MemPlace)
    (hval : ∀ (j : Nat) t v, fn.params[j]? = some t → args[j]? = some v → Value.okWide P W .any b0 t v)
    (hW : DataW.Whole enc P fn.params.toList spec.vars false W args.toList ds gs before) (hk : bulkDs (ds ++ gs) ≤ bound) :
    Calls P K args W fun e W' => ∃ v, e = .returned v ∧ spec.post enc P fn false true false false W args v W' := by
  have hW' := hW
  obtain ⟨p, q, hA, hV, he, hfz, hnd⟩ := hW
  rw [hvars] at hV
  have hgs : gs = [] ∧ q = [] := by
    match gs, hV with
    | [], hV => exact ⟨rfl, hV⟩
    | _ :: _, hV => exact hV.elim
  obtain ⟨rfl, rfl⟩ := hgs
  simp only [List.append_nil] at he hk
  obtain rfl : p = before := he.symm
  obtain ⟨x, h1, h2, h3⟩ := views_of_trods (tys := tys) hfit (fun j t v ht hv => hval j t v (by simpa using ht) (by simpa using hv)) hA
  obtain ⟨k, u, hF⟩ := plain x h2 (by omega)
  have hlen : ds.length = tys.length := by
    have e1 : ∀ {Ts : List TypeId} {tys : List Ty} {vs : List Value} {ds : List (DataW H)} {ps : List MemPlace}, fitsTs P Ts tys = true → DataW.TrodAll enc P W 0 (fun _ => true) true Ts vs ds ps → ds.length = tys.length := by
      intro Ts
      induction Ts with
      | nil =>
        intro tys vs ds ps hf h
        obtain ⟨rfl, rfl, rfl⟩ := trodAll_nil h
        cases tys with
        | nil => rfl
        | cons => simp [fitsTs] at hf
      | cons T Ts ih =>
        intro tys vs ds ps hf h
        obtain ⟨v, vs', d, ds', p, q, rfl, rfl, rfl, h1, h2⟩ := trodAll_cons h
        cases tys with
        | nil => simp [fitsTs] at hf
        | cons t tys =>
          simp only [fitsTs, Bool.and_eq_true] at hf
          simp [ih hf.2 h2]
    exact e1 hfit hA
  have hcall := (hctr k).calls (encs (viewKs tys) x) (true, u) (by
    have hd : decs (viewKs tys) (encs (viewKs tys) x) = some x := by
      have e2 : ∀ (l : List Ty) (x : Kd.dens (viewKs l)), decs (viewKs l) (encs (viewKs l) x) = some x := by
        intro l
        induction l with
        | nil => intro x; rfl
        | cons t l ih =>
          intro x
          obtain ⟨y, ys⟩ := x
          show ((asView t (.view t y)).bind fun y => (decs (viewKs l) (encs (viewKs l) ys)).bind fun ys => some (y, ys)) = _
          rw [ih ys]
          simp only [asView, dite_true]
          rfl
      exact e2 tys x
    show (decs (viewKs tys) (encs (viewKs tys) x)).bind (F k) = some (true, u)
    rw [hd]; exact hF) W (whole W) args.toList [] (whole_lz W) h1 List.nodup_nil (by simp)
  rw [Array.toArray_toList] at hcall
  refine hcall.mono fun e W' h => ?_
  obtain ⟨v, lim', b1, b2, rfl, hE, _, ⟨ho, ht, hout⟩, hold, hT, _⟩ := h
  have hv : v = .bool true := by
    have hT : viewT W' lim' .bool true v ∧ b1 = [] := hT
    obtain ⟨⟨cs, c1, c2⟩, _⟩ := hT
    rcases c2 with ⟨c2, _⟩ | ⟨_, c2⟩
    · cases c2
    · simp only [Rt] at c1
      subst c2
      simpa using c1
  subst hv
  have hBel : Below W.heap.size W W' := ⟨ho, ht, hout, hE.size, fun b hb => (hold b hb (by simp)).1⟩
  have hlt : ∀ x ∈ p, x.block < W.heap.size := fun x hx => hW'.lt x hx
  refine ⟨_, rfl, post_of_below' (pa := p) (pv := []) hW' (fun b sp hd => ?_) (fun sp hsp => ?_) (fun sp hsp => ?_) (by simp) hBel ?_⟩
  · rw [List.append_nil, hspec H ds hlen, hres]
    exact ⟨[], [], ⟨1, by simp [DataW.trod, Value.cells, hB]⟩, rfl, rfl⟩
  · rw [List.append_nil, hspec H ds hlen]
    refine trodAll_carry (w := W) (DataW.TrodAll.respare (kids_rows hl hm) (slices_full_of P hz) (fun t ht => ?_) hA hsp) (fun y hy => hBel.same (hlt y hy))
    simpa using List.all_eq_true.1 hts t ht
  · rw [List.append_nil, hspec H ds hlen, hvars]
    rfl
  · exact ok_one hres rfl (okWide_bool_mk hB true)
end
end Go.Sh
