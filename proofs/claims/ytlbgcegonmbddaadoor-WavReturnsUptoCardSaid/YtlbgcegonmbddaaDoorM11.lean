/-
  The machine, part 11: regions in any order.
-/
import Derived.Test.YtlbgcegonmbddaaDoorM10
set_option linter.unusedSimpArgs false
set_option linter.unusedVariables false
namespace Go.Sh
open Go
variable {C : Ctx} {G : Glob} {σ : Sig} {w : World} {lim : Nat → Nat} {st : St} {a : Act}


theorem eff_local {rid i : Nat} {ops : List Oper} {o : Oper} {st st' : St} {e : Eff} {lg : List Nat} (h : effOf C rid i ops o st = some (e, lg))
    (he : ∀ s ∈ slotsOf ops o, st'.env s = st.env s) (ht : ∀ r ∈ lg, st'.tbl r = st.tbl r) : effOf C rid i ops o st' = some (e, lg) := by
  have hmap : (opsOf o.op).map (opnd st'.env) = (opsOf o.op).map (opnd st.env) := by
    refine List.map_congr_left fun x hx => ?_
    cases x with
    | tmp t => exact he t (by simp only [slotsOf, List.mem_append, List.mem_filterMap]; exact .inl ⟨.tmp t, hx, rfl⟩)
    | _ => rfl
  have hact : ∀ {e lg}, runN C rid i o st = some (e, lg) → (∀ r ∈ lg, st'.tbl r = st.tbl r) → runN C rid i o st' = some (e, lg) := by
    intro e lg h ht
    obtain ⟨h1, h2⟩ := runN_some h
    have hs : spOf C rid i o st'.env = spOf C rid i o st.env := by simp only [spOf, hmap]
    have : actN C rid i o st'.env = actN C rid i o st.env := by simp only [actN, actOf, hs, hmap]
    unfold runN
    rw [this, hs, M.run_local _ h1 ht]
    simp only [Option.bind_some, h2, cond_true]
  unfold effOf at h ⊢
  cases hg : o.guard with
  | none => rw [hg] at h; exact hact h ht
  | some p =>
    obtain ⟨j, want⟩ := p
    rw [hg] at h
    simp only at h ⊢
    cases hj : guardSlot ops j with
    | none => rw [hj] at h; simp at h
    | some d =>
      rw [hj] at h
      simp only at h ⊢
      rw [he d (by simp [slotsOf, hg, hj])]
      split at h
      · rename_i g hd
        cases hgw : (g == want) <;> rw [hgw] at h <;> simp only [cond_true, cond_false] at h ⊢
        · exact h
        · exact hact h ht
      · rename_i hd; exact h
      · simp at h

theorem disjoint_spec {a b : List Nat} (h : disjoint a b = true) : ∀ x ∈ a, x ∉ b := by
  intro x hx hb
  simp only [disjoint, List.all_eq_true, Bool.not_eq_true', List.any_eq_false] at h
  exact h x hx x hb (beq_self x)

theorem look_none {u : Ups} {r : Nat} (h : r ∉ u.map (·.1)) : look u r = none := by
  induction u with
  | nil => rfl
  | cons p u ih =>
    obtain ⟨i, x⟩ := p
    simp only [List.map_cons, List.mem_cons, not_or] at h
    rw [look_cons]
    simp [Ne.symm h.1, ih h.2]
theorem put_other {T : Tbl} {u : Ups} {r : Nat} (h : r ∉ u.map (·.1)) : T.put u r = T r := by simp [Tbl.put, look_none h]
theorem setO_other {e : Nat → AV} {d : Option Nat} {v : AV} {s : Nat} (h : d ≠ some s) : setO e d v s = e s := by
  cases d with
  | none => rfl
  | some d => simp [setO, setE, beq_ne (fun hs => h (by rw [hs] : some d = some s) : s ≠ d)]

theorem put_comm {T : Tbl} {u v : Ups} (h : ∀ r ∈ u.map (·.1), r ∉ v.map (·.1)) : (T.put u).put v = (T.put v).put u := by
  funext r
  by_cases hu : r ∈ u.map (·.1)
  · rw [put_other (h r hu)]
    simp only [Tbl.put]
    cases hl : look u r with
    | some x => rfl
    | none => simp [look_none (h r hu)]
  · rw [put_other (T := T.put v) hu]
    simp only [Tbl.put]
    cases hl : look v r with
    | some x => rfl
    | none => simp [look_none hu]
theorem setO_comm {e : Nat → AV} {c d : Option Nat} {x y : AV} (h : ∀ s, c = some s → d ≠ some s) : setO (setO e c x) d y = setO (setO e d y) c x := by
  funext s
  by_cases hc : c = some s
  · rw [setO_other (h s hc)]
    subst hc; simp [setO, setE, beq_self]
  · rw [setO_other (e := setO e d y) hc]
    by_cases hd : d = some s
    · subst hd; simp [setO, setE, beq_self]
    · rw [setO_other hd, setO_other hd, setO_other hc]

/-- they may change places -/
theorem step_swap {rid i j : Nat} {ops : List Oper} {x y : Oper} {st s1 s2 : St} {p q : Lg} (h1 : stepB C rid i ops x st = some (s1, p)) (h2 : stepB C rid j ops y s1 = some (s2, q))
    (hi : indep ops x y p q = true) : ∃ s1', stepB C rid j ops y st = some (s1', q) ∧ stepB C rid i ops x s1' = some (s2, p) := by
  simp only [indep, Bool.and_eq_true] at hi
  obtain ⟨⟨⟨d1, d2⟩, d3⟩, d4⟩ := hi
  have d1 := disjoint_spec d1; have d2 := disjoint_spec d2; have d3 := disjoint_spec d3; have d4 := disjoint_spec d4
  simp only [stepB, Option.map_eq_some_iff, Prod.mk.injEq] at h1 h2
  obtain ⟨⟨e1, l1⟩, a1, a2, a3⟩ := h1
  obtain ⟨⟨e2, l2⟩, b1, b2, b3⟩ := h2
  subst a2 a3 b2 b3
  simp only at d1 d2 d3 d4 a1 b1
  have y0 : effOf C rid j ops y st = some (e2, l2) := by
    refine eff_local b1 (fun s hs => ?_) (fun r hr => ?_)
    · simp only [after]
      rw [setO_other]
      intro he
      exact d1 s (by simp [dstOf, he]) (by simp [hs])
    · simp only [after]
      rw [put_other]
      intro he
      exact d3 r he (by simp [hr])
  have x1 : effOf C rid i ops x (after st y e2) = some (e1, l1) := by
    refine eff_local a1 (fun s hs => ?_) (fun r hr => ?_)
    · simp only [after]
      rw [setO_other]
      intro he
      exact d2 s (by simp [dstOf, he]) hs
    · simp only [after]
      rw [put_other]
      intro he
      exact d4 r he hr
  refine ⟨after st y e2, by simp [stepB, y0], ?_⟩
  simp only [stepB, x1, Option.map_some, Option.some.injEq, Prod.mk.injEq, and_true]
  simp only [after, St.mk.injEq]
  refine ⟨(setO_comm fun s hs hd => ?_).symm, (put_comm fun r hr hb => ?_).symm⟩
  · exact d1 s (by simp [dstOf, hs]) (by simp [dstOf, hd])
  · exact d3 r hr (by simp [hb])

/-- one may go ahead -/
theorem RunL.ahead {rid : Nat} {ops : List Oper} {lg : Nat → Lg} {i : Nat} : ∀ {pre post : List Nat} {st stf : St}, RunL C rid ops lg (pre ++ i :: post) st stf →
    (∀ j ∈ pre, ∀ x y, ops[j]? = some x → ops[i]? = some y → indep ops x y (lg j) (lg i) = true) →
    ∃ o s, ops[i]? = some o ∧ stepB C rid i ops o st = some (s, lg i) ∧ RunL C rid ops lg (pre ++ post) s stf
  | [], post, st, stf, h, _ => h
  | j :: pre, post, st, stf, ⟨x, s, h1, h2, h3⟩, hd => by
    obtain ⟨y, s', k1, k2, k3⟩ := RunL.ahead h3 fun j' hj' => hd j' (by simp [hj'])
    obtain ⟨s1', e1, e2⟩ := step_swap h2 k2 (hd j (by simp) x y h1 k1)
    exact ⟨y, s1', k1, e1, x, s', h1, e2, k3⟩

/-! what must come ahead -/
theorem masks_split : ∀ (l : List Oper) (acc : List Nat), ∃ r, masks l acc = acc ++ r ∧ r.length = l.length
  | [], acc => ⟨[], by simp [masks]⟩
  | o :: l, acc => by
    obtain ⟨r, h1, h2⟩ := masks_split l (acc ++ [(preds o).foldl (fun s p => s ||| 2 ^ p ||| acc.getD p 0) 0])
    exact ⟨_ :: r, by simp only [masks]; rw [h1, List.append_assoc]; rfl, by simp [h2]⟩
theorem masks_at : ∀ (l : List Oper) (acc : List Nat) (j : Nat) (o : Oper), l[j]? = some o →
    (masks l acc).getD (acc.length + j) 0 = (preds o).foldl (fun s p => s ||| 2 ^ p ||| ((masks l acc).take (acc.length + j)).getD p 0) 0
  | [], _, _, _, h => by simp at h
  | x :: l, acc, 0, o, h => by
    simp at h; subst h
    simp only [masks]
    obtain ⟨r, h1, h2⟩ := masks_split l (acc ++ [(preds x).foldl (fun s p => s ||| 2 ^ p ||| acc.getD p 0) 0])
    rw [h1]
    simp [List.getD_eq_getElem?_getD, List.getElem?_append, List.take_append]
  | x :: l, acc, j + 1, o, h => by
    have := masks_at l (acc ++ [(preds x).foldl (fun s p => s ||| 2 ^ p ||| acc.getD p 0) 0]) j o (by simpa using h)
    simp only [masks]
    rw [List.length_append, List.length_singleton, Nat.add_assoc, Nat.add_comm 1 j] at this
    exact this
theorem fold_bit {f : Nat → Nat} {i : Nat} : ∀ (l : List Nat) (s : Nat), Nat.testBit (l.foldl (fun s p => s ||| 2 ^ p ||| f p) s) i = true → Nat.testBit s i = true ∨ ∃ p ∈ l, i = p ∨ Nat.testBit (f p) i = true
  | [], s, h => .inl h
  | p :: l, s, h => by
    rcases fold_bit l _ h with h | ⟨q, h1, h2⟩
    · rw [Nat.testBit_or, Nat.testBit_or, Nat.testBit_two_pow] at h
      simp only [Bool.or_eq_true, decide_eq_true_eq] at h
      rcases h with (h | h) | h
      · exact .inl h
      · exact .inr ⟨p, by simp, .inl h.symm⟩
      · exact .inr ⟨p, by simp, .inr h⟩
    · exact .inr ⟨q, by simp [h1], h2⟩
theorem masks_spec {ops : List Oper} {j : Nat} {o : Oper} (ho : ops[j]? = some o) {i : Nat} (h : Nat.testBit ((masks ops []).getD j 0) i = true) :
    ∃ p ∈ preds o, i = p ∨ Nat.testBit ((masks ops []).getD p 0) i = true := by
  have := masks_at ops [] j o ho
  simp only [List.length_nil, Nat.zero_add] at this
  rw [this] at h
  rcases fold_bit _ _ h with h | ⟨p, h1, h2⟩
  · simp at h
  · refine ⟨p, h1, h2.imp id fun h2 => ?_⟩
    rw [List.getD_eq_getElem?_getD, List.getElem?_take] at h2
    rw [List.getD_eq_getElem?_getD]
    split at h2
    · exact h2
    · simp at h2

theorem preds_spec {o : Oper} {p : Nat} : p ∈ preds o ↔ ∃ e ∈ o.after, Region.binds .any e = true ∧ e.on = p := by
  simp only [preds, List.mem_map, List.mem_filter, Array.mem_toList_iff]
  constructor
  · rintro ⟨e, ⟨h1, h2⟩, h3⟩; exact ⟨e, h1, h2, h3⟩
  · rintro ⟨e, h1, h2, h3⟩; exact ⟨e, ⟨h1, h2⟩, h3⟩

theorem mem_ready {ops : Array Oper} {listed : Array Bool} {i : Nat} (h : i ∈ Region.ready .any ops listed) :
    ∃ o, ops[i]? = some o ∧ listed.getD i true = false ∧ ∀ p ∈ preds o, listed.getD p false = true := by
  simp only [Region.ready, List.mem_filter, List.mem_range, Bool.and_eq_true, Bool.not_eq_true'] at h
  obtain ⟨h1, h2, h3⟩ := h
  have ho : ops[i]? = some ops[i] := by simp [h1]
  refine ⟨ops[i], ho, h2, fun p hp => ?_⟩
  obtain ⟨e, e1, e2, e3⟩ := preds_spec.1 hp
  rw [ho] at h3
  simp only [Option.map_some, Option.getD_some, Array.all_eq_true_iff_forall_mem] at h3
  have := h3 e e1
  simp only [e2, Bool.not_true, Bool.false_or] at this
  rw [← e3]; exact this
theorem ready_of {ops : Array Oper} {listed : Array Bool} {i : Nat} {o : Oper} (ho : ops[i]? = some o) (hl : listed.getD i true = false) (hp : ∀ p ∈ preds o, listed.getD p false = true) :
    i ∈ Region.ready .any ops listed := by
  have hi : i < ops.size := by
    rcases Nat.lt_or_ge i ops.size with h | h
    · exact h
    · simp [Array.getElem?_eq_none h] at ho
  simp only [Region.ready, List.mem_filter, List.mem_range, Bool.and_eq_true, Bool.not_eq_true', ho, Option.map_some, Option.getD_some, Array.all_eq_true_iff_forall_mem]
  refine ⟨hi, hl, fun e he => ?_⟩
  cases hb : Region.binds .any e with
  | false => rfl
  | true => simp [hp e.on (preds_spec.2 ⟨e, he, hb, rfl⟩)]

/-- those that are left -/
def left (n : Nat) (listed : Array Bool) : List Nat := (List.range n).filter fun i => !listed.getD i true

theorem getD_set {listed : Array Bool} {i k : Nat} {b : Bool} (hi : listed.getD i true = false) : (listed.setIfInBounds i true).getD k b = if i = k then true else listed.getD k b := by
  have hlt : i < listed.size := by
    rcases Nat.lt_or_ge i listed.size with h | h
    · exact h
    · rw [Array.getD_eq_getD_getElem?, Array.getElem?_eq_none h] at hi; simp at hi
  simp only [Array.getD_eq_getD_getElem?, Array.getElem?_setIfInBounds]
  by_cases h : i = k
  · subst h; simp [hlt]
  · simp [h]

theorem left_split {n : Nat} {listed : Array Bool} {i : Nat} (hn : i < n) (hi : listed.getD i true = false) :
    ∃ pre post, left n listed = pre ++ i :: post ∧ left n (listed.setIfInBounds i true) = pre ++ post ∧ (∀ j ∈ pre, j < i ∧ listed.getD j true = false) := by
  have hr : List.range n = List.range i ++ i :: List.range' (i + 1) (n - (i + 1)) := by
    rw [List.range_eq_range', List.range_eq_range']
    have h1 : n = i + (1 + (n - (i + 1))) := by omega
    conv => lhs; rw [h1]
    rw [List.range'_append_1.symm, Nat.zero_add, Nat.add_comm 1, List.range'_succ]
  refine ⟨(List.range i).filter fun j => !listed.getD j true, (List.range' (i + 1) (n - (i + 1))).filter fun j => !listed.getD j true, ?_, ?_, ?_⟩
  · simp only [left, hr, List.filter_append, List.filter_cons, hi, Bool.not_false, if_true]
  · simp only [left, hr, List.filter_append, List.filter_cons, getD_set hi, if_true, Bool.not_true]
    congr 1
    · refine List.filter_congr fun j hj => ?_
      have : i ≠ j := by have := List.mem_range.1 hj; omega
      simp [this]
    · simp only [Bool.false_eq_true, if_false]
      refine List.filter_congr fun j hj => ?_
      have : i ≠ j := by have := (List.mem_range'_1.1 hj).1; omega
      simp [this]
  · intro j hj
    simp only [List.mem_filter, List.mem_range, Bool.not_eq_true'] at hj
    exact hj

theorem wpAny_runL (hC : ∀ f cal, C.Φ f = some cal → Ctr C.P C.k f cal) {ops : Array Oper} {rid : Nat} {lg : Nat → Lg} {stf : St} {Q : Exit → Act → World → Prop} {n : Nat} {ds : List Deferred}
    (hf : fitsR C.P n ops.toList = true)
    (hI : ∀ i j x y, i < j → ops[i]? = some x → ops[j]? = some y → Nat.testBit ((masks ops.toList []).getD j 0) i = true ∨ indep ops.toList x y (lg i) (lg j) = true)
    (hQ : ∀ a' w' σ' lim', RelX G σ' lim' stf a'.tmps w' → a'.tmps.size = n → a'.defers = ds → Q .normal a' w') :
    ∀ (fuel : Nat) (listed : Array Bool) (st : St) (a : Act) (w : World) (σ : Sig) (lim : Nat → Nat), listed.size = ops.size → (left ops.size listed).length ≤ fuel →
      (∀ p, listed.getD p false = true → ∀ i, Nat.testBit ((masks ops.toList []).getD p 0) i = true → listed.getD i false = true) →
      RunL C rid ops.toList lg (left ops.size listed) st stf → RelX G σ lim st a.tmps w → a.tmps.size = n → a.defers = ds → wpAny C.P .any ops Q fuel listed a w := by
  have hf1 : ∀ o ∈ ops.toList, fitsO C.P n o = true := by
    simp only [fitsR, Bool.and_eq_true, List.all_eq_true] at hf; exact hf.1
  have hf2 : ∀ j o, ops[j]? = some o → ∀ p ∈ preds o, p < j := by
    intro j o ho p hp
    simp only [fitsR, Bool.and_eq_true, List.all_eq_true, List.mem_range] at hf
    have hj : j < ops.toList.length := by
      rcases Nat.lt_or_ge j ops.toList.length with h | h
      · exact h
      · rw [← Array.getElem?_toList, List.getElem?_eq_none h] at ho; simp at ho
    have := hf.2 j hj
    simp only [predsLt, Array.getElem?_toList, ho, List.all_eq_true, Nat.blt_eq] at this
    exact this p hp
  have done : ∀ (listed : Array Bool) (st : St) (a : Act) (w : World) (σ : Sig) (lim : Nat → Nat), listed.size = ops.size → RunL C rid ops.toList lg (left ops.size listed) st stf →
      RelX G σ lim st a.tmps w → a.tmps.size = n → a.defers = ds → Region.ready .any ops listed = [] → Q .normal a w := by
    intro listed st a w σ lim hsz hr h hn hd h0
    have : left ops.size listed = [] := by
      cases hl : left ops.size listed with
      | nil => rfl
      | cons i is =>
        exfalso
        -- the least one is ready
        have hmem : i ∈ left ops.size listed := by rw [hl]; simp
        simp only [left, List.mem_filter, List.mem_range, Bool.not_eq_true'] at hmem
        obtain ⟨m1, m2⟩ := hmem
        have ho : ops[i]? = some ops[i] := by simp [m1]
        have hlow : ∀ p, p < i → listed.getD p false = true := by
          intro p hp
          cases hb : listed.getD p true with
          | true =>
            have hps : p < listed.size := by omega
            simpa [Array.getD_eq_getD_getElem?, hps] using hb
          | false =>
            exfalso
            have hp' : p ∈ left ops.size listed := by
              simp only [left, List.mem_filter, List.mem_range, Bool.not_eq_true']; exact ⟨by omega, hb⟩
            have hs : (left ops.size listed).Pairwise (· < ·) := List.Pairwise.filter _ List.pairwise_lt_range
            rw [hl] at hp' hs
            rcases List.mem_cons.1 hp' with rfl | hp'
            · omega
            · have := (List.pairwise_cons.1 hs).1 p hp'; omega
        have := ready_of ho m2 fun p hp => hlow p (hf2 i _ ho p hp)
        rw [h0] at this; simp at this
    rw [this] at hr
    simp only [RunL] at hr; subst hr
    exact hQ a w σ lim h hn hd
  intro fuel
  induction fuel with
  | zero =>
    intro listed st a w σ lim hsz hl hc hr h hn hd
    have h0 : left ops.size listed = [] := List.length_eq_zero_iff.1 (by omega)
    have hrd : Region.ready .any ops listed = [] := by
      refine List.eq_nil_iff_forall_not_mem.2 fun i hi => ?_
      obtain ⟨o, o1, o2, _⟩ := mem_ready hi
      have : i ∈ left ops.size listed := by
        simp only [left, List.mem_filter, List.mem_range, Bool.not_eq_true']
        refine ⟨?_, o2⟩
        rcases Nat.lt_or_ge i ops.size with h | h
        · exact h
        · simp [Array.getElem?_eq_none h] at o1
      rw [h0] at this; simp at this
    exact ⟨hrd, done listed st a w σ lim hsz hr h hn hd hrd⟩
  | succ fuel ih =>
    intro listed st a w σ lim hsz hl hc hr h hn hd
    refine ⟨done listed st a w σ lim hsz hr h hn hd, fun i hi => ?_⟩
    obtain ⟨o, o1, o2, o3⟩ := mem_ready hi
    have hin : i < ops.size := by
      rcases Nat.lt_or_ge i ops.size with h | h
      · exact h
      · simp [Array.getElem?_eq_none h] at o1
    obtain ⟨pre, post, p1, p2, p3⟩ := left_split hin o2
    have hmask : ∀ k, Nat.testBit ((masks ops.toList []).getD i 0) k = true → listed.getD k false = true := by
      intro k hk
      obtain ⟨p, q1, q2⟩ := masks_spec (by simpa using o1) hk
      rcases q2 with rfl | q2
      · exact o3 _ q1
      · exact hc p (o3 p q1) k q2
    rw [p1] at hr
    obtain ⟨o', s, k1, k2, k3⟩ := hr.ahead (fun j hj x y hx hy => by
      obtain ⟨j1, j2⟩ := p3 j hj
      rcases hI j i x y j1 (by simpa using hx) (by simpa using hy) with hm | hm
      · exfalso
        have := hmask j hm
        have hjs : j < listed.size := by omega
        simp [Array.getD_eq_getD_getElem?, hjs] at this j2
        rw [this] at j2; simp at j2
      · exact hm)
    refine step_sound hC h (by simpa using k1) k2 (by rw [hn]; exact hf1 o' (List.mem_of_getElem? k1)) fun a' w' σ' lim' hR e1 e2 => ?_
    refine ih _ s a' w' σ' lim' (by simpa using hsz) ?_ ?_ (by rw [p2]; exact k3) hR (e1.trans hn) (e2.trans hd)
    · rw [p1] at hl; rw [p2]; simp at hl ⊢; omega
    · intro p hp k hk
      rw [getD_set o2] at hp ⊢
      by_cases hik : i = k
      · simp [hik]
      · simp only [hik, if_false]
        by_cases hip : i = p
        · subst hip; exact hmask k hk
        · simp only [hip, if_false] at hp; exact hc p hp k hk

theorem RelW.draw (h : RelW G σ lim st a.tmps w) : RelW G σ lim st a.tmps { w with drawn := w.drawn + 1 } := by
  have u : Upd G σ lim st w σ lim { w with drawn := w.drawn + 1 } (.tup []) undef [] :=
    { ext := ⟨Nat.le_refl _, fun _ _ _ => rfl, fun _ _ h => h, fun _ _ h => h⟩
      lz := h.lz, same := ⟨rfl, rfl, rfl⟩, sig := fun _ _ => rfl, rest := fun _ _ _ _ _ => ⟨rfl, rfl⟩
      new := by intro r y hl; simp [look] at hl
      inj := by intro r r' y b hl; simp [look] at hl
      own := by intro r y b hl; simp [look] at hl
      keep := fun _ _ _ => rfl, limk := fun _ _ _ => rfl, nofresh := by intro r; simp [look]
      val := ra_nothing, known := by simp [idsOf, idsOfs, Known] }
  have := RelW.step h u none (by simp)
  simpa [setO, Act.put, put_nil] using this

theorem RelX.draw (h : RelX G σ lim st a.tmps w) : RelX G σ lim st a.tmps { w with drawn := w.drawn + 1 } := ⟨h.1.draw, h.2⟩

theorem indepAll_spec {ops : List Oper} {ms : List Nat} {logs : List Lg} (h : indepAll ops ms logs = true) {i j : Nat} {x y : Oper} (hij : i < j) (hx : ops[i]? = some x) (hy : ops[j]? = some y) :
    Nat.testBit (ms.getD j 0) i = true ∨ indep ops x y (logs.getD i ([], [])) (logs.getD j ([], [])) = true := by
  have hj : j < ops.length := by
    rcases Nat.lt_or_ge j ops.length with h | h
    · exact h
    · simp [List.getElem?_eq_none h] at hy
  simp only [indepAll, List.all_eq_true, List.mem_range] at h
  have := h j hj i hij
  rw [Bool.or_eq_true] at this
  refine this.imp id fun h => ?_
  rw [hx, hy] at h
  split at h
  · rename_i x' y' p q h1 h2 h3 h4
    simp only [Option.some.injEq] at h1 h2; subst h1 h2
    simpa [List.getD_eq_getElem?_getD, h3, h4] using h
  · simp at h

theorem region_sound (hC : ∀ f cal, C.Φ f = some cal → Ctr C.P C.k f cal) (hm : C.P.follows .mixedOrders = true) {ops : Array Oper} {rid : Nat} {d : Bool} {n : Nat} {ds : List Deferred} (hf : fitsR C.P n ops.toList = true)
    (h : RelX G σ lim st a.tmps w) (hn : a.tmps.size = n) (hd : a.defers = ds) {stf : St} {lgs : List Lg} (hr : opsB C rid ops.toList ops.toList 0 st = some (stf, lgs))
    (hi : d = true → indepAll ops.toList (masks ops.toList []) lgs = true) {Q : Exit → Act → World → Prop}
    (hQ : ∀ a' w' σ' lim', RelX G σ' lim' stf a'.tmps w' → a'.tmps.size = n → a'.defers = ds → Q .normal a' w') : (Code.region rid ops d).wp C.P Q a w := by
  obtain ⟨h1, h2⟩ := runL_of ops.toList 0 st stf lgs (by simp) hr
  rw [← List.range_eq_range', Array.length_toList] at h2
  simp only [Nat.sub_zero] at h2
  cases d with
  | false =>
    refine wp_region ?_
    refine wpOps_runL hC ?_ hQ _ st a w σ lim h2 h hn hd
    simp only [fitsR, Bool.and_eq_true, List.all_eq_true] at hf; exact hf.1
  | true =>
    refine wp_region_any hm ?_
    have hall : left ops.size (Array.replicate ops.size false) = List.range ops.size := by
      refine List.filter_eq_self.2 fun i hi => ?_
      have := List.mem_range.1 hi
      simp [Array.getD_eq_getD_getElem?, Array.getElem?_replicate, this]
    refine wpAny_runL hC (lg := fun i => lgs.getD i ([], [])) hf (fun i j x y hij hx hy => indepAll_spec (hi rfl) hij (by simpa using hx) (by simpa using hy)) hQ _ _ st a _ σ lim (by simp) (by rw [hall]; simp) ?_ (by rw [hall]; exact h2) h.draw hn hd
    intro p hp
    simp only [Array.getD_eq_getD_getElem?, Array.getElem?_replicate] at hp
    split at hp <;> simp at hp
end Go.Sh
