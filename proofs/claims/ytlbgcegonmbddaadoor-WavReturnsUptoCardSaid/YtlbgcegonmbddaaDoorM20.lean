/-
  The machine, part 20: rows of slices of one's own: the hidden names.
-/
import Derived.Test.YtlbgcegonmbddaaDoorM9
set_option linter.unusedSimpArgs false
set_option linter.unusedVariables false
namespace Go.Sh
open Go
variable {C : Ctx} {G : Glob} {σ : Sig} {w : World} {lim : Nat → Nat} {env : Nat → AV} {tmps : Array Value}

theorem hidB_pos : 0 < hidB := by decide
theorem hid_ge (r i : Nat) : hidB ≤ hid r i := by
  unfold hid
  rw [Nat.add_mul]; omega
theorem hid_mod {r : Nat} (h : r < hidB) (i : Nat) : hid r i % hidB = r := by
  unfold hid
  rw [Nat.mul_add_mod_of_lt' h]
where
  Nat.mul_add_mod_of_lt' {a b c : Nat} (h : c < b) : (a * b + c) % b = c := by
    rw [Nat.mul_comm, Nat.mul_add_mod, Nat.mod_eq_of_lt h]
theorem hid_div {r : Nat} (h : r < hidB) (i : Nat) : hid r i / hidB - 1 = i := by
  unfold hid
  rw [Nat.mul_comm, Nat.mul_add_div hidB_pos, Nat.div_eq_of_lt h]; omega
theorem hid_inj {r r' i i' : Nat} (h : r < hidB) (h' : r' < hidB) (e : hid r i = hid r' i') : r = r' ∧ i = i' :=
  ⟨by rw [← hid_mod h i, e, hid_mod h' i'], by rw [← hid_div h i, e, hid_div h' i']⟩
theorem low_or_hid (n : Nat) : n < hidB ∨ ∃ r i, r < hidB ∧ n = hid r i := by
  by_cases h : n < hidB
  · exact .inl h
  · refine .inr ⟨n % hidB, n / hidB - 1, Nat.mod_lt _ hidB_pos, ?_⟩
    have h1 : 1 ≤ n / hidB := (Nat.le_div_iff_mul_le hidB_pos).2 (by omega)
    unfold hid
    rw [show n / hidB - 1 + 1 = n / hidB by omega, Nat.mul_comm, Nat.div_add_mod]

/-- what a hidden name stands for -/
def expI (i : Nat) : RS → RS
  | .live (.nest t xss h) => match xss[i]? with
    | some xs => if h = some i then .fresh else .live (.arr t xs true)
    | none => .fresh
  | _ => .fresh
def exp (T : Tbl) : Tbl := fun n => if n < hidB then T n else expI (n / hidB - 1) (T (n % hidB))
theorem exp_low {T : Tbl} {n : Nat} (h : n < hidB) : exp T n = T n := by simp [exp, h]
theorem exp_hid {T : Tbl} {r : Nat} (h : r < hidB) (i : Nat) : exp T (hid r i) = expI i (T r) := by
  have := hid_ge r i
  simp only [exp, hid_mod h, hid_div h]
  rw [if_neg (by omega)]
theorem expI_live {i : Nat} {x : RS} {y : Res} (h : expI i x = .live y) : ∃ (t : Ty) (xss : List (List t.den)) (o : Option Nat) (hi : i < xss.length), x = .live (.nest t xss o) ∧ o ≠ some i ∧ y = .arr t xss[i] true := by
  unfold expI at h
  split at h
  · rename_i t xss o
    split at h
    · rename_i xs hx
      split at h
      · cases h
      · rename_i ho
        obtain ⟨hi, hx⟩ := List.getElem?_eq_some_iff.1 hx
        subst hx
        cases h
        exact ⟨t, xss, o, hi, rfl, ho, rfl⟩
    · cases h
  · cases h
theorem exp_nest {T : Tbl} {r : Nat} {t : Ty} {xss : List (List t.den)} {o : Option Nat} (h : exp T r = .live (.nest t xss o)) : r < hidB ∧ T r = .live (.nest t xss o) := by
  rcases low_or_hid r with hl | ⟨q, i, hq, rfl⟩
  · exact ⟨hl, by rw [← h, exp_low hl]⟩
  · rw [exp_hid hq] at h
    obtain ⟨_, _, _, _, _, _, e⟩ := expI_live h
    cases e
theorem exp_box {T : Tbl} {r : Nat} {cs : List AV} (h : exp T r = .live (.box cs)) : r < hidB ∧ T r = .live (.box cs) := by
  rcases low_or_hid r with hl | ⟨q, i, hq, rfl⟩
  · exact ⟨hl, by rw [← h, exp_low hl]⟩
  · rw [exp_hid hq] at h
    obtain ⟨_, _, _, _, _, _, e⟩ := expI_live h
    cases e
theorem exp_at {T : Tbl} {r : Nat} {t : Ty} {xss : List (List t.den)} {o : Option Nat} (h : exp T r = .live (.nest t xss o)) {i : Nat} (hi : i < xss.length) (ho : o ≠ some i) :
    exp T (hid r i) = .live (.arr t xss[i] true) := by
  obtain ⟨hr, h⟩ := exp_nest h
  rw [exp_hid hr, h]
  simp [expI, List.getElem?_eq_getElem hi, ho]
theorem exp_known {T : Tbl} {r : Nat} {t : Ty} {xss : List (List t.den)} {o : Option Nat} (h : exp T r = .live (.nest t xss o)) : Known (exp T) (resIds r (.nest t xss o)) := by
  intro n hn
  obtain ⟨i, hi, ho, rfl⟩ := mem_nestIds.1 hn
  rw [exp_at h hi ho]; simp

/-- hidden names that are forgotten -/
theorem RelW.forget {A B : Tbl} (h : RelW G σ lim ⟨env, A⟩ tmps w) (hB : ∀ n, B n = A n ∨ (hidB ≤ n ∧ B n = .fresh)) (he : ∀ s, ∀ r ∈ idsOf (env s), r < hidB)
    (hb : ∀ r cs, B r = .live (.box cs) → ∀ q ∈ idsOfs cs, q < hidB) (hn : ∀ r (t : Ty) (xss : List (List t.den)) o, B r = .live (.nest t xss o) → Known B (resIds r (.nest t xss o)))
    (hp : ∀ p ∈ G.pins, p.1 < hidB) : RelW G σ lim ⟨env, B⟩ tmps w := by
  have low : ∀ r, r < hidB → B r = A r := by
    intro r hr
    rcases hB r with h1 | ⟨h1, _⟩
    · exact h1
    · omega
  have liv : ∀ r x, B r = .live x → A r = .live x := by
    intro r x hx
    rcases hB r with h1 | ⟨_, h1⟩
    · rw [← h1]; exact hx
    · rw [h1] at hx; cases hx
  have liv' : ∀ r, isLive (B r) = true → isLive (A r) = true := by
    intro r hr
    cases hx : B r with
    | live x => rw [liv r x hx]; rfl
    | fresh => rw [hx] at hr; cases hr
    | gone => rw [hx] at hr; cases hr
  exact
    { env := h.env
      known := fun s r hr => by simp only; rw [low r (he s r hr)]; exact h.known s r hr
      res := fun r x hx => by
        simp only at hx ⊢
        obtain ⟨h1, h2⟩ := h.res r x (liv r x hx)
        refine ⟨h1, ?_⟩
        cases x with
        | box cs =>
          intro q hq
          rw [low q (hb r cs hx q hq)]; exact h2 q hq
        | arr t xs sh => intro q hq; cases hq
        | nest t xss o => exact hn r t xss o hx
      inj := fun r r' b h1 h2 => h.inj r r' b (liv' r h1) (liv' r' h2)
      own := fun r b h1 => h.own r b (liv' r h1)
      ext := h.ext, keep := h.keep, same := h.same, lz := h.lz, limk := h.limk
      pin := fun p hpp => by
        obtain ⟨h1, h2⟩ := h.pin p hpp
        exact ⟨h1, by simp only; rw [low p.1 (hp p hpp)]; exact h2⟩ }

/-- what holds of all states: names are low -/
structure Low (G : Glob) (st : St) : Prop where
  env : ∀ s, ∀ r ∈ idsOf (st.env s), r < hidB
  box : ∀ r cs, st.tbl r = .live (.box cs) → ∀ q ∈ idsOfs cs, q < hidB
  pins : ∀ p ∈ G.pins, p.1 < hidB

def RelX (G : Glob) (σ : Sig) (lim : Nat → Nat) (st : St) (tmps : Array Value) (w : World) : Prop := RelW G σ lim ⟨st.env, exp st.tbl⟩ tmps w ∧ Low G st

theorem exp_put {T : Tbl} {u : Ups} (h : ∀ p ∈ u, p.1 < hidB ∧ noNest p.2 = true) (n : Nat) : exp (T.put u) n = (exp T).put u n ∨ (hidB ≤ n ∧ exp (T.put u) n = .fresh) := by
  rcases low_or_hid n with hl | ⟨q, i, hq, rfl⟩
  · left
    rw [exp_low hl]
    simp only [Tbl.put]
    rw [exp_low hl]
  · have hno : look u (hid q i) = none := by
      cases hk : look u (hid q i) with
      | none => rfl
      | some z =>
        have := (h _ (look_mem hk)).1
        have := hid_ge q i
        simp only at *; omega
    rw [exp_hid hq]
    simp only [Tbl.put, hno]
    cases hk : look u q with
    | none => left; rw [exp_hid hq]
    | some z =>
      right
      refine ⟨hid_ge q i, ?_⟩
      have := (h _ (look_mem hk)).2
      simp only at this ⊢
      cases z with
      | fresh => rfl
      | gone => rfl
      | live y => cases y with
        | nest => simp [noNest] at this
        | box => rfl
        | arr => rfl

theorem RelX.of_put {T : Tbl} {u : Ups} (h : RelW G σ lim ⟨env, (exp T).put u⟩ tmps w) (hu : ∀ p ∈ u, p.1 < hidB ∧ noNest p.2 = true) (hL : Low G ⟨env, T.put u⟩) :
    RelX G σ lim ⟨env, T.put u⟩ tmps w :=
  ⟨h.forget (exp_put hu) hL.env (fun r cs hr => hL.box r cs (exp_box hr).2) (fun r t xss o hr => exp_known hr) hL.pins, hL⟩

/-! special operations -/
/-- an inner slice is taken out -/
theorem RelW.takeout {T : Tbl} (h : RelW G σ lim ⟨env, exp T⟩ tmps w) (hL : Low G ⟨env, T⟩) {r base : Nat} {t : Ty} {xss : List (List t.den)} {i : Nat} (hrl : r < hidB) (hbl : base < hidB)
    (hr : T r = .live (.nest t xss none)) (hi : i < xss.length) (hb : T base = .fresh) :
    RelW G (fun s => if s = base then σ (hid r i) else σ s) lim ⟨env, exp (T.put [(r, .live (.nest t xss (some i))), (base, .live (.arr t xss[i] true))])⟩ tmps w := by
  have er : exp T r = .live (.nest t xss none) := by rw [exp_low hrl]; exact hr
  have eb : exp T base = .fresh := by rw [exp_low hbl]; exact hb
  have eq : exp T (hid r i) = .live (.arr t xss[i] true) := exp_at er hi (by simp)
  have hg := hid_ge r i
  obtain ⟨hR, hK⟩ := h.res r _ er
  obtain ⟨hQ, _⟩ := h.res (hid r i) _ eq
  have hne : r ≠ base := by intro e; subst e; rw [hr] at hb; cases hb
  have R1 := h.reword (r := r) er (y := .nest t xss (some i)) (fun n hn => by
    obtain ⟨j, hj, ho, rfl⟩ := mem_nestIds.1 hn
    exact hK _ (mem_nestIds.2 ⟨j, hj, by simp, rfl⟩)) (by
    simp only [RR] at hR ⊢
    obtain ⟨h0, b, off, cap, vs, U, fz, s1, s2, s3, s4, s5, s6, s7⟩ := hR
    exact ⟨h0, b, off, cap, vs, U, fz, s1, s2, s3, s4, s5, fun j hj _ => s6 j hj (by simp), s7⟩)
  have R2 := R1.gone (r := hid r i) (by simp only; rw [put_one, if_neg (by omega), eq]; simp)
  have tb : (((exp T).put [(r, .live (.nest t xss (some i)))]).put [(hid r i, .gone)]) base = .fresh := by
    rw [put_one, if_neg (by omega), put_one, if_neg hne]; exact eb
  have R3 := R2.adopt (n := base) (v := σ (hid r i)) (.inl tb) (y := .arr t xss[i] true) (by intro q hq; cases hq) (fun hσ => by
    simp only [RR, if_true] at hQ ⊢
    exact hQ) (fun b hbk => by
      refine ⟨h.own _ b (by simp only; rw [eq]; rfl) hbk, fun s hs hbs => ?_⟩
      simp only at hs
      rw [put_one] at hs
      split at hs
      · cases hs
      · rename_i hsq
        have hs0 : isLive (exp T s) = true := by
          rw [put_one] at hs
          split at hs
          · rename_i e; rw [← e, er]; rfl
          · exact hs
        exact hsq (h.inj s (hid r i) b hs0 (by simp only; rw [eq]; rfl) hbs hbk).symm)
  simp only at R3
  refine R3.forget (fun n => ?_) hL.env (fun q cs hq => ?_) (fun q t' x o hq => exp_known hq) hL.pins
  · rcases low_or_hid n with hl | ⟨q, j, hq, rfl⟩
    · left
      rw [exp_low hl, put_one, put_one, put_one, put_at, put_one]
      by_cases e1 : base = n
      · subst e1; simp [hne]
      · by_cases e2 : r = n
        · subst e2; simp [e1]; intro e; omega
        · simp [e1, e2]
          rw [if_neg (by omega), exp_low hl]
    · rw [exp_hid hq, put_at, put_one]
      have g1 := hid_ge q j
      by_cases e1 : r = q
      · subst e1
        simp only [if_true]
        by_cases e2 : i = j
        · subst e2
          right
          exact ⟨hg, by simp [expI, List.getElem?_eq_getElem hi]⟩
        · left
          rw [put_one, if_neg (by omega), put_one, if_neg (fun e => e2 (hid_inj hrl hrl e).2), put_one, if_neg (by omega), exp_hid hrl, hr]
          simp [expI, e2]
      · rw [if_neg e1]
        have e3 : hid r i ≠ hid q j := fun e => e1 (hid_inj hrl hq e).1
        by_cases e2 : base = q
        · subst e2
          rw [if_pos rfl]
          right; exact ⟨g1, rfl⟩
        · left
          rw [if_neg e2, put_one, if_neg (by omega), put_one, if_neg e3, put_one, if_neg (by omega), exp_hid hq]
  · obtain ⟨_, hq⟩ := exp_box hq
    rw [put_at] at hq
    split at hq
    · cases hq
    · rw [put_one] at hq
      split at hq
      · cases hq
      · exact hL.box q cs hq

theorem getElem?_mid {α : Type} (l : List α) (k : Nat) (a : α) (hk : k < l.length) (m : Nat) : (l.take k ++ [a] ++ l.drop (k + 1))[m]? = if k = m then some a else l[m]? := by
  rw [show l.take k ++ [a] ++ l.drop (k + 1) = l.set k a by rw [List.set_eq_take_append_cons_drop, if_pos hk]; simp]
  rw [List.getElem?_set]
  by_cases h : k = m
  · subst h; simp [hk]
  · simp [h]

/-- an inner slice is put back -/
theorem RelW.putin {T : Tbl} (h : RelW G σ lim ⟨env, exp T⟩ tmps w) (hL : Low G ⟨env, T⟩) {r q : Nat} {t : Ty} {xss : List (List t.den)} {xs : List t.den} {sh : Bool} {i : Nat} (hrl : r < hidB) (hql : q < hidB)
    (hr : T r = .live (.nest t xss (some i))) (hi : i < xss.length) (hq : T q = .live (.arr t xs sh)) {b off len cap : Nat} {vs : Array Value} {U : TypeId} {fz : Nat × Nat}
    (hs : σ r = .slice (some ⟨b, off, none⟩) len cap) (hv : w.heap[b]? = some (.cells vs U fz)) :
    ∃ σ' lim', RelW G σ' lim' ⟨env, exp (T.put [(r, .live (.nest t (xss.set i xs) none)), (q, .gone)])⟩ tmps (w.setRow b (vs.toList.take (off + i) ++ [σ q] ++ vs.toList.drop (off + i + 1)).toArray) ∧
      off + i < vs.size ∧ (∀ o, o < vs.size → ¬ (fz.1 ≤ o ∧ o < fz.2)) := by
  have er : exp T r = .live (.nest t xss (some i)) := by rw [exp_low hrl]; exact hr
  have eq : exp T q = .live (.arr t xs sh) := by rw [exp_low hql]; exact hq
  have eh : exp T (hid r i) = .fresh := by rw [exp_hid hrl, hr]; simp [expI, List.getElem?_eq_getElem hi]
  have hg := hid_ge r i
  have hne : r ≠ q := by intro e; subst e; rw [hr] at hq; cases hq
  obtain ⟨hQ, _⟩ := h.res q _ eq
  have R1 := h.gone (r := q) (by simp only; rw [eq]; simp)
  have th : ((exp T).put [(q, .gone)]) (hid r i) = .fresh := by rw [put_one, if_neg (by omega)]; exact eh
  have R2 := R1.adopt (n := hid r i) (v := σ q) (.inl th) (y := .arr t xs true) (by intro q hq; cases hq) (fun hσ => by
    simp only [RR, if_true] at hQ ⊢
    refine ⟨hQ.1, ?_⟩
    rcases hQ.2 with h1 | ⟨b, off, cap, vs, U, fz, h1, h2, h3, h4, h5, h6, h7⟩
    · exact .inl h1
    · refine .inr ⟨b, off, cap, vs, U, fz, h1, h2, h3, h4, h5, h6, ?_⟩
      cases sh <;> simp at h7 ⊢ <;> omega) (fun b' hbk => by
      refine ⟨h.own _ b' (by simp only; rw [eq]; rfl) hbk, fun s hs' hbs => ?_⟩
      simp only at hs'
      rw [put_one] at hs'
      split at hs'
      · cases hs'
      · rename_i hsq
        exact hsq (h.inj s q b' hs' (by simp only; rw [eq]; rfl) hbs hbk).symm)
  simp only at R2
  have hsr : (fun s => if s = hid r i then σ q else σ s) r = σ r := by simp only; rw [if_neg (by omega)]
  have tr : (((exp T).put [(q, .gone)]).put [(hid r i, .live (.arr t xs true))]) r = .live (.nest t xss (some i)) := by
    rw [put_one, if_neg (by omega), put_one, if_neg (Ne.symm hne)]; exact er
  obtain ⟨hR, hK⟩ := R2.res r _ tr
  simp only [RR] at hR
  obtain ⟨h0, b', off', cap', vs', U', fz', s1, s2, s3, s4, s5, s6, s7⟩ := hR
  rw [if_neg (by omega : r ≠ hid r i), hs] at s1
  obtain ⟨⟨rfl, rfl⟩, rfl, rfl⟩ : (b = b' ∧ off = off') ∧ len = xss.length ∧ cap = cap' := by simpa using s1
  rw [hv] at s3
  obtain ⟨rfl, rfl, rfl⟩ : vs = vs' ∧ U = U' ∧ fz = fz' := by simpa using s3
  have hsz : (Ty.sl t).size = 1 := rfl
  rw [hsz] at s4
  have hlt : off + i < vs.toList.length := by simp; omega
  have hlen : (vs.toList.take (off + i) ++ [σ q] ++ vs.toList.drop (off + i + 1)).length = vs.size := by simp; omega
  obtain ⟨R3, hE⟩ := R2.write (r := r) tr (b := b) (by rw [if_neg (by omega), hs]; rfl) hv (cs := (vs.toList.take (off + i) ++ [σ q] ++ vs.toList.drop (off + i + 1)).toArray) (fun o ho => by rw [s7] at ho; omega)
    (y := .nest t (xss.set i xs) none) (fun n hn => by
      obtain ⟨j, hj, _, rfl⟩ := mem_nestIds.1 hn
      rw [List.length_set] at hj
      by_cases e : i = j
      · subst e; show (((exp T).put [(q, .gone)]).put [(hid r i, .live (.arr t xs true))]) (hid r i) ≠ .fresh; rw [put_one]; simp
      · exact hK _ (mem_nestIds.2 ⟨j, hj, by simp [e], rfl⟩)) (fun hE => by
      simp only [RR]
      refine ⟨h0, b, off, cap, _, U, fz, by rw [if_neg (by omega), hs, List.length_set], by rw [List.length_set]; exact s2, setRow_heap w b vs _ U fz hv, by rw [List.size_toArray, hlen, hsz]; omega, ?_, fun j hj _ => ?_, s7⟩
      · rw [List.size_toArray, hlen]; exact s5
      · rw [List.length_set] at hj
        simp only
        rw [getElem?_mid _ _ _ hlt]
        by_cases e : i = j
        · subst e; simp
        · rw [if_neg (by omega), s6 j hj (by simp [e])])
  refine ⟨_, _, R3.forget (fun n => ?_) hL.env (fun q' cs hq' => ?_) (fun q' t' x o hq' => exp_known hq') hL.pins, by simpa using hlt, fun o ho => s5.free o ho⟩
  · left
    show exp (T.put [(r, .live (.nest t (xss.set i xs) none)), (q, .gone)]) n = ((((exp T).put [(q, .gone)]).put [(hid r i, .live (.arr t xs true))]).put [(r, .live (.nest t (xss.set i xs) none))]) n
    rcases low_or_hid n with hl | ⟨q', j, hq', rfl⟩
    · rw [exp_low hl, put_at, put_one, put_one, put_one, put_one]
      rw [if_neg (by omega : hid r i ≠ n), exp_low hl]
    · have g1 := hid_ge q' j
      rw [exp_hid hq', put_at, put_one, put_one, if_neg (by omega : r ≠ hid q' j), put_one, put_one, if_neg (by omega : q ≠ hid q' j), exp_hid hq']
      by_cases e1 : r = q'
      · subst e1
        rw [if_pos rfl, hr]
        by_cases e2 : i = j
        · subst e2; simp [expI, hi]
        · rw [if_neg (fun e => e2 (hid_inj hrl hrl e).2)]
          simp only [expI, List.getElem?_set, e2, if_false]
          cases xss[j]? <;> simp [e2]
      · rw [if_neg e1, if_neg (fun e => e1 (hid_inj hrl hq' e).1)]
        by_cases e2 : q = q'
        · subst e2; rw [if_pos rfl, hq]; rfl
        · rw [if_neg e2]
  · obtain ⟨_, hq'⟩ := exp_box hq'
    rw [put_at] at hq'
    split at hq'
    · cases hq'
    · rw [put_one] at hq'
      split at hq'
      · cases hq'
      · exact hL.box q' cs hq'
end Go.Sh
