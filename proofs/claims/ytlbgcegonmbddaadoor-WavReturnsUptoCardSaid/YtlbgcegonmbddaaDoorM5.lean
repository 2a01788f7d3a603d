/-
  The machine, part 5: what writes, shows, makes.
-/
import Derived.Test.YtlbgcegonmbddaaDoorM4
namespace Go.Sh
open Go
variable {C : Ctx} {G : Glob} {σ : Sig} {w : World} {lim : Nat → Nat} {st : St} {tmps : Array Value}

theorem look_nil (r : Nat) : look [] r = none := rfl
theorem look_cons (i : Nat) (x : RS) (u : Ups) (r : Nat) : look ((i, x) :: u) r = if i = r then some x else look u r := by
  by_cases h : i = r
  · subst h; simp [look]
  · simp [look, beq_ne h, h]
theorem put_nil (T : Tbl) : T.put [] = T := rfl
theorem put_append (T : Tbl) (u v : Ups) : T.put (u ++ v) = (T.put v).put u := by
  funext r
  induction u with
  | nil => rfl
  | cons p u ih =>
    obtain ⟨i, x⟩ := p
    simp only [Tbl.put, List.cons_append, look_cons] at ih ⊢
    by_cases h : i = r
    · simp [h]
    · simp [h]; exact ih
theorem put_cons (T : Tbl) (p : Nat × RS) (u : Ups) : T.put (p :: u) = (T.put u).put [p] := put_append T [p] u
theorem put_at (T : Tbl) (i : Nat) (x : RS) (u : Ups) (r : Nat) : T.put ((i, x) :: u) r = if i = r then x else T.put u r := by
  simp only [Tbl.put, look_cons]
  by_cases h : i = r <;> simp [h]
theorem put_one (T : Tbl) (i : Nat) (x : RS) (r : Nat) : T.put [(i, x)] r = if i = r then x else T r := by
  rw [put_at]; rfl

theorem RelW.noput {G : Glob} {σ σ' : Sig} {lim lim' : Nat → Nat} {st : St} {tmps : Array Value} {w w' : World} {ups : Ups} {v : AV} {x : Value}
    (h : RelW G σ lim st tmps w) (u : Upd G σ lim st w σ' lim' w' v x ups) : RelW G σ' lim' ⟨st.env, st.tbl.put ups⟩ tmps w' :=
  RelW.step (a := ⟨tmps, []⟩) h u none (by simp)

theorem Upd.dead {v : AV} {x : Value} {σ' : Sig} {lim' : Nat → Nat} {w' : World} {ups : Ups}
    (ext : Ext w lim w' lim') (lz : ∀ b, w'.heap.size ≤ b → lim' b = 0) (same : w'.os = w.os ∧ w'.tape = w.tape ∧ w'.output = w.output)
    (sig : ∀ r, st.tbl r ≠ .fresh → σ' r = σ r)
    (rest : ∀ r, isLive (st.tbl r) = true → look ups r = none → ∀ b, blk (σ r) = some b → w'.heap[b]? = w.heap[b]? ∧ lim' b = lim b)
    (new : ∀ r y, look ups r = some (.live y) → RR σ' w' lim' r y ∧ Known (st.tbl.put ups) (resIds r y))
    (inj : ∀ r r' y b, look ups r = some (.live y) → isLive (st.tbl.put ups r') = true → blk (σ' r) = some b → blk (σ' r') = some b → r' = r)
    (own : ∀ r y b, look ups r = some (.live y) → blk (σ' r) = some b → (G.w0.heap.size ≤ b ∨ b ∈ G.lent))
    (keep : ∀ b, b < G.w0.heap.size → b ∉ G.lent → w'.heap[b]? = w.heap[b]?) (limk : ∀ b, b < G.w0.heap.size → b ∉ G.lent → lim' b = lim b)
    (nofresh : ∀ r, look ups r ≠ some .fresh) (val : RA σ' w' lim' v x) (known : Known (st.tbl.put ups) (idsOf v)) : Upd G σ lim st w σ' lim' w' v x ups :=
  ⟨ext, lz, same, sig, rest, new, inj, own, keep, limk, nofresh, val, known⟩

theorem RelW.show_one (h : RelW G σ lim st tmps w) {r : Nat} {t : Ty} {xs : List t.den} {sh : Bool} (hr : st.tbl r = .live (.arr t xs sh)) :
    ∃ lim', RelW G σ lim' ⟨st.env, st.tbl.put [(r, .live (.arr t xs true))]⟩ tmps w ∧ Ext w lim w lim' ∧ RP w lim' (.sl t xs) (σ r) := by
  obtain ⟨hR, _⟩ := h.res r _ hr
  have hlr : isLive (st.tbl r) = true := by rw [hr]; rfl
  simp only [RR] at hR
  obtain ⟨hsz, hR⟩ := hR
  rcases hR with ⟨h4, h5⟩ | ⟨b, off, cap, vs, U, fz, h4, h5, h6, h7, h8, h9, h10⟩
  · subst h4
    refine ⟨lim, h.noput (v := .dead) (x := undef) (σ' := σ) (lim' := lim) (w' := w) (Upd.dead (Ext.refl _ _) h.lz ⟨rfl, rfl, rfl⟩ (fun _ _ => rfl) (fun _ _ _ _ _ => ⟨rfl, rfl⟩) ?_ ?_ ?_ (fun _ _ _ => rfl) (fun _ _ _ => rfl) ?_ (by simp [RA]) (by simp [idsOf, Known])), Ext.refl _ _, ?_⟩
    · intro r' y hl
      rw [look_cons] at hl
      split at hl
      · rename_i e; subst e
        simp at hl; subst hl
        exact ⟨by simp only [RR]; exact ⟨hsz, .inl ⟨trivial, h5⟩⟩, by simp [resIds, Known]⟩
      · simp [look] at hl
    · intro r1 r2 y b hl _ hb
      rw [look_cons] at hl
      split at hl
      · rename_i e; subst e; rw [h5] at hb; simp [blk] at hb
      · simp [look] at hl
    · intro r1 y b hl hb
      rw [look_cons] at hl
      split at hl
      · rename_i e; subst e; rw [h5] at hb; simp [blk] at hb
      · simp [look] at hl
    · intro r'; rw [look_cons]; split <;> simp [look]
    · simp only [RP, Rt]; exact ⟨none, 0, 0, by rw [h5], rfl, Nat.le_refl _, .inl trivial⟩
  · have hbr : blk (σ r) = some b := by rw [h4]; rfl
    have hbs : b < w.heap.size := (Array.getElem?_eq_some_iff.1 h6).1
    have hle : lim b ≤ off + xs.length * t.size := by cases sh <;> simp at h10 <;> omega
    refine ⟨fun x => if x = b then off + xs.length * t.size else lim x, ?_⟩
    have hE : Ext w lim w (fun x => if x = b then off + xs.length * t.size else lim x) := ⟨Nat.le_refl _, fun _ _ _ => rfl, fun x o ho => by
      by_cases e : x = b
      · subst e; simp; omega
      · simp [e]; exact ho, fun _ _ h => h⟩
    have other : ∀ r', isLive (st.tbl r') = true → r' ≠ r → ∀ b', blk (σ r') = some b' → b' ≠ b := by
      intro r' hl hne b' hb e
      subst e
      exact hne (h.inj r' r b' hl hlr hb hbr)
    refine ⟨h.noput (v := .dead) (x := undef) (σ' := σ) (w' := w) (Upd.dead hE ?_ ⟨rfl, rfl, rfl⟩ (fun _ _ => rfl) ?_ ?_ ?_ ?_ (fun _ _ _ => rfl) (fun x hx hxl => by
      have : x ≠ b := by
        intro e; subst e
        rcases h.own r x hlr hbr with h1 | h1
        · omega
        · exact hxl h1
      simp [this]) ?_ (by simp [RA]) (by simp [idsOf, Known])), hE, ?_⟩
    · intro x hx
      have : x ≠ b := by omega
      simp [this]; exact h.lz x hx
    · intro r' hl hn b' hb
      rw [look_cons] at hn
      have hne : r' ≠ r := by intro e; simp [e] at hn
      have := other r' hl hne b' hb
      exact ⟨rfl, by simp [this]⟩
    · intro r' y hl
      rw [look_cons] at hl
      split at hl
      · rename_i e; subst e
        simp at hl; subst hl
        refine ⟨?_, by simp [resIds, Known]⟩
        simp only [RR]
        exact ⟨hsz, .inr ⟨b, off, cap, vs, U, fz, h4, h5, h6, h7, h8, fun i hi => (h9 i hi).mono hE, by simp⟩⟩
      · simp [look] at hl
    · intro r1 r2 y b' hl hl2 hb1 hb2
      rw [look_cons] at hl
      split at hl
      · rename_i e; subst e
        rw [put_one] at hl2
        split at hl2
        · rename_i e; exact e.symm
        · exact h.inj r2 r b' hl2 hlr hb2 hb1
      · simp [look] at hl
    · intro r1 y b' hl hb
      rw [look_cons] at hl
      split at hl
      · rename_i e; subst e; exact h.own r b' hlr hb
      · simp [look] at hl
    · intro r'; rw [look_cons]; split <;> simp [look]
    · simp only [RP, Rt]
      refine ⟨_, _, cap, by rw [h4], rfl, h5, .inr ⟨b, off, rfl, fun i hi => ⟨_, (h9 i hi).mono hE, fun j u hj => ?_⟩⟩⟩
      rw [List.getElem?_take, List.getElem?_drop] at hj
      split at hj
      · rename_i hjt
        refine ⟨by rw [cell_of h6]; exact hj, ?_⟩
        simp
        have : (i + 1) * t.size ≤ xs.length * t.size := Nat.mul_le_mul_right _ hi
        rw [Nat.add_mul] at this
        omega
      · simp at hj

/-- what is shown: names of slices of one's own, as they are -/
def Shows (T : Tbl) (u : Ups) : Prop := ∀ p ∈ u, ∃ (t : Ty) (xs : List t.den) (sh : Bool), p.2 = .live (.arr t xs true) ∧ T p.1 = .live (.arr t xs sh)

theorem Shows.at {T : Tbl} : {u : Ups} → (hu : Shows T u) → {r : Nat} → {t : Ty} → {xs : List t.den} → {sh : Bool} → T r = .live (.arr t xs sh) → ∃ sh', T.put u r = .live (.arr t xs sh')
  | [], _, r, t, xs, sh, h => ⟨sh, h⟩
  | (i, x) :: u, hu, r, t, xs, sh, h => by
    rw [put_at]
    split
    · rename_i e; subst e
      obtain ⟨t', ys, s', h1, h2⟩ := hu (i, x) (List.mem_cons_self ..)
      simp only at h1 h2
      rw [h] at h2
      cases h2
      exact ⟨true, h1⟩
    · exact Shows.at (fun p hp => hu p (List.mem_cons_of_mem _ hp)) h

theorem RelW.shows : (u : Ups) → (h : RelW G σ lim st tmps w) → Shows st.tbl u →
    ∃ lim', RelW G σ lim' ⟨st.env, st.tbl.put u⟩ tmps w ∧ Ext w lim w lim' ∧ ∀ r (t : Ty) (xs : List t.den), (r, RS.live (.arr t xs true)) ∈ u → RP w lim' (.sl t xs) (σ r)
  | [], h, _ => ⟨lim, h, Ext.refl _ _, by simp⟩
  | (i, x) :: u, h, hu => by
    obtain ⟨lim1, h1, e1, r1⟩ := RelW.shows u h (fun p hp => hu p (List.mem_cons_of_mem _ hp))
    obtain ⟨t, xs, sh, hx, hT⟩ := hu (i, x) (List.mem_cons_self ..)
    simp only at hx hT; subst hx
    obtain ⟨sh', hT'⟩ := Shows.at (fun p hp => hu p (List.mem_cons_of_mem _ hp)) hT
    obtain ⟨lim2, h2, e2, r2⟩ := RelW.show_one h1 (st := ⟨st.env, st.tbl.put u⟩) hT'
    refine ⟨lim2, by rw [put_cons]; exact h2, e1.trans e2, fun r t' xs' hm => ?_⟩
    cases hm with
    | head => exact r2
    | tail _ hm => exact (r1 r t' xs' hm).mono e2

theorem Shows.append {T : Tbl} {u v : Ups} (h : Shows T u) (k : Shows T v) : Shows T (u ++ v) := by
  intro p hp
  rcases List.mem_append.1 hp with hp | hp
  · exact h p hp
  · exact k p hp

/-- a value as data: which names it shows, and what it then is -/
theorem toPV_spec {a : AV} {l l' : List Nat} {p : PV} {u : Ups} (hm : (toPV a).run st.tbl l = some ((p, u), l')) :
    Shows st.tbl u ∧ ∀ (w : World) (lim : Nat → Nat) (v : Value), RA σ w lim a v → ∀ lim', Ext w lim w lim' → (∀ r (t : Ty) (xs : List t.den), (r, RS.live (.arr t xs true)) ∈ u → RP w lim' (.sl t xs) (σ r)) → RP w lim' p v := by
  unfold toPV at hm
  split at hm
  · obtain ⟨h, _⟩ := M.run_ret hm
    cases h
    refine ⟨(by intro p hp; cases hp), fun w lim v ha lim' e _ => ?_⟩
    simp only [RA] at ha; exact ha.mono e
  · rename_i r
    simp only [M.run] at hm
    cases hr : st.tbl r with
    | fresh => simp [hr, M.run] at hm
    | gone => simp [hr, M.run] at hm
    | live y =>
      cases y with
      | box => simp [hr, M.run] at hm
      | nest => simp [hr, M.run] at hm
      | arr t xs sh =>
        simp only [hr] at hm
        obtain ⟨h, _⟩ := M.run_ret hm
        cases h
        refine ⟨by intro q hq; simp at hq; subst hq; exact ⟨t, xs, sh, rfl, hr⟩, fun w lim v ha lim' e k => ?_⟩
        simp only [RA] at ha; obtain ⟨rfl, _⟩ := ha
        exact k r t xs (by simp)
  · simp [M.run] at hm

theorem toPVs_spec : {as : List AV} → {l l' : List Nat} → {ps : List PV} → {u : Ups} → (toPVs as).run st.tbl l = some ((ps, u), l') →
    Shows st.tbl u ∧ ∀ (w : World) (lim : Nat → Nat) (vs : List Value), RAs σ w lim as vs → ∀ lim', Ext w lim w lim' → (∀ r (t : Ty) (xs : List t.den), (r, RS.live (.arr t xs true)) ∈ u → RP w lim' (.sl t xs) (σ r)) → All2 (RP w lim') ps vs
  | [], l, l', ps, u, hm => by
    obtain ⟨h, _⟩ := M.run_ret hm
    cases h
    exact ⟨(by intro p hp; cases hp), fun w lim vs h lim' _ _ => by match vs, h with | [], _ => trivial⟩
  | a :: as, l, l', ps, u, hm => by
    simp only [toPVs] at hm
    obtain ⟨⟨p, u1⟩, l1, h1, h2⟩ := M.run_bind_some hm
    obtain ⟨⟨qs, u2⟩, l2, h3, h4⟩ := M.run_bind_some h2
    obtain ⟨h, _⟩ := M.run_ret h4
    cases h
    obtain ⟨s1, k1⟩ := toPV_spec (σ := σ) h1
    obtain ⟨s2, k2⟩ := toPVs_spec (as := as) h3
    refine ⟨s1.append s2, fun w lim vs h lim' e k => ?_⟩
    match vs, h with
    | v :: vs, h =>
      simp only [RAs] at h
      exact ⟨k1 w lim v h.1 lim' e (fun r t xs hm => k r t xs (List.mem_append_left _ hm)), k2 w lim vs h.2 lim' e (fun r t xs hm => k r t xs (List.mem_append_right _ hm))⟩

theorem toDen_spec {t : Ty} {a : AV} {l l' : List Nat} {x : t.den} {u : Ups} (hm : (toDen t a).run st.tbl l = some ((x, u), l')) :
    Shows st.tbl u ∧ ∀ (w : World) (lim : Nat → Nat) (v : Value), RA σ w lim a v → ∀ lim', Ext w lim w lim' → (∀ r (t : Ty) (xs : List t.den), (r, RS.live (.arr t xs true)) ∈ u → RP w lim' (.sl t xs) (σ r)) →
      ∃ cs, Rt w lim' t x cs ∧ v.cells = cs.toArray ∧ ((t.isAgg = true ∧ v = .agg cs.toArray) ∨ (t.isAgg = false ∧ cs = [v])) := by
  unfold toDen at hm
  split at hm
  · rename_i cs
    obtain ⟨hg, hm⟩ := M.run_guard hm
    obtain ⟨⟨ps, u1⟩, l1, h1, h2⟩ := M.run_bind_some hm
    simp only at h2
    cases ho : ofAll t ps with
    | none => simp [ho, M.run] at h2
    | some y =>
      simp only [ho] at h2
      obtain ⟨h, _⟩ := M.run_ret h2
      cases h
      obtain ⟨s1, k1⟩ := toPVs_spec (σ := σ) h1
      refine ⟨s1, fun w lim v ha lim' e k => ?_⟩
      simp only [RA] at ha
      obtain ⟨vs, rfl, hv⟩ := ha
      exact ⟨vs, rt_ofAll ho (k1 w lim vs hv lim' e k), rfl, .inl ⟨hg, rfl⟩⟩
  · rename_i a hna
    cases hag : t.isAgg with
    | true => simp [hag, M.run] at hm
    | false =>
      simp only [hag, cond_false] at hm
      obtain ⟨⟨p, u1⟩, l1, h1, h2⟩ := M.run_bind_some hm
      simp only at h2
      cases ho : ofAll t [p] with
      | none => simp [ho, M.run] at h2
      | some y =>
        simp only [ho] at h2
        obtain ⟨h, _⟩ := M.run_ret h2
        cases h
        obtain ⟨s1, k1⟩ := toPV_spec (σ := σ) h1
        refine ⟨s1, fun w lim v ha lim' e k => ?_⟩
        have hp := k1 w lim v ha lim' e k
        have hrt := rt_ofAll (w := w) (lim := lim') (cs := [v]) ho ⟨hp, trivial⟩
        refine ⟨[v], hrt, ?_, .inr ⟨rfl, rfl⟩⟩
        have : v.oneCell' = true := by
          cases t <;> simp only [Ty.isAgg] at hag <;> first | contradiction | skip
          all_goals first
            | (simp only [Rt] at hrt; obtain rfl := List.singleton_inj.1 hrt; rfl)
            | (exact rt_sl_one hrt)
            | (simp only [Rt] at hrt; obtain ⟨h1, h2⟩ := hrt; obtain rfl := List.singleton_inj.1 h1; exact h2)
        rw [cells_one this]

theorem dens_spec {t : Ty} : {as : List AV} → {l l' : List Nat} → {xs : List t.den} → {u : Ups} → (dens t as).run st.tbl l = some ((xs, u), l') →
    Shows st.tbl u ∧ ∀ (w : World) (lim : Nat → Nat) (vs : List Value), RAs σ w lim as vs → ∀ lim', Ext w lim w lim' → (∀ r (t : Ty) (xs : List t.den), (r, RS.live (.arr t xs true)) ∈ u → RP w lim' (.sl t xs) (σ r)) →
      All2 (fun x v => ∃ cs, Rt w lim' t x cs ∧ v.cells = cs.toArray) xs vs
  | [], l, l', xs, u, hm => by
    obtain ⟨h, _⟩ := M.run_ret hm
    cases h
    exact ⟨(by intro p hp; cases hp), fun w lim vs h lim' _ _ => by match vs, h with | [], _ => trivial⟩
  | a :: as, l, l', xs, u, hm => by
    simp only [dens] at hm
    obtain ⟨⟨x, u1⟩, l1, h1, h2⟩ := M.run_bind_some hm
    obtain ⟨⟨ys, u2⟩, l2, h3, h4⟩ := M.run_bind_some h2
    obtain ⟨h, _⟩ := M.run_ret h4
    cases h
    obtain ⟨s1, k1⟩ := toDen_spec (σ := σ) h1
    obtain ⟨s2, k2⟩ := dens_spec (as := as) h3
    refine ⟨s1.append s2, fun w lim vs h lim' e k => ?_⟩
    match vs, h with
    | v :: vs, h =>
      simp only [RAs] at h
      obtain ⟨cs, h5, h6, _⟩ := k1 w lim v h.1 lim' e (fun r t xs hm => k r t xs (List.mem_append_left _ hm))
      exact ⟨⟨cs, h5, h6⟩, k2 w lim vs h.2 lim' e (fun r t xs hm => k r t xs (List.mem_append_right _ hm))⟩

theorem Below.heap_alloc' (w : World) (o : Obj) (k : Nat) (h : k < w.heap.size) : (w.alloc o).heap[k]? = w.heap[k]? := heap_alloc_old w o k h
theorem cells_known {T : Tbl} {a : AV} {cs : List AV} (hcs : a.cells? = some cs) (ka : Known T (idsOf a)) : Known T (idsOfs cs) := by
  unfold AV.cells? at hcs
  split at hcs
  · simp at hcs; subst hcs; simpa [idsOf] using ka
  · simp at hcs
  · simp at hcs
  · rename_i x
    cases hx : x.oneCell' with
    | false => simp [hx] at hcs
    | true => simp [hx] at hcs; subst hcs; intro r hr; simp [idsOfs, idsOf] at hr
  · simp at hcs; subst hcs; intro r hr; simp [idsOfs] at hr; exact ka r hr

/-- a new block, and a name for it -/
theorem RelW.newblk (h : RelW G σ lim st tmps w) {w' : World} (hs : w'.heap.size = w.heap.size + 1) (hold : ∀ k, k < w.heap.size → w'.heap[k]? = w.heap[k]?)
    (hsame : w'.os = w.os ∧ w'.tape = w.tape ∧ w'.output = w.output) {n : Nat} (hn : st.tbl n = .fresh) {y : Res} {x : Value} (hx : blk x = some w.heap.size)
    (hy : Ext w lim w' lim → (∀ r, st.tbl r ≠ .fresh → (if r = n then x else σ r) = σ r) → RR (fun r => if r = n then x else σ r) w' lim n y) (hk : Known st.tbl (resIds n y)) :
    RelW G (fun r => if r = n then x else σ r) lim ⟨st.env, st.tbl.put [(n, .live y)]⟩ tmps w' ∧ Ext w lim w' lim := by
  have hE : Ext w lim w' lim := ⟨by omega, fun b o ho => by
    have hb : b < w.heap.size := by
      rcases Nat.lt_or_ge b w.heap.size with h' | h'
      · exact h'
      · rw [h.lz b h'] at ho; omega
    simp [World.cell?, hold b hb], fun _ _ ho => ho, fun b T hT => by
    have hb : b < w.heap.size := by
      rcases Nat.lt_or_ge b w.heap.size with h' | h'
      · exact h'
      · simp [typeAt, Array.getElem?_eq_none h'] at hT
    simpa [typeAt, hold b hb] using hT⟩
  have hσ : ∀ r, st.tbl r ≠ .fresh → (if r = n then x else σ r) = σ r := by
    intro r hr; rw [if_neg]; intro e; subst e; exact hr hn
  have hnf : ∀ r, look [(n, RS.live y)] r ≠ some .fresh := by intro r; rw [look_cons]; split <;> simp [look]
  have old : ∀ r b, isLive (st.tbl r) = true → blk (σ r) = some b → b < w.heap.size := by
    intro r b hl hb
    cases hr : st.tbl r with
    | live z =>
      obtain ⟨h1, _⟩ := h.res r z hr
      cases z with
      | box cs =>
        simp only [RR] at h1; obtain ⟨b', vs, T, e1, e2, _⟩ := h1
        rw [e1] at hb; simp [blk] at hb; subst hb
        exact (Array.getElem?_eq_some_iff.1 e2).1
      | arr t xs sh =>
        simp only [RR] at h1
        rcases h1.2 with ⟨_, e1⟩ | ⟨b', off, cap, vs, U, fz, e1, _, e2, _⟩
        · rw [e1] at hb; simp [blk] at hb
        · rw [e1] at hb; simp [blk] at hb; subst hb
          exact (Array.getElem?_eq_some_iff.1 e2).1
      | nest t xss o =>
        simp only [RR] at h1
        obtain ⟨_, b', off, cap, vs, U, fz, e1, _, e2, _⟩ := h1
        rw [e1] at hb; simp [blk] at hb; subst hb
        exact (Array.getElem?_eq_some_iff.1 e2).1
    | fresh => rw [hr] at hl; simp [isLive] at hl
    | gone => rw [hr] at hl; simp [isLive] at hl
  refine ⟨h.noput (v := .dead) (x := undef) (Upd.dead hE ?_ hsame hσ ?_ ?_ ?_ ?_ ?_ (fun _ _ _ => rfl) hnf (by simp [RA]) (by simp [idsOf, Known])), hE⟩
  · intro b hb; exact h.lz b (by omega)
  · intro r hl _ b hb; exact ⟨hold b (old r b hl hb), rfl⟩
  · intro r z hl
    rw [look_cons] at hl
    split at hl
    · rename_i e; subst e
      simp at hl; subst hl
      exact ⟨hy hE hσ, hk.put hnf⟩
    · simp [look] at hl
  · intro r1 r2 z b hl hl2 hb1 hb2
    rw [look_cons] at hl
    split at hl
    · rename_i e; subst e
      simp [hx] at hb1; subst hb1
      rw [put_one] at hl2
      split at hl2
      · rename_i e; exact e.symm
      · rename_i hne
        have hne' : ¬ r2 = n := fun e => hne e.symm
        simp [hne'] at hb2
        have := old r2 _ hl2 hb2
        omega
    · simp [look] at hl
  · intro r1 z b hl hb
    rw [look_cons] at hl
    split at hl
    · rename_i e; subst e
      simp [hx] at hb; subst hb
      exact .inl h.ext.size
    · simp [look] at hl
  · intro b hb _
    exact hold b (Nat.lt_of_lt_of_le hb h.ext.size)

/-- what an operation comes to -/
def Does (C : Ctx) (G : Glob) (st : St) (tmps : Array Value) (w : World) (s : Sem Value) (e : Eff) : Prop :=
  ∃ x w' σ' lim', s.run C.P w = .ok x w' ∧ RelW G σ' lim' ⟨st.env, st.tbl.put e.ups⟩ tmps w' ∧ RA σ' w' lim' e.val x ∧ Known (st.tbl.put e.ups) (idsOf e.val)

theorem Does.quiet (h : RelW G σ lim st tmps w) {s : Sem Value} {e : Eff} (hr : ∃ x, s.run C.P w = .ok x w ∧ RA σ w lim e.val x ∧ Known st.tbl (idsOf e.val) ∧ e.ups = []) : Does C G st tmps w s e := by
  obtain ⟨x, h1, h2, h3, h4⟩ := hr
  exact ⟨x, w, σ, lim, h1, by rw [h4]; exact h, h2, by rw [h4]; exact h3⟩

theorem fresh1 {α : Type} {tbl : Tbl} {n : Nat} {k : M α} {l l' : List Nat} {x : α} (hm : (freshAll n 1 k).run tbl l = some (x, l')) : tbl n = .fresh ∧ ∃ l2, k.run tbl l2 = some (x, l') := by
  simp only [freshAll, M.run] at hm
  cases hf : tbl n with
  | fresh => simp only [hf] at hm; exact ⟨rfl, _, hm⟩
  | gone => simp [hf, M.run] at hm
  | live y => simp [hf, M.run] at hm

theorem box_new (h : RelW G σ lim st tmps w) {n : Nat} (hn : st.tbl n = .fresh) {T : TypeId} {cs : List AV} {vs : List Value} (hc : RAs σ w lim cs vs) (hk : Known st.tbl (idsOfs cs)) :
    RelW G (fun r => if r = n then .pointer (some ⟨w.heap.size, 0, none⟩) else σ r) lim ⟨st.env, st.tbl.put [(n, .live (.box cs))]⟩ tmps (w.alloc (.cells vs.toArray T)) ∧
    Ext w lim (w.alloc (.cells vs.toArray T)) lim := by
  refine h.newblk (by simp) (fun k hk => Below.heap_alloc' w _ k hk) ⟨rfl, rfl, rfl⟩ hn rfl (fun hE hσ => ?_) hk
  simp only [RR]
  refine ⟨w.heap.size, vs.toArray, T, by simp, heap_alloc_new w _, ?_, h.lz _ (Nat.le_refl _)⟩
  exact RAs.mono hE hσ _ _ hk hc

/-- another word for what lies there -/
theorem RelW.reword (h : RelW G σ lim st tmps w) {r : Nat} {x y : Res} (hr : st.tbl r = .live x) (hk : Known st.tbl (resIds r y)) (hy : RR σ w lim r y) : RelW G σ lim ⟨st.env, st.tbl.put [(r, .live y)]⟩ tmps w := by
  have hlr : isLive (st.tbl r) = true := by rw [hr]; rfl
  have hnf : ∀ s, look [(r, RS.live y)] s ≠ some .fresh := by intro s; rw [look_cons]; split <;> simp [look]
  have hl : ∀ s z, look [(r, RS.live y)] s = some (.live z) → s = r ∧ z = y := by
    intro s z hs
    rw [look_cons] at hs
    split at hs
    · rename_i e; subst e; simp at hs; exact ⟨rfl, hs.symm⟩
    · simp [look] at hs
  refine h.noput (v := .dead) (x := undef) (Upd.dead (Ext.refl _ _) h.lz ⟨rfl, rfl, rfl⟩ (fun _ _ => rfl) (fun _ _ _ _ _ => ⟨rfl, rfl⟩) ?_ ?_ ?_ (fun _ _ _ => rfl) (fun _ _ _ => rfl) hnf (by simp [RA]) (by simp [idsOf, Known]))
  · intro s z hs
    obtain ⟨rfl, rfl⟩ := hl s z hs
    exact ⟨hy, hk.put hnf⟩
  · intro r1 r2 z b hs hl2 hb1 hb2
    obtain ⟨rfl, rfl⟩ := hl r1 z hs
    rw [put_one] at hl2
    split at hl2
    · rename_i e; exact e.symm
    · exact h.inj r2 r1 b hl2 hlr hb2 hb1
  · intro s z b hs hb
    obtain ⟨rfl, rfl⟩ := hl s z hs
    exact h.own s b hlr hb


theorem put_same {T : Tbl} {n : Nat} {x y : RS} : (T.put [(n, x)]).put [(n, y)] = T.put [(n, y)] := by
  funext r
  simp only [Tbl.put, look_cons]
  by_cases h : n = r
  · simp [h]
  · simp [h, look]

theorem alloc_does (h : RelW G σ lim st tmps w) {base : Nat} {T : TypeId} {l l' : List Nat} {e : Eff} (hm : (actAlloc C base T).run st.tbl l = some (e, l')) :
    Does C G st tmps w (Instr.alloc T true (.tuple #[])) e := by
  unfold actAlloc at hm
  cases hz : zeroCells C.P T with
  | none => simp [hz, M.run] at hm
  | some zs =>
    simp only [hz] at hm
    obtain ⟨hf, l2, hm⟩ := fresh1 hm
    obtain ⟨rfl, _⟩ := M.run_ret hm
    obtain ⟨z, hz1, hz2⟩ := zero_run hz w
    obtain ⟨h1, h2⟩ := box_new h hf (T := T) (ras_vals zs) (by intro r hr; rw [ids_vals] at hr; cases hr)
    cases hg : ((C.live 0).any (Nat.beq T) && isNilPtr0 zs) with
    | false =>
      have e0 : allocCells C base T zs = zs.map fun v => .val (.v v) := by simp only [allocCells, hg, cond_false]
      rw [e0]
      refine ⟨_, _, _, _, ?_, h1, by simp only [RA]; exact ⟨w.heap.size, by simp, rfl⟩, ?_⟩
      · simp [Instr.alloc, hz1, newVar, newRow, ← hz2]
      · intro r hr; simp [idsOf] at hr; subst hr; simp [put_one]
    | true =>
      have e0 : allocCells C base T zs = .me base T :: (zs.drop 1).map fun v => .val (.v v) := by simp only [allocCells, hg, cond_true]
      rw [e0]
      simp only [Bool.and_eq_true] at hg
      obtain ⟨x, rfl⟩ : ∃ x, zs = [.pointer none, x] := by
        have := hg.2
        unfold isNilPtr0 at this
        split at this
        · exact ⟨_, rfl⟩
        · cases this
      have hr1 : (st.tbl.put [(base, .live (.box (List.map (fun v => AV.val (.v v)) [.pointer none, x])))]) base = .live (.box (List.map (fun v => AV.val (.v v)) [.pointer none, x])) := by simp [put_one]
      obtain ⟨q1, q2⟩ := h1.res base _ hr1
      have h3 := h1.reword (r := base) (y := .box [.me base T, .val (.v x)]) hr1 (by
          intro r hr
          simp [resIds, idsOfs, idsOf] at hr
          subst hr; simp only; rw [hr1]; simp) (by
          simp only [RR] at q1 ⊢
          obtain ⟨b, vs, U, e1, e2, e3, e4⟩ := q1
          refine ⟨b, vs, U, e1, e2, ?_, e4⟩
          have hb : b = w.heap.size := by simp at e1; exact e1.symm
          have hU : U = T := by
            subst hb
            have e5 : (w.alloc (Obj.cells [Value.pointer none, x].toArray T)).heap[w.heap.size]? = some (Obj.cells [Value.pointer none, x].toArray T) := heap_alloc_new w _
            rw [e5] at e2
            simp at e2
            exact e2.2.symm
          match hvs : vs.toList, e3 with
          | [v0, v1], e3 =>
            simp only [List.map_cons, List.map_nil, RAs, RA, RP, and_true] at e3 ⊢
            exact ⟨⟨none, e3.1, .inl rfl, b, e1, by simp [typeAt, e2, hU]⟩, e3.2⟩)
      simp only at h3
      rw [put_same] at h3
      refine ⟨_, _, _, _, ?_, h3, by simp only [RA]; exact ⟨w.heap.size, by simp, rfl⟩, ?_⟩
      · simp [Instr.alloc, hz1, newVar, newRow, ← hz2]
      · intro r hr; simp [idsOf] at hr; subst hr; simp [put_one]

theorem box_does (h : RelW G σ lim st tmps w) {base : Nat} {T : TypeId} {a : AV} {v : Value} {l l' : List Nat} {e : Eff} (hm : (actBox base a).run st.tbl l = some (e, l'))
    (ha : RA σ w lim a v) (hk : Known st.tbl (idsOf a)) : Does C G st tmps w (Instr.box T v) e := by
  unfold actBox at hm
  cases hc : a.cells? with
  | none => simp [hc, M.run] at hm
  | some cs =>
    simp only [hc] at hm
    obtain ⟨hf, l2, hm⟩ := fresh1 hm
    obtain ⟨rfl, _⟩ := M.run_ret hm
    obtain ⟨ws, h1, h2, _⟩ := cells_spec hc ha
    obtain ⟨h3, h4⟩ := box_new h hf (T := T) h2 (cells_known hc hk)
    refine ⟨_, _, _, _, ?_, h3, by simp only [RA]; exact ⟨w.heap.size, by simp, rfl⟩, ?_⟩
    · simp [Instr.box, newVar, newRow, h1]
    · intro r hr; simp [idsOf] at hr; subst hr; simp [put_one]

theorem flat_at {t : Ty} {rest : List Value} : {xs : List t.den} → {css : List (List Value)} → All2 (Rt w lim t) xs css → ∀ i (h : i < xs.length),
    Rt w lim t xs[i] (((css.flatten ++ rest).drop (i * t.size)).take t.size)
  | x :: xs, c :: css, h, 0, _ => by
    have hl := Rt.length h.1
    simp only [List.getElem_cons_zero, Nat.zero_mul, List.drop_zero, List.flatten_cons, List.append_assoc]
    rw [List.take_append_of_le_length (by omega), List.take_of_length_le (by omega)]
    exact h.1
  | x :: xs, c :: css, h, i + 1, hi => by
    have hl := Rt.length h.1
    simp only [List.getElem_cons_succ, List.flatten_cons, List.append_assoc]
    rw [Nat.add_mul, Nat.one_mul, Nat.add_comm, ← List.drop_drop, ← hl, List.drop_left, hl]
    exact flat_at h.2 i (by simpa using hi)
  | [], _, _, i, hi => by simp at hi
  | _ :: _, [], h, _, _ => h.elim

theorem arr_new (h : RelW G σ lim st tmps w) {n : Nat} (hn : st.tbl n = .fresh) {t : Ty} {xs : List t.den} {vs : Array Value} {T : TypeId} {fz : Nat × Nat} {w' : World} {cap : Nat} (sh : Bool)
    (hs : w'.heap.size = w.heap.size + 1) (hold : ∀ k, k < w.heap.size → w'.heap[k]? = w.heap[k]?) (hnew : w'.heap[w.heap.size]? = some (.cells vs T fz))
    (hsame : w'.os = w.os ∧ w'.tape = w.tape ∧ w'.output = w.output) (hsz : 0 < t.size) (hc : xs.length ≤ cap) (hcap : cap * t.size ≤ vs.size)
    (hfz : Fit t T vs.size fz) {css : List (List Value)} (hx : All2 (Rt w lim t) xs css) {rest : List Value} (hv : vs.toList = css.flatten ++ rest) :
    RelW G (fun r => if r = n then .slice (some ⟨w.heap.size, 0, none⟩) xs.length cap else σ r) lim ⟨st.env, st.tbl.put [(n, .live (.arr t xs sh))]⟩ tmps w' ∧ Ext w lim w' lim := by
  refine h.newblk hs hold hsame hn rfl (fun hE hσ => ?_) (by intro r hr; cases hr)
  simp only [RR]
  refine ⟨hsz, .inr ⟨w.heap.size, 0, cap, vs, T, fz, by simp, hc, hnew, by omega, hfz, fun i hi => ?_, by have := h.lz _ (Nat.le_refl w.heap.size); cases sh <;> simp [this]⟩⟩
  rw [Nat.zero_add, hv]
  exact (flat_at hx i hi).mono hE

theorem own_done {n : Nat} {σ' : Sig} {w' : World} {lim' : Nat → Nat} {x : Value} {A : Option Addr} {len cap : Nat} (hx : x = .slice A len cap) (hs : σ' n = x) : RA σ' w' lim' (.own n) x := by
  simp only [RA]; exact ⟨hs.symm, A, len, cap, hx⟩

theorem known_own {T : Tbl} {n : Nat} {y : Res} (h : T n = .live y) : Known T (idsOf (.own n)) := by
  intro r hr; simp [idsOf] at hr; subst hr; rw [h]; simp

theorem zip_all2 {ρ : Operand → Value} : (L : List (Nat × Operand)) → (as : List AV) → RAs σ w lim as (L.map fun p => ρ p.2) →
    All2 (fun (p : Nat × AV) (q : Nat × Value) => p.1 = q.1 ∧ RA σ w lim p.2 q.2) ((L.map (·.1)).zip as) (L.map fun p => (p.1, ρ p.2))
  | [], [], _ => trivial
  | p :: L, a :: as, ha => by
    simp only [List.map_cons, RAs] at ha
    exact ⟨⟨rfl, ha.1⟩, zip_all2 L as ha.2⟩
  | [], _ :: _, h => by simp [RAs] at h
  | _ :: _, [], h => by simp [RAs] at h

theorem build_does (h : RelW G σ lim st tmps w) {T : TypeId} {ps : Array (Nat × Operand)} {as : List AV} {ρ : Operand → Value} {l l' : List Nat} {e : Eff}
    (hm : (actBuild C T (ps.toList.map (·.1)) as).run st.tbl l = some (e, l')) (ha : RAs σ w lim as (ps.toList.map fun p => ρ p.2)) (hk : ∀ a ∈ as, Known st.tbl (idsOf a)) :
    Does C G st tmps w (Instr.build T (ps.map fun (i, x) => (i, ρ x))) e := by
  unfold actBuild fieldsT at hm
  cases hz : zeroCells C.P T with
  | none => simp [hz, M.run] at hm
  | some zs =>
    cases hu : C.P.underlying T with
    | none => simp [hz, hu, M.run] at hm
    | some d =>
      cases d with
      | struct fs =>
        simp only [hz, hu] at hm
        obtain ⟨hg, hm⟩ := M.run_guard hm
        cases hf : fillA (placeT C fs) (zs.map fun v => .val (.v v)) ((ps.toList.map (·.1)).zip as) with
        | none => simp [hf, M.run] at hm
        | some cs =>
          simp only [hf] at hm
          obtain ⟨rfl, _⟩ := M.run_ret hm
          obtain ⟨z, hz1, hz2⟩ := zero_run hz w
          have hall := zip_all2 ps.toList as ha
          obtain ⟨us, h1, h2⟩ := fillA_sound _ _ _ _ hf hall (ras_vals zs)
          refine Does.quiet h ⟨.agg us.toArray, ?_, by simp only [RA]; exact ⟨us, rfl, h2⟩, ?_, rfl⟩
          · have hpl := run_places (P := C.P) fs.toList w (fun f hf => by
              have := List.all_eq_true.1 hg f hf
              exact Option.isSome_iff_exists.1 this)
            have hplace : (fun i => (fs.toList.map fun f => (f.offset, C.P.cellsOf f.type))[i]?) = placeT C fs := by
              funext i
              simp only [placeT, List.getElem?_map, Array.getElem?_toList]
              cases fs[i]? <;> rfl
            have hzs : zs.toArray = z.cells := by rw [← hz2]
            simp only [Instr.build, Sem.run_bind, hz1, Result.andThen_ok, run_underlying hu]
            simp only [bind_pure_comp, Array.mapM_eq_mapM_toList, Sem.run_map]
            simp only [bind_pure_comp] at hpl
            rw [hpl]
            simp only [Result.andThen_ok, List.getElem?_toArray, hplace, Array.toList_map]
            rw [hzs] at h1
            have e2 : List.map (fun x => (x.1, ρ x.2)) ps.toList = ps.toList.map fun p => (p.1, ρ p.2) := rfl
            rw [h1]
            rfl
          · simp only [idsOf]
            refine fillA_known _ _ hf (by intro r hr; rw [ids_vals] at hr; cases hr) (fun p hp => ?_)
            exact hk p.2 (List.of_mem_zip hp).2
      | _ => simp [hz, hu, M.run] at hm

theorem aset_eq (a : Array Value) (k : Nat) (v : Value) : (a.setIfInBounds k v).toList = a.toList.set k v := by simp

theorem elem_info {P : Program} {T e : TypeId} {t : Ty} (he : elemT P T = some (e, t)) : ∃ i, P.info? e = some i ∧ i.size = t.size ∧ P.bytesOf e = i.bytes := by
  obtain ⟨hu, ht, hs⟩ := elemT_spec he
  obtain ⟨d, hd⟩ := tyOf_underlying ht
  obtain ⟨i, hi⟩ := underlying_info hd
  exact ⟨i, hi, by simpa [Program.cellsOf, hi] using hs, by simp [Program.bytesOf, hi]⟩

/-- laying parts of equal size one behind the other -/
theorem fill_row {sz : Nat} : ∀ (css : List (List Value)) (qs : List (Nat × Value)) (k : Nat) (pre rest : List Value),
    (∀ c ∈ css, c.length = sz) → pre.length = k * sz → rest.length = css.length * sz → qs.map (·.1) = List.range' k css.length → All2 (fun c (q : Nat × Value) => q.2.cells = c.toArray) css qs →
    Instr.fill (fun i => some (i * sz, sz)) (pre ++ rest).toArray qs = some (pre ++ css.flatten).toArray
  | [], [], k, pre, rest, _, _, hr, _, _ => by
    have : rest = [] := List.eq_nil_of_length_eq_zero (by simpa using hr)
    subst this; simp [Instr.fill]
  | c :: css, (i, v) :: qs, k, pre, rest, hc, hp, hr, hi, hq => by
    simp only [List.map_cons, List.length_cons, List.range'_succ, List.cons.injEq] at hi
    obtain ⟨rfl, hi⟩ := hi
    have hcl := hc c (List.mem_cons_self ..)
    have hv := hq.1
    simp only at hv
    have hrl : sz ≤ rest.length := by rw [hr, List.length_cons, Nat.add_mul]; omega
    simp only [Instr.fill, hv]
    rw [if_neg (by simp [hcl, hp]; omega)]
    have := foldl_put c 0 (pre ++ rest).toArray (i * sz) (by simp [hp]; omega)
    simp only [Nat.add_zero] at this
    rw [show (Array.foldl (fun cs x => cs.setIfInBounds (i * sz + x.2) x.1) (pre ++ rest).toArray c.toArray.zipIdx) = (List.foldl (fun cs x => cs.setIfInBounds (i * sz + x.2) x.1) (pre ++ rest).toArray c.zipIdx) by
      simp [Array.zipIdx, List.mapIdx_eq_zipIdx_map]]
    rw [this]
    have e1 : ((pre ++ rest).take (i * sz) ++ c ++ (pre ++ rest).drop (i * sz + c.length)) = (pre ++ c) ++ rest.drop sz := by
      rw [← hp, List.take_left, hcl, ← List.drop_drop, List.drop_left]
    rw [e1]
    have ih := fill_row css qs (i + 1) (pre ++ c) (rest.drop sz) (fun c' h' => hc c' (List.mem_cons_of_mem _ h')) (by simp [hp, hcl, Nat.add_mul])
      (by simp [hr, Nat.add_mul]) hi hq.2
    rw [ih]
    simp
  | [], _ :: _, _, _, _, _, _, _, hi, _ => by simp at hi
  | _ :: _, [], _, _, _, _, _, _, hi, _ => by simp [List.range'_succ] at hi

theorem okfz (o : Nat) : ¬ (((0 : Nat), (0 : Nat)).1 ≤ o ∧ o < ((0 : Nat), (0 : Nat)).2) := by simp

theorem look_mem : {u : Ups} → {r : Nat} → {z : RS} → look u r = some z → (r, z) ∈ u
  | [], _, _, h => by simp [look] at h
  | (a, b) :: u, r, z, h => by
    rw [look_cons] at h
    split at h
    · rename_i e; subst e; simp at h; subst h; exact List.mem_cons_self ..
    · exact List.mem_cons_of_mem _ (look_mem h)

theorem Shows.fresh {T : Tbl} {u : Ups} (s : Shows T u) {n : Nat} (hf : T n = .fresh) : T.put u n = .fresh := by
  cases hl : look u n with
  | none => simp [Tbl.put, hl, hf]
  | some z =>
    obtain ⟨t', ys, sh, _, h4⟩ := s _ (look_mem hl)
    simp only at h4
    rw [hf] at h4; cases h4

theorem dens_cells {t : Ty} {ρ : Operand → Value} : (L : List (Nat × Operand)) → (xs : List t.den) → All2 (fun x v => ∃ cs, Rt w lim t x cs ∧ v.cells = cs.toArray) xs (L.map fun p => ρ p.2) →
    ∃ css : List (List Value), All2 (Rt w lim t) xs css ∧ All2 (fun c (q : Nat × Value) => q.2.cells = c.toArray) css (L.map fun p => (p.1, ρ p.2))
  | [], [], _ => ⟨[], trivial, trivial⟩
  | p :: L, x :: xs, hd => by
    simp only [List.map_cons] at hd
    obtain ⟨⟨c, e1, e2⟩, hd⟩ := hd
    obtain ⟨css, e3, e4⟩ := dens_cells L xs hd
    exact ⟨c :: css, ⟨e1, e3⟩, ⟨e2, e4⟩⟩
  | [], _ :: _, h => h.elim
  | _ :: _, [], h => h.elim

theorem rt_lens {t : Ty} : {xs : List t.den} → {css : List (List Value)} → All2 (Rt w lim t) xs css → ∀ c ∈ css, c.length = t.size
  | [], [], _, _, h => by cases h
  | _ :: _, c :: css, k, c', h => by
    cases h with
    | head => exact Rt.length k.1
    | tail _ h => exact rt_lens k.2 c' h
  | [], _ :: _, k, _, _ => k.elim
  | _ :: _, [], k, _, _ => k.elim

theorem tyOf_raw_size {P : Program} {e : TypeId} {t : Ty} (_ : tyOf P depth e = some t) : True := trivial

theorem buildSlice_does (h : RelW G σ lim st tmps w) {base : Nat} {T : TypeId} {len : Nat} {ps : Array (Nat × Operand)} {as : List AV} {ρ : Operand → Value} {l l' : List Nat} {e : Eff}
    (hm : (actBuildSlice C base T len (ps.toList.map (·.1)) as).run st.tbl l = some (e, l')) (ha : RAs σ w lim as (ps.toList.map fun p => ρ p.2)) :
    Does C G st tmps w (Instr.buildSlice T len (ps.map fun (i, x) => (i, ρ x))) e := by
  unfold actBuildSlice at hm
  cases he : elemT C.P T with
  | none => simp [he, M.run] at hm
  | some q =>
    obtain ⟨ee, t⟩ := q
    simp only [he] at hm
    obtain ⟨hg, hm1⟩ := M.run_guard hm
    clear hm
    simp only [Bool.and_eq_true, beq_iff_eq] at hg
    obtain ⟨⟨⟨g1, gz⟩, g2'⟩, g3'⟩ := hg
    have g2 := Nat.le_of_ble_eq_true g2'
    have gk := (posB_spec g3').2
    have g3 := (posB_spec g3').1
    clear g2' g3'
    obtain ⟨⟨xs, u⟩, l1, h1, h2⟩ := M.run_bind_some hm1
    simp only at h2
    obtain ⟨hxl', h3⟩ := M.run_guard h2
    have hxl := beq_eq hxl'
    obtain ⟨hf, l2, h4⟩ := fresh1 h3
    obtain ⟨rfl, _⟩ := M.run_ret h4
    clear h2 h3 h4 hm1 hxl'
    obtain ⟨s1, k1⟩ := dens_spec (σ := σ) h1
    obtain ⟨lim1, hR, hE, hsh⟩ := RelW.shows u h s1
    obtain ⟨css, hcss, hcells⟩ := dens_cells _ _ (k1 w lim _ ha lim1 hE hsh)
    have hcl : css.length = len := by rw [← hcss.length, hxl]
    obtain ⟨i, hi, his, _⟩ := elem_info he
    obtain ⟨hu, ht, hs⟩ := elemT_spec he
    have hflat := flatten_length hcss
    obtain ⟨hN, hE2⟩ := arr_new hR (st := ⟨st.env, st.tbl.put u⟩) (s1.fresh hf) (w' := w.alloc (.cells css.flatten.toArray ee)) (T := ee) (vs := css.flatten.toArray) (fz := (0, 0)) (cap := xs.length) false
      (by simp) (fun k hk => heap_alloc_old w _ k hk) (heap_alloc_new w _) ⟨rfl, rfl, rfl⟩ g3 (Nat.le_refl _) (by simp only [List.size_toArray]; rw [hflat]; exact Nat.le_refl _) ⟨fun o _ => okfz o, gk, Nat.le_refl _⟩ hcss (rest := []) (by simp)
    refine ⟨.slice (some ⟨w.heap.size, 0, none⟩) xs.length xs.length, _, _, _, ?_, by rw [put_cons]; exact hN, own_done rfl (by simp), known_own (y := .arr t xs false) (by rw [put_at]; simp)⟩
    have hlen0 : ¬ (2 ^ 24 < len * i.size) := by rw [his]; omega
    have hfill : ∀ zs : List Value, zs.length = len * t.size → Instr.fill (fun j => some (j * t.size, t.size)) zs.toArray (ps.toList.map fun p => (p.1, ρ p.2)) = some css.flatten.toArray := by
      intro zs hz
      have := fill_row (sz := t.size) css (ps.toList.map fun p => (p.1, ρ p.2)) 0 [] zs (rt_lens hcss) (by simp) (by rw [hz, hcl])
        (by rw [List.map_map, hcl]; rw [show ((fun x : Nat × Value => x.1) ∘ fun p : Nat × Operand => (p.1, ρ p.2)) = (·.1) from rfl, g1, List.range_eq_range']) hcells
      simpa using this
    have hz0 : ∃ z, (zeroValue ee).run C.P w = .ok z w := by
      cases hzz : zeroCells C.P ee with
      | none => simp [hzz] at gz
      | some zs => obtain ⟨z, hz, _⟩ := zero_run hzz w; exact ⟨z, hz⟩
    obtain ⟨z, hz⟩ := hz0
    simp only [Instr.buildSlice, Sem.run_bind, run_underlying hu, Result.andThen_ok, sizeOf, typeInfo, run_program, hi, Sem.run_pure, Sem.run_ite, gt_iff_lt]
    rw [if_neg hlen0]
    simp only [his, Array.toList_map]
    have e2 : List.map (fun x => (x.1, ρ x.2)) ps.toList = ps.toList.map fun p => (p.1, ρ p.2) := rfl
    by_cases h0 : len * t.size = 0
    · have : len = 0 := by
        rcases Nat.mul_eq_zero.1 h0 with h | h
        · exact h
        · omega
      subst this
      have hx0 : xs = [] := List.eq_nil_of_length_eq_zero hxl
      have hc0 : css = [] := List.eq_nil_of_length_eq_zero hcl
      subst hx0; subst hc0
      have := hfill [] (by simp)
      simp only [List.flatten_nil] at this
      have hr0 : ∀ f : Nat → Value, Array.map f (Array.range 0) = [].toArray := fun f => by simp
      simp only [hr0, Nat.zero_mul, if_true, Sem.run_pure, Result.andThen_ok, this]
      simp [newRow]
    · rw [if_neg h0]
      simp only [hz, Result.andThen_ok]
      have := hfill ((Array.range (len * t.size)).map (fun x => z.cells[x % z.cells.size]!)).toList (by simp)
      simp only [Array.toArray_toList] at this
      rw [this]
      simp [newRow, hxl]

theorem zeroRow (z : List Value) (hz : 0 < z.length) : ∀ n, (List.range (n * z.length)).map (fun x => z.toArray[x % z.length]!) = (List.replicate n z).flatten
  | 0 => by simp
  | n + 1 => by
    rw [Nat.add_mul, Nat.one_mul, List.range_add, List.map_append, zeroRow z hz n, List.replicate_succ', List.flatten_append]
    congr 1
    simp only [List.map_map, List.flatten_cons, List.flatten_nil, List.append_nil]
    apply List.ext_getElem?
    intro i
    simp only [List.getElem?_map]
    by_cases h : i < z.length
    · rw [List.getElem?_range h]
      simp [Nat.mod_eq_of_lt h, h]
    · rw [List.getElem?_eq_none (by simpa using h), List.getElem?_eq_none (by omega)]; rfl

theorem rt_zero {t : Ty} {zs : List Value} {z : t.den} (h : ofAll t (zs.map .v) = some z) : Rt w lim t z zs := by
  refine rt_ofAll h ?_
  clear h
  induction zs with
  | nil => trivial
  | cons v l ih => exact ⟨rfl, ih⟩

theorem all2_replicate {α β : Type} {R : α → β → Prop} {a : α} {b : β} (h : R a b) : ∀ n, All2 R (List.replicate n a) (List.replicate n b)
  | 0 => trivial
  | n + 1 => ⟨h, all2_replicate h n⟩

theorem wrap_small {n : Int} (h0 : 0 ≤ n) (h1 : n < 4294967296) : IntKind.i64.wrap n = n := by
  simp [IntKind.wrap, IntKind.bits, IntKind.signed]; omega

theorem make_does (h : RelW G σ lim st tmps w) {base : Nat} {T : TypeId} {a b : AV} {vl vc : Value} {l l' : List Nat} {e : Eff}
    (hm : (actMake C base T a b).run st.tbl l = some (e, l')) (ha : RA σ w lim a vl) (hb : RA σ w lim b vc) : Does C G st tmps w (Instr.makeSlice T vl vc) e := by
  unfold actMake at hm
  split at hm
  · rename_i ll cc
    simp only [RA, RP] at ha hb; subst ha; subst hb
    cases he : elemT C.P T with
    | none => simp [he, M.run] at hm
    | some q =>
      obtain ⟨ee, t⟩ := q
      simp only [he] at hm
      obtain ⟨hg, hm1⟩ := M.run_guard hm
      simp only [Bool.and_eq_true] at hg
      have g1 := Nat.le_of_ble_eq_true hg.1
      have gk := (posB_spec hg.2).2
      have g2 := (posB_spec hg.2).1
      cases hz : zeroCells C.P ee with
      | none => simp [hz, M.run] at hm1
      | some zs =>
        simp only [hz] at hm1
        cases ho : ofAll t (zs.map .v) with
        | none => simp [ho, M.run] at hm1
        | some z =>
          simp only [ho] at hm1
          obtain ⟨hn, hm2⟩ := M.run_need hm1
          obtain ⟨h0, h1, h2⟩ := of_decide_eq_true hn
          obtain ⟨hf, l2, hm3⟩ := fresh1 hm2
          obtain ⟨rfl, _⟩ := M.run_ret hm3
          obtain ⟨i, hi, his, hib⟩ := elem_info he
          obtain ⟨hu, ht, hs⟩ := elemT_spec he
          obtain ⟨zv, hz1, hz2⟩ := zero_run hz w
          have hrz := rt_zero (w := w) (lim := lim) ho
          have hzl := Rt.length hrz
          obtain ⟨L, rfl⟩ := Int.eq_ofNat_of_zero_le h0
          obtain ⟨N, rfl⟩ := Int.eq_ofNat_of_zero_le (show 0 ≤ cc by omega)
          have hLN : L ≤ N := by omega
          have hcells : ((Array.range (N * t.size)).map (fun x => zv.cells[x % zv.cells.size]!)).toList = (List.replicate L zs).flatten ++ (List.replicate (N - L) zs).flatten := by
            have hsz : zv.cells.size = zs.length := by rw [← hz2]; simp
            have := zeroRow zs (by omega) N
            rw [← List.flatten_append, List.replicate_append_replicate, show L + (N - L) = N by omega, ← this, hzl]
            simp only [Array.toList_map, Array.toList_range, hsz, hzl]
            rw [← hz2]
          obtain ⟨hN, hE2⟩ := arr_new h hf (w' := w.alloc (.cells ((Array.range (N * t.size)).map (fun x => zv.cells[x % zv.cells.size]!)) ee)) (T := ee) (fz := (0, 0)) (cap := N) (xs := List.replicate L z) false
            (by simp) (fun k hk => heap_alloc_old w _ k hk) (heap_alloc_new w _) ⟨rfl, rfl, rfl⟩ g2 (by simpa using hLN) (by simp) ⟨fun o _ => okfz o, gk, Nat.le_refl _⟩ (all2_replicate hrz L) hcells
          refine ⟨.slice (some ⟨w.heap.size, 0, none⟩) L N, _, _, _, ?_, hN, own_done rfl (by simp), known_own (y := .arr t (List.replicate L z) false) (by rw [put_at]; simp)⟩
          have hmul : (i.bytes : Int) * (N : Int) ≤ 281474976710656 := by
            rw [← hib]
            have h3 : C.P.bytesOf ee * N ≤ 65536 * 4294967295 := Nat.mul_le_mul g1 (by omega)
            have : ((C.P.bytesOf ee * N : Nat) : Int) ≤ 281474976710656 := by omega
            simpa using this
          have w1 : IntKind.i64.wrap (L : Int) = L := wrap_small (by omega) (by omega)
          have w2 : IntKind.i64.wrap (N : Int) = N := wrap_small (by omega) (by omega)
          have hc0 : ¬ ((N : Int) < 0) := by omega
          have hl0 : ¬ ((L : Int) < 0) := by omega
          have hlc : ¬ ((N : Int) < (L : Int)) := by omega
          have hbig : ¬ (281474976710656 < (i.bytes : Int) * (N : Int)) := by omega
          simp only [Instr.makeSlice, Sem.run_bind, run_underlying hu, Result.andThen_ok, asInt, asIntOf, Sem.run_pure, typeInfo, run_program, hi, w1, w2]
          simp only [Int.reducePow, decide_eq_true_eq, Bool.or_eq_true, hc0, hl0, hlc, hbig, gt_iff_lt, or_self, decide_false, Bool.false_eq_true, if_false, Sem.run_bind, run_askRoom, Result.andThen_ok, sizeOf, typeInfo, run_program, hi, Sem.run_pure, Int.toNat_natCast, his, Sem.run_ite, hz1]
          by_cases hN0 : N * t.size = 0
          · have hr0 : ∀ f : Nat → Value, Array.map f (Array.range 0) = #[] := fun f => by simp
            rw [if_pos hN0, hN0]
            simp only [hr0, Result.andThen_ok]
            simp [newRow]
          · simp [hN0, newRow]
  · simp [M.run] at hm

theorem rt_nums (s : ByteArray) : All2 (Rt w lim (.int .u8)) (numsOf s) ((numsOf s).map fun n => [Value.int .u8 n]) := by
  generalize numsOf s = L
  induction L with
  | nil => trivial
  | cons n L ih => exact ⟨rfl, ih⟩

theorem flat_nums (L : List Int) : (L.map fun n => [Value.int .u8 n]).flatten = L.map (Value.int .u8) := by
  induction L with
  | nil => rfl
  | cons n L ih => simp [ih]

theorem toBytes_does (h : RelW G σ lim st tmps w) {base : Nat} {src dst el : TypeId} {s : ByteArray} (hs : C.P.underlying src = some .string) (hd : C.P.underlying dst = some (.slice el))
    (hb : byteT C.P el = true) (hbk : Nat.beq el u8Id = true) (hf : st.tbl base = .fresh) (_hsz : s.size < 1099511627776) :
    Does C G st tmps w (convert src dst (.string s)) ⟨.own base, [(base, .live (.arr (.int .u8) (numsOf s) false))]⟩ := by
  obtain ⟨hu, _⟩ := byteT_spec hb
  have hr := Lib.run_convert_string_bytes (P := C.P) w src dst el s hs hd hu
  have hge := grownCap_ge w s.size 0 el
  have hnl : (numsOf s).length = s.size := by simp [numsOf]
  obtain ⟨hN, hE2⟩ := arr_new h hf (w' := Lib.bytesWorld w el s) (t := .int .u8) (T := el) (vs := Lib.bytesCells w el s) (fz := ((Lib.bytesCells w el s).size, (Lib.bytesCells w el s).size + 1)) (cap := grownCap w s.size 0 el) (xs := numsOf s) false
    (Lib.bytesWorld_size w el s) (fun k hk => Lib.bytesWorld_at_old w el s k hk) (Lib.bytesWorld_at_new w el s) ⟨by simp [Lib.bytesWorld, World.freeze, World.alloc, World.drew, -World.alloc_eq, -World.drew_eq], by simp [Lib.bytesWorld, World.freeze, World.alloc, World.drew, -World.alloc_eq, -World.drew_eq], by simp [Lib.bytesWorld, World.freeze, World.alloc, World.drew, -World.alloc_eq, -World.drew_eq]⟩
    (by simp [Ty.size]) (by rw [hnl]; exact hge) (by simp [Ty.size, Lib.bytesCells]; omega) ⟨fun o ho => by simp only; omega, hbk, Nat.le_succ _⟩ (rt_nums s) (rest := (Array.replicate (grownCap w s.size 0 el - s.size) (Value.int .u8 0)).toList)
    (by rw [flat_nums]; simp [Lib.bytesCells, numsOf])
  rw [hnl] at hN
  exact ⟨_, _, _, _, hr, hN, own_done rfl (by simp), known_own (y := .arr (.int .u8) (numsOf s) false) (by rw [put_at]; simp)⟩
end Go.Sh
