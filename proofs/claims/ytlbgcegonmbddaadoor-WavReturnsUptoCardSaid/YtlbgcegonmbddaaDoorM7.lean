/-
  The machine, part 7: calls: handing over, taking in.
-/
import Derived.Test.YtlbgcegonmbddaaDoorM6
set_option linter.unusedSimpArgs false
set_option linter.unusedVariables false
namespace Go.Sh
open Go
variable {C : Ctx} {G : Glob} {σ : Sig} {w : World} {lim : Nat → Nat} {st : St} {tmps : Array Value}

/-- what is handed over lies in the world: its own blocks are told -/
def viewT (w : World) (lim : Nat → Nat) (t : Ty) (x : t.den) (v : Value) : Prop :=
  ∃ cs, Rt w lim t x cs ∧ ((t.isAgg = true ∧ v = .agg cs.toArray) ∨ (t.isAgg = false ∧ cs = [v]))
def ownT (w : World) (lim : Nat → Nat) (t : Ty) (sh : Bool) (xs : List t.den) (v : Value) (bs : List Nat) : Prop :=
  0 < t.size ∧ ((xs = [] ∧ v = .slice none 0 0 ∧ bs = []) ∨ ∃ b off cap vs T fz, v = .slice (some ⟨b, off, none⟩) xs.length cap ∧ xs.length ≤ cap ∧
      w.heap[b]? = some (.cells vs T fz) ∧ off + cap * t.size ≤ vs.size ∧ Fit t T vs.size fz ∧
      (∀ i (h : i < xs.length), Rt w lim t xs[i] ((vs.toList.drop (off + i * t.size)).take t.size)) ∧ (bif sh then lim b ≤ off + xs.length * t.size else lim b = 0) ∧ bs = [b])
/-- a builder's first cell -/
def meIs (x v : Value) : Prop := x = .pointer none ∨ x = v
mutual
def TT (w : World) (lim : Nat → Nat) : RV → Value → List Nat → Prop
  | .view t x, v, bs => viewT w lim t x v ∧ bs = []
  | .own t sh xs, v, bs => ownT w lim t sh xs v bs
  | .box cs, v, bs => ∃ b vs U bs1, v = .pointer (some ⟨b, 0, none⟩) ∧ w.heap[b]? = some (.cells vs U (0, 0)) ∧ TTs w lim cs vs.toList bs1 ∧ lim b = 0 ∧ bs = b :: bs1
  | .agg cs, v, bs => ∃ vs : List Value, v = .agg vs.toArray ∧ TTs w lim cs vs bs
  | .tup cs, v, bs => ∃ vs : List Value, v = .tuple vs.toArray ∧ TTs w lim cs vs bs
  | .fn f, v, bs => v = .func (.func f) #[] #[] ∧ bs = []
  | .bld T xs, v, bs => ∃ b x y bs1, v = .pointer (some ⟨b, 0, none⟩) ∧ w.heap[b]? = some (.cells #[x, y] T (0, 0)) ∧ meIs x v ∧ ownT w lim (.int .u8) false xs y bs1 ∧ lim b = 0 ∧ bs = b :: bs1
def TTs (w : World) (lim : Nat → Nat) : List RV → List Value → List Nat → Prop
  | [], [], bs => bs = []
  | x :: l, v :: m, bs => ∃ b1 b2, bs = b1 ++ b2 ∧ TT w lim x v b1 ∧ TTs w lim l m b2
  | _, _, _ => False
end

def isGone : RS → Bool
  | .gone => true
  | _ => false
def gones : Ups → List Nat
  | [] => []
  | (r, x) :: u => if isGone x then r :: gones u else gones u
def showsOf : Ups → Ups
  | [] => []
  | (r, x) :: u => if isGone x then showsOf u else (r, x) :: showsOf u

theorem gones_append (u v : Ups) : gones (u ++ v) = gones u ++ gones v := by
  induction u with
  | nil => rfl
  | cons p u ih => obtain ⟨r, x⟩ := p; simp only [List.cons_append, gones]; split <;> simp [ih]
theorem mem_gones {u : Ups} {r : Nat} : r ∈ gones u ↔ (r, RS.gone) ∈ u := by
  induction u with
  | nil => simp [gones]
  | cons p u ih =>
    obtain ⟨s, x⟩ := p
    simp only [gones]
    cases x <;> simp [isGone, ih]
theorem mem_showsOf {u : Ups} {p : Nat × RS} : p ∈ showsOf u ↔ p ∈ u ∧ isGone p.2 = false := by
  induction u with
  | nil => simp [showsOf]
  | cons q u ih =>
    obtain ⟨s, x⟩ := q
    simp only [showsOf]
    cases hx : isGone x with
    | true =>
      simp [ih]
      intro h2 h1
      subst h1; simp [hx] at h2
    | false =>
      simp [ih]
      constructor
      · rintro (h1 | ⟨h1, h2⟩)
        · subst h1; exact ⟨.inl rfl, hx⟩
        · exact ⟨.inr h1, h2⟩
      · rintro ⟨h1 | h1, h2⟩
        · exact .inl h1
        · exact .inr ⟨h1, h2⟩

/-- shows, and names that go -/
def Good (T : Tbl) (u : Ups) : Prop := ∀ p ∈ u, (p.2 = .gone ∧ isLive (T p.1) = true) ∨ ∃ (t : Ty) (xs : List t.den) (sh : Bool), p.2 = .live (.arr t xs true) ∧ T p.1 = .live (.arr t xs sh)
theorem Good.append {T : Tbl} {u v : Ups} (h : Good T u) (k : Good T v) : Good T (u ++ v) := by
  intro p hp
  rcases List.mem_append.1 hp with hp | hp
  · exact h p hp
  · exact k p hp
theorem Shows.good {T : Tbl} {u : Ups} (h : Shows T u) : Good T u := fun p hp => .inr (h p hp)
theorem Shows.nogones {T : Tbl} {u : Ups} (h : Shows T u) : gones u = [] := by
  induction u with
  | nil => rfl
  | cons p u ih =>
    obtain ⟨r, x⟩ := p
    obtain ⟨t, xs, sh, hx, _⟩ := h (r, x) (List.mem_cons_self ..)
    simp only at hx; subst hx
    simp only [gones, isGone]
    exact ih fun q hq => h q (List.mem_cons_of_mem _ hq)

/-- what the hypotheses of a hand-over are, behind its shows -/
structure Shown (σ : Sig) (w : World) (lim' : Nat → Nat) (T : Tbl) (u : Ups) : Prop where
  sl : ∀ r (t : Ty) (xs : List t.den), (r, RS.live (.arr t xs true)) ∈ u → RP w lim' (.sl t xs) (σ r)
  rr : ∀ r x, (r, RS.gone) ∈ u → T r = .live x → RR σ w lim' r x
theorem Shown.left {σ : Sig} {w : World} {lim' : Nat → Nat} {T : Tbl} {u v : Ups} (h : Shown σ w lim' T (u ++ v)) : Shown σ w lim' T u :=
  ⟨fun r t xs hm => h.sl r t xs (List.mem_append_left _ hm), fun r x hm => h.rr r x (List.mem_append_left _ hm)⟩
theorem Shown.right {σ : Sig} {w : World} {lim' : Nat → Nat} {T : Tbl} {u v : Ups} (h : Shown σ w lim' T (u ++ v)) : Shown σ w lim' T v :=
  ⟨fun r t xs hm => h.sl r t xs (List.mem_append_right _ hm), fun r x hm => h.rr r x (List.mem_append_right _ hm)⟩

def blocks (σ : Sig) (l : List Nat) : List Nat := l.filterMap fun r => blk (σ r)
theorem blocks_append (σ : Sig) (a b : List Nat) : blocks σ (a ++ b) = blocks σ a ++ blocks σ b := by simp [blocks]

theorem take_own_spec (t : Ty) (sh : Bool) (a : AV) {l l' : List Nat} {x : RV} {u : Ups} (hm : (take (.own t sh) a).run st.tbl l = some ((x, u), l')) :
    Good st.tbl u ∧ ∀ (v : Value), RA σ w lim a v → (∀ r y, st.tbl r = .live y → RR σ w lim r y) → ∀ lim', Ext w lim w lim' → Shown σ w lim' st.tbl u → TT w lim' x v (blocks σ (gones u)) := by
  cases a with
  | own r =>
    simp only [take, M.run] at hm
    cases hr : st.tbl r with
    | fresh => simp [hr, M.run] at hm
    | gone => simp [hr, M.run] at hm
    | live y =>
      cases y with
      | box => simp [hr, M.run] at hm
      | nest => simp [hr, M.run] at hm
      | arr t' xs s =>
        simp only [hr] at hm
        split at hm
        · rename_i ht
          subst ht
          obtain ⟨hg, hm2⟩ := M.run_guard hm
          obtain ⟨h, _⟩ := M.run_ret hm2
          cases h
          refine ⟨by intro p hp; simp at hp; subst hp; exact .inl ⟨rfl, by rw [hr]; rfl⟩, fun v ha _ lim' e shn => ?_⟩
          have hR := shn.rr r _ (by simp) hr
          simp only [RA] at ha; obtain ⟨rfl, _⟩ := ha
          simp only [TT, ownT]
          simp only [RR] at hR
          refine ⟨hR.1, ?_⟩
          rcases hR.2 with ⟨e1, e2⟩ | ⟨b, off, cap, vs, U, fz, e1, e2, e3, e4, e5, e6, e7⟩
          · exact .inl ⟨e1, e2, by simp [gones, isGone, blocks, e2, blk]⟩
          · refine .inr ⟨b, off, cap, vs, U, fz, e1, e2, e3, e4, e5, e6, ?_, by simp [gones, isGone, blocks, e1, blk]⟩
            cases sh <;> cases s <;> simp at hg e7 ⊢ <;> omega
        · simp [M.run] at hm
  | val p =>
    cases p with
    | v y =>
      simp only [take] at hm
      obtain ⟨hg, hm2⟩ := M.run_guard hm
      simp only [Bool.and_eq_true] at hg
      obtain ⟨h, _⟩ := M.run_ret hm2
      cases h
      have := isNil_eq hg.1
      subst this
      refine ⟨(by intro p hp; cases hp), fun v ha _ lim' e shn => ?_⟩
      simp only [RA, RP] at ha; subst ha
      simp only [TT, ownT]
      exact ⟨Nat.le_of_ble_eq_true hg.2, .inl ⟨trivial, trivial, rfl⟩⟩
    | sl => simp [take, M.run] at hm
  | _ => simp [take, M.run] at hm

theorem takeOwn_take {t : Ty} {a : AV} {T : Tbl} {l l' : List Nat} {xs : List t.den} {u : Ups} (hm : (takeOwn t a).run T l = some ((xs, u), l')) : (take (.own t false) a).run T l = some ((.own t false xs, u), l') := by
  cases a with
  | own r =>
    simp only [takeOwn, take, M.run] at hm ⊢
    cases hr : T r with
    | fresh => simp [hr, M.run] at hm
    | gone => simp [hr, M.run] at hm
    | live y =>
      cases y with
      | box => simp [hr, M.run] at hm
      | nest => simp [hr, M.run] at hm
      | arr t' ys s =>
        simp only [hr] at hm ⊢
        split at hm
        · rename_i ht
          subst ht
          rw [dif_pos rfl]
          obtain ⟨hg, hm2⟩ := M.run_guard hm
          obtain ⟨h, h2⟩ := M.run_ret hm2
          cases h
          simp [hg, M.run, h2]
        · simp [M.run] at hm
  | val p =>
    cases p with
    | v y =>
      simp only [takeOwn, take] at hm ⊢
      obtain ⟨hg, hm2⟩ := M.run_guard hm
      obtain ⟨h, h2⟩ := M.run_ret hm2
      cases h
      simp [hg, M.run, h2]
    | sl => simp [takeOwn, M.run] at hm
  | _ => simp [takeOwn, M.run] at hm

theorem meOk_is {r : Nat} {T : TypeId} {c : AV} {x : Value} (h : meOk r T c = true) (hx : RA σ w lim c x) {b : Nat} (hr : σ r = .pointer (some ⟨b, 0, none⟩)) : meIs x (.pointer (some ⟨b, 0, none⟩)) ∧ typeAt w b = some T := by
  unfold meOk at h
  split at h
  · rename_i q U
    simp only [Bool.and_eq_true] at h
    obtain ⟨h1, h2⟩ := h
    obtain rfl := beq_eq h1
    obtain rfl := beq_eq h2
    simp only [RA] at hx
    obtain ⟨p, rfl, e, b', e1, e2⟩ := hx
    rw [hr] at e1
    obtain rfl : b = b' := by simpa using e1
    refine ⟨?_, e2⟩
    rcases e with rfl | e
    · exact .inl rfl
    · rw [e, hr]; exact .inr rfl
  · cases h

theorem take_use (T : TypeId) (a : AV) : take (.use T) a = take (.bld T) a := by
  cases a with
  | bx r k => cases k <;> rfl
  | _ => rfl
theorem take_bld_spec (T : TypeId) (a : AV) {l l' : List Nat} {x : RV} {u : Ups} (hm : (take (.bld T) a).run st.tbl l = some ((x, u), l')) :
    Good st.tbl u ∧ ∀ (v : Value), RA σ w lim a v → (∀ r y, st.tbl r = .live y → RR σ w lim r y) → ∀ lim', Ext w lim w lim' → Shown σ w lim' st.tbl u → TT w lim' x v (blocks σ (gones u)) := by
  cases a with
  | bx r k =>
    cases k with
    | succ k => simp [take, M.run] at hm
    | zero =>
      simp only [take, M.run] at hm
      cases hr : st.tbl r with
      | fresh => simp [hr, M.run] at hm
      | gone => simp [hr, M.run] at hm
      | live y =>
        cases y with
        | arr => simp [hr, M.run] at hm
        | nest => simp [hr, M.run] at hm
        | box cs =>
          match cs, hr with
          | [c0, c1], hr =>
            simp only [hr] at hm
            obtain ⟨hg, hm2⟩ := M.run_guard hm
            obtain ⟨⟨ys, u1⟩, l1, h1, h2⟩ := M.run_bind_some hm2
            obtain ⟨h, _⟩ := M.run_ret h2
            cases h
            obtain ⟨s1, k1⟩ := take_own_spec (σ := σ) (w := w) (lim := lim) _ _ c1 (takeOwn_take h1)
            refine ⟨by
              intro p hp
              cases hp with
              | head => exact .inl ⟨rfl, by rw [hr]; rfl⟩
              | tail _ hp => exact s1 p hp, fun v ha hres lim' e shn => ?_⟩
            have hR := hres r _ hr
            have hR' := shn.rr r _ (List.mem_cons_self ..) hr
            obtain ⟨b, vs, U, e1, rfl, e3, e4, _⟩ := box_cells ha hR
            simp only [RR] at hR'
            obtain ⟨b', vs', U', f1, _, _, f4⟩ := hR'
            rw [e1] at f1
            obtain rfl : b = b' := by simpa using f1
            obtain ⟨vl⟩ := vs
            match vl, e4, e3 with
            | [x, y], e4, e3 =>
              simp only [RAs, and_true] at e4
              simp only [TT]
              have := k1 y e4.2 hres lim' e (Shown.right (u := [(r, .gone)]) shn)
              simp only [TT] at this
              obtain ⟨m1, m2⟩ := meOk_is (w := w) (lim := lim) hg e4.1 e1
              simp only [typeAt, e3, Option.some.injEq] at m2
              subst m2
              exact ⟨b, x, y, _, rfl, e3, m1, this, f4, by simp [gones, isGone, blocks, e1, blk]⟩
          | [], hr => simp [hr, M.run] at hm
          | [_], hr => simp [hr, M.run] at hm
          | _ :: _ :: _ :: _, hr => simp [hr, M.run] at hm
  | _ => simp [take, M.run] at hm

mutual
theorem take_spec : (k : Kd) → (a : AV) → {l l' : List Nat} → {x : RV} → {u : Ups} → (take k a).run st.tbl l = some ((x, u), l') →
    Good st.tbl u ∧ ∀ (v : Value), RA σ w lim a v → (∀ r y, st.tbl r = .live y → RR σ w lim r y) → ∀ lim', Ext w lim w lim' → Shown σ w lim' st.tbl u → TT w lim' x v (blocks σ (gones u))
  | .view t, a, l, l', x, u, hm => by
    simp only [take] at hm
    obtain ⟨⟨y, u1⟩, l1, h1, h2⟩ := M.run_bind_some hm
    obtain ⟨h, _⟩ := M.run_ret h2
    cases h
    obtain ⟨s1, k1⟩ := toDen_spec (σ := σ) h1
    refine ⟨s1.good, fun v ha _ lim' e sh => ?_⟩
    obtain ⟨cs, h3, _, h4⟩ := k1 w lim v ha lim' e sh.sl
    simp only [TT]
    exact ⟨⟨cs, h3, h4⟩, by rw [s1.nogones]; rfl⟩
  | .own t sh, a, l, l', x, u, hm => take_own_spec t sh a hm
  | .box ks, a, l, l', x, u, hm => by
    cases a with
    | bx r k =>
      cases k with
      | succ k => simp [take, M.run] at hm
      | zero =>
        simp only [take, M.run] at hm
        cases hr : st.tbl r with
        | fresh => simp [hr, M.run] at hm
        | gone => simp [hr, M.run] at hm
        | live y =>
          cases y with
          | arr => simp [hr, M.run] at hm
          | nest => simp [hr, M.run] at hm
          | box cs =>
            simp only [hr] at hm
            obtain ⟨⟨ys, u1⟩, l1, h1, h2⟩ := M.run_bind_some hm
            obtain ⟨h, _⟩ := M.run_ret h2
            cases h
            obtain ⟨s1, k1⟩ := takes_spec ks cs h1
            refine ⟨by
              intro p hp
              cases hp with
              | head => exact .inl ⟨rfl, by rw [hr]; rfl⟩
              | tail _ hp => exact s1 p hp, fun v ha hres lim' e shn => ?_⟩
            have hR := hres r _ hr
            have hR' := shn.rr r _ (List.mem_cons_self ..) hr
            obtain ⟨b, vs, U, e1, rfl, e3, e4, _⟩ := box_cells ha hR
            simp only [RR] at hR'
            obtain ⟨b', vs', U', f1, _, _, f4⟩ := hR'
            rw [e1] at f1
            obtain rfl : b = b' := by simpa using f1
            simp only [TT]
            exact ⟨b, vs, U, _, rfl, e3, k1 vs.toList e4 hres lim' e (Shown.right (u := [(r, .gone)]) shn), f4, by simp [gones, isGone, blocks, e1, blk]⟩
    | _ => simp [take, M.run] at hm
  | .agg ks, a, l, l', x, u, hm => by
    cases a with
    | agg cs =>
      simp only [take] at hm
      obtain ⟨⟨ys, u1⟩, l1, h1, h2⟩ := M.run_bind_some hm
      obtain ⟨h, _⟩ := M.run_ret h2
      cases h
      obtain ⟨s1, k1⟩ := takes_spec ks cs h1
      refine ⟨s1, fun v ha hres lim' e shn => ?_⟩
      simp only [RA] at ha; obtain ⟨vs, rfl, h3⟩ := ha
      simp only [TT]
      exact ⟨vs, rfl, k1 vs h3 hres lim' e shn⟩
    | _ => simp [take, M.run] at hm
  | .tup ks, a, l, l', x, u, hm => by
    cases a with
    | tup cs =>
      simp only [take] at hm
      obtain ⟨⟨ys, u1⟩, l1, h1, h2⟩ := M.run_bind_some hm
      obtain ⟨h, _⟩ := M.run_ret h2
      cases h
      obtain ⟨s1, k1⟩ := takes_spec ks cs h1
      refine ⟨s1, fun v ha hres lim' e shn => ?_⟩
      simp only [RA] at ha; obtain ⟨vs, rfl, h3⟩ := ha
      simp only [TT]
      exact ⟨vs, rfl, k1 vs h3 hres lim' e shn⟩
    | _ => simp [take, M.run] at hm
  | .fn f, a, l, l', x, u, hm => by
    cases a with
    | fn g =>
      simp only [take] at hm
      obtain ⟨hg, hm2⟩ := M.run_guard hm
      obtain ⟨h, _⟩ := M.run_ret hm2
      cases h
      obtain rfl := beq_eq hg
      refine ⟨(by intro p hp; cases hp), fun v ha _ lim' e shn => ?_⟩
      simp only [RA] at ha
      simp only [TT]
      exact ⟨ha, rfl⟩
    | _ => simp [take, M.run] at hm
  | .bld T, a, l, l', x, u, hm => take_bld_spec T a hm
  | .use T, a, l, l', x, u, hm => take_bld_spec T a (by rw [← take_use]; exact hm)
theorem takes_spec : (ks : List Kd) → (as : List AV) → {l l' : List Nat} → {xs : List RV} → {u : Ups} → (takes ks as).run st.tbl l = some ((xs, u), l') →
    Good st.tbl u ∧ ∀ (vs : List Value), RAs σ w lim as vs → (∀ r y, st.tbl r = .live y → RR σ w lim r y) → ∀ lim', Ext w lim w lim' → Shown σ w lim' st.tbl u → TTs w lim' xs vs (blocks σ (gones u))
  | [], [], l, l', xs, u, hm => by
    obtain ⟨h, _⟩ := M.run_ret hm
    cases h
    refine ⟨(by intro p hp; cases hp), fun vs h _ lim' _ _ => ?_⟩
    match vs, h with | [], _ => simp [TTs, gones, blocks]
  | k :: ks, a :: as, l, l', xs, u, hm => by
    simp only [takes] at hm
    obtain ⟨⟨x, u1⟩, l1, h1, h2⟩ := M.run_bind_some hm
    obtain ⟨⟨ys, u2⟩, l2, h3, h4⟩ := M.run_bind_some h2
    obtain ⟨h, _⟩ := M.run_ret h4
    cases h
    obtain ⟨s1, k1⟩ := take_spec k a h1
    obtain ⟨s2, k2⟩ := takes_spec ks as h3
    refine ⟨s1.append s2, fun vs h hres lim' e shn => ?_⟩
    match vs, h with
    | v :: vs, h =>
      simp only [RAs] at h
      simp only [TTs]
      exact ⟨_, _, by rw [gones_append, blocks_append], k1 v h.1 hres lim' e shn.left, k2 vs h.2 hres lim' e shn.right⟩
  | [], _ :: _, l, l', xs, u, hm => by simp [takes, M.run] at hm
  | _ :: _, [], l, l', xs, u, hm => by simp [takes, M.run] at hm
end

theorem okUps_cons {i : Nat} {x : RS} {u : Ups} (h : okUps ((i, x) :: u) = true) : (∀ p ∈ u, p.1 = i → mayMeet x p.2 = true) ∧ okUps u = true := by
  simp only [okUps, Bool.and_eq_true, List.all_eq_true] at h
  refine ⟨fun p hp e => ?_, h.2⟩
  have := h.1 p hp
  simp only [Bool.or_eq_true, Bool.not_eq_true'] at this
  rcases this with h1 | h1
  · subst e; rw [beq_self] at h1; cases h1
  · exact h1
theorem mayMeet_gone {x : RS} : mayMeet x .gone = false := by
  cases x with
  | live y => cases y with
    | arr t xs s => cases s <;> rfl
    | box cs => rfl
    | nest t xss o => rfl
  | _ => rfl
theorem mayMeet_gone' {x : RS} : mayMeet .gone x = false := rfl
theorem okUps_gone : {u : Ups} → okUps u = true → {r : Nat} → (r, RS.gone) ∈ u → ∀ y, (r, y) ∈ u → y = .gone
  | (i, x) :: u, h, r, hg, y, hy => by
    obtain ⟨h1, h2⟩ := okUps_cons h
    cases hg with
    | head =>
      cases hy with
      | head => rfl
      | tail _ hy => have := h1 _ hy rfl; rw [mayMeet_gone'] at this; cases this
    | tail _ hg =>
      cases hy with
      | head => have := h1 _ hg rfl; rw [mayMeet_gone] at this; cases this
      | tail _ hy => exact okUps_gone h2 hg y hy
  | [], _, _, hg, _, _ => by cases hg
theorem okUps_nodup : {u : Ups} → okUps u = true → (gones u).Nodup
  | [], _ => by simp [gones]
  | (i, x) :: u, h => by
    obtain ⟨h1, h2⟩ := okUps_cons h
    simp only [gones]
    cases hx : isGone x with
    | false => simpa using okUps_nodup h2
    | true =>
      simp only [if_true, List.nodup_cons]
      refine ⟨fun hm => ?_, okUps_nodup h2⟩
      have := h1 _ (mem_gones.1 hm) rfl
      rw [mayMeet_gone] at this; cases this
theorem mem_look : {u : Ups} → {r : Nat} → {z : RS} → (r, z) ∈ u → ∃ y, look u r = some y
  | (i, x) :: u, r, z, h => by
    rw [look_cons]
    by_cases e : i = r
    · exact ⟨x, by simp [e]⟩
    · simp only [e, if_false]
      cases h with
      | head => exact absurd rfl e
      | tail _ h => exact mem_look h
theorem put_out {T : Tbl} {u : Ups} {r : Nat} (h : ∀ y, (r, y) ∉ u) : T.put u r = T r := by
  simp only [Tbl.put]
  cases hl : look u r with
  | none => rfl
  | some y => exact absurd (look_mem hl) (h y)

theorem look_shows : {u : Ups} → {r : Nat} → (r, RS.gone) ∉ u → look u r = look (showsOf u) r
  | [], _, _ => rfl
  | (i, x) :: u, r, h => by
    have ih := look_shows (u := u) (r := r) (fun hm => h (List.mem_cons_of_mem _ hm))
    simp only [showsOf]
    cases hx : isGone x with
    | true =>
      have : x = .gone := by cases x <;> simp [isGone] at hx ⊢
      subst this
      have hir : i ≠ r := fun e => h (by rw [e]; exact List.mem_cons_self ..)
      simp [look_cons, hir, ih]
    | false => simp [look_cons, ih]

theorem RelW.gonesAll : (gs : List Nat) → {st : St} → RelW G σ lim st tmps w → (∀ r ∈ gs, st.tbl r ≠ .fresh) → RelW G σ lim ⟨st.env, fun r => if r ∈ gs then .gone else st.tbl r⟩ tmps w
  | [], st, h, _ => by simpa using h
  | g :: gs, st, h, hf => by
    have h1 := h.gone (hf g (List.mem_cons_self ..))
    have h2 := RelW.gonesAll gs (st := ⟨st.env, st.tbl.put [(g, .gone)]⟩) h1 (fun r hr => by
      simp only [put_one]; split
      · simp
      · exact hf r (List.mem_cons_of_mem _ hr))
    have e : (fun r => if r ∈ gs then RS.gone else st.tbl.put [(g, .gone)] r) = (fun r => if r ∈ g :: gs then RS.gone else st.tbl r) := by
      funext r
      simp only [put_one, List.mem_cons]
      by_cases h1 : r ∈ gs
      · simp [h1]
      · by_cases h2 : g = r
        · subst h2; simp [h1]
        · simp [h1, h2, Ne.symm h2]
    simp only at h2
    rw [e] at h2
    exact h2

theorem nodup_blocks {l : List Nat} (hn : l.Nodup) (hi : ∀ r ∈ l, ∀ r' ∈ l, ∀ b, blk (σ r) = some b → blk (σ r') = some b → r = r') : (blocks σ l).Nodup := by
  induction l with
  | nil => simp [blocks]
  | cons a l ih =>
    rw [List.nodup_cons] at hn
    have ih := ih hn.2 (fun r hr r' hr' => hi r (List.mem_cons_of_mem _ hr) r' (List.mem_cons_of_mem _ hr'))
    simp only [blocks, List.filterMap_cons]
    cases hb : blk (σ a) with
    | none => exact ih
    | some b =>
      simp only [List.nodup_cons]
      refine ⟨fun hm => ?_, ih⟩
      obtain ⟨r, hr, hrb⟩ := List.mem_filterMap.1 hm
      have := hi a (List.mem_cons_self ..) r (List.mem_cons_of_mem _ hr) b hb hrb
      subst this
      exact hn.1 hr

theorem live_block (h : RelW G σ lim st tmps w) {r b : Nat} (hl : isLive (st.tbl r) = true) (hb : blk (σ r) = some b) : b < w.heap.size := by
  cases hr : st.tbl r with
  | live z =>
    obtain ⟨h1, _⟩ := h.res r z hr
    cases z with
    | box cs =>
      simp only [RR] at h1; obtain ⟨b', vs, T, e1, e2, _⟩ := h1
      rw [e1] at hb; simp [blk] at hb; subst hb
      exact (Array.getElem?_eq_some_iff.1 e2).1
    | arr t xs sh =>
      simp only [RR] at h1
      rcases h1.2 with ⟨_, e1⟩ | ⟨b', off, cap, vs, U, fz, e1, _, e2, _⟩
      · rw [e1] at hb; simp [blk] at hb
      · rw [e1] at hb; simp [blk] at hb; subst hb
        exact (Array.getElem?_eq_some_iff.1 e2).1
    | nest t xss o =>
      simp only [RR] at h1
      obtain ⟨_, b', off, cap, vs, U, fz, e1, _, e2, _⟩ := h1
      rw [e1] at hb; simp [blk] at hb; subst hb
      exact (Array.getElem?_eq_some_iff.1 e2).1
  | fresh => rw [hr] at hl; simp [isLive] at hl
  | gone => rw [hr] at hl; simp [isLive] at hl

theorem RelW.takes (h : RelW G σ lim st tmps w) {u : Ups} (g : Good st.tbl u) (ok : okUps u = true) :
    ∃ lim', RelW G σ lim' ⟨st.env, st.tbl.put u⟩ tmps w ∧ Ext w lim w lim' ∧ Shown σ w lim' st.tbl u ∧ (blocks σ (gones u)).Nodup ∧
      ∀ b ∈ blocks σ (gones u), (G.w0.heap.size ≤ b ∨ b ∈ G.lent) ∧ b < w.heap.size ∧ ∀ r, isLive (st.tbl.put u r) = true → blk (σ r) ≠ some b := by
  have hsS : Shows st.tbl (showsOf u) := by
    intro p hp
    obtain ⟨h1, h2⟩ := mem_showsOf.1 hp
    rcases g p h1 with ⟨h3, _⟩ | h3
    · rw [h3] at h2; cases h2
    · exact h3
  obtain ⟨lim1, hR, hE, hsl⟩ := RelW.shows (showsOf u) h hsS
  have hgl : ∀ r ∈ gones u, isLive (st.tbl r) = true := by
    intro r hr
    rcases g _ (mem_gones.1 hr) with ⟨_, h3⟩ | ⟨t, xs, sh, h3, _⟩
    · exact h3
    · simp only at h3; cases h3
  have hgS : ∀ r ∈ gones u, (st.tbl.put (showsOf u)) r = st.tbl r := by
    intro r hr
    refine put_out fun y hy => ?_
    obtain ⟨h1, h2⟩ := mem_showsOf.1 hy
    have := okUps_gone ok (mem_gones.1 hr) y h1
    subst this; simp [isGone] at h2
  have hG := RelW.gonesAll (gones u) hR (fun r hr => by
    simp only; rw [hgS r hr]; intro e; have := hgl r hr; rw [e] at this; cases this)
  have e : (fun r => if r ∈ gones u then RS.gone else (st.tbl.put (showsOf u)) r) = st.tbl.put u := by
    funext r
    by_cases hr : r ∈ gones u
    · simp only [hr, if_true, Tbl.put]
      obtain ⟨y, hy⟩ := mem_look (mem_gones.1 hr)
      have := okUps_gone ok (mem_gones.1 hr) y (look_mem hy)
      rw [hy]; subst this; rfl
    · simp only [hr, if_false, Tbl.put]
      rw [look_shows (fun hm => hr (mem_gones.2 hm))]
  simp only at hG
  rw [e] at hG
  refine ⟨lim1, hG, hE, ⟨fun r t xs hm => hsl r t xs (mem_showsOf.2 ⟨hm, rfl⟩), fun r x hm hx => ?_⟩, nodup_blocks (okUps_nodup ok) (fun r hr r' hr' b hb hb' => h.inj r r' b (hgl r hr) (hgl r' hr') hb hb'), fun b hb => ?_⟩
  · have := hgS r (mem_gones.2 hm)
    exact (hR.res r x (by simp only; rw [this, hx])).1
  · obtain ⟨r, hr, hrb⟩ := List.mem_filterMap.1 hb
    refine ⟨h.own r b (hgl r hr) hrb, live_block h (hgl r hr) hrb, fun r' hl hb' => ?_⟩
    have hne : r' ∉ gones u := by
      intro hm
      have : (st.tbl.put u) r' = .gone := by rw [← e]; simp [hm]
      rw [this] at hl; cases hl
    have hl0 : isLive (st.tbl r') = true := by
      cases hl1 : look u r' with
      | none => simpa [Tbl.put, hl1] using hl
      | some z =>
        rcases g _ (look_mem hl1) with ⟨h3, h4⟩ | ⟨t, xs, sh, _, h4⟩
        · exact h4
        · simp only at h4; rw [h4]; rfl
    have := h.inj r r' b (hgl r hr) hl0 hrb hb'
    subst this
    exact hne hr

/-- a name for what lies there already -/
theorem RelW.adopt (h : RelW G σ lim st tmps w) {n : Nat} {v : Value} (hn : st.tbl n = .fresh ∨ (st.tbl n = .gone ∧ σ n = v)) {y : Res} (hk : Known st.tbl (resIds n y))
    (hy : (∀ r, st.tbl r ≠ .fresh → (if r = n then v else σ r) = σ r) → RR (fun r => if r = n then v else σ r) w lim n y)
    (hb : ∀ b, blk v = some b → (G.w0.heap.size ≤ b ∨ b ∈ G.lent) ∧ ∀ r, isLive (st.tbl r) = true → blk (σ r) ≠ some b) :
    RelW G (fun r => if r = n then v else σ r) lim ⟨st.env, st.tbl.put [(n, .live y)]⟩ tmps w := by
  have hσ : ∀ r, st.tbl r ≠ .fresh → (if r = n then v else σ r) = σ r := by
    intro r hr
    by_cases e : r = n
    · subst e
      rcases hn with hn | ⟨_, hn⟩
      · exact absurd hn hr
      · simp [hn]
    · simp [e]
  have hnf : ∀ r, look [(n, RS.live y)] r ≠ some .fresh := by intro r; rw [look_cons]; split <;> simp [look]
  have hl : ∀ s z, look [(n, RS.live y)] s = some (.live z) → s = n ∧ z = y := by
    intro s z hs
    rw [look_cons] at hs
    split at hs
    · rename_i e; subst e; simp at hs; exact ⟨rfl, hs.symm⟩
    · simp [look] at hs
  refine h.noput (v := .dead) (x := undef) (Upd.dead (Ext.refl _ _) h.lz ⟨rfl, rfl, rfl⟩ hσ (fun _ _ _ _ _ => ⟨rfl, rfl⟩) ?_ ?_ ?_ (fun _ _ _ => rfl) (fun _ _ _ => rfl) hnf (by simp [RA]) (by simp [idsOf, Known]))
  · intro s z hs
    obtain ⟨rfl, rfl⟩ := hl s z hs
    exact ⟨hy hσ, hk.put hnf⟩
  · intro r1 r2 z b hs hl2 hb1 hb2
    obtain ⟨rfl, rfl⟩ := hl r1 z hs
    simp at hb1
    rw [put_one] at hl2
    split at hl2
    · rename_i e; exact e.symm
    · rename_i hne
      have hne' : ¬ r2 = r1 := fun e => hne e.symm
      simp only [hne', if_false] at hb2
      exact absurd hb2 ((hb b hb1).2 r2 hl2)
  · intro s z b hs hb'
    obtain ⟨rfl, rfl⟩ := hl s z hs
    simp at hb'
    exact (hb b hb').1

structure PutR (G : Glob) (σ : Sig) (lim : Nat → Nat) (st : St) (tmps : Array Value) (w : World) (n m : Nat) (ups : Ups) (bs : List Nat) (σ' : Sig) : Prop where
  rel : RelW G σ' lim ⟨st.env, st.tbl.put ups⟩ tmps w
  out : ∀ r, (r < n ∨ m ≤ r) → look ups r = none
  old : ∀ r, st.tbl r ≠ .fresh → σ' r = σ r
  lv : ∀ r b, isLive (st.tbl.put ups r) = true → blk (σ' r) = some b → (isLive (st.tbl r) = true ∧ blk (σ r) = some b) ∨ b ∈ bs
  le : n ≤ m

/-- blocks that nobody has a name for -/
def FB (G : Glob) (σ : Sig) (st : St) (bs : List Nat) : Prop := bs.Nodup ∧ ∀ b ∈ bs, (G.w0.heap.size ≤ b ∨ b ∈ G.lent) ∧ ∀ r, isLive (st.tbl r) = true → blk (σ r) ≠ some b

theorem avOf_sound {t : Ty} {x : t.den} {v : Value} (h : viewT w lim t x v) : RA σ w lim (avOf t x) v := by
  obtain ⟨cs, h1, h2⟩ := h
  have hall := all2_cellsOf h1
  unfold avOf
  rcases h2 with ⟨h2, rfl⟩ | ⟨h2, rfl⟩
  · simp only [h2, cond_true, RA]
    refine ⟨cs, rfl, RAs_all2.2 (All2.map_left (All2.mono (fun p c hp => by simpa [RA] using hp) hall))⟩
  · simp only [h2, cond_false]
    match hc : cellsOf t x, hall with
    | [p], hall => simp only [RA]; exact hall.1

theorem avOf_ids {t : Ty} {x : t.den} : idsOf (avOf t x) = [] := by
  unfold avOf
  cases t.isAgg
  · simp only [cond_false]
    split <;> rfl
  · simp only [cond_true, idsOf]; exact idsOfs_vals _

mutual
theorem put_le : (x : RV) → (n : Nat) → n ≤ (put n x).2.2
  | .view _ _, n => by simp [put]
  | .own _ _ _, n => by simp [put]
  | .box cs, n => by simp only [put]; have := puts_le cs (n + 1); omega
  | .agg cs, n => by simp only [put]; exact puts_le cs n
  | .tup cs, n => by simp only [put]; exact puts_le cs n
  | .fn _, n => by simp [put]
  | .bld _ _, n => by simp [put]
theorem puts_le : (xs : List RV) → (n : Nat) → n ≤ (puts n xs).2.2
  | [], n => by simp [puts]
  | x :: xs, n => by simp only [puts]; have := put_le x n; have := puts_le xs (put n x).2.2; omega
end
mutual
theorem put_nofresh : (x : RV) → (n : Nat) → ∀ r, look (put n x).2.1 r ≠ some .fresh
  | .view _ _, n, r => by simp [put, look]
  | .own _ _ _, n, r => by simp only [put, look_cons]; split <;> simp [look]
  | .box cs, n, r => by simp only [put, look_cons]; split <;> simp [puts_nofresh cs (n + 1) r]
  | .agg cs, n, r => by simp only [put]; exact puts_nofresh cs n r
  | .tup cs, n, r => by simp only [put]; exact puts_nofresh cs n r
  | .fn _, n, r => by simp [put, look]
  | .bld _ _, n, r => by simp only [put, look_cons]; split <;> (try split) <;> simp [look]
theorem puts_nofresh : (xs : List RV) → (n : Nat) → ∀ r, look (puts n xs).2.1 r ≠ some .fresh
  | [], n, r => by simp [puts, look]
  | x :: xs, n, r => by
    simp only [puts]
    have h1 := put_nofresh x n r
    have h2 := puts_nofresh xs (put n x).2.2 r
    revert h2
    generalize (puts (put n x).2.2 xs).2.1 = V
    intro h2
    induction V with
    | nil => exact h1
    | cons p V ih => obtain ⟨i, z⟩ := p; rw [List.cons_append, look_cons]; rw [look_cons] at h2; split at h2 <;> simp_all
end
theorem put_two {T : Tbl} {n : Nat} {x x' y : RS} : ((T.put [(n + 1, y)]).put [(n, x')]).put [(n, x)] = T.put [(n, x), (n + 1, y)] := by
  funext r
  simp only [put_one, Tbl.put, look_cons]
  by_cases h1 : n = r
  · simp [h1]
  · by_cases h2 : n + 1 = r
    · simp [h1, h2, look]
    · simp [h1, h2, look]

theorem me_ra {n b : Nat} {T : TypeId} {x : Value} (h3 : meIs x (.pointer (some ⟨b, 0, none⟩))) (hs : σ n = .pointer (some ⟨b, 0, none⟩)) (ht : typeAt w b = some T) : RA σ w lim (.me n T) x := by
  simp only [RA]
  rcases h3 with rfl | rfl
  · exact ⟨none, rfl, .inl rfl, b, hs, ht⟩
  · exact ⟨some ⟨b, 0, none⟩, rfl, .inr hs.symm, b, hs, ht⟩
theorem me_ids {n : Nat} {T : TypeId} : ∀ r ∈ idsOf (.me n T), r = n := by
  intro r hr
  simpa [idsOf] using hr

theorem bld_sound {n : Nat} {xs : List Int} {b : Nat} {x y : Value} {U : TypeId} {bs1 : List Nat} (h : RelW G σ lim st tmps w) (h2 : w.heap[b]? = some (.cells #[x, y] U (0, 0)))
    (h3 : meIs x (.pointer (some ⟨b, 0, none⟩))) (h4 : ownT w lim (.int .u8) false xs y bs1) (h5 : lim b = 0) (hf : ∀ j, n ≤ j → j < (put n (.bld U xs)).2.2 → st.tbl j = .fresh) (hb : FB G σ st (b :: bs1)) :
    ∃ σ', PutR G σ lim st tmps w n (put n (.bld U xs)).2.2 (put n (.bld U xs)).2.1 (b :: bs1) σ' ∧ RA σ' w lim (put n (.bld U xs)).1 (.pointer (some ⟨b, 0, none⟩)) ∧ Known (st.tbl.put (put n (.bld U xs)).2.1) (idsOf (put n (.bld U xs)).1) := by
  simp only [put] at hf ⊢
  obtain ⟨hbn, hbm⟩ := hb
  rw [List.nodup_cons] at hbn
  have hn := hf n (Nat.le_refl _) (by omega)
  have hn1 := hf (n + 1) (by omega) (by omega)
  have hmem : ∀ b', blk y = some b' → b' ∈ bs1 := by
    intro b' hbv
    rcases h4.2 with ⟨_, rfl, rfl⟩ | ⟨c, off, cap, vs, T, fz, rfl, _, _, _, _, _, _, rfl⟩
    · simp [blk] at hbv
    · simp [blk] at hbv; subst hbv; simp
  have hval : RA (fun r => if r = n + 1 then y else σ r) w lim (.own (n + 1)) y := by
    simp only [RA]
    rcases h4.2 with ⟨_, rfl, _⟩ | ⟨c, off, cap, vs, T, fz, rfl, _⟩
    · exact ⟨by simp, _, _, _, rfl⟩
    · exact ⟨by simp, _, _, _, rfl⟩
  have R1 := h.adopt (n := n + 1) (v := y) (.inl hn1) (y := .arr (.int .u8) xs false) (by intro r hr; cases hr) (fun hσ => by
    simp only [RR]
    refine ⟨h4.1, ?_⟩
    rcases h4.2 with ⟨e1, rfl, _⟩ | ⟨c, off, cap, vs, T, fz, rfl, e2, e3, e4, e5, e6, e7, _⟩
    · exact .inl ⟨e1, by simp⟩
    · exact .inr ⟨c, off, cap, vs, T, fz, by simp, e2, e3, e4, e5, e6, e7⟩) (fun b' hbv => hbm b' (List.mem_cons_of_mem _ (hmem b' hbv)))
  have hnf : (st.tbl.put [(n + 1, .live (.arr (.int .u8) xs false))]) n = .fresh := by rw [put_one, if_neg (by omega)]; exact hn
  have hk1 : Known (st.tbl.put [(n + 1, .live (.arr (.int .u8) xs false))]) (idsOf (.own (n + 1))) := known_own (y := .arr (.int .u8) xs false) (by rw [put_at]; simp)
  have R2 := R1.adopt (n := n) (v := .pointer (some ⟨b, 0, none⟩)) (.inl hnf) (y := .box [.dead, .own (n + 1)]) (by
      intro r hr
      simp only [resIds, idsOfs, idsOf, List.nil_append, List.append_nil] at hr
      exact hk1 r (by simpa [idsOf] using hr)) (fun hσ => by
    simp only [RR]
    refine ⟨b, #[x, y], U, by simp, h2, ?_, h5⟩
    simp only [RAs, and_true]
    exact ⟨by simp [RA], RA.mono (T := st.tbl.put [(n + 1, .live (.arr (.int .u8) xs false))]) (Ext.refl _ _) hσ _ _ hk1 hval⟩) (fun b' hb' => by
      simp [blk] at hb'; subst hb'
      refine ⟨(hbm b (List.mem_cons_self ..)).1, fun r hl hbr => ?_⟩
      simp only at hl
      rw [put_one] at hl
      by_cases e : r = n + 1
      · subst e; simp only [if_true] at hbr; exact hbn.1 (hmem b hbr)
      · simp only [e, if_false] at hbr
        rw [if_neg (Ne.symm e)] at hl
        exact (hbm b (List.mem_cons_self ..)).2 r hl hbr)
  simp only at R2
  have hr2 : ((st.tbl.put [(n + 1, .live (.arr (.int .u8) xs false))]).put [(n, .live (.box [.dead, .own (n + 1)]))]) n = .live (.box [.dead, .own (n + 1)]) := by rw [put_one]; simp
  obtain ⟨q1, q2⟩ := R2.res n _ hr2
  have R3 := R2.reword (r := n) (y := .box [AV.me n U, .own (n + 1)]) hr2 (by
      intro r hr
      simp only [resIds, idsOfs, List.append_nil, List.mem_append] at hr
      rcases hr with hr | hr
      · rw [me_ids r hr]; simp only; rw [hr2]; simp
      · exact q2 r (by simp only [resIds, idsOfs, idsOf, List.nil_append, List.append_nil] at hr ⊢; exact hr)) (by
      simp only [RR] at q1 ⊢
      obtain ⟨b', vs, T, e1, e2, e3, e4⟩ := q1
      have hbb : b' = b := by simp at e1; exact e1.symm
      subst hbb
      rw [h2] at e2
      obtain ⟨rfl, rfl⟩ : #[x, y] = vs ∧ U = T := by simpa using e2
      simp only [RAs, and_true] at e3
      refine ⟨b', #[x, y], U, by simp, h2, ?_, e4⟩
      simp only [RAs, and_true]
      exact ⟨me_ra h3 (by simp) (by simp [typeAt, h2]), e3.2⟩)
  simp only at R3
  rw [put_two] at R3
  refine ⟨_, ⟨R3, fun r hr => ?_, fun r hr => ?_, fun r b' hl hbr => ?_, by omega⟩, ?_, ?_⟩
  · rw [look_cons, if_neg (by omega), look_cons, if_neg (by omega)]; rfl
  · have e1 : r ≠ n := by intro e; subst e; exact hr hn
    have e2 : r ≠ n + 1 := by intro e; subst e; exact hr hn1
    simp [e1, e2]
  · by_cases e1 : r = n
    · subst e1; simp [blk] at hbr; subst hbr; exact .inr (List.mem_cons_self ..)
    · by_cases e2 : r = n + 1
      · subst e2; simp at hbr; exact .inr (List.mem_cons_of_mem _ (hmem b' hbr))
      · simp only [e1, e2, if_false] at hbr
        have : (st.tbl.put [(n, .live (.box [AV.me n U, .own (n + 1)])), (n + 1, .live (.arr (.int .u8) xs false))]) r = st.tbl r := by
          simp only [Tbl.put, look_cons]; rw [if_neg (fun e => e1 e.symm), if_neg (fun e => e2 e.symm)]; rfl
        rw [this] at hl
        exact .inl ⟨hl, hbr⟩
  · simp only [RA]; exact ⟨b, by simp, rfl⟩
  · intro r hr; simp [idsOf] at hr; subst hr; simp [Tbl.put, look_cons]

mutual
theorem put_sound : (x : RV) → (n : Nat) → {σ : Sig} → {st : St} → {v : Value} → {bs : List Nat} → RelW G σ lim st tmps w → TT w lim x v bs → (∀ j, n ≤ j → j < (put n x).2.2 → st.tbl j = .fresh) → FB G σ st bs →
    ∃ σ', PutR G σ lim st tmps w n (put n x).2.2 (put n x).2.1 bs σ' ∧ RA σ' w lim (put n x).1 v ∧ Known (st.tbl.put (put n x).2.1) (idsOf (put n x).1)
  | .view t x, n, σ, st, v, bs, h, ht, hf, hb => by
    simp only [TT] at ht
    simp only [put]
    refine ⟨σ, ⟨by rw [put_nil]; exact h, fun _ _ => rfl, fun _ _ => rfl, fun r b hl hb => .inl ⟨by rwa [put_nil] at hl, hb⟩, Nat.le_refl _⟩, avOf_sound ht.1, by rw [avOf_ids]; exact known_nil⟩
  | .own t sh xs, n, σ, st, v, bs, h, ht, hf, hb => by
    simp only [TT, ownT] at ht
    simp only [put] at hf ⊢
    have hn := hf n (Nat.le_refl _) (Nat.lt_succ_self _)
    have hval : RA (fun r => if r = n then v else σ r) w lim (.own n) v := by
      simp only [RA]
      rcases ht.2 with ⟨_, rfl, _⟩ | ⟨b, off, cap, vs, T, fz, rfl, _⟩
      · exact ⟨by simp, _, _, _, rfl⟩
      · exact ⟨by simp, _, _, _, rfl⟩
    have hmem : ∀ b, blk v = some b → b ∈ bs := by
      intro b hbv
      rcases ht.2 with ⟨_, rfl, rfl⟩ | ⟨b', off, cap, vs, T, fz, rfl, _, _, _, _, _, _, rfl⟩
      · simp [blk] at hbv
      · simp [blk] at hbv; subst hbv; simp
    have hA := h.adopt (n := n) (v := v) (.inl hn) (y := .arr t xs sh) (by intro r hr; cases hr) (fun hσ => by
      simp only [RR]
      refine ⟨ht.1, ?_⟩
      rcases ht.2 with ⟨h1, rfl, _⟩ | ⟨b, off, cap, vs, T, fz, rfl, h2, h3, h4, h5, h6, h7, _⟩
      · exact .inl ⟨h1, by simp⟩
      · exact .inr ⟨b, off, cap, vs, T, fz, by simp, h2, h3, h4, h5, h6, h7⟩) (fun b hbv => hb.2 b (hmem b hbv))
    refine ⟨_, ⟨hA, fun r hr => ?_, fun r hr => ?_, fun r b hl hbr => ?_, Nat.le_succ _⟩, hval, known_own (y := .arr t xs sh) (by rw [put_at]; simp)⟩
    · rw [look_cons, if_neg (by omega)]; rfl
    · rw [if_neg]; intro e; subst e; exact hr hn
    · by_cases e : r = n
      · subst e; simp only [if_true] at hbr; exact .inr (hmem b hbr)
      · rw [put_one, if_neg (Ne.symm e)] at hl
        simp only [e, if_false] at hbr
        exact .inl ⟨hl, hbr⟩
  | .box cs, n, σ, st, v, bs, h, ht, hf, hb => by
    simp only [TT] at ht
    obtain ⟨b, vs, U, bs1, rfl, h2, h3, h4, rfl⟩ := ht
    simp only [put] at hf ⊢
    obtain ⟨hbn, hbm⟩ := hb
    rw [List.nodup_cons] at hbn
    obtain ⟨σ1, hP, hA, hK⟩ := puts_sound cs (n + 1) h h3 (fun j h5 h6 => hf j (by omega) h6) ⟨hbn.2, fun b' hb' => hbm b' (List.mem_cons_of_mem _ hb')⟩
    have hle := hP.le
    have hn := hf n (Nat.le_refl _) (by omega)
    have hn1 : (st.tbl.put (puts (n + 1) cs).2.1) n = .fresh := by simp [Tbl.put, hP.out n (.inl (Nat.lt_succ_self _)), hn]
    have hB := hP.rel.adopt (n := n) (v := .pointer (some ⟨b, 0, none⟩)) (.inl hn1) (y := .box (puts (n + 1) cs).1) hK (fun hσ => by
      simp only [RR]
      exact ⟨b, vs, U, by simp, h2, RAs.mono (Ext.refl _ _) hσ _ _ hK hA, h4⟩) (fun b' hb' => by
        simp [blk] at hb'; subst hb'
        refine ⟨(hbm b (List.mem_cons_self ..)).1, fun r hl hbr => ?_⟩
        rcases hP.lv r b hl hbr with ⟨h5, h6⟩ | h5
        · exact (hbm b (List.mem_cons_self ..)).2 r h5 h6
        · exact hbn.1 h5)
    refine ⟨_, ⟨by rw [put_cons]; exact hB, fun r hr => ?_, fun r hr => ?_, fun r b' hl hbr => ?_, by omega⟩, ?_, ?_⟩
    · rw [look_cons, if_neg (by omega)]; exact hP.out r (by omega)
    · rw [if_neg (by intro e; subst e; exact hr hn)]; exact hP.old r hr
    · by_cases e : r = n
      · subst e; simp [blk] at hbr; subst hbr; exact .inr (List.mem_cons_self ..)
      · rw [put_at, if_neg (Ne.symm e)] at hl
        simp only [e, if_false] at hbr
        rcases hP.lv r b' hl hbr with h5 | h5
        · exact .inl h5
        · exact .inr (List.mem_cons_of_mem _ h5)
    · simp only [RA]; exact ⟨b, by simp, rfl⟩
    · intro r hr; simp [idsOf] at hr; subst hr; rw [put_at]; simp
  | .agg cs, n, σ, st, v, bs, h, ht, hf, hb => by
    simp only [TT] at ht
    obtain ⟨vs, rfl, h3⟩ := ht
    simp only [put] at hf ⊢
    obtain ⟨σ1, hP, hA, hK⟩ := puts_sound cs n h h3 hf hb
    exact ⟨σ1, hP, by simp only [RA]; exact ⟨vs, rfl, hA⟩, by simpa [idsOf] using hK⟩
  | .tup cs, n, σ, st, v, bs, h, ht, hf, hb => by
    simp only [TT] at ht
    obtain ⟨vs, rfl, h3⟩ := ht
    simp only [put] at hf ⊢
    obtain ⟨σ1, hP, hA, hK⟩ := puts_sound cs n h h3 hf hb
    exact ⟨σ1, hP, by simp only [RA]; exact ⟨vs, rfl, hA⟩, by simpa [idsOf] using hK⟩
  | .fn f, n, σ, st, v, bs, h, ht, hf, hb => by
    simp only [TT] at ht
    simp only [put]
    exact ⟨σ, ⟨by rw [put_nil]; exact h, fun _ _ => rfl, fun _ _ => rfl, fun r b hl hb => .inl ⟨by rwa [put_nil] at hl, hb⟩, Nat.le_refl _⟩, by simp only [RA]; exact ht.1, known_nil⟩
  | .bld m xs, n, σ, st, v, bs, h, ht, hf, hb => by
    simp only [TT] at ht
    obtain ⟨b, x, y, bs1, rfl, h2, h3, h4, h5, rfl⟩ := ht
    exact bld_sound h h2 h3 h4 h5 hf hb
theorem puts_sound : (xs : List RV) → (n : Nat) → {σ : Sig} → {st : St} → {vs : List Value} → {bs : List Nat} → RelW G σ lim st tmps w → TTs w lim xs vs bs → (∀ j, n ≤ j → j < (puts n xs).2.2 → st.tbl j = .fresh) → FB G σ st bs →
    ∃ σ', PutR G σ lim st tmps w n (puts n xs).2.2 (puts n xs).2.1 bs σ' ∧ RAs σ' w lim (puts n xs).1 vs ∧ Known (st.tbl.put (puts n xs).2.1) (idsOfs (puts n xs).1)
  | [], n, σ, st, vs, bs, h, ht, hf, hb => by
    match vs, ht with
    | [], _ =>
      simp only [puts]
      exact ⟨σ, ⟨by rw [put_nil]; exact h, fun _ _ => rfl, fun _ _ => rfl, fun r b hl hb => .inl ⟨by rwa [put_nil] at hl, hb⟩, Nat.le_refl _⟩, by simp [RAs], known_nil⟩
  | x :: xs, n, σ, st, vs, bs, h, ht, hf, hb => by
    match vs, ht with
    | v :: vs, ht =>
      simp only [TTs] at ht
      obtain ⟨b1, b2, rfl, h1, h2⟩ := ht
      simp only [puts] at hf ⊢
      obtain ⟨hbn, hbm⟩ := hb
      rw [List.nodup_append] at hbn
      have hle2 : (put n x).2.2 ≤ (puts (put n x).2.2 xs).2.2 := puts_le xs _
      obtain ⟨σ1, hP, hA, hK⟩ := put_sound x n h h1 (fun j h5 h6 => hf j h5 (by omega)) ⟨hbn.1, fun b hb => hbm b (List.mem_append_left _ hb)⟩
      have hle1 := hP.le
      obtain ⟨σ2, hQ, hB, hL⟩ := puts_sound xs (put n x).2.2 (st := ⟨st.env, st.tbl.put (put n x).2.1⟩) hP.rel h2
        (fun j h5 h6 => by simp only [Tbl.put]; rw [hP.out j (.inr h5)]; exact hf j (by omega) h6)
        ⟨hbn.2.1, fun b hb => ⟨(hbm b (List.mem_append_right _ hb)).1, fun r hl hbr => by
          rcases hP.lv r b hl hbr with ⟨h5, h6⟩ | h5
          · exact (hbm b (List.mem_append_right _ hb)).2 r h5 h6
          · exact hbn.2.2 b h5 b hb rfl⟩⟩
      have hkeep : Known ((st.tbl.put (put n x).2.1).put (puts (put n x).2.2 xs).2.1) (idsOf (put n x).1) := by
        intro r hr hfr
        have h5 := hK r hr
        simp only [Tbl.put] at hfr h5
        cases hl : look (puts (put n x).2.2 xs).2.1 r with
        | none => rw [hl] at hfr; exact h5 hfr
        | some z =>
          rw [hl] at hfr; simp only at hfr; subst hfr
          exact puts_nofresh xs _ r hl
      refine ⟨σ2, ⟨by rw [put_append]; exact hQ.rel, fun r hr => ?_, fun r hr => ?_, fun r b hl hbr => ?_, by omega⟩, ?_, ?_⟩
      · have h5 := hP.out r (by omega)
        have h6 := hQ.out r (by omega)
        clear hf hL hB hQ hP hA hK hkeep
        revert h6
        generalize (puts (put n x).2.2 xs).2.1 = V
        intro h6
        induction V with
        | nil => exact h5
        | cons p V ih => obtain ⟨i, z⟩ := p; rw [List.cons_append, look_cons]; rw [look_cons] at h6; split at h6 <;> simp_all
      · have h5 : (st.tbl.put (put n x).2.1) r ≠ .fresh := by
          intro hfr
          simp only [Tbl.put] at hfr
          cases hl : look (put n x).2.1 r with
          | none => rw [hl] at hfr; exact hr hfr
          | some z => rw [hl] at hfr; simp only at hfr; subst hfr; exact put_nofresh x _ r hl
        exact (hQ.old r h5).trans (hP.old r hr)
      · rw [put_append] at hl
        rcases hQ.lv r b hl hbr with ⟨h5, h6⟩ | h5
        · rcases hP.lv r b h5 h6 with h7 | h7
          · exact .inl h7
          · exact .inr (List.mem_append_left _ h7)
        · exact .inr (List.mem_append_right _ h5)
      · simp only [RAs]
        exact ⟨RA.mono (T := st.tbl.put (put n x).2.1) (Ext.refl _ _) hQ.old _ _ hK hA, hB⟩
      · intro r hr
        simp only [idsOfs, List.mem_append] at hr
        rw [put_append]
        rcases hr with hr | hr
        · exact hkeep r hr
        · exact hL r hr
end
end Go.Sh
