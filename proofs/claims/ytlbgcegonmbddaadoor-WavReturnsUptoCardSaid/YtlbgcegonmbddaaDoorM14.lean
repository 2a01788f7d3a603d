/-
  The machine, part 14: functions.
-/
import Derived.Test.YtlbgcegonmbddaaDoorM13
set_option linter.unusedSimpArgs false
set_option linter.unusedVariables false
namespace Go.Sh
open Go
variable {C : Ctx} {G : Glob} {σ : Sig} {w : World} {lim : Nat → Nat} {st : St} {tmps : Array Value}

theorem loadVar_of {P : Program} {T : TypeId} {v x : Value} (h : (Instr.loadAt T v).run P w = .ok x w) : (asAddr v >>= fun p => loadVar T p : Sem Value).run P w = .ok x w := by
  unfold Instr.loadAt at h
  unfold Instr.sureAddr at h
  split at h
  · simpa [asAddr] using h
  · simp [stuck, Sem.run_bind] at h

def resultOf (tmps : Array Value) : ResultVar → Sem Value
  | .tmp t => pure (tmps.getD t undef)
  | .cell a t => do loadVar t (← asAddr (tmps.getD a undef))

theorem resultAV_sound (h : RelW G σ lim st tmps w) {r : ResultVar} {l l' : List Nat} {x : AV} (hm : (resultAV C st r).run st.tbl l = some (x, l')) :
    ∃ v, (resultOf tmps r).run C.P w = .ok v w ∧ RA σ w lim x v ∧ Known st.tbl (idsOf x) := by
  cases r with
  | tmp t =>
    obtain ⟨rfl, _⟩ := M.run_ret hm
    exact ⟨_, rfl, h.env t, h.known t⟩
  | cell a T =>
    simp only [resultAV] at hm
    obtain ⟨e, l1, h1, h2⟩ := M.run_bind_some hm
    obtain ⟨rfl, _⟩ := M.run_ret h2
    obtain ⟨v, e1, e2, e3, e4⟩ := load_sound h1 (h.env a) h.res
    exact ⟨v, loadVar_of e1, e2, e3⟩
theorem resultAVs_sound (h : RelW G σ lim st tmps w) : (rs : List ResultVar) → {l l' : List Nat} → {xs : List AV} → (resultAVs C st rs).run st.tbl l = some (xs, l') →
    ∃ vs, (rs.mapM (resultOf tmps)).run C.P w = .ok vs w ∧ RAs σ w lim xs vs ∧ Known st.tbl (idsOfs xs)
  | [], l, l', xs, hm => by
    obtain ⟨rfl, _⟩ := M.run_ret hm
    exact ⟨[], rfl, by simp [RAs], by simp [idsOfs, Known]⟩
  | r :: rs, l, l', xs, hm => by
    simp only [resultAVs] at hm
    obtain ⟨x, l1, h1, h2⟩ := M.run_bind_some hm
    obtain ⟨ys, l2, h3, h4⟩ := M.run_bind_some h2
    obtain ⟨rfl, _⟩ := M.run_ret h4
    obtain ⟨v, e1, e2, e3⟩ := resultAV_sound h h1
    obtain ⟨vs, f1, f2, f3⟩ := resultAVs_sound h rs h3
    refine ⟨v :: vs, ?_, by simp only [RAs]; exact ⟨e2, f2⟩, ?_⟩
    · simp [List.mapM_cons, Sem.run_bind, e1, f1]
    · intro i hi; simp only [idsOfs, List.mem_append] at hi; rcases hi with hi | hi; exact e3 i hi; exact f3 i hi

theorem resultAVs_env {st st2 : St} (he : st2.env = st.env) : ∀ (rs : List ResultVar), resultAVs C st rs = resultAVs C st2 rs
  | [] => rfl
  | r :: rs => by
    have h1 : resultAV C st r = resultAV C st2 r := by cases r <;> simp only [resultAV, he]
    simp only [resultAVs, h1, resultAVs_env he rs]
theorem results_sound (h : RelW G σ lim st tmps w) {fn : Func} {l l' : List Nat} {xs : List AV} (hm : (resultAVs C st fn.results.toList).run st.tbl l = some (xs, l')) :
    ∃ v, (results fn tmps).run C.P w = .ok v w ∧ RA σ w lim (match (generalizing := false) xs with | [a] => a | as => .tup as) v := by
  obtain ⟨vs, e1, e2, e3⟩ := resultAVs_sound h _ hm
  have e0 : results fn tmps = (do let vs ← fn.results.mapM (resultOf tmps); pure (if h : vs.size = 1 then vs[0] else .tuple vs)) := by
    unfold results
    congr 1
  rw [e0, Array.mapM_eq_mapM_toList]
  match xs, vs, e2 with
  | [x], [v], e2 =>
    refine ⟨v, ?_, by simpa [RAs] using e2⟩
    simp [Sem.run_bind, Sem.run_map, e1]
  | [], [], e2 =>
    refine ⟨.tuple #[], ?_, by simp only [RA]; exact ⟨[], rfl, by simp [RAs]⟩⟩
    simp [Sem.run_bind, Sem.run_map, e1]
  | x :: y :: xs, v :: u :: vs, e2 =>
    refine ⟨.tuple (v :: u :: vs).toArray, ?_, by simp only [RA]; exact ⟨_, rfl, e2⟩⟩
    simp [Sem.run_bind, Sem.run_map, e1]
  | [], _ :: _, e2 => simp [RAs] at e2
  | _ :: _, [], e2 => simp [RAs] at e2
  | [_], _ :: _ :: _, e2 => simp [RAs] at e2
  | _ :: _ :: _, [_], e2 => simp [RAs] at e2

/-! what was lent -/
def lentV : List Kd → List Value → List Value
  | .box _ :: l, a :: as => a :: lentV l as
  | .bld _ :: l, a :: as => a :: lentV l as
  | _ :: l, _ :: as => lentV l as
  | _, _ => []
def pinsOf : List AV → List Value → List (Nat × Value)
  | .bx r _ :: l, v :: vs => (r, v) :: pinsOf l vs
  | _ :: l, _ :: vs => pinsOf l vs
  | _, _ => []

theorem pins_in : (as : List AV) → (vs : List Value) → ∀ p ∈ pinsOf as vs, p.1 ∈ lentNums as
  | [], vs, p, hp => by cases vs <;> simp [pinsOf] at hp
  | x :: as, [], p, hp => by cases x <;> simp [pinsOf] at hp
  | x :: as, v :: vs, p, hp => by
    cases x with
    | bx r k =>
      simp only [pinsOf, List.mem_cons] at hp
      simp only [lentNums, List.mem_cons]
      rcases hp with rfl | hp
      · exact .inl rfl
      · exact .inr (pins_in as vs p hp)
    | _ => simp only [pinsOf] at hp; simp only [lentNums]; exact pins_in as vs p hp

theorem lent_ra : (pk : List Kd) → {as : List AV} → {vs : List Value} → RAs σ w lim as vs → RAs σ w lim (lentA pk as) (lentV pk vs)
  | [], as, vs, h => by cases as <;> cases vs <;> simp [lentA, lentV, RAs]
  | k :: pk, as, vs, h => by
    match as, vs, h with
    | [], [], h => cases k <;> simp [lentA, lentV, RAs]
    | x :: as, v :: vs, h =>
      simp only [RAs] at h
      have ih := lent_ra pk h.2
      cases k <;> simp only [lentA, lentV, RAs] <;> first | exact ih | exact ⟨h.1, ih⟩
    | [], _ :: _, h => simp [RAs] at h
    | _ :: _, [], h => simp [RAs] at h

/-- only boxes are lent -/
def boxes (as : List AV) : Bool := as.all fun | .bx _ 0 => true | _ => false

theorem pin_ra {as : List AV} {vs : List Value} (hb : boxes as = true) (h : RAs σ w lim as vs) : ∀ p ∈ pinsOf as vs, σ p.1 = p.2 := by
  induction as generalizing vs with
  | nil => intro p hp; cases vs <;> simp [pinsOf] at hp
  | cons x as ih =>
    cases vs with
    | nil => simp [RAs] at h
    | cons v vs =>
      simp only [RAs] at h
      simp only [boxes, List.all_cons, Bool.and_eq_true] at hb
      intro p hp
      obtain ⟨hb1, hb2⟩ := hb
      split at hb1
      · rename_i r
        simp only [pinsOf, List.mem_cons] at hp
        rcases hp with rfl | hp
        · have := h.1
          simp only [RA] at this
          obtain ⟨b, e1, e2⟩ := this
          rw [e1, e2]
        · exact ih hb2 h.2 p hp
      · cases hb1
theorem ra_of_pins {σ' : Sig} {w' : World} {lim' : Nat → Nat} {as : List AV} {vs : List Value} (hb : boxes as = true) (h : RAs σ w lim as vs) (hp : ∀ p ∈ pinsOf as vs, σ' p.1 = p.2) : RAs σ' w' lim' as vs := by
  induction as generalizing vs with
  | nil => cases vs <;> simp [RAs] at h ⊢
  | cons x as ih =>
    cases vs with
    | nil => simp [RAs] at h
    | cons v vs =>
      simp only [RAs] at h ⊢
      simp only [boxes, List.all_cons, Bool.and_eq_true] at hb
      obtain ⟨hb1, hb2⟩ := hb
      split at hb1
      · rename_i r
        simp only [pinsOf, List.mem_cons] at hp
        refine ⟨?_, ih hb2 h.2 fun p hm => hp p (.inr hm)⟩
        have h1 := h.1
        simp only [RA] at h1 ⊢
        obtain ⟨b, e1, e2⟩ := h1
        exact ⟨b, by rw [hp (r, v) (.inl rfl)]; exact e2, e2⟩
      · cases hb1

theorem tl_of : (pk : List Kd) → {vs : List Value} → {rs : List RV} → {bs : List Nat} → vs.length = pk.length → TTs w lim rs (lentV pk vs) bs → TL w lim pk vs rs bs
  | [], [], rs, bs, _, h => by
    simp only [lentV] at h
    cases rs with
    | nil => simpa [TL, TTs] using h
    | cons _ _ => simp [TTs] at h
  | k :: pk, v :: vs, rs, bs, hl, h => by
    have hl' : vs.length = pk.length := by simpa using hl
    cases k with
    | box l =>
      simp only [lentV] at h
      cases rs with
      | nil => simp [TTs] at h
      | cons x rs =>
        simp only [TTs] at h
        simp only [TL]
        obtain ⟨b1, b2, e, h1, h2⟩ := h
        exact ⟨b1, b2, e, h1, tl_of pk hl' h2⟩
    | bld T =>
      simp only [lentV] at h
      cases rs with
      | nil => simp [TTs] at h
      | cons x rs =>
        simp only [TTs] at h
        simp only [TL]
        obtain ⟨b1, b2, e, h1, h2⟩ := h
        exact ⟨b1, b2, e, h1, tl_of pk hl' h2⟩
    | _ => simp only [lentV] at h; simp only [TL]; exact tl_of pk hl' h
  | [], _ :: _, rs, bs, hl, _ => by simp at hl
  | _ :: _, [], rs, bs, hl, _ => by simp at hl

theorem tblOf_put : ∀ (u : Ups), tblOf u = Tbl.put (fun _ => .fresh) u
  | [] => rfl
  | (a, x) :: u => by
    funext r
    simp only [tblOf, Tbl.put, look, tblOf_put u]
    rw [show Nat.beq a r = Nat.beq r a from by
      cases h : Nat.beq r a with
      | true => rw [beq_eq h]; exact beq_self _
      | false => exact beq_ne fun e => by rw [e, beq_self] at h; cases h]
    cases Nat.beq r a <;> rfl
theorem envOf_index : ∀ (as : List AV) (i s : Nat), envOf (index i as) s = .dead ∨ ∃ j, s = i + j ∧ as[j]? = some (envOf (index i as) s)
  | [], i, s => .inl rfl
  | x :: as, i, s => by
    simp only [index, envOf]
    cases h : Nat.beq s i with
    | true => exact .inr ⟨0, by simpa using beq_eq h, rfl⟩
    | false =>
      simp only [cond_false]
      rcases envOf_index as (i + 1) s with h | ⟨j, h1, h2⟩
      · exact .inl h
      · exact .inr ⟨j + 1, by omega, by simpa using h2⟩
theorem idsOfs_at {as : List AV} {j : Nat} {x : AV} (h : as[j]? = some x) : ∀ r ∈ idsOf x, r ∈ idsOfs as := by
  induction as generalizing j with
  | nil => simp at h
  | cons y as ih =>
    intro r hr
    simp only [idsOfs, List.mem_append]
    cases j with
    | zero => simp at h; subst h; exact .inl hr
    | succ j => exact .inr (ih (by simpa using h) r hr)
theorem RAs_length {as : List AV} {vs : List Value} (h : RAs σ w lim as vs) : as.length = vs.length := by
  induction as generalizing vs with
  | nil => cases vs <;> simp [RAs] at h ⊢
  | cons x as ih =>
    cases vs with
    | nil => simp [RAs] at h
    | cons v vs => simp only [RAs] at h; simp [ih h.2]
theorem puts_length : (xs : List RV) → (n : Nat) → (puts n xs).1.length = xs.length
  | [], n => rfl
  | x :: xs, n => by simp only [puts, List.length_cons, puts_length xs]

theorem lent_known : (pk : List Kd) → (as : List AV) → ∀ r ∈ lentNums (lentA pk as), r ∈ idsOfs as
  | [], as, r, hr => by cases as <;> simp [lentA, lentNums] at hr
  | k :: pk, [], r, hr => by cases k <;> simp [lentA, lentNums] at hr
  | k :: pk, x :: as, r, hr => by
    simp only [idsOfs, List.mem_append]
    cases k with
    | box l =>
      simp only [lentA] at hr
      cases x with
      | bx b j =>
        simp only [lentNums, List.mem_cons] at hr
        rcases hr with rfl | hr
        · exact .inl (by simp [idsOf])
        · exact .inr (lent_known pk as r hr)
      | _ => simp only [lentNums] at hr; exact .inr (lent_known pk as r hr)
    | bld T =>
      simp only [lentA] at hr
      cases x with
      | bx b j =>
        simp only [lentNums, List.mem_cons] at hr
        rcases hr with rfl | hr
        · exact .inl (by simp [idsOf])
        · exact .inr (lent_known pk as r hr)
      | _ => simp only [lentNums] at hr; exact .inr (lent_known pk as r hr)
    | _ => simp only [lentA] at hr; exact .inr (lent_known pk as r hr)

mutual
theorem put_low : (x : RV) → (n : Nat) → (∀ r ∈ idsOf (put n x).1, r < (put n x).2.2) ∧ ∀ p ∈ (put n x).2.1, p.1 < (put n x).2.2 ∧ noNest p.2 = true ∧ ∀ cs, p.2 = .live (.box cs) → ∀ q ∈ idsOfs cs, q < (put n x).2.2
  | .view t x, n => by simp only [put]; rw [avOf_ids]; simp
  | .own t sh xs, n => by simp [put, idsOf, noNest]
  | .box cs, n => by
    obtain ⟨h1, h2⟩ := puts_low cs (n + 1)
    have hle := puts_le cs (n + 1)
    simp only [put]
    refine ⟨by intro r hr; simp [idsOf] at hr; omega, fun p hp => ?_⟩
    cases hp with
    | head => exact ⟨by simp only; omega, rfl, fun ds hd => by simp only [RS.live.injEq, Res.box.injEq] at hd; subst hd; exact h1⟩
    | tail _ hp => exact h2 p hp
  | .agg cs, n => by
    obtain ⟨h1, h2⟩ := puts_low cs n
    simp only [put]
    exact ⟨by simpa [idsOf] using h1, h2⟩
  | .tup cs, n => by
    obtain ⟨h1, h2⟩ := puts_low cs n
    simp only [put]
    exact ⟨by simpa [idsOf] using h1, h2⟩
  | .fn f, n => by simp [put, idsOf]
  | .bld T xs, n => by
    simp only [put]
    refine ⟨by intro r hr; simp [idsOf] at hr; omega, fun p hp => ?_⟩
    simp only [List.mem_cons, List.not_mem_nil, or_false] at hp
    rcases hp with rfl | rfl
    · refine ⟨by simp only; omega, rfl, fun cs hc q hq => ?_⟩
      simp only [RS.live.injEq, Res.box.injEq] at hc
      subst hc
      simp [idsOfs, idsOf] at hq
      omega
    · exact ⟨by simp only; omega, rfl, fun cs hc => by cases hc⟩
theorem puts_low : (xs : List RV) → (n : Nat) → (∀ r ∈ idsOfs (puts n xs).1, r < (puts n xs).2.2) ∧ ∀ p ∈ (puts n xs).2.1, p.1 < (puts n xs).2.2 ∧ noNest p.2 = true ∧ ∀ cs, p.2 = .live (.box cs) → ∀ q ∈ idsOfs cs, q < (puts n xs).2.2
  | [], n => by simp [puts, idsOfs]
  | x :: xs, n => by
    obtain ⟨h1, h2⟩ := put_low x n
    obtain ⟨h3, h4⟩ := puts_low xs (put n x).2.2
    have hle := puts_le xs (put n x).2.2
    simp only [puts]
    refine ⟨fun r hr => ?_, fun p hp => ?_⟩
    · simp only [idsOfs, List.mem_append] at hr
      rcases hr with hr | hr
      · have := h1 r hr; omega
      · exact h3 r hr
    · rcases List.mem_append.1 hp with hp | hp
      · exact h4 p hp
      · obtain ⟨a, b, c⟩ := h2 p hp
        exact ⟨by omega, b, fun cs hc q hq => by have := c cs hc q hq; omega⟩
end
theorem exp_fresh : exp (fun _ => .fresh) = fun _ => .fresh := by
  funext n
  simp only [exp, expI, ite_self]
theorem enterX {avs : List AV} {u : Ups} (h : RelW G σ lim (enter avs u) tmps w) (hu : ∀ p ∈ u, p.1 < hidB ∧ noNest p.2 = true ∧ ∀ cs, p.2 = .live (.box cs) → ∀ q ∈ idsOfs cs, q < hidB)
    (hids : ∀ r ∈ idsOfs avs, r < hidB) (hp : ∀ p ∈ G.pins, p.1 < hidB) : RelX G σ lim (enter avs u) tmps w := by
  have e : tblOf u = Tbl.put (fun _ => .fresh) u := tblOf_put u
  unfold enter at h ⊢
  rw [e] at h ⊢
  refine RelX.of_put (T := fun _ => .fresh) (by rw [exp_fresh]; exact h) (fun p hp => ⟨(hu p hp).1, (hu p hp).2.1⟩) ⟨fun s r hr => ?_, fun r cs hr => ?_, hp⟩
  · simp only at hr
    rcases envOf_index avs 0 s with h | ⟨j, h1, h2⟩
    · rw [h] at hr; simp [idsOf] at hr
    · exact hids r (idsOfs_at h2 r hr)
  · simp only [Tbl.put] at hr
    cases hl : look u r with
    | none => rw [hl] at hr; cases hr
    | some z => rw [hl] at hr; simp only at hr; exact (hu _ (look_mem hl)).2.2 cs hr

/-- where a call begins -/
theorem enter_stands {rvs : List RV} {vs : List Value} {bs : List Nat} {pk : List Kd} {n : Nat} (hlz : ∀ b, w.heap.size ≤ b → lim b = 0) (hT : TTs w lim rvs vs bs) (hnd : bs.Nodup) (hbs : ∀ b ∈ bs, b < w.heap.size)
    (hn : rvs.length ≤ n) (hin : (puts 0 rvs).2.2 ≤ hidB) (hb : boxes (lentA pk (puts 0 rvs).1) = true) :
    Stands ⟨w, lim, bs, pinsOf (lentA pk (puts 0 rvs).1) (lentV pk vs)⟩ n (enter (puts 0 rvs).1 (puts 0 rvs).2.1) { tmps := vs.toArray ++ Array.replicate (n - vs.toArray.size) undef, defers := [] } w ∧
      ∃ σ, RAs σ w lim (lentA pk (puts 0 rvs).1) (lentV pk vs) ∧ vs.length = rvs.length := by
  have h0 : RelW ⟨w, lim, bs, []⟩ (fun _ => undef) lim ⟨fun _ => .dead, fun _ => .fresh⟩ (vs.toArray ++ Array.replicate (n - vs.toArray.size) undef) w :=
    { env := by intro s; simp [RA]
      known := by intro s; simp [idsOf, Known]
      res := by intro r x h; simp at h
      inj := by intro r r' b h; simp [isLive] at h
      own := by intro r b h; simp [isLive] at h
      ext := Ext.refl _ _
      keep := fun _ _ _ => rfl
      same := ⟨rfl, rfl, rfl⟩
      lz := hlz
      limk := fun _ _ _ => rfl
      pin := by intro p hp; simp at hp }
  obtain ⟨σ, hP, hA, hK⟩ := puts_sound rvs 0 h0 hT (fun _ _ _ => rfl) ⟨hnd, fun b hb => ⟨.inr hb, by intro r h; simp [isLive] at h⟩⟩
  have hlen : vs.length = rvs.length := by rw [← puts_length rvs 0]; exact (RAs_length hA).symm
  have hL := lent_ra pk hA
  refine ⟨⟨σ, lim, ?_, by simp; omega, rfl⟩, σ, hL, hlen⟩
  have hR := hP.rel
  simp only at hR hK
  rw [← tblOf_put] at hR hK
  have hpin := pin_ra hb hL
  obtain ⟨lw1, lw2⟩ := puts_low rvs 0
  refine enterX ?_ (fun p hp => ⟨Nat.lt_of_lt_of_le (lw2 p hp).1 hin, (lw2 p hp).2.1, fun cs hc q hq => Nat.lt_of_lt_of_le ((lw2 p hp).2.2 cs hc q hq) hin⟩) (fun r hr => Nat.lt_of_lt_of_le (lw1 r hr) hin)
    (fun p hp => Nat.lt_of_lt_of_le (lw1 p.1 (lent_known pk _ _ (pins_in _ _ p hp))) hin)
  exact
    { env := by
        intro s
        rcases envOf_index (puts 0 rvs).1 0 s with h | ⟨j, h1, h2⟩
        · simp only [enter, h, RA]
        · have hs : s = j := by omega
          subst hs
          have hjl : s < vs.length := by
            rw [← RAs_length hA]
            rcases Nat.lt_or_ge s (puts 0 rvs).1.length with h | h
            · exact h
            · rw [List.getElem?_eq_none h] at h2; cases h2
          have hv : vs[s]? = some vs[s] := by simp [hjl]
          have := RAs_at hA h2 hv
          simp only [enter]
          rw [Array.getD_eq_getD_getElem?, Array.getElem?_append_left (by simpa using hjl)]
          simpa [hv] using this
      known := by
        intro s
        rcases envOf_index (puts 0 rvs).1 0 s with h | ⟨j, h1, h2⟩
        · simp [enter, h, idsOf, Known]
        · intro r hr
          exact hK r (idsOfs_at h2 r hr)
      res := hR.res, inj := hR.inj, own := hR.own, ext := hR.ext, keep := hR.keep, same := hR.same, lz := hR.lz, limk := hR.limk
      pin := by
        intro p hp
        refine ⟨hpin p hp, ?_⟩
        exact hK p.1 (lent_known pk _ _ (pins_in _ _ p hp)) }

/-- what a call owes -/
def Owes (w : World) (lim : Nat → Nat) (vs : List Value) (bs : List Nat) (pk : List Kd) (r : RV × List RV) : Ending → World → Prop := fun e w' => ∃ v lim' b1 b2, e = .returned v ∧ Ext w lim w' lim' ∧ (∀ b, w'.heap.size ≤ b → lim' b = 0) ∧
      (w'.os = w.os ∧ w'.tape = w.tape ∧ w'.output = w.output) ∧ (∀ b, b < w.heap.size → b ∉ bs → w'.heap[b]? = w.heap[b]? ∧ lim' b = lim b) ∧
      TT w' lim' r.1 v b1 ∧ TL w' lim' pk vs r.2 b2 ∧ (b1 ++ b2).Nodup ∧ ∀ b ∈ b1 ++ b2, b ∈ bs ∨ w.heap.size ≤ b

theorem fun_calls {f : Nat} {fn : Func} {code : Code} {pk : List Kd} {rk : Kd} {rvs : List RV} {r : RV × List RV} {vs : List Value} {bs : List Nat} (hf : C.P.funcs[f]? = some fn) (hb : fn.body = some code)
    (hlz : ∀ b, w.heap.size ≤ b → lim b = 0) (hT : TTs w lim rvs vs bs) (hnd : bs.Nodup) (hbs : ∀ b ∈ bs, b < w.heap.size) (hbx : boxes (lentA pk (puts 0 rvs).1) = true) (hpl : rvs.length = pk.length) (hn : rvs.length ≤ fn.ntmps) (hin : (puts 0 rvs).2.2 ≤ hidB)
    (hwp : ∀ (G : Glob), (∀ p ∈ G.pins, p.1 ∈ lentNums (lentA pk (puts 0 rvs).1)) → Stands G fn.ntmps (enter (puts 0 rvs).1 (puts 0 rvs).2.1) { tmps := vs.toArray ++ Array.replicate (fn.ntmps - vs.toArray.size) undef, defers := [] } w →
      code.wp C.P (fun e a w => ∃ e' st', e = Ex.out e' ∧ leaveK C fn.results.toList pk (lentA pk (puts 0 rvs).1) rk some e' st' = some r ∧ Stands G fn.ntmps st' a w) { tmps := vs.toArray ++ Array.replicate (fn.ntmps - vs.toArray.size) undef, defers := [] } w) :
    Calls C.P f vs.toArray w (Owes w lim vs bs pk r) := by
  obtain ⟨hS, σ0, hL, hlen⟩ := enter_stands (pk := pk) hlz hT hnd hbs hn hin hbx
  refine calls_of_wp hf hb (wp_mono (hwp _ (pins_in _ _) hS) ?_)
  rintro e a' w' ⟨e', st', rfl, hK, hs⟩
  obtain ⟨σ, lim', ⟨hR, _⟩, _, hd⟩ := hs
  have leave : (leaveM C fn.results.toList pk (lentA pk (puts 0 rvs).1) rk st').runK st'.tbl [] (fun x l => bif lows l then some x else none) = some r →
      a'.defers = [] ∧ ∃ v, (results fn a'.tmps).run C.P w' = .ok v w' ∧ Owes w lim vs bs pk r (.returned v) w' := by
    intro hl
    rw [M.runK_eq] at hl
    cases hr : (leaveM C fn.results.toList pk (lentA pk (puts 0 rvs).1) rk st').run st'.tbl [] with
    | none => rw [hr] at hl; simp at hl
    | some p =>
      obtain ⟨q, lg⟩ := p
      rw [hr] at hl
      simp only [Option.bind_some] at hl
      have hlow : lows lg = true := by
        cases hlg : lows lg with
        | true => rfl
        | false => rw [hlg] at hl; cases hl
      rw [hlow] at hl
      simp only [cond_true, Option.some.injEq] at hl
      subst hl
      have hr := run_exp hr hlow
      unfold leaveM at hr
      rw [resultAVs_env (st := st') (st2 := ⟨st'.env, exp st'.tbl⟩) rfl] at hr
      obtain ⟨as, l1, h1, hr⟩ := M.run_bind_some hr
      obtain ⟨⟨y, u⟩, l2, h2, hr⟩ := M.run_bind_some hr
      obtain ⟨⟨ys, v⟩, l3, h3, hr⟩ := M.run_bind_some hr
      obtain ⟨hok, hr⟩ := M.run_guard hr
      obtain ⟨hq, _⟩ := M.run_ret hr
      obtain ⟨rv, r1, r2⟩ := results_sound hR h1
      obtain ⟨g1, k1⟩ := take_spec (st := ⟨st'.env, exp st'.tbl⟩) (σ := σ) (w := w') (lim := lim') rk _ h2
      obtain ⟨g2, k2⟩ := takes_spec (st := ⟨st'.env, exp st'.tbl⟩) (σ := σ) (w := w') (lim := lim') (lentK pk) _ h3
      obtain ⟨lim2, hR2, hE, hSh, hN, hB⟩ := hR.takes (g1.append g2) hok
      have hLf : RAs σ w' lim' (lentA pk (puts 0 rvs).1) (lentV pk vs) := ra_of_pins hbx hL fun p hp => (hR.pin p hp).1
      refine ⟨hd, rv, r1, rv, lim2, blocks σ (gones u), blocks σ (gones v), rfl, hR2.ext, hR2.lz, hR2.same, fun b hb1 hb2 => ⟨hR2.keep b hb1 hb2, hR2.limk b hb1 hb2⟩, ?_, ?_, ?_, ?_⟩
      · rw [hq]; exact k1 rv r2 (fun r y hy => (hR.res r y hy).1) lim2 hE hSh.left
      · rw [hq]; exact tl_of pk (by rw [hlen, hpl]) (k2 _ hLf (fun r y hy => (hR.res r y hy).1) lim2 hE hSh.right)
      · rw [← blocks_append, ← gones_append]; exact hN
      · intro b hb; rw [← blocks_append, ← gones_append] at hb; exact (hB b hb).1.symm
  cases e' with
  | normal => exact leave hK
  | ret => exact leave hK
  | exit i => simp [leaveK] at hK

theorem fun_sound (hC : ∀ f cal, C.Φ f = some cal → Ctr C.P C.k f cal) (hm : C.P.follows .mixedOrders = true) {A : Nat → Ann} {f k : Nat} {fn : Func} {code : Code} {cal : Callee} {rk : Kd}
    (hf : C.P.funcs[f]? = some fn) (hb : fn.body = some code) (hname : (fn.name == "runtime.NumGoroutine") = false) (hfit : fitsC C.P fn.ntmps code = true)
    (hlent : ∀ rvs x, cal.run k rvs = some x → boxes (lentA cal.pk (puts 0 rvs).1) = true ∧ rvs.length = cal.pk.length)
    (hrun : ∀ rvs x, cal.run k rvs = some x → runF C A fn.ntmps code fn.results.toList cal.pk rk rvs some = some (cal.enc x)) : Ctr C.P k f cal where
  enters := ⟨fn, hf, hname, by rw [hb]; rfl⟩
  calls := by
    intro rvs x hx w lim vs bs hlz hT hnd hbs
    have h := hrun rvs x hx
    obtain ⟨hbx, hpl⟩ := hlent rvs x hx
    unfold runF at h
    cases hg : okIn rvs fn.ntmps with
    | false => rw [hg] at h; simp at h
    | true =>
      rw [hg] at h
      simp only [cond_true] at h
      simp only [okIn, Bool.and_eq_true] at hg
      exact fun_calls (rk := rk) hf hb hlz hT hnd hbs hbx hpl (Nat.le_of_ble_eq_true hg.1) (Nat.le_of_ble_eq_true hg.2) fun G hp hS => exec_sound hC hm hp code h hfit hS fun e st' a' w' hK hs => ⟨e, st', rfl, hK, hs⟩
end Go.Sh
