/-
  The machine, part 12: the heads of loops.
-/
import Derived.Test.YtlbgcegonmbddaaDoorM11
set_option linter.unusedSimpArgs false
set_option linter.unusedVariables false
namespace Go.Sh
open Go
variable {C : Ctx} {G : Glob} {σ : Sig} {w : World} {lim : Nat → Nat} {st : St} {tmps : Array Value}

theorem RelW.setenv (h : RelW G σ lim st tmps w) {s : Nat} {x : AV} (hx : RA σ w lim x (tmps.getD s undef)) (hk : Known st.tbl (idsOf x)) : RelW G σ lim ⟨setE st.env s x, st.tbl⟩ tmps w :=
  { h with
    env := fun t => by
      simp only [setE]
      cases hb : Nat.beq t s with
      | false => exact h.env t
      | true => rw [beq_eq hb]; exact hx
    known := fun t => by
      simp only [setE]
      cases hb : Nat.beq t s with
      | false => exact h.known t
      | true => exact hk }

theorem isFresh_eq {x : RS} (h : isFresh x = true) : x = .fresh := by cases x <;> simp [isFresh] at h ⊢

theorem RAs_set {cs : List AV} {vs : List Value} {k : Nat} {x : AV} (h : RAs σ w lim cs vs) (hx : ∀ v, vs[k]? = some v → RA σ w lim x v) : RAs σ w lim (cs.set k x) vs := by
  induction cs generalizing vs k with
  | nil => simpa using h
  | cons c cs ih =>
    cases vs with
    | nil => simp [RAs] at h
    | cons v vs =>
      simp only [RAs] at h
      cases k with
      | zero => simp only [List.set_cons_zero, RAs]; exact ⟨hx v (by simp), h.2⟩
      | succ k => simp only [List.set_cons_succ, RAs]; exact ⟨h.1, ih h.2 fun v hv => hx v (by simpa using hv)⟩
theorem RAs_at {cs : List AV} {vs : List Value} {k : Nat} {x : AV} {v : Value} (h : RAs σ w lim cs vs) (hx : cs[k]? = some x) (hv : vs[k]? = some v) : RA σ w lim x v := by
  induction cs generalizing vs k with
  | nil => simp at hx
  | cons c cs ih =>
    cases vs with
    | nil => simp at hv
    | cons u vs =>
      simp only [RAs] at h
      cases k with
      | zero => simp at hx hv; subst hx hv; exact h.1
      | succ k => exact ih h.2 (by simpa using hx) (by simpa using hv)
theorem idsOfs_set {cs : List AV} {k : Nat} {x : AV} : ∀ r ∈ idsOfs (cs.set k x), r ∈ idsOfs cs ∨ r ∈ idsOf x := by
  induction cs generalizing k with
  | nil => intro r hr; simp [idsOfs] at hr
  | cons c cs ih =>
    intro r hr
    cases k with
    | zero => simp only [List.set_cons_zero, idsOfs, List.mem_append] at hr ⊢; rcases hr with hr | hr; exact .inr hr; exact .inl (.inr hr)
    | succ k =>
      simp only [List.set_cons_succ, idsOfs, List.mem_append] at hr ⊢
      rcases hr with hr | hr
      · exact .inl (.inl hr)
      · rcases ih r hr with h | h
        · exact .inl (.inr h)
        · exact .inr h

theorem promote1_sound (h : RelW G σ lim st tmps w) (n : Nat) (p : Pro) : ∃ σ', RelW G σ' lim (promote1 n st p) tmps w := by
  cases p with
  | slot s t =>
    simp only [promote1]
    split
    · rename_i x hx
      cases hg : (isNil x && isFresh (st.tbl n) && Nat.ble 1 t.size) with
      | false => exact ⟨σ, h⟩
      | true =>
        simp only [Bool.and_eq_true] at hg
        obtain ⟨⟨g1, g2⟩, g3⟩ := hg
        have g1 := isNil_eq g1; have g2 := isFresh_eq g2; have g3 : 0 < t.size := Nat.le_of_ble_eq_true g3
        subst g1
        have hN := h.nilname g2 t g3 false
        have hv := h.env s
        rw [hx] at hv; simp only [RA, RP] at hv
        refine ⟨_, hN.setenv (s := s) (x := .own n) ?_ ?_⟩
        · simp only [RA]; exact ⟨by rw [hv]; simp, none, 0, 0, hv⟩
        · exact known_own (y := .arr t [] false) (by simp only [put_at]; simp)
    · exact ⟨σ, h⟩
  | cell s k t =>
    simp only [promote1]
    split
    · rename_i r hs
      split
      · rename_i cs hr
        split
        · rename_i x hx
          cases hg : (isNil x && isFresh (st.tbl n) && Nat.ble 1 t.size) with
          | false => exact ⟨σ, h⟩
          | true =>
            simp only [Bool.and_eq_true] at hg
            obtain ⟨⟨g1, g2⟩, g3⟩ := hg
            have g1 := isNil_eq g1; have g2 := isFresh_eq g2; have g3 : 0 < t.size := Nat.le_of_ble_eq_true g3
            subst g1
            have hN := h.nilname g2 t g3 false
            have hnr : n ≠ r := by intro e; subst e; rw [hr] at g2; cases g2
            have hr' : (st.tbl.put [(n, .live (.arr t [] false))]) r = .live (.box cs) := by rw [put_one]; simp [hnr, hr]
            obtain ⟨q1, q2⟩ := hN.res r _ hr'
            simp only [cond_true]
            have hkn : Known (st.tbl.put [(n, .live (.arr t [] false))]) (idsOf (.own n)) := by
              intro i hi; simp [idsOf] at hi; subst hi; rw [put_at]; simp
            have := hN.reword (r := r) (y := .box (cs.set k (.own n))) hr' ?_ ?_
            · refine ⟨fun s => if s = n then Value.slice none 0 0 else σ s, ?_⟩
              have e : st.tbl.put [(n, .live (.arr t [] false)), (r, .live (.box (cs.set k (.own n))))] = (st.tbl.put [(n, .live (.arr t [] false))]).put [(r, .live (.box (cs.set k (.own n))))] := by
                rw [show [(n, RS.live (.arr t [] false)), (r, .live (.box (cs.set k (.own n))))] = [(n, RS.live (.arr t [] false))] ++ [(r, .live (.box (cs.set k (.own n))))] from rfl, put_append]
                exact put_comm (u := [(r, .live (.box (cs.set k (.own n))))]) (v := [(n, RS.live (.arr t [] false))]) (by simp; exact fun e => hnr e.symm)
              rw [e]
              exact this
            · intro i hi
              simp only [resIds] at hi
              rcases idsOfs_set i hi with hi | hi
              · exact q2 i hi
              · exact hkn i hi
            · simp only [RR] at q1 ⊢
              obtain ⟨b, vs, T, e1, e2, e3, e4⟩ := q1
              refine ⟨b, vs, T, e1, e2, RAs_set e3 fun v hv => ?_, e4⟩
              have := RAs_at e3 hx hv
              simp only [RA, RP] at this
              simp only [RA]
              exact ⟨by rw [this]; simp, none, 0, 0, this⟩
        · exact ⟨σ, h⟩
      · exact ⟨σ, h⟩
    · exact ⟨σ, h⟩
theorem promote_sound : ∀ (l : List Pro) (n : Nat) {σ : Sig} {st : St}, RelW G σ lim st tmps w → ∃ σ', RelW G σ' lim (promote n l st) tmps w
  | [], n, σ, st, h => ⟨σ, h⟩
  | p :: l, n, σ, st, h => by
    obtain ⟨σ1, h1⟩ := promote1_sound h n p
    exact promote_sound l (n + 1) h1

/-! other names -/
theorem fwd_mem {m : List (Nat × Nat)} {r n : Nat} (h : fwd m r = some n) : (r, n) ∈ m := by
  induction m with
  | nil => simp [fwd] at h
  | cons p m ih =>
    obtain ⟨a, b⟩ := p
    simp only [fwd] at h
    cases hb : Nat.beq a r with
    | true => rw [hb] at h; simp at h; rw [beq_eq hb, h]; simp
    | false => rw [hb] at h; simp at h; simp [ih h]
theorem bwd_of {m : List (Nat × Nat)} {r n : Nat} (hn : (m.map (·.2)).Nodup) (h : (r, n) ∈ m) : bwd m n = some r := by
  induction m with
  | nil => simp at h
  | cons p m ih =>
    obtain ⟨a, b⟩ := p
    simp only [List.map_cons, List.nodup_cons] at hn
    simp only [bwd]
    rcases List.mem_cons.1 h with e | h
    · cases e; simp [beq_self]
    · have : b ≠ n := by rintro rfl; exact hn.1 (List.mem_map.2 ⟨(r, b), h, rfl⟩)
      rw [beq_ne this]; exact ih hn.2 h
theorem nodupB_spec : ∀ {l : List Nat}, nodupB l = true → l.Nodup
  | [], _ => by simp
  | a :: l, h => by
    simp only [nodupB, Bool.and_eq_true, Bool.not_eq_true', List.any_eq_false] at h
    refine List.nodup_cons.2 ⟨fun hm => h.1 a hm (beq_self a), nodupB_spec h.2⟩
theorem fst_inj {m : List (Nat × Nat)} (hn : (m.map (·.1)).Nodup) {a b c : Nat} (h : (a, b) ∈ m) (k : (a, c) ∈ m) : b = c := by
  induction m with
  | nil => simp at h
  | cons p m ih =>
    simp only [List.map_cons, List.nodup_cons] at hn
    rcases List.mem_cons.1 h with e | h <;> rcases List.mem_cons.1 k with e' | k
    · rw [← e] at e'; cases e'; rfl
    · exact absurd (List.mem_map.2 ⟨_, k, rfl⟩) (by rw [← e] at hn; exact hn.1)
    · exact absurd (List.mem_map.2 ⟨_, h, rfl⟩) (by rw [← e'] at hn; exact hn.1)
    · exact ih hn.2 h k

theorem tblOf_renT {m : List (Nat × Nat)} {T : Tbl} : ∀ {l : List (Nat × Nat)} {n : Nat}, (l.map (·.2)).Nodup → (∀ a, (a, n) ∈ l → tblOf (renT m T l) n = renRS m (T a)) ∧ ((∀ a, (a, n) ∉ l) → tblOf (renT m T l) n = .fresh)
  | [], n, _ => by simp [renT, tblOf]
  | (a, b) :: l, n, hn => by
    simp only [List.map_cons, List.nodup_cons] at hn
    obtain ⟨h1, h2⟩ := tblOf_renT (m := m) (T := T) (n := n) hn.2
    simp only [renT, tblOf]
    constructor
    · intro c hc
      rcases List.mem_cons.1 hc with e | hm
      · cases e; rw [beq_self]; rfl
      · have : n ≠ b := by rintro rfl; exact hn.1 (List.mem_map.2 ⟨(c, n), hm, rfl⟩)
        rw [beq_ne this.symm]; exact h1 c hm
    · intro hc
      have : n ≠ b := by rintro rfl; exact hc a (by simp)
      rw [beq_ne this.symm]; exact h2 fun c hm => hc c (by simp [hm])

mutual
theorem ren_ids {m : List (Nat × Nat)} : (x : AV) → ∀ n ∈ idsOf (ren m x), ∃ r ∈ idsOf x, fwd m r = some n
  | .own r, n, hn => by
    simp only [ren] at hn
    split at hn
    · rename_i k hk; simp [idsOf] at hn ⊢; rw [hn]; exact hk
    · simp [idsOf] at hn
  | .bx r _, n, hn => by
    simp only [ren] at hn
    split at hn
    · rename_i k hk; simp [idsOf] at hn ⊢; rw [hn]; exact hk
    · simp [idsOf] at hn
  | .el r _ _ _, n, hn => by
    simp only [ren] at hn
    split at hn
    · rename_i k hk; simp [idsOf] at hn ⊢; rw [hn]; exact hk
    · simp [idsOf] at hn
  | .me r _, n, hn => by
    simp only [ren] at hn
    split at hn
    · rename_i k hk; simp [idsOf] at hn ⊢; rw [hn]; exact hk
    · simp [idsOf] at hn
  | .agg cs, n, hn => by simp only [ren, idsOf] at hn ⊢; exact rens_ids cs n hn
  | .tup cs, n, hn => by simp only [ren, idsOf] at hn ⊢; exact rens_ids cs n hn
  | .dead, n, hn => by simp [ren, idsOf] at hn
  | .val p, n, hn => by simp [ren, idsOf] at hn
  | .sp ps, n, hn => by simp [ren, idsOf] at hn
  | .fn f, n, hn => by simp [ren, idsOf] at hn
theorem rens_ids {m : List (Nat × Nat)} : (l : List AV) → ∀ n ∈ idsOfs (rens m l), ∃ r ∈ idsOfs l, fwd m r = some n
  | [], n, hn => by simp [rens, idsOfs] at hn
  | x :: l, n, hn => by
    simp only [rens, idsOfs, List.mem_append] at hn ⊢
    rcases hn with hn | hn
    · obtain ⟨r, h1, h2⟩ := ren_ids x n hn; exact ⟨r, .inl h1, h2⟩
    · obtain ⟨r, h1, h2⟩ := rens_ids l n hn; exact ⟨r, .inr h1, h2⟩
end
mutual
theorem ren_ra {m : List (Nat × Nat)} {σ' : Sig} (hσ : ∀ r n, fwd m r = some n → σ' n = σ r) : (x : AV) → (v : Value) → RA σ w lim x v → RA σ' w lim (ren m x) v
  | .own r, v, h => by
    simp only [ren]
    split
    · rename_i k hk; simp only [RA] at h ⊢; rw [hσ _ _ hk]; exact h
    · simp [RA]
  | .bx r _, v, h => by
    simp only [ren]
    split
    · rename_i k hk; simp only [RA] at h ⊢; rw [hσ _ _ hk]; exact h
    · simp [RA]
  | .el r _ _ _, v, h => by
    simp only [ren]
    split
    · rename_i k hk; simp only [RA] at h ⊢; rw [hσ _ _ hk]; exact h
    · simp [RA]
  | .me r _, v, h => by
    simp only [ren]
    split
    · rename_i k hk; simp only [RA] at h ⊢; rw [hσ _ _ hk]; exact h
    · simp [RA]
  | .agg cs, v, h => by simp only [ren, RA] at h ⊢; obtain ⟨vs, e, h⟩ := h; exact ⟨vs, e, rens_ra hσ cs vs h⟩
  | .tup cs, v, h => by simp only [ren, RA] at h ⊢; obtain ⟨vs, e, h⟩ := h; exact ⟨vs, e, rens_ra hσ cs vs h⟩
  | .dead, v, h => by simp [ren, RA]
  | .val p, v, h => by simpa only [ren, RA] using h
  | .sp ps, v, h => by simpa only [ren, RA] using h
  | .fn f, v, h => by simpa only [ren, RA] using h
theorem rens_ra {m : List (Nat × Nat)} {σ' : Sig} (hσ : ∀ r n, fwd m r = some n → σ' n = σ r) : (l : List AV) → (vs : List Value) → RAs σ w lim l vs → RAs σ' w lim (rens m l) vs
  | [], [], h => by simp [rens, RAs]
  | [], _ :: _, h => by simp [RAs] at h
  | x :: l, [], h => by simp [RAs] at h
  | x :: l, v :: vs, h => by simp only [rens, RAs] at h ⊢; exact ⟨ren_ra hσ x v h.1, rens_ra hσ l vs h.2⟩
end

theorem envOf_pick {m : List (Nat × Nat)} {e : Nat → AV} {s : Nat} : ∀ (l : List Nat), envOf (renE m (pick l e)) s = .dead ∨ envOf (renE m (pick l e)) s = ren m (e s)
  | [] => .inl rfl
  | a :: l => by
    simp only [pick, renE, envOf]
    cases hb : Nat.beq s a with
    | true => rw [beq_eq hb]; exact .inr rfl
    | false => exact envOf_pick l

theorem rename_sound (h : RelW G σ lim st tmps w) {m : List (Nat × Nat)} (h1 : (m.map (·.1)).Nodup) (h2 : (m.map (·.2)).Nodup) (hp : ∀ p ∈ G.pins, fwd m p.1 = some p.1) (live : List Nat) :
    ∃ σ', RelW G σ' lim ⟨envOf (renE m (pick live st.env)), tblOf (renT m st.tbl m)⟩ tmps w := by
  let σ' : Sig := fun n => match bwd m n with | some r => σ r | none => undef
  have hσ : ∀ r n, fwd m r = some n → σ' n = σ r := by
    intro r n hf
    simp only [σ', bwd_of h2 (fwd_mem hf)]
  have hσ' : ∀ r n, (r, n) ∈ m → σ' n = σ r := by
    intro r n hm
    simp only [σ', bwd_of h2 hm]
  have ht : ∀ r n, (r, n) ∈ m → tblOf (renT m st.tbl m) n = renRS m (st.tbl r) := fun r n hm => (tblOf_renT h2).1 r hm
  have hlive : ∀ n, tblOf (renT m st.tbl m) n ≠ .fresh → ∃ r, (r, n) ∈ m ∧ tblOf (renT m st.tbl m) n = renRS m (st.tbl r) := by
    intro n hn
    by_cases hex : ∃ r, (r, n) ∈ m
    · obtain ⟨r, hr⟩ := hex; exact ⟨r, hr, ht r n hr⟩
    · exact absurd ((tblOf_renT h2).2 fun a ha => hex ⟨a, ha⟩) hn
  have hknown : ∀ ids : List Nat, Known st.tbl ids → ∀ ns : List Nat, (∀ n ∈ ns, ∃ r ∈ ids, fwd m r = some n) → Known (tblOf (renT m st.tbl m)) ns := by
    intro ids hk ns hn n hin
    obtain ⟨r, hr, hf⟩ := hn n hin
    rw [ht r n (fwd_mem hf)]
    have := hk r hr
    cases hx : st.tbl r with
    | fresh => exact absurd hx this
    | gone => simp [renRS]
    | live x => cases x <;> simp [renRS]
  have hl2 : ∀ x, isLive (renRS m x) = isLive x := by intro x; cases x with | live y => cases y <;> rfl | _ => rfl
  have hliv : ∀ n, isLive (tblOf (renT m st.tbl m) n) = true → ∃ r, (r, n) ∈ m ∧ isLive (st.tbl r) = true := by
    intro n hn
    obtain ⟨r, h3, h4⟩ := hlive n (by intro e; rw [e] at hn; cases hn)
    exact ⟨r, h3, by rw [h4, hl2] at hn; exact hn⟩
  refine ⟨σ', { h with env := ?_, known := ?_, res := ?_, inj := ?_, own := ?_, pin := ?_ }⟩
  · intro s
    rcases envOf_pick (m := m) (e := st.env) (s := s) live with e | e
    · simp only [e, RA]
    · simp only [e]; exact ren_ra hσ _ _ (h.env s)
  · intro s
    rcases envOf_pick (m := m) (e := st.env) (s := s) live with e | e
    · simp [e, idsOf, Known]
    · simp only [e]; exact hknown _ (h.known s) _ (ren_ids _)
  · intro n x hx
    simp only at hx ⊢
    obtain ⟨r, h3, h4⟩ := hlive n (by rw [hx]; simp)
    rw [h4] at hx
    cases hy : st.tbl r with
    | fresh => rw [hy] at hx; simp [renRS] at hx
    | gone => rw [hy] at hx; simp [renRS] at hx
    | live y =>
      obtain ⟨q1, q2⟩ := h.res r y hy
      rw [hy] at hx
      cases y with
      | box cs =>
        simp only [renRS, RS.live.injEq] at hx; subst hx
        simp only [RR] at q1 ⊢
        obtain ⟨b, vs, T, e1, e2, e3, e4⟩ := q1
        exact ⟨⟨b, vs, T, by rw [hσ' r n h3]; exact e1, e2, rens_ra hσ _ _ e3, e4⟩, hknown _ q2 _ (by simp only [resIds]; exact rens_ids cs)⟩
      | arr t xs sh =>
        simp only [renRS, RS.live.injEq] at hx; subst hx
        refine ⟨?_, by simp [resIds, Known]⟩
        simp only [RR] at q1 ⊢
        rw [hσ' r n h3]; exact q1
  · intro n n' b l1 l2 b1 b2
    obtain ⟨r, m1, k1⟩ := hliv n l1
    obtain ⟨r', m2, k2⟩ := hliv n' l2
    rw [hσ' r n m1] at b1
    rw [hσ' r' n' m2] at b2
    have := h.inj r r' b k1 k2 b1 b2
    subst this
    exact fst_inj h1 m1 m2
  · intro n b l1 b1
    obtain ⟨r, m1, k1⟩ := hliv n l1
    rw [hσ' r n m1] at b1
    exact h.own r b k1 b1
  · intro p hpp
    obtain ⟨e1, e2⟩ := h.pin p hpp
    refine ⟨by rw [hσ _ _ (hp p hpp)]; exact e1, ?_⟩
    simp only
    rw [ht _ _ (fwd_mem (hp p hpp))]
    cases hx : st.tbl p.1 with
    | fresh => exact absurd hx e2
    | gone => simp [renRS]
    | live x => cases x <;> simp [renRS]

theorem norm_sound (h : RelW G σ lim st tmps w) {kp : List Nat} (hk : ∀ p ∈ G.pins, p.1 ∈ kp) {an : Ann} {st' : St} (hn : norm kp an st = some st') : ∃ σ', RelW G σ' lim st' tmps w := by
  obtain ⟨σ1, h1⟩ := promote_sound an.pro 32768 h
  simp only [norm] at hn
  generalize hm : number kp 8192 _ = m at hn
  cases hg : (nodupB (m.map (·.1)) && nodupB (m.map (·.2)) && kp.all (stays m)) with
  | false => rw [hg] at hn; simp at hn
  | true =>
    rw [hg] at hn
    simp only [cond_true, Option.some.injEq] at hn
    subst hn
    simp only [Bool.and_eq_true, List.all_eq_true] at hg
    obtain ⟨⟨g1, g2⟩, g3⟩ := hg
    refine rename_sound h1 (nodupB_spec g1) (nodupB_spec g2) (fun p hp => ?_) an.live
    have := g3 p.1 (hk p hp)
    unfold stays at this
    split at this
    · rename_i n hn; rw [hn, beq_eq this]
    · cases this
end Go.Sh
