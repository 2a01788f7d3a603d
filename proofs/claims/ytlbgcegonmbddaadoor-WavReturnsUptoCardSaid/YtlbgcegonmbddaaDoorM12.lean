/-
  The machine, part 12: the heads of loops.
-/
import Derived.Test.YtlbgcegonmbddaaDoorM11
set_option linter.unusedSimpArgs false
set_option linter.unusedVariables false
namespace Go.Sh
open Go
variable {C : Ctx} {G : Glob} {σ : Sig} {w : World} {lim : Nat → Nat} {st : St} {tmps : Array Value}

theorem RelW.setenv (h : RelW G σ lim st tmps w) {s : Nat} {x : AV} (hx : RA σ w lim x (tmps.getD s undef)) (hk : Known st.tbl (idsOf x)) : RelW G σ lim ⟨setE st.env s x, st.tbl⟩ tmps w :=
  { h with
    env := fun t => by
      simp only [setE]
      cases hb : Nat.beq t s with
      | false => exact h.env t
      | true => rw [beq_eq hb]; exact hx
    known := fun t => by
      simp only [setE]
      cases hb : Nat.beq t s with
      | false => exact h.known t
      | true => exact hk }

theorem isFresh_eq {x : RS} (h : isFresh x = true) : x = .fresh := by cases x <;> simp [isFresh] at h ⊢

theorem RAs_set {cs : List AV} {vs : List Value} {k : Nat} {x : AV} (h : RAs σ w lim cs vs) (hx : ∀ v, vs[k]? = some v → RA σ w lim x v) : RAs σ w lim (cs.set k x) vs := by
  induction cs generalizing vs k with
  | nil => simpa using h
  | cons c cs ih =>
    cases vs with
    | nil => simp [RAs] at h
    | cons v vs =>
      simp only [RAs] at h
      cases k with
      | zero => simp only [List.set_cons_zero, RAs]; exact ⟨hx v (by simp), h.2⟩
      | succ k => simp only [List.set_cons_succ, RAs]; exact ⟨h.1, ih h.2 fun v hv => hx v (by simpa using hv)⟩
theorem RAs_at {cs : List AV} {vs : List Value} {k : Nat} {x : AV} {v : Value} (h : RAs σ w lim cs vs) (hx : cs[k]? = some x) (hv : vs[k]? = some v) : RA σ w lim x v := by
  induction cs generalizing vs k with
  | nil => simp at hx
  | cons c cs ih =>
    cases vs with
    | nil => simp at hv
    | cons u vs =>
      simp only [RAs] at h
      cases k with
      | zero => simp at hx hv; subst hx hv; exact h.1
      | succ k => exact ih h.2 (by simpa using hx) (by simpa using hv)
theorem idsOfs_set {cs : List AV} {k : Nat} {x : AV} : ∀ r ∈ idsOfs (cs.set k x), r ∈ idsOfs cs ∨ r ∈ idsOf x := by
  induction cs generalizing k with
  | nil => intro r hr; simp [idsOfs] at hr
  | cons c cs ih =>
    intro r hr
    cases k with
    | zero => simp only [List.set_cons_zero, idsOfs, List.mem_append] at hr ⊢; rcases hr with hr | hr; exact .inr hr; exact .inl (.inr hr)
    | succ k =>
      simp only [List.set_cons_succ, idsOfs, List.mem_append] at hr ⊢
      rcases hr with hr | hr
      · exact .inl (.inl hr)
      · rcases ih r hr with h | h
        · exact .inl (.inr h)
        · exact .inr h

theorem promote1_sound (h : RelW G σ lim st tmps w) (n : Nat) (p : Pro) : ∃ σ', RelW G σ' lim (promote1 n st p) tmps w := by
  cases p with
  | slot s t =>
    simp only [promote1]
    split
    · rename_i x hx
      cases hg : (isNil x && isFresh (st.tbl n) && Nat.ble 1 t.size) with
      | false => exact ⟨σ, h⟩
      | true =>
        simp only [Bool.and_eq_true] at hg
        obtain ⟨⟨g1, g2⟩, g3⟩ := hg
        have g1 := isNil_eq g1; have g2 := isFresh_eq g2; have g3 : 0 < t.size := Nat.le_of_ble_eq_true g3
        subst g1
        have hN := h.nilname g2 t g3 false
        have hv := h.env s
        rw [hx] at hv; simp only [RA, RP] at hv
        refine ⟨_, hN.setenv (s := s) (x := .own n) ?_ ?_⟩
        · simp only [RA]; exact ⟨by rw [hv]; simp, none, 0, 0, hv⟩
        · exact known_own (y := .arr t [] false) (by simp only [put_at]; simp)
    · exact ⟨σ, h⟩
  | cell s k t =>
    simp only [promote1]
    split
    · rename_i r hs
      split
      · rename_i cs hr
        split
        · rename_i x hx
          cases hg : (isNil x && isFresh (st.tbl n) && Nat.ble 1 t.size) with
          | false => exact ⟨σ, h⟩
          | true =>
            simp only [Bool.and_eq_true] at hg
            obtain ⟨⟨g1, g2⟩, g3⟩ := hg
            have g1 := isNil_eq g1; have g2 := isFresh_eq g2; have g3 : 0 < t.size := Nat.le_of_ble_eq_true g3
            subst g1
            have hN := h.nilname g2 t g3 false
            have hnr : n ≠ r := by intro e; subst e; rw [hr] at g2; cases g2
            have hr' : (st.tbl.put [(n, .live (.arr t [] false))]) r = .live (.box cs) := by rw [put_one]; simp [hnr, hr]
            obtain ⟨q1, q2⟩ := hN.res r _ hr'
            simp only [cond_true]
            have hkn : Known (st.tbl.put [(n, .live (.arr t [] false))]) (idsOf (.own n)) := by
              intro i hi; simp [idsOf] at hi; subst hi; rw [put_at]; simp
            have := hN.reword (r := r) (y := .box (cs.set k (.own n))) hr' ?_ ?_
            · refine ⟨fun s => if s = n then Value.slice none 0 0 else σ s, ?_⟩
              have e : st.tbl.put [(n, .live (.arr t [] false)), (r, .live (.box (cs.set k (.own n))))] = (st.tbl.put [(n, .live (.arr t [] false))]).put [(r, .live (.box (cs.set k (.own n))))] := by
                rw [show [(n, RS.live (.arr t [] false)), (r, .live (.box (cs.set k (.own n))))] = [(n, RS.live (.arr t [] false))] ++ [(r, .live (.box (cs.set k (.own n))))] from rfl, put_append]
                exact put_comm (u := [(r, .live (.box (cs.set k (.own n))))]) (v := [(n, RS.live (.arr t [] false))]) (by simp; exact fun e => hnr e.symm)
              rw [e]
              exact this
            · intro i hi
              simp only [resIds] at hi
              rcases idsOfs_set i hi with hi | hi
              · exact q2 i hi
              · exact hkn i hi
            · simp only [RR] at q1 ⊢
              obtain ⟨b, vs, T, e1, e2, e3, e4⟩ := q1
              refine ⟨b, vs, T, e1, e2, RAs_set e3 fun v hv => ?_, e4⟩
              have := RAs_at e3 hx hv
              simp only [RA, RP] at this
              simp only [RA]
              exact ⟨by rw [this]; simp, none, 0, 0, this⟩
        · exact ⟨σ, h⟩
      · exact ⟨σ, h⟩
    · exact ⟨σ, h⟩
theorem promote1_exp (hL : Low G st) {n : Nat} (hn : n < hidB) (p : Pro) : ∃ env' u, promote1 n st p = ⟨env', st.tbl.put u⟩ ∧ promote1 n ⟨st.env, exp st.tbl⟩ p = ⟨env', (exp st.tbl).put u⟩ ∧
    (∀ p ∈ u, p.1 < hidB ∧ noNest p.2 = true) ∧ Low G ⟨env', st.tbl.put u⟩ := by
  have same : ∃ env' u, st = ⟨env', st.tbl.put u⟩ ∧ (⟨st.env, exp st.tbl⟩ : St) = ⟨env', (exp st.tbl).put u⟩ ∧ (∀ p ∈ u, p.1 < hidB ∧ noNest p.2 = true) ∧ Low G ⟨env', st.tbl.put u⟩ :=
    ⟨st.env, [], rfl, rfl, (by intro p hp; cases hp), hL⟩
  cases p with
  | slot s t =>
    simp only [promote1]
    cases hs : st.env s with
    | val q =>
      cases q with
      | v x =>
        simp only [exp_low hn]
        cases hg : (isNil x && isFresh (st.tbl n) && Nat.ble 1 t.size) with
        | false => simpa using same
        | true =>
          simp only [cond_true]
          refine ⟨_, _, rfl, rfl, ?_, ?_, ?_, hL.pins⟩
          · intro p hp; simp only [List.mem_singleton] at hp; subst hp; exact ⟨hn, rfl⟩
          · intro s' r hr
            simp only [setE] at hr
            cases hb : Nat.beq s' s with
            | true => rw [hb] at hr; simp only [cond_true, idsOf, List.mem_singleton] at hr; subst hr; exact hn
            | false => rw [hb] at hr; exact hL.env s' r hr
          · intro r cs hr
            simp only at hr
            rw [put_one] at hr
            split at hr
            · cases hr
            · exact hL.box r cs hr
      | sl => simpa using same
    | _ => simpa using same
  | cell s k t =>
    simp only [promote1]
    cases hs : st.env s with
    | bx r j =>
      cases j with
      | succ j => simpa using same
      | zero =>
        have hr : r < hidB := hL.env s r (by rw [hs]; simp [idsOf])
        simp only [exp_low hr]
        cases hT : st.tbl r with
        | live y =>
          cases y with
          | box cs =>
            simp only
            cases hc : cs[k]? with
            | some c =>
              cases c with
              | val q =>
                cases q with
                | v x =>
                  simp only [exp_low hn]
                  cases hg : (isNil x && isFresh (st.tbl n) && Nat.ble 1 t.size) with
                  | false => simpa using same
                  | true =>
                    simp only [cond_true]
                    refine ⟨_, _, rfl, rfl, ?_, hL.env, ?_, hL.pins⟩
                    · intro p hp
                      simp only [List.mem_cons, List.not_mem_nil, or_false] at hp
                      rcases hp with rfl | rfl
                      · exact ⟨hn, rfl⟩
                      · exact ⟨hr, rfl⟩
                    · intro r' cs' hr'
                      simp only at hr'
                      rw [put_at] at hr'
                      split at hr'
                      · cases hr'
                      · rw [put_one] at hr'
                        split at hr'
                        · cases hr'
                          intro q hq
                          rcases idsOfs_set q hq with hq | hq
                          · exact hL.box r cs hT q hq
                          · simp only [idsOf, List.mem_singleton] at hq; subst hq; exact hn
                        · exact hL.box r' cs' hr'
                | sl => simpa using same
              | _ => simpa using same
            | none => simpa using same
          | _ => simpa using same
        | _ => simpa using same
    | _ => simpa using same
theorem promote_sound : ∀ (l : List Pro) (n : Nat) {σ : Sig} {st : St}, n + l.length ≤ hidB → RelX G σ lim st tmps w → ∃ σ', RelX G σ' lim (promote n l st) tmps w
  | [], n, σ, st, _, h => ⟨σ, h⟩
  | p :: l, n, σ, st, hn, h => by
    simp only [List.length_cons] at hn
    obtain ⟨env', u, e1, e2, e3, e4⟩ := promote1_exp h.2 (show n < hidB by omega) p
    obtain ⟨σ1, h1⟩ := promote1_sound h.1 n p
    rw [e2] at h1
    have h2 := RelX.of_put h1 e3 e4
    rw [← e1] at h2
    exact promote_sound l (n + 1) (by omega) h2

/-! other names -/
theorem fwd_mem {m : List (Nat × Nat)} {r n : Nat} (h : fwd m r = some n) : (r, n) ∈ m := by
  induction m with
  | nil => simp [fwd] at h
  | cons p m ih =>
    obtain ⟨a, b⟩ := p
    simp only [fwd] at h
    cases hb : Nat.beq a r with
    | true => rw [hb] at h; simp at h; rw [beq_eq hb, h]; simp
    | false => rw [hb] at h; simp at h; simp [ih h]
theorem bwd_of {m : List (Nat × Nat)} {r n : Nat} (hn : (m.map (·.2)).Nodup) (h : (r, n) ∈ m) : bwd m n = some r := by
  induction m with
  | nil => simp at h
  | cons p m ih =>
    obtain ⟨a, b⟩ := p
    simp only [List.map_cons, List.nodup_cons] at hn
    simp only [bwd]
    rcases List.mem_cons.1 h with e | h
    · cases e; simp [beq_self]
    · have : b ≠ n := by rintro rfl; exact hn.1 (List.mem_map.2 ⟨(r, b), h, rfl⟩)
      rw [beq_ne this]; exact ih hn.2 h
theorem nodupB_spec : ∀ {l : List Nat}, nodupB l = true → l.Nodup
  | [], _ => by simp
  | a :: l, h => by
    simp only [nodupB, Bool.and_eq_true, Bool.not_eq_true', List.any_eq_false] at h
    refine List.nodup_cons.2 ⟨fun hm => h.1 a hm (beq_self a), nodupB_spec h.2⟩
theorem fst_inj {m : List (Nat × Nat)} (hn : (m.map (·.1)).Nodup) {a b c : Nat} (h : (a, b) ∈ m) (k : (a, c) ∈ m) : b = c := by
  induction m with
  | nil => simp at h
  | cons p m ih =>
    simp only [List.map_cons, List.nodup_cons] at hn
    rcases List.mem_cons.1 h with e | h <;> rcases List.mem_cons.1 k with e' | k
    · rw [← e] at e'; cases e'; rfl
    · exact absurd (List.mem_map.2 ⟨_, k, rfl⟩) (by rw [← e] at hn; exact hn.1)
    · exact absurd (List.mem_map.2 ⟨_, h, rfl⟩) (by rw [← e'] at hn; exact hn.1)
    · exact ih hn.2 h k

theorem tblOf_renT {m : List (Nat × Nat)} {T : Tbl} : ∀ {l : List (Nat × Nat)} {n : Nat}, (l.map (·.2)).Nodup → (∀ a, (a, n) ∈ l → tblOf (renT m T l) n = renRS m (T a)) ∧ ((∀ a, (a, n) ∉ l) → tblOf (renT m T l) n = .fresh)
  | [], n, _ => by simp [renT, tblOf]
  | (a, b) :: l, n, hn => by
    simp only [List.map_cons, List.nodup_cons] at hn
    obtain ⟨h1, h2⟩ := tblOf_renT (m := m) (T := T) (n := n) hn.2
    simp only [renT, tblOf]
    constructor
    · intro c hc
      rcases List.mem_cons.1 hc with e | hm
      · cases e; rw [beq_self]; rfl
      · have : n ≠ b := by rintro rfl; exact hn.1 (List.mem_map.2 ⟨(c, n), hm, rfl⟩)
        rw [beq_ne this.symm]; exact h1 c hm
    · intro hc
      have : n ≠ b := by rintro rfl; exact hc a (by simp)
      rw [beq_ne this.symm]; exact h2 fun c hm => hc c (by simp [hm])

mutual
theorem ren_ids {m : List (Nat × Nat)} : (x : AV) → ∀ n ∈ idsOf (ren m x), ∃ r ∈ idsOf x, fwd m r = some n
  | .own r, n, hn => by
    simp only [ren] at hn
    split at hn
    · rename_i k hk; simp [idsOf] at hn ⊢; rw [hn]; exact hk
    · simp [idsOf] at hn
  | .bx r _, n, hn => by
    simp only [ren] at hn
    split at hn
    · rename_i k hk; simp [idsOf] at hn ⊢; rw [hn]; exact hk
    · simp [idsOf] at hn
  | .el r _ _ _, n, hn => by
    simp only [ren] at hn
    split at hn
    · rename_i k hk; simp [idsOf] at hn ⊢; rw [hn]; exact hk
    · simp [idsOf] at hn
  | .me r _, n, hn => by
    simp only [ren] at hn
    split at hn
    · rename_i k hk; simp [idsOf] at hn ⊢; rw [hn]; exact hk
    · simp [idsOf] at hn
  | .agg cs, n, hn => by simp only [ren, idsOf] at hn ⊢; exact rens_ids cs n hn
  | .tup cs, n, hn => by simp only [ren, idsOf] at hn ⊢; exact rens_ids cs n hn
  | .dead, n, hn => by simp [ren, idsOf] at hn
  | .val p, n, hn => by simp [ren, idsOf] at hn
  | .sp ps, n, hn => by simp [ren, idsOf] at hn
  | .fn f, n, hn => by simp [ren, idsOf] at hn
theorem rens_ids {m : List (Nat × Nat)} : (l : List AV) → ∀ n ∈ idsOfs (rens m l), ∃ r ∈ idsOfs l, fwd m r = some n
  | [], n, hn => by simp [rens, idsOfs] at hn
  | x :: l, n, hn => by
    simp only [rens, idsOfs, List.mem_append] at hn ⊢
    rcases hn with hn | hn
    · obtain ⟨r, h1, h2⟩ := ren_ids x n hn; exact ⟨r, .inl h1, h2⟩
    · obtain ⟨r, h1, h2⟩ := rens_ids l n hn; exact ⟨r, .inr h1, h2⟩
end
mutual
theorem ren_ra {m : List (Nat × Nat)} {σ' : Sig} (hσ : ∀ r n, fwd m r = some n → σ' n = σ r) : (x : AV) → (v : Value) → RA σ w lim x v → RA σ' w lim (ren m x) v
  | .own r, v, h => by
    simp only [ren]
    split
    · rename_i k hk; simp only [RA] at h ⊢; rw [hσ _ _ hk]; exact h
    · simp [RA]
  | .bx r _, v, h => by
    simp only [ren]
    split
    · rename_i k hk; simp only [RA] at h ⊢; rw [hσ _ _ hk]; exact h
    · simp [RA]
  | .el r _ _ _, v, h => by
    simp only [ren]
    split
    · rename_i k hk; simp only [RA] at h ⊢; rw [hσ _ _ hk]; exact h
    · simp [RA]
  | .me r _, v, h => by
    simp only [ren]
    split
    · rename_i k hk; simp only [RA] at h ⊢; rw [hσ _ _ hk]; exact h
    · simp [RA]
  | .agg cs, v, h => by simp only [ren, RA] at h ⊢; obtain ⟨vs, e, h⟩ := h; exact ⟨vs, e, rens_ra hσ cs vs h⟩
  | .tup cs, v, h => by simp only [ren, RA] at h ⊢; obtain ⟨vs, e, h⟩ := h; exact ⟨vs, e, rens_ra hσ cs vs h⟩
  | .dead, v, h => by simp [ren, RA]
  | .val p, v, h => by simpa only [ren, RA] using h
  | .sp ps, v, h => by simpa only [ren, RA] using h
  | .fn f, v, h => by simpa only [ren, RA] using h
theorem rens_ra {m : List (Nat × Nat)} {σ' : Sig} (hσ : ∀ r n, fwd m r = some n → σ' n = σ r) : (l : List AV) → (vs : List Value) → RAs σ w lim l vs → RAs σ' w lim (rens m l) vs
  | [], [], h => by simp [rens, RAs]
  | [], _ :: _, h => by simp [RAs] at h
  | x :: l, [], h => by simp [RAs] at h
  | x :: l, v :: vs, h => by simp only [rens, RAs] at h ⊢; exact ⟨ren_ra hσ x v h.1, rens_ra hσ l vs h.2⟩
end

theorem envOf_pick {m : List (Nat × Nat)} {e : Nat → AV} {s : Nat} : ∀ (l : List Nat), envOf (renE m (pick l e)) s = .dead ∨ envOf (renE m (pick l e)) s = ren m (e s)
  | [] => .inl rfl
  | a :: l => by
    simp only [pick, renE, envOf]
    cases hb : Nat.beq s a with
    | true => rw [beq_eq hb]; exact .inr rfl
    | false => exact envOf_pick l

theorem rename_sound (h : RelW G σ lim st tmps w) {m : List (Nat × Nat)} (h1 : (m.map (·.1)).Nodup) (h2 : (m.map (·.2)).Nodup) (hp : ∀ p ∈ G.pins, fwd m p.1 = some p.1)
    (hN : ∀ r n (t : Ty) (xss : List (List t.den)) o, (r, n) ∈ m → st.tbl r = .live (.nest t xss o) → ∀ i, i < xss.length → (hid r i, hid n i) ∈ m) (live : List Nat) :
    ∃ σ', RelW G σ' lim ⟨envOf (renE m (pick live st.env)), tblOf (renT m st.tbl m)⟩ tmps w := by
  let σ' : Sig := fun n => match bwd m n with | some r => σ r | none => undef
  have hσ : ∀ r n, fwd m r = some n → σ' n = σ r := by
    intro r n hf
    simp only [σ', bwd_of h2 (fwd_mem hf)]
  have hσ' : ∀ r n, (r, n) ∈ m → σ' n = σ r := by
    intro r n hm
    simp only [σ', bwd_of h2 hm]
  have ht : ∀ r n, (r, n) ∈ m → tblOf (renT m st.tbl m) n = renRS m (st.tbl r) := fun r n hm => (tblOf_renT h2).1 r hm
  have hlive : ∀ n, tblOf (renT m st.tbl m) n ≠ .fresh → ∃ r, (r, n) ∈ m ∧ tblOf (renT m st.tbl m) n = renRS m (st.tbl r) := by
    intro n hn
    by_cases hex : ∃ r, (r, n) ∈ m
    · obtain ⟨r, hr⟩ := hex; exact ⟨r, hr, ht r n hr⟩
    · exact absurd ((tblOf_renT h2).2 fun a ha => hex ⟨a, ha⟩) hn
  have hknown : ∀ ids : List Nat, Known st.tbl ids → ∀ ns : List Nat, (∀ n ∈ ns, ∃ r ∈ ids, fwd m r = some n) → Known (tblOf (renT m st.tbl m)) ns := by
    intro ids hk ns hn n hin
    obtain ⟨r, hr, hf⟩ := hn n hin
    rw [ht r n (fwd_mem hf)]
    have := hk r hr
    cases hx : st.tbl r with
    | fresh => exact absurd hx this
    | gone => simp [renRS]
    | live x => cases x <;> simp [renRS]
  have hl2 : ∀ x, isLive (renRS m x) = isLive x := by intro x; cases x with | live y => cases y <;> rfl | _ => rfl
  have hliv : ∀ n, isLive (tblOf (renT m st.tbl m) n) = true → ∃ r, (r, n) ∈ m ∧ isLive (st.tbl r) = true := by
    intro n hn
    obtain ⟨r, h3, h4⟩ := hlive n (by intro e; rw [e] at hn; cases hn)
    exact ⟨r, h3, by rw [h4, hl2] at hn; exact hn⟩
  refine ⟨σ', { h with env := ?_, known := ?_, res := ?_, inj := ?_, own := ?_, pin := ?_ }⟩
  · intro s
    rcases envOf_pick (m := m) (e := st.env) (s := s) live with e | e
    · simp only [e, RA]
    · simp only [e]; exact ren_ra hσ _ _ (h.env s)
  · intro s
    rcases envOf_pick (m := m) (e := st.env) (s := s) live with e | e
    · simp [e, idsOf, Known]
    · simp only [e]; exact hknown _ (h.known s) _ (ren_ids _)
  · intro n x hx
    simp only at hx ⊢
    obtain ⟨r, h3, h4⟩ := hlive n (by rw [hx]; simp)
    rw [h4] at hx
    cases hy : st.tbl r with
    | fresh => rw [hy] at hx; simp [renRS] at hx
    | gone => rw [hy] at hx; simp [renRS] at hx
    | live y =>
      obtain ⟨q1, q2⟩ := h.res r y hy
      rw [hy] at hx
      cases y with
      | box cs =>
        simp only [renRS, RS.live.injEq] at hx; subst hx
        simp only [RR] at q1 ⊢
        obtain ⟨b, vs, T, e1, e2, e3, e4⟩ := q1
        exact ⟨⟨b, vs, T, by rw [hσ' r n h3]; exact e1, e2, rens_ra hσ _ _ e3, e4⟩, hknown _ q2 _ (by simp only [resIds]; exact rens_ids cs)⟩
      | arr t xs sh =>
        simp only [renRS, RS.live.injEq] at hx; subst hx
        refine ⟨?_, by simp [resIds, Known]⟩
        simp only [RR] at q1 ⊢
        rw [hσ' r n h3]; exact q1
      | nest t xss o =>
        simp only [renRS, RS.live.injEq] at hx; subst hx
        have hN := hN r n t xss o h3 hy
        refine ⟨?_, fun q hq => ?_⟩
        · simp only [RR] at q1 ⊢
          obtain ⟨h0, b, off, cap, vs, U, fz, s1, s2, s3, s4, s5, s6, s7⟩ := q1
          exact ⟨h0, b, off, cap, vs, U, fz, by rw [hσ' r n h3]; exact s1, s2, s3, s4, s5, fun i hi ho => by rw [hσ' _ _ (hN i hi)]; exact s6 i hi ho, s7⟩
        · obtain ⟨i, hi, ho, rfl⟩ := mem_nestIds.1 hq
          rw [ht _ _ (hN i hi)]
          have := q2 _ (mem_nestIds.2 ⟨i, hi, ho, rfl⟩)
          cases hx : st.tbl (hid r i) with
          | fresh => exact absurd hx this
          | gone => simp [renRS]
          | live x => cases x <;> simp [renRS]
  · intro n n' b l1 l2 b1 b2
    obtain ⟨r, m1, k1⟩ := hliv n l1
    obtain ⟨r', m2, k2⟩ := hliv n' l2
    rw [hσ' r n m1] at b1
    rw [hσ' r' n' m2] at b2
    have := h.inj r r' b k1 k2 b1 b2
    subst this
    exact fst_inj h1 m1 m2
  · intro n b l1 b1
    obtain ⟨r, m1, k1⟩ := hliv n l1
    rw [hσ' r n m1] at b1
    exact h.own r b k1 b1
  · intro p hpp
    obtain ⟨e1, e2⟩ := h.pin p hpp
    refine ⟨by rw [hσ _ _ (hp p hpp)]; exact e1, ?_⟩
    simp only
    rw [ht _ _ (fwd_mem (hp p hpp))]
    cases hx : st.tbl p.1 with
    | fresh => exact absurd hx e2
    | gone => simp [renRS]
    | live x => cases x <;> simp [renRS]

/-! the hidden names go along -/
def hid1 (T : Tbl) (a b : Nat) : List (Nat × Nat) := match T a with
  | .live (.nest _ xss _) => (List.range xss.length).map fun i => (hid a i, hid b i)
  | _ => []
def hids (T : Tbl) : List (Nat × Nat) → List (Nat × Nat)
  | [] => []
  | (a, b) :: m => hid1 T a b ++ hids T m
theorem mem_hid1 {T : Tbl} {a b : Nat} {p : Nat × Nat} : p ∈ hid1 T a b ↔ ∃ (t : Ty) (xss : List (List t.den)) (o : Option Nat) (i : Nat), T a = .live (.nest t xss o) ∧ i < xss.length ∧ p = (hid a i, hid b i) := by
  unfold hid1
  split
  · rename_i t xss o h
    simp only [List.mem_map, List.mem_range]
    constructor
    · rintro ⟨i, hi, rfl⟩; exact ⟨t, xss, o, i, h, hi, rfl⟩
    · rintro ⟨t', xss', o', i, h', hi, rfl⟩
      rw [h] at h'; cases h'
      exact ⟨i, hi, rfl⟩
  · rename_i h
    simp only [List.not_mem_nil, false_iff]
    rintro ⟨t, xss, o, i, h', _, _⟩
    exact h t xss o h'
theorem mem_hids {T : Tbl} {p : Nat × Nat} : ∀ {m : List (Nat × Nat)}, p ∈ hids T m ↔ ∃ a b, (a, b) ∈ m ∧ p ∈ hid1 T a b
  | [] => by simp [hids]
  | (a, b) :: m => by
    simp only [hids, List.mem_append, mem_hids (m := m), List.mem_cons, Prod.mk.injEq]
    constructor
    · rintro (h | ⟨c, d, h1, h2⟩)
      · exact ⟨a, b, .inl ⟨rfl, rfl⟩, h⟩
      · exact ⟨c, d, .inr h1, h2⟩
    · rintro ⟨c, d, (⟨rfl, rfl⟩ | h1), h2⟩
      · exact .inl h2
      · exact .inr ⟨c, d, h1, h2⟩
theorem hid1_nodup {T : Tbl} {a b : Nat} : ((hid1 T a b).map (·.1)).Nodup ∧ ((hid1 T a b).map (·.2)).Nodup := by
  unfold hid1
  split
  · simp only [List.map_map]
    constructor
    · refine List.pairwise_map.2 (List.nodup_range.imp fun hne => ?_)
      exact hid_lt hne
    · refine List.pairwise_map.2 (List.nodup_range.imp fun hne => ?_)
      exact hid_lt hne
  · simp
theorem hids_nodup {T : Tbl} : ∀ {m : List (Nat × Nat)}, (m.map (·.1)).Nodup → (m.map (·.2)).Nodup → (∀ p ∈ m, p.1 < hidB ∧ p.2 < hidB) → ((hids T m).map (·.1)).Nodup ∧ ((hids T m).map (·.2)).Nodup
  | [], _, _, _ => by simp [hids]
  | (a, b) :: m, h1, h2, h3 => by
    simp only [List.map_cons, List.nodup_cons] at h1 h2
    obtain ⟨i1, i2⟩ := hids_nodup (T := T) h1.2 h2.2 (fun p hp => h3 p (List.mem_cons_of_mem _ hp))
    obtain ⟨j1, j2⟩ := hid1_nodup (T := T) (a := a) (b := b)
    have hab := h3 (a, b) (List.mem_cons_self ..)
    simp only [hids, List.map_append, List.nodup_append]
    refine ⟨⟨j1, i1, ?_⟩, ⟨j2, i2, ?_⟩⟩
    · intro x hx y hy e
      subst e
      obtain ⟨p, hp, rfl⟩ := List.mem_map.1 hx
      obtain ⟨q, hq, e⟩ := List.mem_map.1 hy
      obtain ⟨t, xss, o, i, _, _, rfl⟩ := mem_hid1.1 hp
      obtain ⟨c, d, hcd, hq⟩ := mem_hids.1 hq
      obtain ⟨t', xss', o', i', _, _, rfl⟩ := mem_hid1.1 hq
      have := (hid_inj (h3 (c, d) (List.mem_cons_of_mem _ hcd)).1 hab.1 e).1
      subst this
      exact h1.1 (List.mem_map.2 ⟨_, hcd, rfl⟩)
    · intro x hx y hy e
      subst e
      obtain ⟨p, hp, rfl⟩ := List.mem_map.1 hx
      obtain ⟨q, hq, e⟩ := List.mem_map.1 hy
      obtain ⟨t, xss, o, i, _, _, rfl⟩ := mem_hid1.1 hp
      obtain ⟨c, d, hcd, hq⟩ := mem_hids.1 hq
      obtain ⟨t', xss', o', i', _, _, rfl⟩ := mem_hid1.1 hq
      have := (hid_inj (h3 (c, d) (List.mem_cons_of_mem _ hcd)).2 hab.2 e).1
      subst this
      exact h2.1 (List.mem_map.2 ⟨_, hcd, rfl⟩)
theorem fwd_append {m h : List (Nat × Nat)} {r : Nat} (hh : ∀ p ∈ h, p.1 ≠ r) : fwd (m ++ h) r = fwd m r := by
  induction m with
  | nil =>
    induction h with
    | nil => rfl
    | cons p h ih =>
      obtain ⟨a, b⟩ := p
      simp only [List.nil_append, fwd]
      rw [beq_ne (hh (a, b) (List.mem_cons_self ..))]
      exact ih fun q hq => hh q (List.mem_cons_of_mem _ hq)
  | cons p m ih =>
    obtain ⟨a, b⟩ := p
    simp only [List.cons_append, fwd, ih]
mutual
theorem ren_congr {m m' : List (Nat × Nat)} : (x : AV) → (∀ r ∈ idsOf x, fwd m' r = fwd m r) → ren m' x = ren m x
  | .own r, h => by simp only [ren, h r (by simp [idsOf])]
  | .bx r _, h => by simp only [ren, h r (by simp [idsOf])]
  | .el r _ _ _, h => by simp only [ren, h r (by simp [idsOf])]
  | .me r _, h => by simp only [ren, h r (by simp [idsOf])]
  | .agg cs, h => by simp only [ren]; rw [rens_congr cs (by simpa [idsOf] using h)]
  | .tup cs, h => by simp only [ren]; rw [rens_congr cs (by simpa [idsOf] using h)]
  | .dead, _ => rfl
  | .val _, _ => rfl
  | .sp _, _ => rfl
  | .fn _, _ => rfl
theorem rens_congr {m m' : List (Nat × Nat)} : (l : List AV) → (∀ r ∈ idsOfs l, fwd m' r = fwd m r) → rens m' l = rens m l
  | [], _ => rfl
  | x :: l, h => by
    simp only [idsOfs, List.mem_append] at h
    simp only [rens]
    rw [ren_congr x (fun r hr => h r (.inl hr)), rens_congr l (fun r hr => h r (.inr hr))]
end
theorem renE_congr {m m' : List (Nat × Nat)} {e : Nat → AV} : ∀ (l : List Nat), (∀ s, ∀ r ∈ idsOf (e s), fwd m' r = fwd m r) → renE m' (pick l e) = renE m (pick l e)
  | [], _ => rfl
  | s :: l, h => by
    simp only [pick, renE]
    rw [ren_congr _ (h s), renE_congr l h]

theorem rename_sound_exp (h : RelX G σ lim st tmps w) {m : List (Nat × Nat)} (h1 : (m.map (·.1)).Nodup) (h2 : (m.map (·.2)).Nodup) (hlow : ∀ p ∈ m, p.1 < hidB ∧ p.2 < hidB) (hp : ∀ p ∈ G.pins, fwd m p.1 = some p.1) (live : List Nat) :
    ∃ σ', RelX G σ' lim ⟨envOf (renE m (pick live st.env)), tblOf (renT m st.tbl m)⟩ tmps w := by
  obtain ⟨hR, hL⟩ := h
  obtain ⟨n1, n2⟩ := hids_nodup (T := st.tbl) h1 h2 hlow
  have hge : ∀ p ∈ hids st.tbl m, hidB ≤ p.1 ∧ hidB ≤ p.2 := by
    intro p hp
    obtain ⟨a, b, _, hp⟩ := mem_hids.1 hp
    obtain ⟨_, _, _, i, _, _, rfl⟩ := mem_hid1.1 hp
    exact ⟨hid_ge _ _, hid_ge _ _⟩
  have hf : ∀ r, r < hidB → fwd (m ++ hids st.tbl m) r = fwd m r := by
    intro r hr
    refine fwd_append fun p hp => ?_
    have := (hge p hp).1
    omega
  have N1 : ((m ++ hids st.tbl m).map (·.1)).Nodup := by
    rw [List.map_append, List.nodup_append]
    refine ⟨h1, n1, fun x hx y hy e => ?_⟩
    subst e
    obtain ⟨p, hp, rfl⟩ := List.mem_map.1 hx
    obtain ⟨q, hq, e⟩ := List.mem_map.1 hy
    have := (hlow p hp).1
    have := (hge q hq).1
    omega
  have N2 : ((m ++ hids st.tbl m).map (·.2)).Nodup := by
    rw [List.map_append, List.nodup_append]
    refine ⟨h2, n2, fun x hx y hy e => ?_⟩
    subst e
    obtain ⟨p, hp, rfl⟩ := List.mem_map.1 hx
    obtain ⟨q, hq, e⟩ := List.mem_map.1 hy
    have := (hlow p hp).2
    have := (hge q hq).2
    omega
  obtain ⟨σ', hR'⟩ := rename_sound hR N1 N2 (fun p hpp => by rw [hf _ (hL.pins p hpp)]; exact hp p hpp) (fun r n t xss o hm hr i hi => by
    obtain ⟨hr1, hr2⟩ := exp_nest hr
    rcases List.mem_append.1 hm with hm | hm
    · exact List.mem_append_right _ (mem_hids.2 ⟨r, n, hm, mem_hid1.2 ⟨t, xss, o, i, hr2, hi, rfl⟩⟩)
    · have := (hge _ hm).1
      simp only at this; omega) live
  have hE : renE (m ++ hids st.tbl m) (pick live st.env) = renE m (pick live st.env) := renE_congr live fun s r hr => hf r (hL.env s r hr)
  have hren : ∀ r, renRS (m ++ hids st.tbl m) (st.tbl r) = renRS m (st.tbl r) := by
    intro r
    cases hx : st.tbl r with
    | live y =>
      cases y with
      | box cs => simp only [renRS]; rw [rens_congr cs fun q hq => hf q (hL.box r cs hx q hq)]
      | _ => rfl
    | _ => rfl
  have hT : tblOf (renT (m ++ hids st.tbl m) (exp st.tbl) (m ++ hids st.tbl m)) = exp (tblOf (renT m st.tbl m)) := by
    funext n
    obtain ⟨a1, a2⟩ := tblOf_renT (m := m ++ hids st.tbl m) (T := exp st.tbl) (n := n) N2
    rcases low_or_hid n with hl | ⟨b, i, hb, rfl⟩
    · rw [exp_low hl]
      obtain ⟨b1, b2⟩ := tblOf_renT (m := m) (T := st.tbl) (n := n) h2
      by_cases hex : ∃ a, (a, n) ∈ m
      · obtain ⟨a, ha⟩ := hex
        rw [a1 a (List.mem_append_left _ ha), b1 a ha, exp_low (hlow _ ha).1, hren]
      · rw [b2 fun a ha => hex ⟨a, ha⟩]
        refine a2 fun a ha => ?_
        rcases List.mem_append.1 ha with ha | ha
        · exact hex ⟨a, ha⟩
        · have := (hge _ ha).2
          simp only at this; omega
    · rw [exp_hid hb]
      obtain ⟨b1, b2⟩ := tblOf_renT (m := m) (T := st.tbl) (n := b) h2
      have hnone : ∀ a, (a, hid b i) ∉ m := fun a ha => by have := (hlow _ ha).2; have := hid_ge b i; simp only at *; omega
      by_cases hex : ∃ a, (a, b) ∈ m
      · obtain ⟨a, ha⟩ := hex
        have hal := (hlow _ ha).1
        simp only at hal
        rw [b1 a ha]
        by_cases hn : ∃ (t : Ty) (xss : List (List t.den)) (o : Option Nat), st.tbl a = .live (.nest t xss o) ∧ i < xss.length
        · obtain ⟨t, xss, o, hn, hi⟩ := hn
          rw [a1 (hid a i) (List.mem_append_right _ (mem_hids.2 ⟨a, b, ha, mem_hid1.2 ⟨t, xss, o, i, hn, hi, rfl⟩⟩)), exp_hid hal, hn]
          simp only [renRS, expI, List.getElem?_eq_getElem hi]
          by_cases ho : o = some i <;> simp [ho]
        · have e1 : expI i (renRS m (st.tbl a)) = .fresh := by
            cases hx : st.tbl a with
            | live y =>
              cases y with
              | nest t xss o =>
                have : ¬ i < xss.length := fun hi => hn ⟨t, xss, o, hx, hi⟩
                simp only [renRS, expI, List.getElem?_eq_none (by omega : xss.length ≤ i)]
              | _ => rfl
            | _ => rfl
          rw [e1]
          refine a2 fun c hc => ?_
          rcases List.mem_append.1 hc with hc | hc
          · exact hnone c hc
          · obtain ⟨a', b', hab, hc⟩ := mem_hids.1 hc
            obtain ⟨t, xss, o, j, hT', hj, e⟩ := mem_hid1.1 hc
            simp only [Prod.mk.injEq] at e
            obtain ⟨e2, e3⟩ := hid_inj hb (hlow _ hab).2 e.2
            simp only at e2
            subst e2 e3
            have := bwd_of h2 ha
            rw [bwd_of h2 hab] at this
            cases this
            exact hn ⟨t, xss, o, hT', hj⟩
      · rw [b2 fun a ha => hex ⟨a, ha⟩]
        refine a2 fun c hc => ?_
        rcases List.mem_append.1 hc with hc | hc
        · exact hnone c hc
        · obtain ⟨a', b', hab, hc⟩ := mem_hids.1 hc
          obtain ⟨t, xss, o, j, hT', hj, e⟩ := mem_hid1.1 hc
          simp only [Prod.mk.injEq] at e
          obtain ⟨e2, e3⟩ := hid_inj hb (hlow _ hab).2 e.2
          simp only at e2
          subst e2
          exact hex ⟨a', hab⟩
  simp only at hR'
  rw [hE, hT] at hR'
  refine ⟨σ', hR', ⟨fun s r hr => ?_, fun r cs hr q hq => ?_, hL.pins⟩⟩
  · rcases envOf_pick (m := m) (e := st.env) (s := s) live with e | e
    · simp only [e, idsOf] at hr; cases hr
    · simp only [e] at hr
      obtain ⟨q, _, hq⟩ := ren_ids _ r hr
      exact (hlow _ (fwd_mem hq)).2
  · simp only at hr
    obtain ⟨b1, b2⟩ := tblOf_renT (m := m) (T := st.tbl) (n := r) h2
    by_cases hex : ∃ a, (a, r) ∈ m
    · obtain ⟨a, ha⟩ := hex
      rw [b1 a ha] at hr
      cases hx : st.tbl a with
      | fresh => rw [hx] at hr; cases hr
      | gone => rw [hx] at hr; cases hr
      | live y =>
        rw [hx] at hr
        cases y with
        | arr => cases hr
        | nest => cases hr
        | box ds =>
          simp only [renRS] at hr
          cases hr
          obtain ⟨q', _, hq'⟩ := rens_ids _ q hq
          exact (hlow _ (fwd_mem hq')).2
    · rw [b2 fun a ha => hex ⟨a, ha⟩] at hr; cases hr

theorem norm_sound (h : RelX G σ lim st tmps w) {kp : List Nat} (hk : ∀ p ∈ G.pins, p.1 ∈ kp) {an : Ann} {st' : St} (hn : norm kp an st = some st') : ∃ σ', RelX G σ' lim st' tmps w := by
  simp only [norm] at hn
  generalize hm : number kp 8192 _ = m at hn
  cases hg : (nodupB (m.map (·.1)) && nodupB (m.map (·.2)) && kp.all (stays m) && (lows (m.map (·.1)) && lows (m.map (·.2)) && lowN (32768 + an.pro.length))) with
  | false => rw [hg] at hn; simp at hn
  | true =>
    rw [hg] at hn
    simp only [cond_true, Option.some.injEq] at hn
    subst hn
    simp only [Bool.and_eq_true, List.all_eq_true] at hg
    obtain ⟨⟨⟨g1, g2⟩, g3⟩, ⟨g4, g5⟩, g6⟩ := hg
    have g6 : 32768 + an.pro.length < hidB := by simpa [lowN, Nat.blt_eq] using g6
    obtain ⟨σ1, h1⟩ := promote_sound an.pro 32768 (by omega) h
    refine rename_sound_exp h1 (nodupB_spec g1) (nodupB_spec g2) (fun p hp => ⟨lows_spec g4 _ (List.mem_map.2 ⟨p, hp, rfl⟩), lows_spec g5 _ (List.mem_map.2 ⟨p, hp, rfl⟩)⟩) (fun p hp => ?_) an.live
    have := g3 p.1 (hk p hp)
    unfold stays at this
    split at this
    · rename_i n hn; rw [hn, beq_eq this]
    · cases this
end Go.Sh
