/-
  The machine, part 22: an operation, common or not.
-/
import Derived.Test.YtlbgcegonmbddaaDoorM21
set_option linter.unusedSimpArgs false
set_option linter.unusedVariables false
namespace Go.Sh
open Go
variable {C : Ctx} {G : Glob} {σ : Sig} {w : World} {lim : Nat → Nat} {env : Nat → AV} {tmps : Array Value} {st : St} {a : Act}

theorem oneT_spec {T : TypeId} (h : oneT C T = true) : ∃ d, C.P.underlying T = some d ∧ aggD d = false ∧ C.P.cellsOf T = 1 := by
  unfold oneT at h
  cases hd : C.P.underlying T with
  | none => rw [hd] at h; cases h
  | some d =>
    rw [hd] at h
    simp only [Bool.and_eq_true, Bool.not_eq_true'] at h
    exact ⟨d, rfl, h.1, beq_eq h.2⟩

theorem nestLoad_does {T : Tbl} (h : RelW G σ lim ⟨env, exp T⟩ tmps w) (hL : Low G ⟨env, T⟩) {base : Nat} {U : TypeId} {r : Nat} {t : Ty} {i k : Nat} {v : Value} {l l' : List Nat} {e : Eff}
    (hm : (nestLoad C base U r t i k).run T l = some (e, l')) (hups : ∀ p ∈ e.ups, p.1 < hidB) (ha : RA σ w lim (.el r (.pair .unit (.sl t)) i k) v) : DoesX C G env T tmps w (Instr.loadAt U v) e := by
  simp only [nestLoad, M.run] at hm
  cases hr : T r with
  | fresh => simp [hr, M.run] at hm
  | gone => simp [hr, M.run] at hm
  | live y =>
    cases y with
    | box => simp [hr, M.run] at hm
    | arr => simp [hr, M.run] at hm
    | nest t' xss o =>
      cases o with
      | some j => simp [hr, M.run] at hm
      | none =>
        simp only [hr] at hm
        split at hm
        · rename_i ht
          subst ht
          obtain ⟨hg, hm1⟩ := M.run_guard hm
          clear hm
          simp only [Bool.and_eq_true] at hg
          obtain ⟨hk, hT⟩ := hg
          have hk0 := beq_eq hk
          subst hk0
          obtain ⟨d, hd, hag, hc⟩ := oneT_spec hT
          obtain ⟨hi, hm2⟩ := M.run_need hm1
          have hi := of_decide_eq_true hi
          obtain ⟨hb, l2, hm3⟩ := fresh1 hm2
          obtain ⟨rfl, _⟩ := M.run_ret hm3
          have hrl : r < hidB := hups (r, _) (List.mem_cons_self ..)
          have hbl : base < hidB := hups (base, _) (List.mem_cons_of_mem _ (List.mem_cons_self ..))
          have hxi : xss.getD i [] = xss[i] := by simp [List.getD, List.getElem?_eq_getElem hi]
          have R := h.takeout hL hrl hbl hr hi hb
          have er : exp T r = .live (.nest t' xss none) := by rw [exp_low hrl]; exact hr
          have eq : exp T (hid r i) = .live (.arr t' xss[i] true) := exp_at er hi (by simp)
          obtain ⟨hR, _⟩ := h.res r _ er
          obtain ⟨hQ, _⟩ := h.res _ _ eq
          simp only [RR] at hR
          obtain ⟨h0, b, off, cap, vs, V, fz, s1, s2, s3, s4, s5, s6, s7⟩ := hR
          simp only [RA] at ha
          obtain ⟨b', off', len', cap', h1, rfl⟩ := ha
          rw [s1] at h1
          obtain ⟨⟨rfl, rfl⟩, rfl, rfl⟩ : (b = b' ∧ off = off') ∧ xss.length = len' ∧ cap = cap' := by simpa using h1
          have hz : off + i * (Ty.pair Ty.unit (Ty.sl t')).size + 0 = off + i := by simp [Ty.size]
          rw [hz]
          have hsl : ∃ A l c, σ (hid r i) = .slice A l c := by
            simp only [RR] at hQ
            rcases hQ.2 with ⟨_, e1⟩ | ⟨_, _, _, _, _, _, e1, _⟩
            · exact ⟨_, _, _, e1⟩
            · exact ⟨_, _, _, e1⟩
          obtain ⟨A, sl, sc, hsl⟩ := hsl
          refine ⟨σ (hid r i), w, (fun s => if s = base then σ (hid r i) else σ s), lim, ?_, ?_, own_done hsl (by simp), fun q hq => by simp [idsOf] at hq; subst hq; rw [exp_low hbl, put_at, put_one]; split <;> simp⟩
          · have := run_loadVar_one (P := C.P) hd hag (w := w) (b := b) (off := off + i) (v := σ (hid r i)) (by rw [cell_of s3]; exact s6 i hi (by simp))
            simpa [Instr.loadAt, Instr.sureAddr] using this
          · rw [← hxi] at R; exact R
        · simp [M.run] at hm

def DoesXU (C : Ctx) (G : Glob) (env : Nat → AV) (T : Tbl) (tmps : Array Value) (w : World) (s : Sem Unit) (e : Eff) : Prop :=
  ∃ w' σ' lim', s.run C.P w = .ok () w' ∧ RelW G σ' lim' ⟨env, exp (T.put e.ups)⟩ tmps w' ∧ e.val = .tup []

theorem nestStore_does {T : Tbl} (h : RelW G σ lim ⟨env, exp T⟩ tmps w) (hL : Low G ⟨env, T⟩) {U : TypeId} {r : Nat} {t : Ty} {i k : Nat} {x : AV} {v vx : Value} {l l' : List Nat} {e : Eff}
    (hm : (nestStore C U r t i k x).run T l = some (e, l')) (hups : ∀ p ∈ e.ups, p.1 < hidB) (ha : RA σ w lim (.el r (.pair .unit (.sl t)) i k) v) (hx : RA σ w lim x vx) :
    DoesXU C G env T tmps w (Instr.storeAt U v vx) e := by
  unfold nestStore at hm
  split at hm
  · rename_i q
    simp only [M.run] at hm
    cases hr : T r with
    | fresh => simp [hr, M.run] at hm
    | gone => simp [hr, M.run] at hm
    | live y =>
      cases y with
      | box => simp [hr, M.run] at hm
      | arr => simp [hr, M.run] at hm
      | nest t' xss o =>
        cases o with
        | none => simp [hr, M.run] at hm
        | some j =>
          simp only [hr, M.run] at hm
          cases hq : T q with
          | fresh => simp [hq, M.run] at hm
          | gone => simp [hq, M.run] at hm
          | live z =>
            cases z with
            | box => simp [hq, M.run] at hm
            | nest => simp [hq, M.run] at hm
            | arr t'' xs sh =>
              simp only [hq] at hm
              split at hm
              · rename_i ht
                subst ht
                split at hm
                · rename_i ht
                  subst ht
                  obtain ⟨hg, hm1⟩ := M.run_guard hm
                  clear hm
                  simp only [Bool.and_eq_true] at hg
                  obtain ⟨hk, hT⟩ := hg
                  have hk0 := beq_eq hk
                  subst hk0
                  obtain ⟨d, hd, hag, hc⟩ := oneT_spec hT
                  obtain ⟨hij, hm2⟩ := M.run_need hm1
                  have hij := of_decide_eq_true hij
                  subst hij
                  obtain ⟨hi, hm3⟩ := M.run_need hm2
                  have hi := of_decide_eq_true hi
                  obtain ⟨rfl, _⟩ := M.run_ret hm3
                  have hrl : r < hidB := hups (r, _) (List.mem_cons_self ..)
                  have hql : q < hidB := hups (q, _) (List.mem_cons_of_mem _ (List.mem_cons_self ..))
                  have er : exp T r = .live (.nest t'' xss (some i)) := by rw [exp_low hrl]; exact hr
                  obtain ⟨hR, _⟩ := h.res r _ er
                  simp only [RR] at hR
                  obtain ⟨h0, b, off, cap, vs, V, fz, s1, s2, s3, s4, s5, s6, s7⟩ := hR
                  simp only [RA] at ha hx
                  obtain ⟨b', off', len', cap', h1, rfl⟩ := ha
                  obtain ⟨rfl, A, sl, sc, hsl⟩ := hx
                  rw [s1] at h1
                  obtain ⟨⟨rfl, rfl⟩, rfl, rfl⟩ : (b = b' ∧ off = off') ∧ xss.length = len' ∧ cap = cap' := by simpa using h1
                  have hz : off + i * (Ty.pair Ty.unit (Ty.sl t'')).size + 0 = off + i := by simp [Ty.size]
                  rw [hz]
                  obtain ⟨σ', lim', R, hlt, hfree⟩ := h.putin hL hrl hql hr hi hq s1 s3
                  refine ⟨_, σ', lim', ?_, R, rfl⟩
                  have hone : (σ q).oneCell' = true := by rw [hsl]; rfl
                  have := run_storeCells (P := C.P) b (off + i) V fz [σ q] 0 vs w s3 (by simp; omega) hfree (by simpa using hone)
                  simp only [Nat.add_zero, List.length_singleton] at this
                  simp only [Instr.storeAt, Instr.sureAddr, Sem.run_bind, Sem.run_pure, Result.andThen_ok, storeVar, run_sizeOf hd, cells_one hone, hc]
                  rw [if_neg (by simp)]
                  exact this
                · simp [M.run] at hm
              · simp [M.run] at hm
  · simp [M.run] at hm

def GoesX (C : Ctx) (G : Glob) (st : St) (o : Oper) (a : Act) (w : World) (e : Eff) : Prop :=
  ∀ (next : Act → World → Prop) (Q : Exit → Act → World → Prop), (∀ x w' σ' lim', RelX G σ' lim' ⟨setO st.env o.dst e.val, st.tbl.put e.ups⟩ (a.put o.dst x).tmps w' → next (a.put o.dst x) w') → o.wp C.P a w next Q

theorem GoesX.value {o : Oper} {s : Sem Value} {e : Eff} (hx : execOp a.eval o = (do pure (Next.value (← s)))) (h : DoesX C G st.env st.tbl a.tmps w s e) (hL : Low G ⟨setO st.env o.dst e.val, st.tbl.put e.ups⟩) (hd : ∀ d, o.dst = some d → d < a.tmps.size) : GoesX C G st o a w e := by
  intro next Q hn
  obtain ⟨x, w', σ', lim', hr, hR, hv, hk⟩ := h
  unfold Oper.wp
  rw [hx]
  simp only [bind_pure_comp, Sem.run_map, hr, Result.andThen_ok, Oper.upon_value]
  have := RelW.step (a := a) hR (Upd.quiet hR hv hk) o.dst hd
  simp only [put_nil] at this
  exact hn x w' σ' lim' ⟨this, hL⟩

theorem GoesX.unit {o : Oper} {s : Sem Unit} {e : Eff} (hx : execOp a.eval o = (do s; pure Next.skip)) (h : DoesXU C G st.env st.tbl a.tmps w s e) (hL : Low G ⟨setO st.env o.dst e.val, st.tbl.put e.ups⟩) (hd : ∀ d, o.dst = some d → d < a.tmps.size) : GoesX C G st o a w e := by
  intro next Q hn
  obtain ⟨w', σ', lim', hr, hR, hv⟩ := h
  unfold Oper.wp
  rw [hx]
  simp only [Sem.run_bind, hr, Result.andThen_ok, Sem.run_pure, Oper.upon_skip]
  have := RelW.step (a := a) hR (Upd.quiet (v := .tup []) (x := undef) hR (by simp only [RA]; exact ⟨[], rfl, by simp [RAs]⟩) (by simp [idsOf, idsOfs, Known])) o.dst hd
  simp only [put_nil] at this
  rw [← hv] at this
  exact hn undef w' σ' lim' ⟨this, hL⟩

theorem special_sound (h : RelX G σ lim st a.tmps w) {base : Nat} {o : Oper} {m : M Eff} (hs : special C base o.op ((opsOf o.op).map (opnd st.env)) = some m) {l lg : List Nat} {e : Eff}
    (hm : m.run st.tbl l = some (e, lg)) (hok : OkEff true e lg) (hd : ∀ d, o.dst = some d → d < a.tmps.size) : GoesX C G st o a w e := by
  obtain ⟨hR, hL⟩ := h
  have hL2 := hL.after (d := o.dst) hok
  obtain ⟨dst, op, type, pos, after, guard⟩ := o
  simp only at hs hd hL2
  unfold special at hs
  split at hs
  · rename_i U ord x r t i k hv
    cases hs
    simp only [opsOf, List.map_cons, List.map_nil, List.cons.injEq, and_true] at hv
    have := (opnd_ra hR x).1
    simp only at this
    rw [hv] at this
    exact GoesX.value rfl (nestLoad_does hR hL hm hok.ups this) hL2 hd
  · rename_i U ord x y r t i k z hv
    cases hs
    simp only [opsOf, List.map_cons, List.map_nil, List.cons.injEq, and_true] at hv
    have h1 := (opnd_ra hR x).1
    have h2 := (opnd_ra hR y).1
    simp only at h1 h2
    rw [hv.1] at h1
    rw [hv.2] at h2
    exact GoesX.unit rfl (nestStore_does hR hL hm hok.ups h1 h2) hL2 hd
  · rename_i U x y p q hv
    cases hb : (C.live 1).any (Nat.beq U) with
    | false => rw [hb] at hs; cases hs
    | true =>
      rw [hb] at hs
      cases hs
      simp only [opsOf, List.map_cons, List.map_nil, List.cons.injEq, and_true] at hv
      have h1 := (opnd_ra hR x).1
      have h2 := (opnd_ra hR y).1
      simp only at h1 h2
      rw [hv.1] at h1
      rw [hv.2] at h2
      exact GoesX.value rfl (nestMake_does hR hL hm hok.ups h1 h2) hL2 hd
  · cases hs

theorem actN_sound (hC : ∀ f cal, C.Φ f = some cal → Ctr C.P C.k f cal) (h : RelX G σ lim st a.tmps w) {rid i : Nat} {o : Oper} {lg : List Nat} {e : Eff}
    (hm : (actN C rid i o st.env).run st.tbl [] = some (e, lg)) (hok : okEff (spOf C rid i o st.env).isSome e lg = true) (hd : ∀ d, o.dst = some d → d < a.tmps.size) (hT : opTypes C.P o.op = true) : GoesX C G st o a w e := by
  have hok := okEff_spec hok
  cases hs : spOf C rid i o st.env with
  | some m =>
    rw [hs] at hok
    simp only [actN, hs] at hm
    exact special_sound h hs hm hok hd
  | none =>
    rw [hs] at hok
    simp only [actN, hs] at hm
    have hm2 := run_exp hm hok.log
    have hG := act_sound hC h.1 (base := baseOf rid i) hm2 hd hT
    intro next Q hn
    refine hG next Q fun x w' σ' lim' hR => hn x w' σ' lim' ?_
    exact RelX.of_put hR (fun p hp => ⟨hok.ups p hp, hok.non rfl p hp⟩) (h.2.after hok)

/-- nothing happens -/
theorem RelX.skip (h : RelX G σ lim st a.tmps w) (d : Option Nat) (hd : ∀ x, d = some x → x < a.tmps.size) : RelX G σ lim ⟨setO st.env d (.tup []), st.tbl⟩ (a.put d undef).tmps w := by
  have := RelW.step h.1 (Upd.quiet (v := .tup []) (x := undef) h.1 (by simp only [RA]; exact ⟨[], rfl, by simp [RAs]⟩) (by simp [idsOf, idsOfs, Known])) d hd
  simp only [put_nil] at this
  exact ⟨this, h.2.set (by simp [idsOf, idsOfs])⟩
end Go.Sh
