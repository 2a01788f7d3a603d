/-
  The machine, part 9: an operation.
-/
import Derived.Test.YtlbgcegonmbddaaDoorM8
set_option linter.unusedSimpArgs false
set_option linter.unusedVariables false
namespace Go.Sh
open Go
variable {C : Ctx} {G : Glob} {σ : Sig} {w : World} {lim : Nat → Nat} {st : St} {a : Act}

theorem opnd_ra (h : RelW G σ lim st a.tmps w) (x : Operand) : RA σ w lim (opnd st.env x) (a.eval x) ∧ Known st.tbl (idsOf (opnd st.env x)) := by
  cases x with
  | tmp t => exact ⟨h.env t, h.known t⟩
  | const v => exact ⟨plain_ra, known_nil⟩
  | func f => exact ⟨by simp only [opnd, RA]; rfl, known_nil⟩
  | global g => exact ⟨by simp [opnd, RA], known_nil⟩
theorem opnds_ra (h : RelW G σ lim st a.tmps w) (l : List Operand) : RAs σ w lim (l.map (opnd st.env)) (l.map a.eval) ∧ ∀ x ∈ l.map (opnd st.env), Known st.tbl (idsOf x) := by
  induction l with
  | nil => exact ⟨by simp [RAs], by simp⟩
  | cons x l ih =>
    refine ⟨by simp only [List.map_cons, RAs]; exact ⟨(opnd_ra h x).1, ih.1⟩, fun y hy => ?_⟩
    cases hy with
    | head => exact (opnd_ra h x).2
    | tail _ hy => exact ih.2 y hy

theorem v1_some {vals : List AV} {f : AV → M Eff} {tbl : Tbl} {l l' : List Nat} {e : Eff} (hm : (v1 vals f).run tbl l = some (e, l')) : ∃ x, vals = [x] ∧ (f x).run tbl l = some (e, l') := by
  unfold v1 at hm; split at hm
  · exact ⟨_, rfl, hm⟩
  · exact (M.run_fail hm).elim
theorem v2_some {vals : List AV} {f : AV → AV → M Eff} {tbl : Tbl} {l l' : List Nat} {e : Eff} (hm : (v2 vals f).run tbl l = some (e, l')) : ∃ x y, vals = [x, y] ∧ (f x y).run tbl l = some (e, l') := by
  unfold v2 at hm; split at hm
  · exact ⟨_, _, rfl, hm⟩
  · exact (M.run_fail hm).elim
theorem v3_some {vals : List AV} {f : AV → AV → AV → M Eff} {tbl : Tbl} {l l' : List Nat} {e : Eff} (hm : (v3 vals f).run tbl l = some (e, l')) : ∃ x y z, vals = [x, y, z] ∧ (f x y z).run tbl l = some (e, l') := by
  unfold v3 at hm; split at hm
  · exact ⟨_, _, _, rfl, hm⟩
  · exact (M.run_fail hm).elim

/-- where an operation goes on -/
def Goes (C : Ctx) (G : Glob) (st : St) (o : Oper) (a : Act) (w : World) (e : Eff) : Prop :=
  ∀ (next : Act → World → Prop) (Q : Exit → Act → World → Prop), (∀ x w' σ' lim', RelW G σ' lim' ⟨setO st.env o.dst e.val, st.tbl.put e.ups⟩ (a.put o.dst x).tmps w' → next (a.put o.dst x) w') → o.wp C.P a w next Q

theorem Goes.value {o : Oper} {s : Sem Value} {e : Eff} (hx : execOp a.eval o = (do pure (Next.value (← s)))) (h : Does C G st a.tmps w s e) (hd : ∀ d, o.dst = some d → d < a.tmps.size) : Goes C G st o a w e := by
  intro next Q hn
  obtain ⟨x, w', σ', lim', hr, hR, hv, hk⟩ := h
  unfold Oper.wp
  rw [hx]
  simp only [bind_pure_comp, Sem.run_map, hr, Result.andThen_ok, Oper.upon_value]
  have := RelW.step (a := a) hR (Upd.quiet hR hv hk) o.dst hd
  simp only [put_nil] at this
  exact hn x w' σ' lim' this

theorem Goes.unit {o : Oper} {s : Sem Unit} {e : Eff} (hx : execOp a.eval o = (do s; pure Next.skip)) (h : DoesU C G st a.tmps w s e) (hd : ∀ d, o.dst = some d → d < a.tmps.size) : Goes C G st o a w e := by
  intro next Q hn
  obtain ⟨w', σ', lim', hr, hR, hv⟩ := h
  unfold Oper.wp
  rw [hx]
  simp only [Sem.run_bind, hr, Result.andThen_ok, Sem.run_pure, Oper.upon_skip]
  have := RelW.step (a := a) hR (Upd.quiet (v := .tup []) (x := undef) hR (by simp only [RA]; exact ⟨[], rfl, by simp [RAs]⟩) (by simp [idsOf, idsOfs, Known])) o.dst hd
  simp only [put_nil] at this
  rw [← hv] at this
  exact hn undef w' σ' lim' this

theorem does_val (h : RelW G σ lim st a.tmps w) {x : AV} {v : Value} (hx : RA σ w lim x v) (hk : Known st.tbl (idsOf x)) : Does C G st a.tmps w (pure v) ⟨x, []⟩ :=
  ⟨v, w, σ, lim, rfl, h, hx, hk⟩

/-- what a program's types must be, for an operation -/
def opTypes (P : Program) : Op → Bool
  | .store T _ _ => (P.underlying T).isSome
  | _ => true

theorem act_sound (hC : ∀ f cal, C.Φ f = some cal → Ctr C.P C.k f cal) (h : RelW G σ lim st a.tmps w) {base : Nat} {o : Oper} {l lg : List Nat} {e : Eff}
    (hm : (act C base o.op ((opsOf o.op).map (opnd st.env))).run st.tbl l = some (e, lg)) (hd : ∀ d, o.dst = some d → d < a.tmps.size) (hT : opTypes C.P o.op = true) : Goes C G st o a w e := by
  have hres := h.res
  have hops := opnds_ra h (opsOf o.op)
  obtain ⟨dst, op, type, pos, after, guard⟩ := o
  simp only at hm hd hT hops
  cases op with
  | move x =>
    simp only [act] at hm
    obtain ⟨y, hy, hm⟩ := v1_some hm
    obtain ⟨rfl, _⟩ := M.run_ret hm
    simp only [opsOf, List.map_cons, List.map_nil, List.cons.injEq, and_true] at hy; subst hy
    obtain ⟨h1, h2⟩ := opnd_ra h x
    exact Goes.value (by simp [execOp]) (does_val h h1 h2) hd
  | assign x =>
    simp only [act] at hm
    obtain ⟨y, hy, hm⟩ := v1_some hm
    obtain ⟨rfl, _⟩ := M.run_ret hm
    simp only [opsOf, List.map_cons, List.map_nil, List.cons.injEq, and_true] at hy; subst hy
    obtain ⟨h1, h2⟩ := opnd_ra h x
    exact Goes.value (by simp [execOp]) (does_val h h1 h2) hd
  | pick c p q =>
    simp only [act] at hm
    obtain ⟨y, z, u, hy, hm⟩ := v3_some hm
    simp only [opsOf, List.map_cons, List.map_nil, List.cons.injEq, and_true] at hy; obtain ⟨rfl, rfl, rfl⟩ := hy
    obtain ⟨c1, _⟩ := opnd_ra h c
    obtain ⟨p1, p2⟩ := opnd_ra h p
    obtain ⟨q1, q2⟩ := opnd_ra h q
    obtain ⟨t, x, e1, e2, e3, e4, e5⟩ := pick_sound hm c1 p1 q1 p2 q2
    refine Goes.value (s := do pure (if ← asBool (a.eval c) then a.eval p else a.eval q)) (by simp [execOp]) (Does.quiet h ⟨x, ?_, e3, e4, e5⟩) hd
    rw [e1, e2]; cases t <;> rfl
  | alloc T => exact Goes.value rfl (alloc_does h hm) hd
  | box T x =>
    simp only [act] at hm
    obtain ⟨y, hy, hm⟩ := v1_some hm
    simp only [opsOf, List.map_cons, List.map_nil, List.cons.injEq, and_true] at hy; subst hy
    obtain ⟨h1, h2⟩ := opnd_ra h x
    exact Goes.value rfl (box_does h hm h1 h2) hd
  | build T ps =>
    simp only [opsOf, List.map_map] at hops hm
    refine Goes.value rfl (build_does h (ρ := a.eval) hm ?_ hops.2) hd
    exact hops.1
  | buildSlice T n ps =>
    simp only [opsOf, List.map_map] at hops hm
    exact Goes.value rfl (buildSlice_does h (ρ := a.eval) hm hops.1) hd
  | load T x =>
    simp only [act] at hm
    obtain ⟨y, hy, hm⟩ := v1_some hm
    simp only [opsOf, List.map_cons, List.map_nil, List.cons.injEq, and_true] at hy; subst hy
    obtain ⟨h1, h2⟩ := opnd_ra h x
    exact Goes.value rfl (Does.quiet h (load_sound hm h1 hres)) hd
  | store T x y =>
    simp only [act] at hm
    obtain ⟨p, q, hy, hm⟩ := v2_some hm
    simp only [opsOf, List.map_cons, List.map_nil, List.cons.injEq, and_true] at hy; obtain ⟨rfl, rfl⟩ := hy
    obtain ⟨h1, h2⟩ := opnd_ra h x
    obtain ⟨h3, h4⟩ := opnd_ra h y
    exact Goes.unit rfl (store_does h hm h1 h3 h4 (Option.isSome_iff_exists.1 hT)) hd
  | nilCheck x =>
    simp only [act] at hm
    obtain ⟨y, hy, hm⟩ := v1_some hm
    simp only [opsOf, List.map_cons, List.map_nil, List.cons.injEq, and_true] at hy; subst hy
    obtain ⟨h1, h2⟩ := opnd_ra h x
    obtain ⟨⟨p, e1⟩, e2, e3⟩ := nilCheck_sound hm h1
    refine Goes.value (s := pure (a.eval x)) (by simp [execOp, e1]) (Does.quiet h ⟨_, rfl, by rw [e2]; exact h1, by rw [e2]; exact h2, e3⟩) hd
  | binOp op T x y U =>
    simp only [act] at hm
    obtain ⟨p, q, hy, hm⟩ := v2_some hm
    simp only [opsOf, List.map_cons, List.map_nil, List.cons.injEq, and_true] at hy; obtain ⟨rfl, rfl⟩ := hy
    exact Goes.value rfl (Does.quiet h (bin2_sound hm (opnd_ra h x).1 (opnd_ra h y).1)) hd
  | unOp op T x =>
    simp only [act] at hm
    obtain ⟨y, hy, hm⟩ := v1_some hm
    simp only [opsOf, List.map_cons, List.map_nil, List.cons.injEq, and_true] at hy; subst hy
    exact Goes.value rfl (Does.quiet h (un_sound hm (opnd_ra h x).1)) hd
  | convert src dst' x =>
    simp only [act] at hm
    obtain ⟨y, hy, hm⟩ := v1_some hm
    simp only [opsOf, List.map_cons, List.map_nil, List.cons.injEq, and_true] at hy; subst hy
    obtain ⟨h1, h2⟩ := opnd_ra h x
    rcases convert_sound hm h1 hres with h3 | ⟨el, s, g1, g2, g3, g3', g4, g5, g6, rfl⟩ | ⟨r, t, xs, sh, el, el', rfl, g1, g2, g3, g4, g5, g6, g7, rfl⟩
    · exact Goes.value rfl (Does.quiet h h3) hd
    · refine Goes.value (s := convert src dst' (a.eval x)) rfl ?_ hd
      rw [g4]
      exact toBytes_does h g1 g2 g3 g3' g6 g5
    · refine Goes.value (s := convert src src (a.eval x)) rfl ?_ hd
      rw [g4]
      exact mark_does h g2 g3 g6 g7 (by rw [← g4]; exact g5)
  | makeSlice T x y =>
    simp only [act] at hm
    obtain ⟨p, q, hy, hm⟩ := v2_some hm
    simp only [opsOf, List.map_cons, List.map_nil, List.cons.injEq, and_true] at hy; obtain ⟨rfl, rfl⟩ := hy
    exact Goes.value rfl (make_does h hm (opnd_ra h x).1 (opnd_ra h y).1) hd
  | slice T x lo hi mx =>
    simp only [act, actSliceOp] at hm
    cases lo with
    | none =>
      cases hi with
      | none =>
        cases mx with
        | none =>
          simp only [opsOf, Option.toList, List.append_nil, List.map_cons, List.map_nil, Option.isSome_none] at hm
          exact Goes.value rfl (slice_does h hm (opnd_ra h x).1 (vlo := none) (vhi := none) trivial trivial) hd
        | some m => simp [opsOf, M.run] at hm
      | some b =>
        cases mx with
        | none =>
          simp only [opsOf, Option.toList, List.append_nil, List.nil_append, List.map_cons, List.map_nil, Option.isSome_none, Option.isSome_some] at hm
          exact Goes.value rfl (slice_does h hm (opnd_ra h x).1 (vlo := none) (vhi := some (a.eval b)) trivial (opnd_ra h b).1) hd
        | some m => simp [opsOf, M.run] at hm
    | some b =>
      cases hi with
      | none =>
        cases mx with
        | none =>
          simp only [opsOf, Option.toList, List.append_nil, List.map_cons, List.map_nil, Option.isSome_none, Option.isSome_some] at hm
          exact Goes.value rfl (slice_does h hm (opnd_ra h x).1 (vlo := some (a.eval b)) (vhi := none) (opnd_ra h b).1 trivial) hd
        | some m => simp [opsOf, M.run] at hm
      | some c =>
        cases mx with
        | none =>
          simp only [opsOf, Option.toList, List.append_nil, List.cons_append, List.nil_append, List.map_cons, List.map_nil, Option.isSome_none, Option.isSome_some] at hm
          exact Goes.value rfl (slice_does h hm (opnd_ra h x).1 (vlo := some (a.eval b)) (vhi := some (a.eval c)) (opnd_ra h b).1 (opnd_ra h c).1) hd
        | some m => simp [opsOf, M.run] at hm
  | fieldAddr T x f =>
    simp only [act] at hm
    obtain ⟨y, hy, hm⟩ := v1_some hm
    simp only [opsOf, List.map_cons, List.map_nil, List.cons.injEq, and_true] at hy; subst hy
    exact Goes.value rfl (Does.quiet h (fieldAddr_sound hm (opnd_ra h x).1 (opnd_ra h x).2)) hd
  | indexAddr T x y =>
    simp only [act] at hm
    obtain ⟨p, q, hy, hm⟩ := v2_some hm
    simp only [opsOf, List.map_cons, List.map_nil, List.cons.injEq, and_true] at hy; obtain ⟨rfl, rfl⟩ := hy
    exact Goes.value rfl (Does.quiet h (indexAddr_sound hm (opnd_ra h x).1 (opnd_ra h y).1 (opnd_ra h x).2 hres)) hd
  | index T x y =>
    simp only [act] at hm
    obtain ⟨p, q, hy, hm⟩ := v2_some hm
    simp only [opsOf, List.map_cons, List.map_nil, List.cons.injEq, and_true] at hy; obtain ⟨rfl, rfl⟩ := hy
    exact Goes.value rfl (Does.quiet h (index_sound hm (opnd_ra h x).1 (opnd_ra h y).1)) hd
  | extract x i =>
    simp only [act] at hm
    obtain ⟨y, hy, hm⟩ := v1_some hm
    simp only [opsOf, List.map_cons, List.map_nil, List.cons.injEq, and_true] at hy; subst hy
    exact Goes.value rfl (Does.quiet h (extract_sound hm (opnd_ra h x).1 (opnd_ra h x).2)) hd
  | call c =>
    replace hm : (actCallee C base c ((opsOf (.call c)).map (opnd st.env))).run st.tbl l = some (e, lg) := hm
    obtain ⟨callee, args, argTypes⟩ := c
    cases callee with
    | invoke r n => exact (M.run_fail (show M.run st.tbl .fail l = some (e, lg) from hm)).elim
    | builtin b =>
      replace hm : (actBuiltin C base b argTypes (args.toList.map (opnd st.env))).run st.tbl l = some (e, lg) := hm
      have hargs := opnds_ra h args.toList
      obtain ⟨L, rfl⟩ : ∃ L : List Operand, args = L.toArray := ⟨args.toList, by simp⟩
      simp only [List.toList_toArray] at hm hargs
      cases b with
      | len =>
        match L, hm with
        | [x], hm =>
          have h1 := opnd_ra h x
          obtain ⟨v, e1, e2⟩ := len_sound (ty := type) hm h1.1 hres
          exact Goes.value (s := Builtin.len_ argTypes type #[a.eval x]) (by simp [execOp, resolve, invoke, builtin]) (Does.quiet h ⟨v, e1, e2⟩) hd
        | [], hm => exact (M.run_fail (show M.run st.tbl .fail l = some (e, lg) from hm)).elim
        | _ :: _ :: _, hm => exact (M.run_fail (show M.run st.tbl .fail l = some (e, lg) from hm)).elim
      | append =>
        match L, hm with
        | [x, y], hm =>
          exact Goes.value (s := Builtin.append_ argTypes type #[a.eval x, a.eval y]) (by simp [execOp, resolve, invoke, builtin]) (append_does h hm (opnd_ra h x).1 (opnd_ra h y).1) hd
        | [], hm => exact (M.run_fail (show M.run st.tbl .fail l = some (e, lg) from hm)).elim
        | [_], hm => exact (M.run_fail (show M.run st.tbl .fail l = some (e, lg) from hm)).elim
        | _ :: _ :: _ :: _, hm => exact (M.run_fail (show M.run st.tbl .fail l = some (e, lg) from hm)).elim
      | max =>
        have hb := hargs.1
        simp only [actBuiltin] at hm
        split at hm <;> first | contradiction | skip
        · rename_i k n k' n' heq
          obtain ⟨hk, hm2⟩ := M.run_guard hm
          obtain rfl := of_decide_eq_true hk
          obtain ⟨rfl, _⟩ := M.run_ret hm2
          match L, heq, hb with
          | [], heq, _ => exact (by simp at heq)
          | [_], heq, _ => exact (by simp at heq)
          | _ :: _ :: _ :: _, heq, _ => exact (by simp at heq)
          | [x, y], heq, hb =>
            simp only [List.map_cons, List.map_nil, List.cons.injEq, and_true] at heq
            obtain ⟨h1, h2⟩ := heq
            have h3 := (opnd_ra h x).1
            have h4 := (opnd_ra h y).1
            rw [h1] at h3; rw [h2] at h4
            simp only [RA, RP] at h3 h4
            exact Goes.value (s := Builtin.max_ argTypes type #[a.eval x, a.eval y]) (by simp [execOp, resolve, invoke, builtin]) (Does.quiet h ⟨_, by simp [Builtin.max_, h3, h4, Builtin.max2], plain_ra, known_nil, rfl⟩) hd
        all_goals exact (M.run_fail hm).elim
      | min =>
        have hb := hargs.1
        simp only [actBuiltin] at hm
        split at hm <;> first | contradiction | skip
        · rename_i k n k' n' heq
          obtain ⟨hk, hm2⟩ := M.run_guard hm
          obtain rfl := of_decide_eq_true hk
          obtain ⟨rfl, _⟩ := M.run_ret hm2
          match L, heq, hb with
          | [], heq, _ => exact (by simp at heq)
          | [_], heq, _ => exact (by simp at heq)
          | _ :: _ :: _ :: _, heq, _ => exact (by simp at heq)
          | [x, y], heq, hb =>
            simp only [List.map_cons, List.map_nil, List.cons.injEq, and_true] at heq
            obtain ⟨h1, h2⟩ := heq
            have h3 := (opnd_ra h x).1
            have h4 := (opnd_ra h y).1
            rw [h1] at h3; rw [h2] at h4
            simp only [RA, RP] at h3 h4
            exact Goes.value (s := Builtin.min_ argTypes type #[a.eval x, a.eval y]) (by simp [execOp, resolve, invoke, builtin]) (Does.quiet h ⟨_, by simp [Builtin.min_, h3, h4, Builtin.min2], plain_ra, known_nil, rfl⟩) hd
        all_goals exact (M.run_fail hm).elim
      | _ =>
        match L, hm with
        | [], hm => exact (M.run_fail (show M.run st.tbl .fail l = some (e, lg) from hm)).elim
        | [_], hm => exact (M.run_fail (show M.run st.tbl .fail l = some (e, lg) from hm)).elim
        | [_, _], hm => exact (M.run_fail (show M.run st.tbl .fail l = some (e, lg) from hm)).elim
        | _ :: _ :: _ :: _, hm => exact (M.run_fail (show M.run st.tbl .fail l = some (e, lg) from hm)).elim
    | value f =>
      simp only [actCallee, opsOf, List.map_cons] at hm
      split at hm
      · rename_i g as heq
        simp only [List.cons.injEq] at heq
        obtain ⟨hf, rfl⟩ := heq
        have hfv := (opnd_ra h f).1
        rw [hf] at hfv
        simp only [RA] at hfv
        have hargs := opnds_ra h args.toList
        obtain ⟨⟨fn, e1, e2, e3⟩, hcalls⟩ := call_sound hC h hm hargs.1 hargs.2
        intro next Q hn
        unfold Oper.wp
        have hx : (execOp a.eval { dst := dst, op := .call { callee := .value f, args := args, argTypes := argTypes }, type := type, pos := pos, after := after, guard := guard }).run C.P w = .ok (.enter g (args.toList.map a.eval).toArray) w := by
          have hmap : Array.map a.eval args = (args.toList.map a.eval).toArray := by apply Array.ext'; simp
          have e2' : ¬ fn.name = "runtime.NumGoroutine" := by simpa using e2
          have e3' : ¬ fn.body = none := by intro h0; rw [h0] at e3; cases e3
          simp [execOp, resolve, hfv, Deferred.ofValue, invoke, callFunc, e1, hmap]
          rw [if_neg e2', if_neg e3']
        rw [hx, Oper.upon_enter]
        refine hcalls.mono ?_
        rintro en w' ⟨v, σ', lim', rfl, hR, hv, hk⟩
        simp only
        have := RelW.step (a := a) hR (Upd.quiet hR hv hk) dst hd
        simp only [put_nil] at this
        exact hn v w' σ' lim' this
      · exact (M.run_fail hm).elim
  | _ => exact (M.run_fail hm).elim
end Go.Sh
