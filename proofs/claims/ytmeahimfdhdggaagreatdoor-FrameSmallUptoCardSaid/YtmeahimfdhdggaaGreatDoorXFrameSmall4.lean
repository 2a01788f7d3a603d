/-
  What the row needs, part 4.
-/
import Derived.Test.YtmeahimfdhdggaaGreatDoorXFrameSmall3
import Derived.Scope
import Derived.LoopN
set_option linter.unusedSimpArgs false
set_option linter.unusedVariables false
set_option linter.unusedSectionVars false
namespace Go.Sh
open Go
variable [Gl]
variable {C : Ctx} {G : Glob} {σ : Sig} {w : World} {lim : Nat → Nat} {st : St} {a : Act}
def Ex.out : Ex → Exit
  | .normal => .normal
  | .exit i => .exit i
  | .ret => .ret
def fitsC (P : Program) (n : Nat) : Code → Bool
  | .region _ ops _ => fitsR P n ops.toList
  | .seq a b => fitsC P n a && fitsC P n b
  | .cond _ a b => fitsC P n a && fitsC P n b
  | .block _ c => fitsC P n c
  | .loop c => fitsC P n c
  | .scope c => fitsC P n c
  | _ => true
def Stands (G : Glob) (n : Nat) (st : St) (a : Act) (w : World) : Prop := ∃ σ lim, RelX G σ lim st a.tmps w ∧ a.tmps.size = n ∧ a.defers = []
theorem cond_ok {n : Nat} (h : Stands G n st a w) {c : Operand} {t : Bool} (hc : opnd st.env c = .val (.v (.bool t))) : a.eval c = .bool t := by
  obtain ⟨σ, lim, h, _, _⟩ := h
  have := (opnd_ra h.1 c).1
  rw [hc] at this
  simpa only [RA, RP] using this
theorem melt1_sound {n : Nat} (h : Stands G n st a w) {q : Nat} (hq : q < hidB) : Stands G n (melt1 st q) a w := by
  obtain ⟨σ, lim, h, h2, h3⟩ := h
  unfold melt1
  split
  · rename_i t xss hT
    obtain ⟨lim', h4⟩ := RelW.melt h.1 h.2 hq hT
    exact ⟨σ, lim', h4, h2, h3⟩
  · exact ⟨σ, lim, h, h2, h3⟩
theorem meltAt_sound {n : Nat} (h : Stands G n st a w) (id : Nat) : Stands G n (meltAt C id st) a w := by
  have hL : Low G st := by obtain ⟨_, _, ⟨_, hL⟩, _, _⟩ := h; exact hL
  unfold meltAt
  split
  · split
    · rename_i s _ _ q hs
      exact melt1_sound h (hL.env s q (by rw [hs]; simp [idsOf]))
    · exact h
  · split
    · rename_i s k _ _ r hs
      unfold meltB
      split
      · rename_i cs hr
        split
        · rename_i q hq
          exact melt1_sound h (hL.box r cs hr q (idsOfs_mem (List.mem_of_getElem? hq) (by simp [idsOf])))
        · exact h
      · exact h
    · exact h
  · exact h
theorem exec_sound (hC : ∀ f cal, C.Φ f = some cal → Ctr C.P C.k f cal) (hm : C.P.follows .mixedOrders = true) {A : Nat → Ann} {kp : List Nat} (hk : ∀ p ∈ G.pins, p.1 ∈ kp) {n : Nat} {R : Type} {r : R} :
    (c : Code) → {st : St} → {K : Ex → St → Option R} → exec C A kp c st K = some r → fitsC C.P n c = true → {a : Act} → {w : World} → Stands G n st a w → {Q : Exit → Act → World → Prop} →
    (∀ e st' a' w', K e st' = some r → Stands G n st' a' w' → Q e.out a' w') → c.wp C.P Q a w
  | .skip, st, K, h, hf, a, w, hs, Q, hQ => wp_skip (hQ .normal st a w h hs)
  | .label _, st, K, h, hf, a, w, hs, Q, hQ => wp_label (hQ .normal st a w h hs)
  | .ret, st, K, h, hf, a, w, hs, Q, hQ => wp_ret (hQ .ret st a w h hs)
  | .exit i, st, K, h, hf, a, w, hs, Q, hQ => wp_exit (hQ (.exit i) st a w h hs)
  | .region id ops d, st, K, h, hf, a, w, hs, Q, hQ => by
    simp only [exec] at h
    simp only [fitsC] at hf
    obtain ⟨σ, lim, hR, hn, hd⟩ := meltAt_sound (C := C) hs id
    have hb : ∃ stf lgs, opsB C id ops.toList ops.toList 0 (meltAt C id st) = some (stf, lgs) ∧ (d = true → indepAll ops.toList (masks ops.toList []) lgs = true) ∧ K .normal stf = some r := by
      cases d with
      | false =>
        simp only [cond_false, opsK_eq] at h
        cases ho : opsB C id ops.toList ops.toList 0 (meltAt C id st) with
        | none => rw [ho] at h; simp at h
        | some x => rw [ho] at h; exact ⟨x.1, x.2, rfl, by simp, h⟩
      | true =>
        simp only [cond_true, drawnK_eq, List.nil_append] at h
        cases ho : opsB C id ops.toList ops.toList 0 (meltAt C id st) with
        | none => rw [ho] at h; simp at h
        | some x =>
          rw [ho] at h
          simp only [Option.bind_some] at h
          cases hi : indepAll ops.toList (masks ops.toList []) x.2 with
          | false => rw [hi] at h; simp at h
          | true => rw [hi] at h; exact ⟨x.1, x.2, rfl, fun _ => hi, h⟩
    obtain ⟨stf, lgs, h1, h2, h3⟩ := hb
    exact region_sound hC hm hf hR hn hd h1 h2 fun a' w' σ' lim' hR' hn' hd' => hQ .normal stf a' w' h3 ⟨σ', lim', hR', hn', hd'⟩
  | .seq x y, st, K, h, hf, a, w, hs, Q, hQ => by
    simp only [exec] at h
    simp only [fitsC, Bool.and_eq_true] at hf
    refine wp_seq (exec_sound hC hm hk x h hf.1 hs fun e st' a' w' hK hs' => ?_)
    cases e with
    | normal => exact exec_sound hC hm hk y hK hf.2 hs' hQ
    | exit i => exact hQ (.exit i) st' a' w' hK hs'
    | ret => exact hQ .ret st' a' w' hK hs'
  | .cond c x y, st, K, h, hf, a, w, hs, Q, hQ => by
    simp only [exec] at h
    simp only [fitsC, Bool.and_eq_true] at hf
    split at h
    · rename_i t hc
      have e1 := cond_ok hs hc
      cases t with
      | true =>
        refine wp_cond_true e1 (exec_sound hC hm (A := A) hk x (K := K) ?_ hf.1 hs hQ)
        cases c with
        | tmp d => simp only [opnd] at hc; simpa only [cond_true, setE_same hc] using h
        | _ => exact h
      | false =>
        refine wp_cond_false e1 (exec_sound hC hm (A := A) hk y (K := K) ?_ hf.2 hs hQ)
        cases c with
        | tmp d => simp only [opnd] at hc; simpa only [cond_false, setE_same hc] using h
        | _ => exact h
    · simp at h
  | .block id c, st, K, h, hf, a, w, hs, Q, hQ => by
    simp only [exec] at h
    simp only [fitsC] at hf
    refine wp_block (exec_sound hC hm hk c h hf hs fun e st' a' w' hK hs' => ?_)
    cases e with
    | normal => exact hQ .normal st' a' w' hK hs'
    | ret => exact hQ .ret st' a' w' hK hs'
    | exit i =>
      simp only [blockK] at hK
      simp only [Ex.out, Exit.inBlock]
      cases hb : Nat.beq i id with
      | true => rw [hb] at hK; rw [if_pos (beq_eq hb)]; exact hQ .normal st' a' w' hK hs'
      | false =>
        rw [hb] at hK
        rw [if_neg (by rintro rfl; rw [beq_self] at hb; cases hb)]
        exact hQ (.exit i) st' a' w' hK hs'
  | .loop c, st, K, h, hf, a, w, hs, Q, hQ => by
    simp only [exec] at h
    simp only [fitsC] at hf
    have key : ∀ (m : Nat) (st : St) (a : Act) (w : World), loopK (exec C A kp c) (norm kp (A (firstRegion c))) m st K = some r → Stands G n st a w → Code.rounds C.P c Q m a w := by
      intro m
      induction m with
      | zero => intro st a w h; simp [loopK] at h
      | succ m ih =>
        intro st a w h hs
        rw [rounds_succ]
        simp only [loopK] at h
        refine exec_sound hC hm hk c h hf hs fun e st' a' w' hK hs' => ?_
        cases e with
        | ret => exact hQ .ret st' a' w' hK hs'
        | exit i => exact hQ (.exit i) st' a' w' hK hs'
        | normal =>
          cases hn : norm kp (A (firstRegion c)) st' with
          | none => rw [hn] at hK; simp at hK
          | some s =>
            rw [hn] at hK
            obtain ⟨σ, lim, hR, q1, q2⟩ := hs'
            obtain ⟨σ2, lim2, hR2⟩ := norm_sound hR hk hn
            exact ih s a' w' hK ⟨σ2, lim2, hR2, q1, q2⟩
    cases hn : norm kp (A (firstRegion c)) st with
    | none => rw [hn] at h; simp at h
    | some s =>
      rw [hn] at h
      obtain ⟨σ, lim, hR, q1, q2⟩ := hs
      obtain ⟨σ2, lim2, hR2⟩ := norm_sound hR hk hn
      exact wp_loop_rounds C.k (key C.k s a w h ⟨σ2, lim2, hR2, q1, q2⟩)
  | .scope c, st, K, h, hf, a, w, hs, Q, hQ => by
    simp only [exec] at h
    simp only [fitsC] at hf
    refine wp_scope_straight (exec_sound hC hm hk c h hf hs fun e st' a' w' hK hs' => ?_)
    cases e <;> exact hQ _ st' a' w' hK hs'
  | .rangeFunc _ _ _ _, st, K, h, hf, a, w, hs, Q, hQ => by simp [exec] at h
  | .goto _, st, K, h, hf, a, w, hs, Q, hQ => by simp [exec] at h
end Go.Sh
namespace Go.Sh
open Go
variable [Gl]
variable {C : Ctx} {G : Glob} {σ : Sig} {w : World} {lim : Nat → Nat} {st : St} {tmps : Array Value}
theorem loadVar_of {P : Program} {T : TypeId} {v x : Value} (h : (Instr.loadAt T v).run P w = .ok x w) : (asAddr v >>= fun p => loadVar T p : Sem Value).run P w = .ok x w := by
  unfold Instr.loadAt at h
  unfold Instr.sureAddr at h
  split at h
  · simpa [asAddr] using h
  · simp [stuck, Sem.run_bind] at h
def resultOf (tmps : Array Value) : ResultVar → Sem Value
  | .tmp t => pure (tmps.getD t undef)
  | .cell a t => do loadVar t (← asAddr (tmps.getD a undef))
theorem resultAV_sound (h : RelW G σ lim st tmps w) {r : ResultVar} {l l' : List Nat} {x : AV} (hm : (resultAV C st r).run st.tbl l = some (x, l')) :
    ∃ v, (resultOf tmps r).run C.P w = .ok v w ∧ RA σ w lim x v ∧ Known st.tbl (idsOf x) := by
  cases r with
  | tmp t =>
    obtain ⟨rfl, _⟩ := M.run_ret hm
    exact ⟨_, rfl, h.env t, h.known t⟩
  | cell a T =>
    simp only [resultAV] at hm
    obtain ⟨e, l1, h1, h2⟩ := M.run_bind_some hm
    obtain ⟨rfl, _⟩ := M.run_ret h2
    obtain ⟨v, e1, e2, e3, e4⟩ := load_sound h1 (h.env a) h.res
    exact ⟨v, loadVar_of e1, e2, e3⟩
theorem resultAVs_sound (h : RelW G σ lim st tmps w) : (rs : List ResultVar) → {l l' : List Nat} → {xs : List AV} → (resultAVs C st rs).run st.tbl l = some (xs, l') →
    ∃ vs, (rs.mapM (resultOf tmps)).run C.P w = .ok vs w ∧ RAs σ w lim xs vs ∧ Known st.tbl (idsOfs xs)
  | [], l, l', xs, hm => by
    obtain ⟨rfl, _⟩ := M.run_ret hm
    exact ⟨[], rfl, by simp [RAs], by simp [idsOfs, Known]⟩
  | r :: rs, l, l', xs, hm => by
    simp only [resultAVs] at hm
    obtain ⟨x, l1, h1, h2⟩ := M.run_bind_some hm
    obtain ⟨ys, l2, h3, h4⟩ := M.run_bind_some h2
    obtain ⟨rfl, _⟩ := M.run_ret h4
    obtain ⟨v, e1, e2, e3⟩ := resultAV_sound h h1
    obtain ⟨vs, f1, f2, f3⟩ := resultAVs_sound h rs h3
    refine ⟨v :: vs, ?_, by simp only [RAs]; exact ⟨e2, f2⟩, ?_⟩
    · simp [List.mapM_cons, Sem.run_bind, e1, f1]
    · intro i hi; simp only [idsOfs, List.mem_append] at hi; rcases hi with hi | hi; exact e3 i hi; exact f3 i hi
theorem resultAVs_env {st st2 : St} (he : st2.env = st.env) : ∀ (rs : List ResultVar), resultAVs C st rs = resultAVs C st2 rs
  | [] => rfl
  | r :: rs => by
    have h1 : resultAV C st r = resultAV C st2 r := by cases r <;> simp only [resultAV, he]
    simp only [resultAVs, h1, resultAVs_env he rs]
theorem results_sound (h : RelW G σ lim st tmps w) {fn : Func} {l l' : List Nat} {xs : List AV} (hm : (resultAVs C st fn.results.toList).run st.tbl l = some (xs, l')) :
    ∃ v, (results fn tmps).run C.P w = .ok v w ∧ RA σ w lim (match (generalizing := false) xs with | [a] => a | as => .tup as) v := by
  obtain ⟨vs, e1, e2, e3⟩ := resultAVs_sound h _ hm
  have e0 : results fn tmps = (do let vs ← fn.results.mapM (resultOf tmps); pure (if h : vs.size = 1 then vs[0] else .tuple vs)) := by
    unfold results
    congr 1
  rw [e0, Array.mapM_eq_mapM_toList]
  match xs, vs, e2 with
  | [x], [v], e2 =>
    refine ⟨v, ?_, by simpa [RAs] using e2⟩
    simp [Sem.run_bind, Sem.run_map, e1]
  | [], [], e2 =>
    refine ⟨.tuple #[], ?_, by simp only [RA]; exact ⟨[], rfl, by simp [RAs]⟩⟩
    simp [Sem.run_bind, Sem.run_map, e1]
  | x :: y :: xs, v :: u :: vs, e2 =>
    refine ⟨.tuple (v :: u :: vs).toArray, ?_, by simp only [RA]; exact ⟨_, rfl, e2⟩⟩
    simp [Sem.run_bind, Sem.run_map, e1]
  | [], _ :: _, e2 => simp [RAs] at e2
  | _ :: _, [], e2 => simp [RAs] at e2
  | [_], _ :: _ :: _, e2 => simp [RAs] at e2
  | _ :: _ :: _, [_], e2 => simp [RAs] at e2
def lentV : List Kd → List Value → List Value
  | .box _ :: l, a :: as => a :: lentV l as
  | .bld _ :: l, a :: as => a :: lentV l as
  | _ :: l, _ :: as => lentV l as
  | _, _ => []
def pinsOf : List AV → List Value → List (Nat × Value)
  | .bx r _ :: l, v :: vs => (r, v) :: pinsOf l vs
  | _ :: l, _ :: vs => pinsOf l vs
  | _, _ => []
theorem pins_in : (as : List AV) → (vs : List Value) → ∀ p ∈ pinsOf as vs, p.1 ∈ lentNums as
  | [], vs, p, hp => by cases vs <;> simp [pinsOf] at hp
  | x :: as, [], p, hp => by cases x <;> simp [pinsOf] at hp
  | x :: as, v :: vs, p, hp => by
    cases x with
    | bx r k =>
      simp only [pinsOf, List.mem_cons] at hp
      simp only [lentNums, List.mem_cons]
      rcases hp with rfl | hp
      · exact .inl rfl
      · exact .inr (pins_in as vs p hp)
    | _ => simp only [pinsOf] at hp; simp only [lentNums]; exact pins_in as vs p hp
theorem lent_ra : (pk : List Kd) → {as : List AV} → {vs : List Value} → RAs σ w lim as vs → RAs σ w lim (lentA pk as) (lentV pk vs)
  | [], as, vs, h => by cases as <;> cases vs <;> simp [lentA, lentV, RAs]
  | k :: pk, as, vs, h => by
    match as, vs, h with
    | [], [], h => cases k <;> simp [lentA, lentV, RAs]
    | x :: as, v :: vs, h =>
      simp only [RAs] at h
      have ih := lent_ra pk h.2
      cases k <;> simp only [lentA, lentV, RAs] <;> first | exact ih | exact ⟨h.1, ih⟩
    | [], _ :: _, h => simp [RAs] at h
    | _ :: _, [], h => simp [RAs] at h
def boxes (as : List AV) : Bool := as.all fun | .bx _ 0 => true | _ => false
theorem pin_ra {as : List AV} {vs : List Value} (hb : boxes as = true) (h : RAs σ w lim as vs) : ∀ p ∈ pinsOf as vs, σ p.1 = p.2 := by
  induction as generalizing vs with
  | nil => intro p hp; cases vs <;> simp [pinsOf] at hp
  | cons x as ih =>
    cases vs with
    | nil => simp [RAs] at h
    | cons v vs =>
      simp only [RAs] at h
      simp only [boxes, List.all_cons, Bool.and_eq_true] at hb
      intro p hp
      obtain ⟨hb1, hb2⟩ := hb
      split at hb1
      · rename_i r
        simp only [pinsOf, List.mem_cons] at hp
        rcases hp with rfl | hp
        · have := h.1
          simp only [RA] at this
          obtain ⟨b, e1, e2⟩ := this
          rw [e1, e2]
        · exact ih hb2 h.2 p hp
      · cases hb1
theorem ra_of_pins {σ' : Sig} {w' : World} {lim' : Nat → Nat} {as : List AV} {vs : List Value} (hb : boxes as = true) (h : RAs σ w lim as vs) (hp : ∀ p ∈ pinsOf as vs, σ' p.1 = p.2) : RAs σ' w' lim' as vs := by
  induction as generalizing vs with
  | nil => cases vs <;> simp [RAs] at h ⊢
  | cons x as ih =>
    cases vs with
    | nil => simp [RAs] at h
    | cons v vs =>
      simp only [RAs] at h ⊢
      simp only [boxes, List.all_cons, Bool.and_eq_true] at hb
      obtain ⟨hb1, hb2⟩ := hb
      split at hb1
      · rename_i r
        simp only [pinsOf, List.mem_cons] at hp
        refine ⟨?_, ih hb2 h.2 fun p hm => hp p (.inr hm)⟩
        have h1 := h.1
        simp only [RA] at h1 ⊢
        obtain ⟨b, e1, e2⟩ := h1
        exact ⟨b, by rw [hp (r, v) (.inl rfl)]; exact e2, e2⟩
      · cases hb1
theorem tl_of : (pk : List Kd) → {vs : List Value} → {rs : List RV} → {bs : List Nat} → vs.length = pk.length → TTs w lim rs (lentV pk vs) bs → TL w lim pk vs rs bs
  | [], [], rs, bs, _, h => by
    simp only [lentV] at h
    cases rs with
    | nil => simpa [TL, TTs] using h
    | cons _ _ => simp [TTs] at h
  | k :: pk, v :: vs, rs, bs, hl, h => by
    have hl' : vs.length = pk.length := by simpa using hl
    cases k with
    | box l =>
      simp only [lentV] at h
      cases rs with
      | nil => simp [TTs] at h
      | cons x rs =>
        simp only [TTs] at h
        simp only [TL]
        obtain ⟨b1, b2, e, h1, h2⟩ := h
        exact ⟨b1, b2, e, h1, tl_of pk hl' h2⟩
    | bld T =>
      simp only [lentV] at h
      cases rs with
      | nil => simp [TTs] at h
      | cons x rs =>
        simp only [TTs] at h
        simp only [TL]
        obtain ⟨b1, b2, e, h1, h2⟩ := h
        exact ⟨b1, b2, e, h1, tl_of pk hl' h2⟩
    | _ => simp only [lentV] at h; simp only [TL]; exact tl_of pk hl' h
  | [], _ :: _, rs, bs, hl, _ => by simp at hl
  | _ :: _, [], rs, bs, hl, _ => by simp at hl
theorem tblOf_put : ∀ (u : Ups), tblOf u = Tbl.put (fun _ => .fresh) u
  | [] => rfl
  | (a, x) :: u => by
    funext r
    simp only [tblOf, Tbl.put, look, tblOf_put u]
    rw [show Nat.beq a r = Nat.beq r a from by
      cases h : Nat.beq r a with
      | true => rw [beq_eq h]; exact beq_self _
      | false => exact beq_ne fun e => by rw [e, beq_self] at h; cases h]
    cases Nat.beq r a <;> rfl
theorem envOf_index : ∀ (as : List AV) (i s : Nat), envOf (index i as) s = .dead ∨ ∃ j, s = i + j ∧ as[j]? = some (envOf (index i as) s)
  | [], i, s => .inl rfl
  | x :: as, i, s => by
    simp only [index, envOf]
    cases h : Nat.beq s i with
    | true => exact .inr ⟨0, by simpa using beq_eq h, rfl⟩
    | false =>
      simp only [cond_false]
      rcases envOf_index as (i + 1) s with h | ⟨j, h1, h2⟩
      · exact .inl h
      · exact .inr ⟨j + 1, by omega, by simpa using h2⟩
theorem idsOfs_at {as : List AV} {j : Nat} {x : AV} (h : as[j]? = some x) : ∀ r ∈ idsOf x, r ∈ idsOfs as := by
  induction as generalizing j with
  | nil => simp at h
  | cons y as ih =>
    intro r hr
    simp only [idsOfs, List.mem_append]
    cases j with
    | zero => simp at h; subst h; exact .inl hr
    | succ j => exact .inr (ih (by simpa using h) r hr)
theorem RAs_length {as : List AV} {vs : List Value} (h : RAs σ w lim as vs) : as.length = vs.length := by
  induction as generalizing vs with
  | nil => cases vs <;> simp [RAs] at h ⊢
  | cons x as ih =>
    cases vs with
    | nil => simp [RAs] at h
    | cons v vs => simp only [RAs] at h; simp [ih h.2]
theorem puts_length : (xs : List RV) → (n : Nat) → (puts n xs).1.length = xs.length
  | [], n => rfl
  | x :: xs, n => by simp only [puts, List.length_cons, puts_length xs]
theorem lent_known : (pk : List Kd) → (as : List AV) → ∀ r ∈ lentNums (lentA pk as), r ∈ idsOfs as
  | [], as, r, hr => by cases as <;> simp [lentA, lentNums] at hr
  | k :: pk, [], r, hr => by cases k <;> simp [lentA, lentNums] at hr
  | k :: pk, x :: as, r, hr => by
    simp only [idsOfs, List.mem_append]
    cases k with
    | box l =>
      simp only [lentA] at hr
      cases x with
      | bx b j =>
        simp only [lentNums, List.mem_cons] at hr
        rcases hr with rfl | hr
        · exact .inl (by simp [idsOf])
        · exact .inr (lent_known pk as r hr)
      | _ => simp only [lentNums] at hr; exact .inr (lent_known pk as r hr)
    | bld T =>
      simp only [lentA] at hr
      cases x with
      | bx b j =>
        simp only [lentNums, List.mem_cons] at hr
        rcases hr with rfl | hr
        · exact .inl (by simp [idsOf])
        · exact .inr (lent_known pk as r hr)
      | _ => simp only [lentNums] at hr; exact .inr (lent_known pk as r hr)
    | _ => simp only [lentA] at hr; exact .inr (lent_known pk as r hr)
mutual
theorem put_low : (x : RV) → (n : Nat) → (∀ r ∈ idsOf (put n x).1, r < (put n x).2.2) ∧ ∀ p ∈ (put n x).2.1, p.1 < (put n x).2.2 ∧ noNest p.2 = true ∧ ∀ cs, p.2 = .live (.box cs) → ∀ q ∈ idsOfs cs, q < (put n x).2.2
  | .view t x, n => by simp only [put]; rw [avOf_ids]; simp
  | .own t sh xs, n => by simp [put, idsOf, noNest]
  | .box cs, n => by
    obtain ⟨h1, h2⟩ := puts_low cs (n + 1)
    have hle := puts_le cs (n + 1)
    simp only [put]
    refine ⟨by intro r hr; simp [idsOf] at hr; omega, fun p hp => ?_⟩
    cases hp with
    | head => exact ⟨by simp only; omega, rfl, fun ds hd => by simp only [RS.live.injEq, Res.box.injEq] at hd; subst hd; exact h1⟩
    | tail _ hp => exact h2 p hp
  | .agg cs, n => by
    obtain ⟨h1, h2⟩ := puts_low cs n
    simp only [put]
    exact ⟨by simpa [idsOf] using h1, h2⟩
  | .tup cs, n => by
    obtain ⟨h1, h2⟩ := puts_low cs n
    simp only [put]
    exact ⟨by simpa [idsOf] using h1, h2⟩
  | .fn f, n => by simp [put, idsOf]
  | .ns t xs, n => by simp [put, idsOf]
  | .clo f cs, n => by
    obtain ⟨h1, h2⟩ := puts_low cs n
    simp only [put]
    exact ⟨by simpa [idsOf] using h1, h2⟩
  | .bld T xs, n => by
    simp only [put]
    refine ⟨by intro r hr; simp [idsOf] at hr; omega, fun p hp => ?_⟩
    simp only [List.mem_cons, List.not_mem_nil, or_false] at hp
    rcases hp with rfl | rfl
    · refine ⟨by simp only; omega, rfl, fun cs hc q hq => ?_⟩
      simp only [RS.live.injEq, Res.box.injEq] at hc
      subst hc
      simp [idsOfs, idsOf] at hq
      omega
    · exact ⟨by simp only; omega, rfl, fun cs hc => by cases hc⟩
theorem puts_low : (xs : List RV) → (n : Nat) → (∀ r ∈ idsOfs (puts n xs).1, r < (puts n xs).2.2) ∧ ∀ p ∈ (puts n xs).2.1, p.1 < (puts n xs).2.2 ∧ noNest p.2 = true ∧ ∀ cs, p.2 = .live (.box cs) → ∀ q ∈ idsOfs cs, q < (puts n xs).2.2
  | [], n => by simp [puts, idsOfs]
  | x :: xs, n => by
    obtain ⟨h1, h2⟩ := put_low x n
    obtain ⟨h3, h4⟩ := puts_low xs (put n x).2.2
    have hle := puts_le xs (put n x).2.2
    simp only [puts]
    refine ⟨fun r hr => ?_, fun p hp => ?_⟩
    · simp only [idsOfs, List.mem_append] at hr
      rcases hr with hr | hr
      · have := h1 r hr; omega
      · exact h3 r hr
    · rcases List.mem_append.1 hp with hp | hp
      · exact h4 p hp
      · obtain ⟨a, b, c⟩ := h2 p hp
        exact ⟨by omega, b, fun cs hc q hq => by have := c cs hc q hq; omega⟩
end
theorem exp_fresh : exp (fun _ => .fresh) = fun _ => .fresh := by
  funext n
  simp only [exp, expI, ite_self]
theorem enterX {avs : List AV} {u : Ups} (h : RelW G σ lim (enter avs u) tmps w) (hu : ∀ p ∈ u, p.1 < hidB ∧ noNest p.2 = true ∧ ∀ cs, p.2 = .live (.box cs) → ∀ q ∈ idsOfs cs, q < hidB)
    (hids : ∀ r ∈ idsOfs avs, r < hidB) (hp : ∀ p ∈ G.pins, p.1 < hidB) : RelX G σ lim (enter avs u) tmps w := by
  have e : tblOf u = Tbl.put (fun _ => .fresh) u := tblOf_put u
  unfold enter at h ⊢
  rw [e] at h ⊢
  refine RelX.of_put (T := fun _ => .fresh) (by rw [exp_fresh]; exact h) (fun p hp => ⟨(hu p hp).1, (hu p hp).2.1⟩) ⟨fun s r hr => ?_, fun r cs hr => ?_, hp⟩
  · simp only at hr
    rcases envOf_index avs 0 s with h | ⟨j, h1, h2⟩
    · rw [h] at hr; simp [idsOf] at hr
    · exact hids r (idsOfs_at h2 r hr)
  · simp only [Tbl.put] at hr
    cases hl : look u r with
    | none => rw [hl] at hr; cases hr
    | some z => rw [hl] at hr; simp only at hr; exact (hu _ (look_mem hl)).2.2 cs hr
theorem flat_len : (ks : List Kd) → (as : List AV) → cloOk ks as = true → (flatA ks as).length = (flatK ks).length
  | [], [], _ => rfl
  | [], _ :: _, h => by simp [cloOk] at h
  | k :: ks, [], h => by cases k <;> simp [cloOk] at h
  | k :: ks, a :: as, h => by
    cases k with
    | clo f l =>
      cases a with
      | clo g cs =>
        simp only [cloOk, Bool.and_eq_true] at h
        have := beq_eq h.1
        simp only [flatA, flatK, List.length_append, flat_len ks as h.2, this]
      | _ => simp [cloOk] at h
    | _ => simp only [cloOk] at h; simp only [flatA, flatK, List.length_cons, flat_len ks as h]
def nRef : List Kd → Nat
  | [] => 0
  | .ref _ :: l => nRef l + 1
  | _ :: l => nRef l
theorem hasRef_zero : (ks : List Kd) → hasRef ks = false → nRef ks = 0
  | [], _ => rfl
  | k :: ks, h => by
    cases k with
    | ref l => simp [hasRef] at h
    | _ => simp only [hasRef] at h; simp only [nRef]; exact hasRef_zero ks h
theorem refNames_len : (ks : List Kd) → (cs : List AV) → {q : List Nat} → refNames ks cs = some q → q.length = nRef ks
  | [], [], q, h => by simp [refNames] at h; subst h; rfl
  | k :: ks, a :: as, q, h => by
    have other : (∀ l, k ≠ .ref l) → q.length = nRef (k :: ks) := by
      intro hk
      have e : refNames (k :: ks) (a :: as) = refNames ks as := by cases k <;> first | rfl | exact absurd rfl (hk _)
      have e2 : nRef (k :: ks) = nRef ks := by cases k <;> first | rfl | exact absurd rfl (hk _)
      rw [e] at h
      rw [e2]; exact refNames_len ks as h
    cases k with
    | ref l =>
      cases a with
      | bx s kk =>
        cases kk with
        | succ kk => simp [refNames] at h
        | zero =>
          simp only [refNames] at h
          cases hq2 : refNames ks as with
          | none => rw [hq2] at h; simp at h
          | some q2 =>
            rw [hq2] at h
            simp only [Option.some.injEq] at h
            subst h
            simp only [List.length_cons, nRef, refNames_len ks as hq2]
      | _ => simp [refNames] at h
    | _ => exact other (by intro l; simp)
  | [], _ :: _, q, h => by simp [refNames] at h
  | k :: _, [], q, h => by cases k <;> simp [refNames] at h
theorem stay_of {σ : Sig} : (ks : List Kd) → (q : List Nat) → (vs vs' : List Value) → q.length = nRef ks → refVal σ q ks vs → refVal σ q ks vs' → stayC ks vs vs'
  | [], q, vs, vs', _, _, _ => by simp [stayC]
  | k :: ks, q, [], vs', _, _, _ => by cases k <;> simp [stayC]
  | k :: ks, q, v :: vs, [], _, _, _ => by cases k <;> simp [stayC]
  | k :: ks, q, v :: vs, v' :: vs', hl, h, h' => by
    have other : (∀ l, k ≠ .ref l) → stayC (k :: ks) (v :: vs) (v' :: vs') := by
      intro hk
      have e2 : nRef (k :: ks) = nRef ks := by cases k <;> first | rfl | exact absurd rfl (hk _)
      have e3 : stayC (k :: ks) (v :: vs) (v' :: vs') = stayC ks vs vs' := by cases k <;> first | rfl | exact absurd rfl (hk _)
      rw [e3]
      rw [e2] at hl
      cases q with
      | nil => exact stay_of (σ := σ) ks [] vs vs' hl refVal_nil refVal_nil
      | cons q0 q =>
        have e4 : ∀ (u : Value) (us : List Value), refVal σ (q0 :: q) (k :: ks) (u :: us) = refVal σ (q0 :: q) ks us := by intro u us; cases k <;> first | rfl | exact absurd rfl (hk _)
        rw [e4] at h h'
        exact stay_of ks (q0 :: q) vs vs' hl h h'
    cases k with
    | ref l =>
      cases q with
      | nil => simp [nRef] at hl
      | cons q0 q =>
        simp only [refVal] at h h'
        simp only [stayC]
        exact ⟨h'.1.trans h.1.symm, stay_of ks q vs vs' (by simpa [nRef] using hl) h.2 h'.2⟩
    | _ => exact other (by intro l; simp)
theorem refs_stay {σ1 : Sig} {w0 : World} (h : RelW G σ lim st tmps w) : (ks : List Kd) → {as : List AV} → {vs : List Value} → {l l' : List Nat} → {nm : List (List Nat)} → (refsM ks as).run st.tbl l = some (nm, l') → RAs σ w lim as vs → RefV σ1 w0 nm ks vs → (∀ q ∈ nm.flatten, σ q = σ1 q) → Stay w0 w ks vs
  | [], as, vs, l, l', nm, hm, hv, hr, hq => by cases vs <;> simp [Stay]
  | k :: ks, [], vs, l, l', nm, hm, hv, hr, hq => by
    match vs, hv with
    | [], _ => cases k <;> simp [Stay]
  | k :: ks, a :: as, vs, l, l', nm, hm, hv, hr, hq => by
    match vs, hv with
    | v :: vs, hv =>
      simp only [RAs] at hv
      have other : (∀ l, k ≠ .box l) → Stay w0 w (k :: ks) (v :: vs) := fun hk => by
        rw [refsM_cons hk] at hm
        have e : Stay w0 w (k :: ks) (v :: vs) = Stay w0 w ks vs := by cases k <;> first | rfl | exact absurd rfl (hk _)
        have e2 : RefV σ1 w0 nm (k :: ks) (v :: vs) = RefV σ1 w0 nm ks vs := by cases k <;> first | (cases nm <;> rfl) | exact absurd rfl (hk _)
        rw [e]
        rw [e2] at hr
        exact refs_stay h ks hm hv.2 hr hq
      cases k with
      | box l0 =>
        cases a with
        | bx r kk =>
          cases kk with
          | succ kk => exact (M.run_fail hm).elim
          | zero =>
            simp only [refsM] at hm
            obtain ⟨q0, l5, h5, h6⟩ := M.run_bind_some hm
            obtain ⟨qs, l6, h7, h8⟩ := M.run_bind_some h6
            obtain ⟨h9, _⟩ := M.run_ret h8
            subst h9
            simp only [RefV] at hr
            simp only [Stay]
            refine ⟨fun b cs T fz cs' T' fz' e1 e2 e3 => ?_, refs_stay h ks h7 hv.2 hr.2 (fun q' hq' => hq q' (by rw [List.flatten_cons]; exact List.mem_append_right _ hq'))⟩
            have hold := hr.1 b cs T fz e1 e2
            cases hh : hasRef l0 with
            | false =>
              have hz := hasRef_zero l0 hh
              exact stay_of (σ := σ) l0 [] _ _ (by simp [hz]) refVal_nil refVal_nil
            | true =>
              unfold boxRefs at h5
              rw [hh] at h5
              simp only [cond_true, M.run] at h5
              cases hrr : st.tbl r with
              | fresh => simp [hrr, M.run] at h5
              | gone => simp [hrr, M.run] at h5
              | live y =>
                cases y with
                | arr => simp [hrr, M.run] at h5
                | nest => simp [hrr, M.run] at h5
                | box as0 =>
                  simp only [hrr] at h5
                  have hn := M.run_ofOpt h5
                  obtain ⟨hR, _⟩ := h.res r _ hrr
                  obtain ⟨b0, ws, U, f1, f2, f3, f4, _⟩ := box_cells hv.1 hR
                  rw [e1] at f2
                  obtain rfl : b = b0 := by simpa using f2
                  rw [e3] at f3
                  obtain ⟨rfl, _⟩ : cs' = ws ∧ _ := by simpa using f3
                  have hnew := refNames_val l0 as0 hn f4 (stayC_same l0 cs'.toList)
                  exact stay_of (σ := σ1) l0 q0 _ _ (refNames_len l0 as0 hn) hold (refVal_congr _ _ _ (fun q' hq' => (hq q' (by rw [List.flatten_cons]; exact List.mem_append_left _ hq')).symm) hnew)
        | _ => exact (M.run_fail hm).elim
      | _ => exact other (by intro l; simp)
    | [], hv => simp [RAs] at hv
theorem refs0_val (h : RelW G σ lim st tmps w) : (ks : List Kd) → {as : List AV} → {vs : List Value} → boxes as = true → RAs σ w lim as vs → RefV σ w (refs0 st.tbl ks as) ks vs
  | [], as, vs, hb, hv => by
    have : refs0 st.tbl [] as = [] := by cases as <;> rfl
    rw [this]; cases vs <;> simp [RefV]
  | k :: ks, [], vs, hb, hv => by
    match vs, hv with
    | [], _ => cases k <;> simp [refs0, RefV]
  | k :: ks, a :: as, vs, hb, hv => by
    match vs, hv with
    | v :: vs, hv =>
      simp only [RAs] at hv
      simp only [boxes, List.all_cons, Bool.and_eq_true] at hb
      have ih := refs0_val h ks hb.2 hv.2
      have other : (∀ l, k ≠ .box l) → RefV σ w (refs0 st.tbl (k :: ks) (a :: as)) (k :: ks) (v :: vs) := fun hk => by
        have e : refs0 st.tbl (k :: ks) (a :: as) = refs0 st.tbl ks as := by cases k <;> first | rfl | exact absurd rfl (hk _)
        rw [e]
        have e2 : ∀ nm, RefV σ w nm (k :: ks) (v :: vs) = RefV σ w nm ks vs := by intro nm; cases k <;> first | (cases nm <;> rfl) | exact absurd rfl (hk _)
        rw [e2]; exact ih
      cases k with
      | box l0 =>
        cases a with
        | bx r kk =>
         cases kk with
         | succ kk => simp at hb
         | zero =>
          simp only [refs0, RefV]
          refine ⟨fun b cs T fz e1 e2 => ?_, ih⟩
          cases hh : hasRef l0 with
          | false => exact refVal_nil
          | true =>
            simp only [cond_true]
            cases hr : st.tbl r with
            | fresh => exact refVal_nil
            | gone => exact refVal_nil
            | live y =>
              cases y with
              | arr => exact refVal_nil
              | nest => exact refVal_nil
              | box as0 =>
                simp only
                cases hn : refNames l0 as0 with
                | none => exact refVal_nil
                | some q =>
                  obtain ⟨hR, _⟩ := h.res r _ hr
                  obtain ⟨b0, ws, U, f1, f2, f3, f4, _⟩ := box_cells hv.1 hR
                  rw [e1] at f2
                  obtain rfl : b = b0 := by simpa using f2
                  rw [e2] at f3
                  obtain ⟨rfl, _⟩ : cs = ws ∧ _ := by simpa using f3
                  exact refNames_val l0 as0 hn f4 (stayC_same l0 cs.toList)
        | _ => simp at hb
      | _ => exact other (by intro l; simp)
    | [], hv => simp [RAs] at hv
theorem refs0_known {tbl : Tbl} {lim : Nat → Nat} (hres : ∀ r x, tbl r = .live x → RR σ w lim r x ∧ Known tbl (resIds r x)) : (ks : List Kd) → (as : List AV) → ∀ q ∈ (refs0 tbl ks as).flatten, ∃ r cs, tbl r = .live (.box cs) ∧ q ∈ idsOfs cs
  | [], as, q, hq => by
    have : refs0 tbl [] as = [] := by cases as <;> rfl
    rw [this] at hq; simp at hq
  | k :: ks, [], q, hq => by
    have : refs0 tbl (k :: ks) [] = [] := by cases k <;> rfl
    rw [this] at hq; simp at hq
  | k :: ks, a :: as, q, hq => by
    have other : refs0 tbl (k :: ks) (a :: as) = refs0 tbl ks as → ∃ r cs, tbl r = .live (.box cs) ∧ q ∈ idsOfs cs := fun e => by
      rw [e] at hq
      exact refs0_known hres ks as q hq
    cases k with
    | box l0 =>
      cases a with
      | bx r kk =>
        cases kk with
        | succ kk => exact other rfl
        | zero =>
          simp only [refs0, List.flatten_cons, List.mem_append] at hq
          rcases hq with hq | hq
          · cases hh : hasRef l0 with
            | false => rw [hh] at hq; simp at hq
            | true =>
              rw [hh] at hq
              simp only [cond_true] at hq
              cases hr : tbl r with
              | fresh => rw [hr] at hq; simp at hq
              | gone => rw [hr] at hq; simp at hq
              | live y =>
                rw [hr] at hq
                cases y with
                | arr => simp at hq
                | nest => simp at hq
                | box as0 =>
                  simp only at hq
                  cases hn : refNames l0 as0 with
                  | none => rw [hn] at hq; simp at hq
                  | some q' => rw [hn] at hq; exact ⟨r, as0, hr, refNames_ids l0 as0 hn q hq⟩
          · exact refs0_known hres ks as q hq
      | _ => exact other rfl
    | _ => exact other rfl
theorem nEq_eq : {a b : List Nat} → nEq a b = true → a = b
  | [], [], _ => rfl
  | x :: a, y :: b, h => by
    simp only [nEq, Bool.and_eq_true] at h
    rw [beq_eq h.1, nEq_eq h.2]
  | [], _ :: _, h => by simp [nEq] at h
  | _ :: _, [], h => by simp [nEq] at h
theorem nnEq_eq : {a b : List (List Nat)} → nnEq a b = true → a = b
  | [], [], _ => rfl
  | x :: a, y :: b, h => by
    simp only [nnEq, Bool.and_eq_true] at h
    rw [nEq_eq h.1, nnEq_eq h.2]
  | [], _ :: _, h => by simp [nnEq] at h
  | _ :: _, [], h => by simp [nnEq] at h
theorem stay_lent {w0 : World} : (ks : List Kd) → (vs : List Value) → Stay w0 w (lentK ks) (lentV ks vs) → Stay w0 w ks vs
  | [], vs, _ => by cases vs <;> simp [Stay]
  | k :: ks, [], _ => by cases k <;> simp [Stay]
  | k :: ks, v :: vs, h => by
    cases k with
    | box l =>
      simp only [lentK, lentV, Stay] at h ⊢
      exact ⟨h.1, stay_lent ks vs h.2⟩
    | bld T =>
      simp only [lentK, lentV, Stay] at h ⊢
      exact stay_lent ks vs h
    | _ => simp only [lentK, lentV] at h; simp only [Stay]; exact stay_lent ks vs h
theorem enter_stands {rvs : List RV} {vs : List Value} {bs : List Nat} {pk : List Kd} {n : Nat} (hlz : ∀ b, w.heap.size ≤ b → lim b = 0) (hgl : Lies w lim) (hT : TTs w lim rvs vs bs) (hnd : bs.Nodup) (hbs : ∀ b ∈ bs, b < w.heap.size)
    (hn : rvs.length ≤ n) (hin : (puts 0 rvs).2.2 ≤ hidB) (hco : cloOk pk (puts 0 rvs).1 = true) (hb : boxes (lentA (flatK pk) (flatA pk (puts 0 rvs).1)) = true) :
    ∃ σ, Stands ⟨w, lim, bs, pinsOf (lentA (flatK pk) (flatA pk (puts 0 rvs).1)) (lentV (flatK pk) (flatV pk vs)) ++ (refsIn pk rvs).flatten.map (fun q => (q, σ q))⟩ n (enter (puts 0 rvs).1 (puts 0 rvs).2.1) { tmps := vs.toArray ++ Array.replicate (n - vs.toArray.size) undef, defers := [] } w ∧
      RAs σ w lim (lentA (flatK pk) (flatA pk (puts 0 rvs).1)) (lentV (flatK pk) (flatV pk vs)) ∧ vs.length = rvs.length ∧ (flatV pk vs).length = (flatK pk).length ∧ RefV σ w (refsIn pk rvs) (lentK (flatK pk)) (lentV (flatK pk) (flatV pk vs)) := by
  have h0 : RelW ⟨w, lim, bs, []⟩ (fun _ => undef) lim ⟨fun _ => .dead, fun _ => .fresh⟩ (vs.toArray ++ Array.replicate (n - vs.toArray.size) undef) w :=
    { env := by intro s; simp [RA]
      known := by intro s; simp [idsOf, Known]
      res := by intro r x h; simp at h
      inj := by intro r r' b h; simp [isLive] at h
      own := by intro r b h; simp [isLive] at h
      ext := Ext.refl _ _
      keep := fun _ _ _ => rfl
      same := ⟨rfl, rfl, rfl⟩
      lz := hlz
      limk := fun _ _ _ => rfl
      glob := hgl
      pin := by intro p hp; simp at hp }
  obtain ⟨σ, hP, hA, hK⟩ := puts_sound rvs 0 h0 hT (fun _ _ _ => rfl) ⟨hnd, fun b hb => ⟨.inr hb, by intro r h; simp [isLive] at h⟩⟩
  have hlen : vs.length = rvs.length := by rw [← puts_length rvs 0]; exact (RAs_length hA).symm
  have hfA := flat_ra pk hco hA
  have hL := lent_ra (flatK pk) hfA
  have hfl : (flatV pk vs).length = (flatK pk).length := by rw [← RAs_length hfA]; exact flat_len pk _ hco
  have hrv : RefV σ w (refsIn pk rvs) (lentK (flatK pk)) (lentV (flatK pk) (flatV pk vs)) := by
    have := refs0_val hP.rel (lentK (flatK pk)) hb hL
    simp only at this
    rw [← tblOf_put] at this
    exact this
  refine ⟨σ, ⟨σ, lim, ?_, by simp; omega, rfl⟩, hL, hlen, hfl, hrv⟩
  have hR := hP.rel
  simp only at hR hK
  rw [← tblOf_put] at hR hK
  have hpin := pin_ra hb hL
  obtain ⟨lw1, lw2⟩ := puts_low rvs 0
  refine enterX ?_ (fun p hp => ⟨Nat.lt_of_lt_of_le (lw2 p hp).1 hin, (lw2 p hp).2.1, fun cs hc q hq => Nat.lt_of_lt_of_le ((lw2 p hp).2.2 cs hc q hq) hin⟩) (fun r hr => Nat.lt_of_lt_of_le (lw1 r hr) hin)
    (fun p hp => by
      rcases List.mem_append.1 hp with hp | hp
      · exact Nat.lt_of_lt_of_le (lw1 p.1 (flat_ids pk _ _ (lent_known (flatK pk) _ _ (pins_in _ _ p hp)))) hin
      · obtain ⟨q, hq, rfl⟩ := List.mem_map.1 hp
        obtain ⟨r, cs, hr, hqc⟩ := refs0_known hR.res (lentK (flatK pk)) (lentA (flatK pk) (flatA pk (puts 0 rvs).1)) q hq
        simp only [tblOf_put, Tbl.put] at hr
        cases hl : look (puts 0 rvs).2.1 r with
        | none => rw [hl] at hr; cases hr
        | some z => rw [hl] at hr; simp only at hr; exact Nat.lt_of_lt_of_le ((lw2 _ (look_mem hl)).2.2 cs hr q hqc) hin)
  exact
    { env := by
        intro s
        rcases envOf_index (puts 0 rvs).1 0 s with h | ⟨j, h1, h2⟩
        · simp only [enter, h, RA]
        · have hs : s = j := by omega
          subst hs
          have hjl : s < vs.length := by
            rw [← RAs_length hA]
            rcases Nat.lt_or_ge s (puts 0 rvs).1.length with h | h
            · exact h
            · rw [List.getElem?_eq_none h] at h2; cases h2
          have hv : vs[s]? = some vs[s] := by simp [hjl]
          have := RAs_at hA h2 hv
          simp only [enter]
          rw [Array.getD_eq_getD_getElem?, Array.getElem?_append_left (by simpa using hjl)]
          simpa [hv] using this
      known := by
        intro s
        rcases envOf_index (puts 0 rvs).1 0 s with h | ⟨j, h1, h2⟩
        · simp [enter, h, idsOf, Known]
        · intro r hr
          exact hK r (idsOfs_at h2 r hr)
      res := hR.res, inj := hR.inj, own := hR.own, ext := hR.ext, keep := hR.keep, same := hR.same, lz := hR.lz, limk := hR.limk, glob := hR.glob
      pin := by
        intro p hp
        rcases List.mem_append.1 hp with hp | hp
        · refine ⟨hpin p hp, ?_⟩
          exact hK p.1 (flat_ids pk _ _ (lent_known (flatK pk) _ _ (pins_in _ _ p hp)))
        · obtain ⟨q, hq, rfl⟩ := List.mem_map.1 hp
          obtain ⟨r, cs, hr, hqc⟩ := refs0_known hR.res (lentK (flatK pk)) (lentA (flatK pk) (flatA pk (puts 0 rvs).1)) q hq
          exact ⟨rfl, (hR.res r _ hr).2 q hqc⟩ }
def Owes (w : World) (lim : Nat → Nat) (vs : List Value) (bs : List Nat) (pk : List Kd) (r : RV × List RV) : Ending → World → Prop := fun e w' => ∃ v lim' b1 b2, e = .returned v ∧ Ext w lim w' lim' ∧ (∀ b, w'.heap.size ≤ b → lim' b = 0) ∧
      (w'.os = w.os ∧ w'.tape = w.tape ∧ w'.output = w.output) ∧ (∀ b, b < w.heap.size → b ∉ bs → w'.heap[b]? = w.heap[b]? ∧ lim' b = lim b) ∧
      TT w' lim' r.1 v b1 ∧ TL w' lim' (flatK pk) (flatV pk vs) r.2 b2 ∧ Stay w w' (flatK pk) (flatV pk vs) ∧ (b1 ++ b2).Nodup ∧ ∀ b ∈ b1 ++ b2, b ∈ bs ∨ w.heap.size ≤ b
theorem fun_calls {f : Nat} {fn : Func} {code : Code} {pk : List Kd} {rk : Kd} {rvs : List RV} {r : RV × List RV} {vs : List Value} {bs : List Nat} (hf : C.P.funcs[f]? = some fn) (hb : fn.body = some code)
    (hlz : ∀ b, w.heap.size ≤ b → lim b = 0) (hgl : Lies w lim) (hT : TTs w lim rvs vs bs) (hnd : bs.Nodup) (hbs : ∀ b ∈ bs, b < w.heap.size) (hbx : boxes (lentA (flatK pk) (flatA pk (puts 0 rvs).1)) = true) (hn : rvs.length ≤ fn.ntmps) (hin : (puts 0 rvs).2.2 ≤ hidB) (hco : cloOk pk (puts 0 rvs).1 = true)
    (hwp : ∀ (G : Glob), (∀ p ∈ G.pins, p.1 ∈ lentNums (lentA (flatK pk) (flatA pk (puts 0 rvs).1)) ++ (refsIn pk rvs).flatten) → Stands G fn.ntmps (enter (puts 0 rvs).1 (puts 0 rvs).2.1) { tmps := vs.toArray ++ Array.replicate (fn.ntmps - vs.toArray.size) undef, defers := [] } w →
      code.wp C.P (fun e a w => ∃ e' st', e = Ex.out e' ∧ leaveK C fn.results.toList pk (lentA (flatK pk) (flatA pk (puts 0 rvs).1)) (refsIn pk rvs) rk some e' st' = some r ∧ Stands G fn.ntmps st' a w) { tmps := vs.toArray ++ Array.replicate (fn.ntmps - vs.toArray.size) undef, defers := [] } w) :
    Calls C.P f vs.toArray w (Owes w lim vs bs pk r) := by
  obtain ⟨σ0, hS, hL, hlen, hfl, hRV⟩ := enter_stands (pk := pk) hlz hgl hT hnd hbs hn hin hco hbx
  refine calls_of_wp hf hb (wp_mono (hwp _ (fun p hp => by
    rcases List.mem_append.1 hp with hp | hp
    · exact List.mem_append_left _ (pins_in _ _ p hp)
    · obtain ⟨q, hq, rfl⟩ := List.mem_map.1 hp
      exact List.mem_append_right _ hq) hS) ?_)
  rintro e a' w' ⟨e', st', rfl, hK, hs⟩
  obtain ⟨σ, lim', ⟨hR, _⟩, _, hd⟩ := hs
  have leave : (leaveM C fn.results.toList pk (lentA (flatK pk) (flatA pk (puts 0 rvs).1)) (refsIn pk rvs) rk st').runK st'.tbl [] (fun x l => bif lows l then some x else none) = some r →
      a'.defers = [] ∧ ∃ v, (results fn a'.tmps).run C.P w' = .ok v w' ∧ Owes w lim vs bs pk r (.returned v) w' := by
    intro hl
    rw [M.runK_eq] at hl
    cases hr : (leaveM C fn.results.toList pk (lentA (flatK pk) (flatA pk (puts 0 rvs).1)) (refsIn pk rvs) rk st').run st'.tbl [] with
    | none => rw [hr] at hl; simp at hl
    | some p =>
      obtain ⟨q, lg⟩ := p
      rw [hr] at hl
      simp only [Option.bind_some] at hl
      have hlow : lows lg = true := by
        cases hlg : lows lg with
        | true => rfl
        | false => rw [hlg] at hl; cases hl
      rw [hlow] at hl
      simp only [cond_true, Option.some.injEq] at hl
      subst hl
      have hr := run_exp hr hlow
      unfold leaveM at hr
      rw [resultAVs_env (st := st') (st2 := ⟨st'.env, exp st'.tbl⟩) rfl] at hr
      obtain ⟨as, l1, h1, hr⟩ := M.run_bind_some hr
      obtain ⟨⟨y, u⟩, l2, h2, hr⟩ := M.run_bind_some hr
      obtain ⟨⟨ys, v⟩, l3, h3, hr⟩ := M.run_bind_some hr
      obtain ⟨nm', l4, h4, hr⟩ := M.run_bind_some hr
      obtain ⟨hok, hr2⟩ := M.run_guard hr
      simp only [Bool.and_eq_true] at hok
      obtain ⟨hok, hnm⟩ := hok
      have hnm := nnEq_eq hnm
      obtain ⟨hq, _⟩ := M.run_ret hr2
      subst hnm
      obtain ⟨rv, r1, r2⟩ := results_sound hR h1
      obtain ⟨g1, k1⟩ := take_spec (st := ⟨st'.env, exp st'.tbl⟩) (σ := σ) (w := w') (lim := lim') rk _ h2
      obtain ⟨g2, k2⟩ := takes_spec (st := ⟨st'.env, exp st'.tbl⟩) (σ := σ) (w := w') (lim := lim') (lentK (flatK pk)) _ h3
      obtain ⟨lim2, hR2, hE, hSh, hN, hB⟩ := hR.takes (g1.append g2) hok
      have hLf : RAs σ w' lim' (lentA (flatK pk) (flatA pk (puts 0 rvs).1)) (lentV (flatK pk) (flatV pk vs)) := ra_of_pins hbx hL fun p hp => (hR.pin p (List.mem_append_left _ hp)).1
      have hStay : Stay w w' (flatK pk) (flatV pk vs) := stay_lent _ _ (refs_stay hR (lentK (flatK pk)) h4 hLf hRV fun q hq => (hR.pin (q, σ0 q) (List.mem_append_right _ (List.mem_map.2 ⟨q, hq, rfl⟩))).1)
      refine ⟨hd, rv, r1, rv, lim2, blocks σ (gones u), blocks σ (gones v), rfl, hR2.ext, hR2.lz, hR2.same, fun b hb1 hb2 => ⟨hR2.keep b hb1 hb2, hR2.limk b hb1 hb2⟩, ?_, ?_, hStay, ?_, ?_⟩
      · rw [hq]; exact k1 rv r2 (fun r y hy => (hR.res r y hy).1) lim2 hE hSh.left
      · rw [hq]; exact tl_of (flatK pk) hfl (k2 _ hLf (fun r y hy => (hR.res r y hy).1) lim2 hE hSh.right)
      · rw [← blocks_append, ← gones_append]; exact hN
      · intro b hb; rw [← blocks_append, ← gones_append] at hb; exact (hB b hb).1.symm
  cases e' with
  | normal => exact leave hK
  | ret => exact leave hK
  | exit i => simp [leaveK] at hK
theorem fun_sound (hC : ∀ f cal, C.Φ f = some cal → Ctr C.P C.k f cal) (hm : C.P.follows .mixedOrders = true) {A : Nat → Ann} {f k : Nat} {fn : Func} {code : Code} {cal : Callee} {rk : Kd}
    (hf : C.P.funcs[f]? = some fn) (hb : fn.body = some code) (hname : (fn.name == "runtime.NumGoroutine") = false) (hfit : fitsC C.P fn.ntmps code = true)
    (hlent : ∀ rvs x, cal.run k rvs = some x → boxes (lentA (flatK cal.pk) (flatA cal.pk (puts 0 rvs).1)) = true)
    (hrun : ∀ rvs x, cal.run k rvs = some x → runF C A fn.ntmps code fn.results.toList cal.pk rk rvs some = some (cal.enc x)) : Ctr C.P k f cal where
  enters := ⟨fn, hf, hname, by rw [hb]; rfl⟩
  calls := by
    intro rvs x hx w lim vs bs hlz hgl hT hnd hbs
    have h := hrun rvs x hx
    have hbx := hlent rvs x hx
    unfold runF at h
    cases hg : okIn cal.pk rvs fn.ntmps with
    | false => rw [hg] at h; simp at h
    | true =>
      rw [hg] at h
      simp only [cond_true] at h
      simp only [okIn, Bool.and_eq_true] at hg
      exact fun_calls (rk := rk) hf hb hlz hgl hT hnd hbs hbx (Nat.le_of_ble_eq_true hg.1.1) (Nat.le_of_ble_eq_true hg.1.2) hg.2 fun G hp hS => exec_sound hC hm hp code h hfit hS fun e st' a' w' hK hs => ⟨e, st', rfl, hK, hs⟩
end Go.Sh
namespace Go.Sh
open Go
variable [Gl]
def pairK : Ex → St → Option (Ex × St) := fun e s => some (e, s)
def onPair {R : Type} (K : Ex → St → Option R) : Ex × St → Option R := fun x => K x.1 x.2
theorem loopK_bind {R : Type} {nm : St → Option St} {b1 : St → (Ex → St → Option (Ex × St)) → Option (Ex × St)} {bR : St → (Ex → St → Option R) → Option R}
    (h1 : ∀ st K, b1 st K = (b1 st pairK).bind (onPair K)) (hb : ∀ st K, bR st K = (b1 st pairK).bind (onPair K)) : ∀ (n : Nat) (st : St) (K : Ex → St → Option R),
    loopK bR nm n st K = (loopK b1 nm n st pairK).bind (onPair K)
  | 0, st, K => rfl
  | n + 1, st, K => by
    simp only [loopK]
    rw [hb]
    conv => rhs; rw [h1]
    rw [Option.bind_assoc]
    congr 1
    funext x
    obtain ⟨e, s⟩ := x
    cases e with
    | exit i => rfl
    | ret => rfl
    | normal =>
      simp only [onPair]
      cases nm s with
      | none => rfl
      | some s' => exact loopK_bind h1 hb n s' K
theorem exec_bind {C : Ctx} {A : Nat → Ann} {kp : List Nat} : (c : Code) → {R : Type} → (st : St) → (K : Ex → St → Option R) → exec C A kp c st K = (exec C A kp c st pairK).bind (onPair K)
  | .skip, R, st, K => rfl
  | .label _, R, st, K => rfl
  | .ret, R, st, K => rfl
  | .exit _, R, st, K => rfl
  | .goto _, R, st, K => rfl
  | .refuse _, R, st, K => rfl
  | .rangeFunc _ _ _ _, R, st, K => rfl
  | .region id ops d, R, st, K => by
    simp only [exec]
    cases d with
    | false => simp only [cond_false, opsK_eq, Option.bind_assoc]; rfl
    | true =>
      simp only [cond_true, drawnK_eq, Option.bind_assoc]
      congr 1
      funext x
      cases indepAll ops.toList (masks ops.toList []) ([] ++ x.2) <;> rfl
  | .seq a b, R, st, K => by
    simp only [exec]
    rw [exec_bind a]
    conv => rhs; rw [exec_bind a]
    rw [Option.bind_assoc]
    congr 1
    funext x
    obtain ⟨e, s⟩ := x
    cases e with
    | normal => exact exec_bind b s K
    | exit i => rfl
    | ret => rfl
  | .cond c a b, R, st, K => by
    simp only [exec]
    split
    · rename_i t _
      cases t with
      | true => simp only [cond_true]; exact exec_bind a _ K
      | false => simp only [cond_false]; exact exec_bind b _ K
    · rfl
  | .block id c, R, st, K => by
    simp only [exec]
    rw [exec_bind c]
    conv => rhs; rw [exec_bind c]
    rw [Option.bind_assoc]
    congr 1
    funext x
    obtain ⟨e, s⟩ := x
    cases e with
    | normal => rfl
    | ret => rfl
    | exit i => simp only [onPair, blockK]; cases Nat.beq i id <;> rfl
  | .loop c, R, st, K => by
    simp only [exec, Option.bind_assoc]
    congr 1
    funext s
    exact loopK_bind (fun st K => exec_bind c st K) (fun st K => exec_bind c st K) C.k s K
  | .scope c, R, st, K => by simp only [exec]; exact exec_bind c st K
theorem runF_bind {C : Ctx} {A : Nat → Ann} {n : Nat} {body : Code} {rs : List ResultVar} {pk : List Kd} {rk : Kd} {rvs : List RV} {R : Type} (K : RV × List RV → Option R) :
    runF C A n body rs pk rk rvs K = (runF C A n body rs pk rk rvs some).bind K := by
  unfold runF
  cases okIn pk rvs n with
  | false => rfl
  | true =>
    simp only [cond_true]
    rw [exec_bind]
    conv => rhs; rw [exec_bind]
    rw [Option.bind_assoc]
    congr 1
    funext x
    obtain ⟨e, s⟩ := x
    simp only [onPair]
    cases e <;> simp only [leaveK, M.runK_eq, Option.bind_assoc, Option.bind_some, Option.bind_none]
    all_goals (congr 1; funext x; cases lows x.2 <;> rfl)
mutual
def Kd.den : Kd → Type
  | .view t => t.den
  | .own t _ => List t.den
  | .box ks => Kd.dens ks
  | .agg ks => Kd.dens ks
  | .tup ks => Kd.dens ks
  | .fn _ => Unit
  | .bld _ => List Int
  | .use _ => List Int
  | .clo _ ks => Kd.dens ks
  | .ref ks => Kd.dens ks
  | .ns t => List t.den
def Kd.dens : List Kd → Type
  | [] => Unit
  | k :: ks => k.den × Kd.dens ks
end
mutual
def enc : (k : Kd) → k.den → RV
  | .view t, x => .view t x
  | .own t sh, xs => .own t sh xs
  | .box ks, x => .box (encs ks x)
  | .agg ks, x => .agg (encs ks x)
  | .tup ks, x => .tup (encs ks x)
  | .fn f, _ => .fn f
  | .bld T, xs => .bld T xs
  | .use T, xs => .bld T xs
  | .clo f ks, x => .clo f (encs ks x)
  | .ref ks, x => .box (encs ks x)
  | .ns t, xs => .ns t xs
def encs : (ks : List Kd) → Kd.dens ks → List RV
  | [], _ => []
  | k :: ks, x => enc k x.1 :: encs ks x.2
end
def asView (t : Ty) : RV → Option t.den
  | .view t' x => if h : t' = t then some (h ▸ x : t.den) else none
  | _ => none
def asOwn (t : Ty) (sh : Bool) : RV → Option (List t.den)
  | .own t' sh' xs => if h : t' = t then (bif sh == sh' then some (h ▸ xs : List t.den) else none) else none
  | _ => none
def asBox : RV → Option (List RV)
  | .box cs => some cs
  | _ => none
def asAgg : RV → Option (List RV)
  | .agg cs => some cs
  | _ => none
def asTup : RV → Option (List RV)
  | .tup cs => some cs
  | _ => none
def asFn (f : Nat) : RV → Option Unit
  | .fn g => bif Nat.beq f g then some () else none
  | _ => none
def asClo (f : Nat) : RV → Option (List RV)
  | .clo g cs => bif Nat.beq f g then some cs else none
  | _ => none
def asNs (t : Ty) : RV → Option (List t.den)
  | .ns t' xs => if h : t' = t then some (h ▸ xs : List t.den) else none
  | _ => none
def asBld (T : TypeId) : RV → Option (List Int)
  | .bld U xs => bif Nat.beq T U then some xs else none
  | _ => none
mutual
def dec : (k : Kd) → RV → Option k.den
  | .view t, r => asView t r
  | .own t sh, r => asOwn t sh r
  | .box ks, r => (asBox r).bind (decs ks)
  | .agg ks, r => (asAgg r).bind (decs ks)
  | .tup ks, r => (asTup r).bind (decs ks)
  | .fn f, r => asFn f r
  | .bld T, r => asBld T r
  | .use T, r => asBld T r
  | .clo f ks, r => (asClo f r).bind (decs ks)
  | .ref ks, r => (asBox r).bind (decs ks)
  | .ns t, r => asNs t r
def decs : (ks : List Kd) → List RV → Option (Kd.dens ks)
  | [], [] => some ()
  | [], _ :: _ => none
  | _ :: _, [] => none
  | k :: ks, x :: xs => (dec k x).bind fun y => (decs ks xs).bind fun ys => some (y, ys)
end
theorem asView_eq {t : Ty} {r : RV} {x : t.den} (h : asView t r = some x) : r = .view t x := by
  unfold asView at h
  split at h
  · split at h
    · rename_i e; subst e; simp at h; rw [h]
    · cases h
  · cases h
theorem asOwn_eq {t : Ty} {sh : Bool} {r : RV} {x : List t.den} (h : asOwn t sh r = some x) : r = .own t sh x := by
  unfold asOwn at h
  split at h
  · split at h
    · rename_i sh' _ e
      subst e
      cases hs : (sh == sh') with
      | false => rw [hs] at h; simp at h
      | true => rw [hs] at h; simp at h hs; rw [h, hs]
    · cases h
  · cases h
theorem asBox_eq {r : RV} {cs : List RV} (h : asBox r = some cs) : r = .box cs := by unfold asBox at h; split at h <;> simp at h; rw [h]
theorem asAgg_eq {r : RV} {cs : List RV} (h : asAgg r = some cs) : r = .agg cs := by unfold asAgg at h; split at h <;> simp at h; rw [h]
theorem asTup_eq {r : RV} {cs : List RV} (h : asTup r = some cs) : r = .tup cs := by unfold asTup at h; split at h <;> simp at h; rw [h]
theorem asFn_eq {f : Nat} {r : RV} {x : Unit} (h : asFn f r = some x) : r = .fn f := by
  unfold asFn at h
  split at h
  · rename_i g
    cases hb : Nat.beq f g with
    | false => rw [hb] at h; simp at h
    | true => rw [beq_eq hb]
  · cases h
theorem asClo_eq {f : Nat} {r : RV} {cs : List RV} (h : asClo f r = some cs) : r = .clo f cs := by
  unfold asClo at h
  split at h
  · rename_i g l
    cases hb : Nat.beq f g with
    | false => rw [hb] at h; simp at h
    | true => rw [hb] at h; simp at h; rw [beq_eq hb, h]
  · cases h
theorem asNs_eq {t : Ty} {r : RV} {x : List t.den} (h : asNs t r = some x) : r = .ns t x := by
  unfold asNs at h
  split at h
  · split at h
    · rename_i e; subst e; simp at h; rw [h]
    · cases h
  · cases h
theorem asBld_eq {T : TypeId} {r : RV} {x : List Int} (h : asBld T r = some x) : r = .bld T x := by
  unfold asBld at h
  split at h
  · rename_i U xs
    cases hb : Nat.beq T U with
    | false => rw [hb] at h; simp at h
    | true => rw [hb] at h; simp at h; rw [beq_eq hb, h]
  · cases h
mutual
theorem dec_enc : (k : Kd) → (r : RV) → (x : k.den) → dec k r = some x → r = enc k x
  | .view t, r, x, h => by simp only [dec] at h; simp only [enc]; exact asView_eq h
  | .own t sh, r, x, h => by simp only [dec] at h; simp only [enc]; exact asOwn_eq h
  | .box ks, r, x, h => by
    simp only [dec] at h
    obtain ⟨cs, h1, h2⟩ := Option.bind_eq_some_iff.1 h
    simp only [enc, asBox_eq h1, decs_encs ks cs x h2]
  | .agg ks, r, x, h => by
    simp only [dec] at h
    obtain ⟨cs, h1, h2⟩ := Option.bind_eq_some_iff.1 h
    simp only [enc, asAgg_eq h1, decs_encs ks cs x h2]
  | .tup ks, r, x, h => by
    simp only [dec] at h
    obtain ⟨cs, h1, h2⟩ := Option.bind_eq_some_iff.1 h
    simp only [enc, asTup_eq h1, decs_encs ks cs x h2]
  | .fn f, r, x, h => by simp only [dec] at h; simp only [enc]; exact asFn_eq h
  | .bld T, r, x, h => by simp only [dec] at h; simp only [enc]; exact asBld_eq h
  | .use T, r, x, h => by simp only [dec] at h; simp only [enc]; exact asBld_eq h
  | .clo f ks, r, x, h => by
    simp only [dec] at h
    obtain ⟨cs, h1, h2⟩ := Option.bind_eq_some_iff.1 h
    simp only [enc, asClo_eq h1, decs_encs ks cs x h2]
  | .ns t, r, x, h => by simp only [dec] at h; simp only [enc]; exact asNs_eq h
  | .ref ks, r, x, h => by
    simp only [dec] at h
    obtain ⟨cs, h1, h2⟩ := Option.bind_eq_some_iff.1 h
    simp only [enc, asBox_eq h1, decs_encs ks cs x h2]
theorem decs_encs : (ks : List Kd) → (rs : List RV) → (x : Kd.dens ks) → decs ks rs = some x → rs = encs ks x
  | [], [], x, h => rfl
  | k :: ks, r :: rs, x, h => by
    simp only [decs] at h
    obtain ⟨y, h1, h⟩ := Option.bind_eq_some_iff.1 h
    obtain ⟨ys, h2, h⟩ := Option.bind_eq_some_iff.1 h
    cases h
    simp only [encs, ← dec_enc k r y h1, ← decs_encs ks rs ys h2]
  | [], _ :: _, x, h => by simp [decs] at h
  | _ :: _, [], x, h => by simp [decs] at h
end
theorem encs_length : (ks : List Kd) → (x : Kd.dens ks) → (encs ks x).length = ks.length
  | [], _ => rfl
  | k :: ks, x => by simp only [encs, List.length_cons, encs_length ks]
theorem lentA_append {ks ls : List Kd} {as bs : List AV} (h : ks.length = as.length) : lentA (ks ++ ls) (as ++ bs) = lentA ks as ++ lentA ls bs := by
  induction ks generalizing as with
  | nil =>
    cases as with
    | nil => simp [lentA]
    | cons _ _ => simp at h
  | cons k ks ih =>
    cases as with
    | nil => simp at h
    | cons a as =>
      have ih := ih (as := as) (by simpa using h)
      cases k <;> simp [lentA, ih]
theorem boxes_append (a b : List AV) : boxes (a ++ b) = (boxes a && boxes b) := by simp [boxes]
theorem boxes_plain : (ks : List Kd) → (x : Kd.dens ks) → (n : Nat) → boxes (lentA ks (puts n (encs ks x)).1) = true
  | [], _, n => rfl
  | k :: ks, x, n => by
    have ih := boxes_plain ks x.2
    cases k with
    | box l =>
      simp only [encs, enc, puts, put, lentA, boxes, List.all_cons, Bool.true_and] at ih ⊢
      exact ih _
    | bld T =>
      simp only [encs, enc, puts, put, lentA, boxes, List.all_cons, Bool.true_and] at ih ⊢
      exact ih _
    | _ => simp only [encs, enc, puts, lentA]; exact ih _
theorem boxes_puts : (ks : List Kd) → (x : Kd.dens ks) → (n : Nat) → boxes (lentA (flatK ks) (flatA ks (puts n (encs ks x)).1)) = true
  | [], _, n => rfl
  | k :: ks, x, n => by
    have ih := boxes_puts ks x.2
    cases k with
    | box l =>
      simp only [encs, enc, puts, put, flatK, flatA, lentA, boxes, List.all_cons, Bool.true_and] at ih ⊢
      exact ih _
    | bld T =>
      simp only [encs, enc, puts, put, flatK, flatA, lentA, boxes, List.all_cons, Bool.true_and] at ih ⊢
      exact ih _
    | clo f l =>
      simp only [encs, enc, puts, put, flatK, flatA]
      rw [lentA_append (by rw [puts_length]; exact (encs_length l x.1).symm), boxes_append, Bool.and_eq_true]
      exact ⟨boxes_plain l x.1 n, ih _⟩
    | _ => simp only [encs, enc, puts, flatK, flatA, lentA]; exact ih _
abbrev Ans (pk : List Kd) (rk : Kd) : Type := rk.den × Kd.dens (lentK (flatK pk))
def decR (pk : List Kd) (rk : Kd) (r : RV × List RV) : Option (Ans pk rk) := (dec rk r.1).bind fun x => (decs (lentK (flatK pk)) r.2).bind fun l => some (x, l)
def encR (pk : List Kd) (rk : Kd) (x : Ans pk rk) : RV × List RV := (enc rk x.1, encs (lentK (flatK pk)) x.2)
theorem decR_encR {pk : List Kd} {rk : Kd} {r : RV × List RV} {x : Ans pk rk} (h : decR pk rk r = some x) : r = encR pk rk x := by
  unfold decR at h
  obtain ⟨y, h1, h⟩ := Option.bind_eq_some_iff.1 h
  obtain ⟨ys, h2, h⟩ := Option.bind_eq_some_iff.1 h
  cases h
  obtain ⟨a, b⟩ := r
  simp only [encR, ← dec_enc rk a y h1, ← decs_encs (lentK (flatK pk)) b ys h2]
def mk (pk : List Kd) (rk : Kd) (F : Nat → Kd.dens pk → Option (Ans pk rk)) : Callee :=
  { ρ := Ans pk rk, pk := pk, run := fun k rvs => (decs pk rvs).bind (F k), enc := encR pk rk }
theorem fun_law {C : Ctx} (hC : ∀ f cal, C.Φ f = some cal → Ctr C.P C.k f cal) (hm : C.P.follows .mixedOrders = true) {A : Nat → Ann} {f k : Nat} {fn : Func} {code : Code} {pk : List Kd} {rk : Kd} {F : Nat → Kd.dens pk → Option (Ans pk rk)}
    (hf : C.P.funcs[f]? = some fn) (hb : fn.body = some code) (hname : (fn.name == "runtime.NumGoroutine") = false) (hfit : fitsC C.P fn.ntmps code = true)
    (h : ∀ x y, F k x = some y → runF C A fn.ntmps code fn.results.toList pk rk (encs pk x) (decR pk rk) = some y) : Ctr C.P k f (mk pk rk F) := by
  refine fun_sound (A := A) (rk := rk) hC hm hf hb hname hfit (fun rvs x hx => ?_) (fun rvs x hx => ?_)
  · simp only [mk] at hx ⊢
    obtain ⟨y, h1, h2⟩ := Option.bind_eq_some_iff.1 hx
    rw [decs_encs pk rvs y h1]
    exact boxes_puts pk y 0
  · simp only [mk] at hx ⊢
    obtain ⟨y, h1, h2⟩ := Option.bind_eq_some_iff.1 hx
    have h3 := h y x h2
    rw [← decs_encs pk rvs y h1, runF_bind] at h3
    obtain ⟨r, h4, h5⟩ := Option.bind_eq_some_iff.1 h3
    rw [h4, decR_encR h5]
def phi : List (Nat × Callee) → Nat → Option Callee
  | [], _ => none
  | (f, c) :: l, g => bif Nat.beq g f then some c else phi l g
theorem phi_ok {P : Program} {k : Nat} : ∀ {l : List (Nat × Callee)}, (∀ p ∈ l, Ctr P k p.1 p.2) → ∀ f cal, phi l f = some cal → Ctr P k f cal
  | [], _, f, cal, h => by simp [phi] at h
  | (g, c) :: l, hl, f, cal, h => by
    simp only [phi] at h
    cases hb : Nat.beq f g with
    | true => rw [hb] at h; simp at h; rw [beq_eq hb, ← h]; exact hl (g, c) (by simp)
    | false => rw [hb] at h; exact phi_ok (fun p hp => hl p (by simp [hp])) f cal h
theorem ctr_nil {P : Program} {k : Nat} : ∀ p ∈ ([] : List (Nat × Callee)), Ctr P k p.1 p.2 := by intro p hp; simp at hp
theorem ctr_cons {P : Program} {k f : Nat} {c : Callee} {l : List (Nat × Callee)} (h : Ctr P k f c) (hl : ∀ p ∈ l, Ctr P k p.1 p.2) : ∀ p ∈ (f, c) :: l, Ctr P k p.1 p.2 := by
  intro p hp
  rcases List.mem_cons.1 hp with rfl | hp
  · exact h
  · exact hl p hp
def iter {V R : Type} (step : (V → Option R) → V → Option R) : Nat → V → Option R
  | 0, _ => none
  | n + 1, v => step (iter step n) v
theorem iter_law {V R : Type} {L : Nat → V → Option R} {step : (V → Option R) → V → Option R} (h0 : ∀ v, L 0 v = none) (h : ∀ n v, L (n + 1) v = step (L n) v) : ∀ n, L n = iter step n
  | 0 => funext h0
  | n + 1 => funext fun v => by rw [h, iter_law h0 h n]; rfl
section
variable {R : Type}
def place (C : Ctx) (A : Nat → Ann) (kp : List Nat) : List Nat → List Nat → Code → (Ex → St → Option R) → Code × (Ex → St → Option R)
  | 0 :: p, ns, .seq a b, K => place C A kp p ns a (seqK (fun s => exec C A kp b s K) K)
  | _ :: p, ns, .seq _ b, K => place C A kp p ns b K
  | 0 :: p, ns, .cond _ a _, K => place C A kp p ns a K
  | _ :: p, ns, .cond _ _ b, K => place C A kp p ns b K
  | _ :: p, ns, .block id c, K => place C A kp p ns c (blockK id K)
  | _ :: p, ns, .scope c, K => place C A kp p ns c K
  | _ :: p, n :: ns, .loop c, K => place C A kp p ns c fun e s => match e with
    | .normal => (norm kp (A (firstRegion c)) s).bind fun s => loopK (exec C A kp c) (norm kp (A (firstRegion c))) n s K
    | .exit i => K (.exit i) s
    | .ret => K .ret s
  | _, _, c, K => (c, K)
def loopAt (C : Ctx) (A : Nat → Ann) (kp : List Nat) (p ns : List Nat) (code : Code) (K : Ex → St → Option R) (n : Nat) (st : St) : Option R :=
  match place C A kp p ns code K with
  | (.loop c, K) => loopK (exec C A kp c) (norm kp (A (firstRegion c))) n st K
  | _ => none
end
end Go.Sh
