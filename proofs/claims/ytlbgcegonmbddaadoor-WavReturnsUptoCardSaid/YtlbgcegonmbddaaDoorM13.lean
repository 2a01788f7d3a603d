/-
  The machine, part 13: code; functions.
-/
import Derived.Test.YtlbgcegonmbddaaDoorM12
import Derived.Scope
import Derived.LoopN
set_option linter.unusedSimpArgs false
set_option linter.unusedVariables false
namespace Go.Sh
open Go
variable {C : Ctx} {G : Glob} {σ : Sig} {w : World} {lim : Nat → Nat} {st : St} {a : Act}

def Ex.out : Ex → Exit
  | .normal => .normal
  | .exit i => .exit i
  | .ret => .ret

/-- what must hold of the text -/
def fitsC (P : Program) (n : Nat) : Code → Bool
  | .region _ ops _ => fitsR P n ops.toList
  | .seq a b => fitsC P n a && fitsC P n b
  | .cond _ a b => fitsC P n a && fitsC P n b
  | .block _ c => fitsC P n c
  | .loop c => fitsC P n c
  | .scope c => fitsC P n c
  | _ => true

/-- where it may stand -/
def Stands (G : Glob) (n : Nat) (st : St) (a : Act) (w : World) : Prop := ∃ σ lim, RelX G σ lim st a.tmps w ∧ a.tmps.size = n ∧ a.defers = []

theorem cond_ok {n : Nat} (h : Stands G n st a w) {c : Operand} {t : Bool} (hc : opnd st.env c = .val (.v (.bool t))) : a.eval c = .bool t := by
  obtain ⟨σ, lim, h, _, _⟩ := h
  have := (opnd_ra h.1 c).1
  rw [hc] at this
  simpa only [RA, RP] using this

theorem melt1_sound {n : Nat} (h : Stands G n st a w) {q : Nat} (hq : q < hidB) : Stands G n (melt1 st q) a w := by
  obtain ⟨σ, lim, h, h2, h3⟩ := h
  unfold melt1
  split
  · rename_i t xss hT
    obtain ⟨lim', h4⟩ := RelW.melt h.1 h.2 hq hT
    exact ⟨σ, lim', h4, h2, h3⟩
  · exact ⟨σ, lim, h, h2, h3⟩
theorem meltAt_sound {n : Nat} (h : Stands G n st a w) (id : Nat) : Stands G n (meltAt C id st) a w := by
  have hL : Low G st := by obtain ⟨_, _, ⟨_, hL⟩, _, _⟩ := h; exact hL
  unfold meltAt
  split
  · split
    · rename_i s _ _ q hs
      exact melt1_sound h (hL.env s q (by rw [hs]; simp [idsOf]))
    · exact h
  · split
    · rename_i s k _ _ r hs
      unfold meltB
      split
      · rename_i cs hr
        split
        · rename_i q hq
          exact melt1_sound h (hL.box r cs hr q (idsOfs_mem (List.mem_of_getElem? hq) (by simp [idsOf])))
        · exact h
      · exact h
    · exact h
  · exact h

theorem exec_sound (hC : ∀ f cal, C.Φ f = some cal → Ctr C.P C.k f cal) (hm : C.P.follows .mixedOrders = true) {A : Nat → Ann} {kp : List Nat} (hk : ∀ p ∈ G.pins, p.1 ∈ kp) {n : Nat} {R : Type} {r : R} :
    (c : Code) → {st : St} → {K : Ex → St → Option R} → exec C A kp c st K = some r → fitsC C.P n c = true → {a : Act} → {w : World} → Stands G n st a w → {Q : Exit → Act → World → Prop} →
    (∀ e st' a' w', K e st' = some r → Stands G n st' a' w' → Q e.out a' w') → c.wp C.P Q a w
  | .skip, st, K, h, hf, a, w, hs, Q, hQ => wp_skip (hQ .normal st a w h hs)
  | .label _, st, K, h, hf, a, w, hs, Q, hQ => wp_label (hQ .normal st a w h hs)
  | .ret, st, K, h, hf, a, w, hs, Q, hQ => wp_ret (hQ .ret st a w h hs)
  | .exit i, st, K, h, hf, a, w, hs, Q, hQ => wp_exit (hQ (.exit i) st a w h hs)
  | .region id ops d, st, K, h, hf, a, w, hs, Q, hQ => by
    simp only [exec] at h
    simp only [fitsC] at hf
    obtain ⟨σ, lim, hR, hn, hd⟩ := meltAt_sound (C := C) hs id
    have hb : ∃ stf lgs, opsB C id ops.toList ops.toList 0 (meltAt C id st) = some (stf, lgs) ∧ (d = true → indepAll ops.toList (masks ops.toList []) lgs = true) ∧ K .normal stf = some r := by
      cases d with
      | false =>
        simp only [cond_false, opsK_eq] at h
        cases ho : opsB C id ops.toList ops.toList 0 (meltAt C id st) with
        | none => rw [ho] at h; simp at h
        | some x => rw [ho] at h; exact ⟨x.1, x.2, rfl, by simp, h⟩
      | true =>
        simp only [cond_true, drawnK_eq, List.nil_append] at h
        cases ho : opsB C id ops.toList ops.toList 0 (meltAt C id st) with
        | none => rw [ho] at h; simp at h
        | some x =>
          rw [ho] at h
          simp only [Option.bind_some] at h
          cases hi : indepAll ops.toList (masks ops.toList []) x.2 with
          | false => rw [hi] at h; simp at h
          | true => rw [hi] at h; exact ⟨x.1, x.2, rfl, fun _ => hi, h⟩
    obtain ⟨stf, lgs, h1, h2, h3⟩ := hb
    exact region_sound hC hm hf hR hn hd h1 h2 fun a' w' σ' lim' hR' hn' hd' => hQ .normal stf a' w' h3 ⟨σ', lim', hR', hn', hd'⟩
  | .seq x y, st, K, h, hf, a, w, hs, Q, hQ => by
    simp only [exec] at h
    simp only [fitsC, Bool.and_eq_true] at hf
    refine wp_seq (exec_sound hC hm hk x h hf.1 hs fun e st' a' w' hK hs' => ?_)
    cases e with
    | normal => exact exec_sound hC hm hk y hK hf.2 hs' hQ
    | exit i => exact hQ (.exit i) st' a' w' hK hs'
    | ret => exact hQ .ret st' a' w' hK hs'
  | .cond c x y, st, K, h, hf, a, w, hs, Q, hQ => by
    simp only [exec] at h
    simp only [fitsC, Bool.and_eq_true] at hf
    split at h
    · rename_i t hc
      have e1 := cond_ok hs hc
      cases t with
      | true =>
        refine wp_cond_true e1 (exec_sound hC hm (A := A) hk x (K := K) ?_ hf.1 hs hQ)
        cases c with
        | tmp d => simp only [opnd] at hc; simpa only [cond_true, setE_same hc] using h
        | _ => exact h
      | false =>
        refine wp_cond_false e1 (exec_sound hC hm (A := A) hk y (K := K) ?_ hf.2 hs hQ)
        cases c with
        | tmp d => simp only [opnd] at hc; simpa only [cond_false, setE_same hc] using h
        | _ => exact h
    · simp at h
  | .block id c, st, K, h, hf, a, w, hs, Q, hQ => by
    simp only [exec] at h
    simp only [fitsC] at hf
    refine wp_block (exec_sound hC hm hk c h hf hs fun e st' a' w' hK hs' => ?_)
    cases e with
    | normal => exact hQ .normal st' a' w' hK hs'
    | ret => exact hQ .ret st' a' w' hK hs'
    | exit i =>
      simp only [blockK] at hK
      simp only [Ex.out, Exit.inBlock]
      cases hb : Nat.beq i id with
      | true => rw [hb] at hK; rw [if_pos (beq_eq hb)]; exact hQ .normal st' a' w' hK hs'
      | false =>
        rw [hb] at hK
        rw [if_neg (by rintro rfl; rw [beq_self] at hb; cases hb)]
        exact hQ (.exit i) st' a' w' hK hs'
  | .loop c, st, K, h, hf, a, w, hs, Q, hQ => by
    simp only [exec] at h
    simp only [fitsC] at hf
    have key : ∀ (m : Nat) (st : St) (a : Act) (w : World), loopK (exec C A kp c) (norm kp (A (firstRegion c))) m st K = some r → Stands G n st a w → Code.rounds C.P c Q m a w := by
      intro m
      induction m with
      | zero => intro st a w h; simp [loopK] at h
      | succ m ih =>
        intro st a w h hs
        rw [rounds_succ]
        simp only [loopK] at h
        refine exec_sound hC hm hk c h hf hs fun e st' a' w' hK hs' => ?_
        cases e with
        | ret => exact hQ .ret st' a' w' hK hs'
        | exit i => exact hQ (.exit i) st' a' w' hK hs'
        | normal =>
          cases hn : norm kp (A (firstRegion c)) st' with
          | none => rw [hn] at hK; simp at hK
          | some s =>
            rw [hn] at hK
            obtain ⟨σ, lim, hR, q1, q2⟩ := hs'
            obtain ⟨σ2, hR2⟩ := norm_sound hR hk hn
            exact ih s a' w' hK ⟨σ2, lim, hR2, q1, q2⟩
    cases hn : norm kp (A (firstRegion c)) st with
    | none => rw [hn] at h; simp at h
    | some s =>
      rw [hn] at h
      obtain ⟨σ, lim, hR, q1, q2⟩ := hs
      obtain ⟨σ2, hR2⟩ := norm_sound hR hk hn
      exact wp_loop_rounds C.k (key C.k s a w h ⟨σ2, lim, hR2, q1, q2⟩)
  | .scope c, st, K, h, hf, a, w, hs, Q, hQ => by
    simp only [exec] at h
    simp only [fitsC] at hf
    refine wp_scope_straight (exec_sound hC hm hk c h hf hs fun e st' a' w' hK hs' => ?_)
    cases e <;> exact hQ _ st' a' w' hK hs'
  | .rangeFunc _ _ _ _, st, K, h, hf, a, w, hs, Q, hQ => by simp [exec] at h
  | .goto _, st, K, h, hf, a, w, hs, Q, hQ => by simp [exec] at h
end Go.Sh
