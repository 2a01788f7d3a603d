/-
  What the row needs, part 4.
-/
import Derived.Test.YtmeahimfdhdggaaGreatDoorXFrameNumbers3
import Derived.Scope
import Derived.LoopN
set_option linter.unusedSimpArgs false
set_option linter.unusedVariables false
set_option linter.unusedSectionVars false
namespace Go.Sh
open Go
variable [Gl]
variable {C : Ctx} {G : Glob} {σ : Wt} {w : World} {lim : Nat → Nat} {st : St} {a : Act}
def Ex.out : Ex → Exit
  | .normal => .normal
  | .exit i => .exit i
  | .ret => .ret
def Xp (P : Program) (n : Nat) : Code → Bool
  | .region _ ops _ => ZpV P n ops.toList
  | .seq a b => Xp P n a && Xp P n b
  | .cond _ a b => Xp P n a && Xp P n b
  | .block _ c => Xp P n c
  | .loop c => Xp P n c
  | .scope c => Xp P n c
  | _ => true
def Wl (G : Glob) (n : Nat) (st : St) (a : Act) (w : World) : Prop := ∃ σ lim, Q3 G σ lim st a.tmps w ∧ a.tmps.size = n ∧ a.defers = []
theorem ZH6 {n : Nat} (h : Wl G n st a w) {c : Operand} {t : Bool} (hc : Kb st.env c = .val (.v (.bool t))) : a.eval c = .bool t := by
  obtain ⟨σ, lim, h, _, _⟩ := h
  have := (Zq h.1 c).1
  rw [hc] at this
  simpa only [RA, RP] using this
theorem Zji {n : Nat} (h : Wl G n st a w) {q : Nat} (hq : q < ZX) : Wl G n (Zzg st q) a w := by
  obtain ⟨σ, lim, h, h2, h3⟩ := h
  unfold Zzg
  split
  · rename_i t xss hT
    obtain ⟨lim', h4⟩ := RelW.melt h.1 h.2 hq hT
    exact ⟨σ, lim', h4, h2, h3⟩
  · exact ⟨σ, lim, h, h2, h3⟩
theorem ZrO {n : Nat} (h : Wl G n st a w) (id : Nat) : Wl G n (ZeM C id st) a w := by
  have hL : Low G st := by obtain ⟨_, _, ⟨_, hL⟩, _, _⟩ := h; exact hL
  unfold ZeM
  split
  · split
    · rename_i s _ _ q hs
      exact Zji h (hL.env s q (by rw [hs]; simp [Zc]))
    · exact h
  · split
    · rename_i s k _ _ r hs
      unfold ZJp
      split
      · rename_i cs hr
        split
        · rename_i q hq
          exact Zji h (hL.box r cs hr q (XU (List.mem_of_getElem? hq) (by simp [Zc])))
        · exact h
      · exact h
    · exact h
  · exact h
theorem Q1 (hC : ∀ f cal, C.Φ f = some cal → Ctr C.P C.k f cal) (hm : C.P.follows .mixedOrders = true) {A : Nat → Ann} {kp : List Nat} (hk : ∀ p ∈ G.pins, p.1 ∈ kp) {n : Nat} {R : Type} {r : R} :
    (c : Code) → {st : St} → {K : Ex → St → Option R} → WC C A kp c st K = some r → Xp C.P n c = true → {a : Act} → {w : World} → Wl G n st a w → {Q : Exit → Act → World → Prop} →
    (∀ e st' a' w', K e st' = some r → Wl G n st' a' w' → Q e.out a' w') → c.wp C.P Q a w
  | .skip, st, K, h, hf, a, w, hs, Q, hQ => wp_skip (hQ .normal st a w h hs)
  | .label _, st, K, h, hf, a, w, hs, Q, hQ => wp_label (hQ .normal st a w h hs)
  | .ret, st, K, h, hf, a, w, hs, Q, hQ => wp_ret (hQ .ret st a w h hs)
  | .exit i, st, K, h, hf, a, w, hs, Q, hQ => wp_exit (hQ (.exit i) st a w h hs)
  | .region id ops d, st, K, h, hf, a, w, hs, Q, hQ => by
    simp only [WC] at h
    simp only [Xp] at hf
    obtain ⟨σ, lim, hR, hn, hd⟩ := ZrO (C := C) hs id
    have hb : ∃ stf lgs, ZhL C id ops.toList ops.toList 0 (ZeM C id st) = some (stf, lgs) ∧ (d = true → Yq ops.toList (XA ops.toList []) lgs = true) ∧ K .normal stf = some r := by
      cases d with
      | false =>
        simp only [cond_false, Zs8] at h
        cases ho : ZhL C id ops.toList ops.toList 0 (ZeM C id st) with
        | none => rw [ho] at h; simp at h
        | some x => rw [ho] at h; exact ⟨x.1, x.2, rfl, by simp, h⟩
      | true =>
        simp only [cond_true, ZiE, List.nil_append] at h
        cases ho : ZhL C id ops.toList ops.toList 0 (ZeM C id st) with
        | none => rw [ho] at h; simp at h
        | some x =>
          rw [ho] at h
          simp only [Option.bind_some] at h
          cases hi : Yq ops.toList (XA ops.toList []) x.2 with
          | false => rw [hi] at h; simp at h
          | true => rw [hi] at h; exact ⟨x.1, x.2, rfl, fun _ => hi, h⟩
    obtain ⟨stf, lgs, h1, h2, h3⟩ := hb
    exact Zsp hC hm hf hR hn hd h1 h2 fun a' w' σ' lim' hR' hn' hd' => hQ .normal stf a' w' h3 ⟨σ', lim', hR', hn', hd'⟩
  | .seq x y, st, K, h, hf, a, w, hs, Q, hQ => by
    simp only [WC] at h
    simp only [Xp, Bool.and_eq_true] at hf
    refine wp_seq (Q1 hC hm hk x h hf.1 hs fun e st' a' w' hK hs' => ?_)
    cases e with
    | normal => exact Q1 hC hm hk y hK hf.2 hs' hQ
    | exit i => exact hQ (.exit i) st' a' w' hK hs'
    | ret => exact hQ .ret st' a' w' hK hs'
  | .cond c x y, st, K, h, hf, a, w, hs, Q, hQ => by
    simp only [WC] at h
    simp only [Xp, Bool.and_eq_true] at hf
    split at h
    · rename_i t hc
      have e1 := ZH6 hs hc
      cases t with
      | true =>
        refine wp_cond_true e1 (Q1 hC hm (A := A) hk x (K := K) ?_ hf.1 hs hQ)
        cases c with
        | tmp d => simp only [Kb] at hc; simpa only [cond_true, Zig hc] using h
        | _ => exact h
      | false =>
        refine wp_cond_false e1 (Q1 hC hm (A := A) hk y (K := K) ?_ hf.2 hs hQ)
        cases c with
        | tmp d => simp only [Kb] at hc; simpa only [cond_false, Zig hc] using h
        | _ => exact h
    · simp at h
  | .block id c, st, K, h, hf, a, w, hs, Q, hQ => by
    simp only [WC] at h
    simp only [Xp] at hf
    refine wp_block (Q1 hC hm hk c h hf hs fun e st' a' w' hK hs' => ?_)
    cases e with
    | normal => exact hQ .normal st' a' w' hK hs'
    | ret => exact hQ .ret st' a' w' hK hs'
    | exit i =>
      simp only [Zt6] at hK
      simp only [Ex.out, Exit.inBlock]
      cases hb : Nat.beq i id with
      | true => rw [hb] at hK; rw [if_pos (ZU hb)]; exact hQ .normal st' a' w' hK hs'
      | false =>
        rw [hb] at hK
        rw [if_neg (by rintro rfl; rw [Ws] at hb; cases hb)]
        exact hQ (.exit i) st' a' w' hK hs'
  | .loop c, st, K, h, hf, a, w, hs, Q, hQ => by
    simp only [WC] at h
    simp only [Xp] at hf
    have key : ∀ (m : Nat) (st : St) (a : Act) (w : World), Zeu (WC C A kp c) (ZoR kp (A (Qd c))) m st K = some r → Wl G n st a w → Code.rounds C.P c Q m a w := by
      intro m
      induction m with
      | zero => intro st a w h; simp [Zeu] at h
      | succ m ih =>
        intro st a w h hs
        rw [rounds_succ]
        simp only [Zeu] at h
        refine Q1 hC hm hk c h hf hs fun e st' a' w' hK hs' => ?_
        cases e with
        | ret => exact hQ .ret st' a' w' hK hs'
        | exit i => exact hQ (.exit i) st' a' w' hK hs'
        | normal =>
          cases hn : ZoR kp (A (Qd c)) st' with
          | none => rw [hn] at hK; simp at hK
          | some s =>
            rw [hn] at hK
            obtain ⟨σ, lim, hR, q1, q2⟩ := hs'
            obtain ⟨σ2, lim2, hR2⟩ := Znj hR hk hn
            exact ih s a' w' hK ⟨σ2, lim2, hR2, q1, q2⟩
    cases hn : ZoR kp (A (Qd c)) st with
    | none => rw [hn] at h; simp at h
    | some s =>
      rw [hn] at h
      obtain ⟨σ, lim, hR, q1, q2⟩ := hs
      obtain ⟨σ2, lim2, hR2⟩ := Znj hR hk hn
      exact wp_loop_rounds C.k (key C.k s a w h ⟨σ2, lim2, hR2, q1, q2⟩)
  | .scope c, st, K, h, hf, a, w, hs, Q, hQ => by
    simp only [WC] at h
    simp only [Xp] at hf
    refine wp_scope_straight (Q1 hC hm hk c h hf hs fun e st' a' w' hK hs' => ?_)
    cases e <;> exact hQ _ st' a' w' hK hs'
  | .rangeFunc _ _ _ _, st, K, h, hf, a, w, hs, Q, hQ => by simp [WC] at h
  | .goto _, st, K, h, hf, a, w, hs, Q, hQ => by simp [WC] at h
end Go.Sh
namespace Go.Sh
open Go
variable [Gl]
variable {C : Ctx} {G : Glob} {σ : Wt} {w : World} {lim : Nat → Nat} {st : St} {tmps : Array Value}
theorem Zxn {P : Program} {T : TypeId} {v x : Value} (h : (Instr.loadAt T v).run P w = .ok x w) : (asAddr v >>= fun p => loadVar T p : Sem Value).run P w = .ok x w := by
  unfold Instr.loadAt at h
  unfold Instr.sureAddr at h
  split at h
  · simpa [asAddr] using h
  · simp [stuck, Sem.run_bind] at h
def Zoj (tmps : Array Value) : ResultVar → Sem Value
  | .tmp t => pure (tmps.getD t undef)
  | .cell a t => do loadVar t (← asAddr (tmps.getD a undef))
theorem ZlM (h : RelW G σ lim st tmps w) {r : ResultVar} {l l' : List Nat} {x : AV} (hm : (Zar C st r).run st.tbl l = some (x, l')) :
    ∃ v, (Zoj tmps r).run C.P w = .ok v w ∧ RA σ w lim x v ∧ Zm st.tbl (Zc x) := by
  cases r with
  | tmp t =>
    obtain ⟨rfl, _⟩ := M.run_ret hm
    exact ⟨_, rfl, h.env t, h.known t⟩
  | cell a T =>
    simp only [Zar] at hm
    obtain ⟨e, l1, h1, h2⟩ := M.run_bind_some hm
    obtain ⟨rfl, _⟩ := M.run_ret h2
    obtain ⟨v, e1, e2, e3, e4⟩ := Zl1 h1 (h.env a) h.res
    exact ⟨v, Zxn e1, e2, e3⟩
theorem ZbN (h : RelW G σ lim st tmps w) : (rs : List ResultVar) → {l l' : List Nat} → {xs : List AV} → (Xh C st rs).run st.tbl l = some (xs, l') →
    ∃ vs, (rs.mapM (Zoj tmps)).run C.P w = .ok vs w ∧ ZW σ w lim xs vs ∧ Zm st.tbl (Zl xs)
  | [], l, l', xs, hm => by
    obtain ⟨rfl, _⟩ := M.run_ret hm
    exact ⟨[], rfl, by simp [ZW], by simp [Zl, Zm]⟩
  | r :: rs, l, l', xs, hm => by
    simp only [Xh] at hm
    obtain ⟨x, l1, h1, h2⟩ := M.run_bind_some hm
    obtain ⟨ys, l2, h3, h4⟩ := M.run_bind_some h2
    obtain ⟨rfl, _⟩ := M.run_ret h4
    obtain ⟨v, e1, e2, e3⟩ := ZlM h h1
    obtain ⟨vs, f1, f2, f3⟩ := ZbN h rs h3
    refine ⟨v :: vs, ?_, by simp only [ZW]; exact ⟨e2, f2⟩, ?_⟩
    · simp [List.mapM_cons, Sem.run_bind, e1, f1]
    · intro i hi; simp only [Zl, List.mem_append] at hi; rcases hi with hi | hi; exact e3 i hi; exact f3 i hi
theorem Zex {st st2 : St} (he : st2.env = st.env) : ∀ (rs : List ResultVar), Xh C st rs = Xh C st2 rs
  | [] => rfl
  | r :: rs => by
    have h1 : Zar C st r = Zar C st2 r := by cases r <;> simp only [Zar, he]
    simp only [Xh, h1, Zex he rs]
theorem ZoF (h : RelW G σ lim st tmps w) {fn : Func} {l l' : List Nat} {xs : List AV} (hm : (Xh C st fn.results.toList).run st.tbl l = some (xs, l')) :
    ∃ v, (results fn tmps).run C.P w = .ok v w ∧ RA σ w lim (match (generalizing := false) xs with | [a] => a | as => .tup as) v := by
  obtain ⟨vs, e1, e2, e3⟩ := ZbN h _ hm
  have e0 : results fn tmps = (do let vs ← fn.results.mapM (Zoj tmps); pure (if h : vs.size = 1 then vs[0] else .tuple vs)) := by
    unfold results
    congr 1
  rw [e0, Array.mapM_eq_mapM_toList]
  match xs, vs, e2 with
  | [x], [v], e2 =>
    refine ⟨v, ?_, by simpa [ZW] using e2⟩
    simp [Sem.run_bind, Sem.run_map, e1]
  | [], [], e2 =>
    refine ⟨.tuple #[], ?_, by simp only [RA]; exact ⟨[], rfl, by simp [ZW]⟩⟩
    simp [Sem.run_bind, Sem.run_map, e1]
  | x :: y :: xs, v :: u :: vs, e2 =>
    refine ⟨.tuple (v :: u :: vs).toArray, ?_, by simp only [RA]; exact ⟨_, rfl, e2⟩⟩
    simp [Sem.run_bind, Sem.run_map, e1]
  | [], _ :: _, e2 => simp [ZW] at e2
  | _ :: _, [], e2 => simp [ZW] at e2
  | [_], _ :: _ :: _, e2 => simp [ZW] at e2
  | _ :: _ :: _, [_], e2 => simp [ZW] at e2
def WU : List Kd → List Value → List Value
  | .box _ :: l, a :: as => a :: WU l as
  | .bld _ :: l, a :: as => a :: WU l as
  | _ :: l, _ :: as => WU l as
  | _, _ => []
def X5 : List AV → List Value → List (Nat × Value)
  | .bx r _ :: l, v :: vs => (r, v) :: X5 l vs
  | _ :: l, _ :: vs => X5 l vs
  | _, _ => []
theorem ZgT : (as : List AV) → (vs : List Value) → ∀ p ∈ X5 as vs, p.1 ∈ Q0 as
  | [], vs, p, hp => by cases vs <;> simp [X5] at hp
  | x :: as, [], p, hp => by cases x <;> simp [X5] at hp
  | x :: as, v :: vs, p, hp => by
    cases x with
    | bx r k =>
      simp only [X5, List.mem_cons] at hp
      simp only [Q0, List.mem_cons]
      rcases hp with rfl | hp
      · exact .inl rfl
      · exact .inr (ZgT as vs p hp)
    | _ => simp only [X5] at hp; simp only [Q0]; exact ZgT as vs p hp
theorem ZzP : (pk : List Kd) → {as : List AV} → {vs : List Value} → ZW σ w lim as vs → ZW σ w lim (Qh pk as) (WU pk vs)
  | [], as, vs, h => by cases as <;> cases vs <;> simp [Qh, WU, ZW]
  | k :: pk, as, vs, h => by
    match as, vs, h with
    | [], [], h => cases k <;> simp [Qh, WU, ZW]
    | x :: as, v :: vs, h =>
      simp only [ZW] at h
      have ih := ZzP pk h.2
      cases k <;> simp only [Qh, WU, ZW] <;> first | exact ih | exact ⟨h.1, ih⟩
    | [], _ :: _, h => simp [ZW] at h
    | _ :: _, [], h => simp [ZW] at h
def XF (as : List AV) : Bool := as.all fun | .bx _ 0 => true | _ => false
theorem ZMu {as : List AV} {vs : List Value} (hb : XF as = true) (h : ZW σ w lim as vs) : ∀ p ∈ X5 as vs, σ p.1 = p.2 := by
  induction as generalizing vs with
  | nil => intro p hp; cases vs <;> simp [X5] at hp
  | cons x as ih =>
    cases vs with
    | nil => simp [ZW] at h
    | cons v vs =>
      simp only [ZW] at h
      simp only [XF, List.all_cons, Bool.and_eq_true] at hb
      intro p hp
      obtain ⟨hb1, hb2⟩ := hb
      split at hb1
      · rename_i r
        simp only [X5, List.mem_cons] at hp
        rcases hp with rfl | hp
        · have := h.1
          simp only [RA] at this
          obtain ⟨b, e1, e2⟩ := this
          rw [e1, e2]
        · exact ih hb2 h.2 p hp
      · cases hb1
theorem Zx0 {σ' : Wt} {w' : World} {lim' : Nat → Nat} {as : List AV} {vs : List Value} (hb : XF as = true) (h : ZW σ w lim as vs) (hp : ∀ p ∈ X5 as vs, σ' p.1 = p.2) : ZW σ' w' lim' as vs := by
  induction as generalizing vs with
  | nil => cases vs <;> simp [ZW] at h ⊢
  | cons x as ih =>
    cases vs with
    | nil => simp [ZW] at h
    | cons v vs =>
      simp only [ZW] at h ⊢
      simp only [XF, List.all_cons, Bool.and_eq_true] at hb
      obtain ⟨hb1, hb2⟩ := hb
      split at hb1
      · rename_i r
        simp only [X5, List.mem_cons] at hp
        refine ⟨?_, ih hb2 h.2 fun p hm => hp p (.inr hm)⟩
        have h1 := h.1
        simp only [RA] at h1 ⊢
        obtain ⟨b, e1, e2⟩ := h1
        exact ⟨b, by rw [hp (r, v) (.inl rfl)]; exact e2, e2⟩
      · cases hb1
theorem Zzo : (pk : List Kd) → {vs : List Value} → {rs : List RV} → {bs : List Nat} → vs.length = pk.length → TTs w lim rs (WU pk vs) bs → TL w lim pk vs rs bs
  | [], [], rs, bs, _, h => by
    simp only [WU] at h
    cases rs with
    | nil => simpa [TL, TTs] using h
    | cons _ _ => simp [TTs] at h
  | k :: pk, v :: vs, rs, bs, hl, h => by
    have hl' : vs.length = pk.length := by simpa using hl
    cases k with
    | box l =>
      simp only [WU] at h
      cases rs with
      | nil => simp [TTs] at h
      | cons x rs =>
        simp only [TTs] at h
        simp only [TL]
        obtain ⟨b1, b2, e, h1, h2⟩ := h
        exact ⟨b1, b2, e, h1, Zzo pk hl' h2⟩
    | bld T =>
      simp only [WU] at h
      cases rs with
      | nil => simp [TTs] at h
      | cons x rs =>
        simp only [TTs] at h
        simp only [TL]
        obtain ⟨b1, b2, e, h1, h2⟩ := h
        exact ⟨b1, b2, e, h1, Zzo pk hl' h2⟩
    | _ => simp only [WU] at h; simp only [TL]; exact Zzo pk hl' h
  | [], _ :: _, rs, bs, hl, _ => by simp at hl
  | _ :: _, [], rs, bs, hl, _ => by simp at hl
theorem ZaM : ∀ (u : QL), ZA u = Z1.put (fun _ => .fresh) u
  | [] => rfl
  | (a, x) :: u => by
    funext r
    simp only [ZA, Z1.put, Zx, ZaM u]
    rw [show Nat.beq a r = Nat.beq r a from by
      cases h : Nat.beq r a with
      | true => rw [ZU h]; exact Ws _
      | false => exact Zbq fun e => by rw [e, Ws] at h; cases h]
    cases Nat.beq r a <;> rfl
theorem KB : ∀ (as : List AV) (i s : Nat), ZC (index i as) s = .dead ∨ ∃ j, s = i + j ∧ as[j]? = some (ZC (index i as) s)
  | [], i, s => .inl rfl
  | x :: as, i, s => by
    simp only [index, ZC]
    cases h : Nat.beq s i with
    | true => exact .inr ⟨0, by simpa using ZU h, rfl⟩
    | false =>
      simp only [cond_false]
      rcases KB as (i + 1) s with h | ⟨j, h1, h2⟩
      · exact .inl h
      · exact .inr ⟨j + 1, by omega, by simpa using h2⟩
theorem ZpB {as : List AV} {j : Nat} {x : AV} (h : as[j]? = some x) : ∀ r ∈ Zc x, r ∈ Zl as := by
  induction as generalizing j with
  | nil => simp at h
  | cons y as ih =>
    intro r hr
    simp only [Zl, List.mem_append]
    cases j with
    | zero => simp at h; subst h; exact .inl hr
    | succ j => exact .inr (ih (by simpa using h) r hr)
theorem ZeR {as : List AV} {vs : List Value} (h : ZW σ w lim as vs) : as.length = vs.length := by
  induction as generalizing vs with
  | nil => cases vs <;> simp [ZW] at h ⊢
  | cons x as ih =>
    cases vs with
    | nil => simp [ZW] at h
    | cons v vs => simp only [ZW] at h; simp [ih h.2]
theorem ZbV : (xs : List RV) → (n : Nat) → (ZG n xs).1.length = xs.length
  | [], n => rfl
  | x :: xs, n => by simp only [ZG, List.length_cons, ZbV xs]
theorem Xa : (pk : List Kd) → (as : List AV) → ∀ r ∈ Q0 (Qh pk as), r ∈ Zl as
  | [], as, r, hr => by cases as <;> simp [Qh, Q0] at hr
  | k :: pk, [], r, hr => by cases k <;> simp [Qh, Q0] at hr
  | k :: pk, x :: as, r, hr => by
    simp only [Zl, List.mem_append]
    cases k with
    | box l =>
      simp only [Qh] at hr
      cases x with
      | bx b j =>
        simp only [Q0, List.mem_cons] at hr
        rcases hr with rfl | hr
        · exact .inl (by simp [Zc])
        · exact .inr (Xa pk as r hr)
      | _ => simp only [Q0] at hr; exact .inr (Xa pk as r hr)
    | bld T =>
      simp only [Qh] at hr
      cases x with
      | bx b j =>
        simp only [Q0, List.mem_cons] at hr
        rcases hr with rfl | hr
        · exact .inl (by simp [Zc])
        · exact .inr (Xa pk as r hr)
      | _ => simp only [Q0] at hr; exact .inr (Xa pk as r hr)
    | _ => simp only [Qh] at hr; exact .inr (Xa pk as r hr)
mutual
theorem ZHh : (x : RV) → (n : Nat) → (∀ r ∈ Zc (put n x).1, r < (put n x).2.2) ∧ ∀ p ∈ (put n x).2.1, p.1 < (put n x).2.2 ∧ Kj p.2 = true ∧ ∀ cs, p.2 = .live (.box cs) → ∀ q ∈ Zl cs, q < (put n x).2.2
  | .view t x, n => by simp only [put]; rw [Znw]; simp
  | .own t sh xs, n => by simp [put, Zc, Kj]
  | .box cs, n => by
    obtain ⟨h1, h2⟩ := Zak cs (n + 1)
    have hle := Ww cs (n + 1)
    simp only [put]
    refine ⟨by intro r hr; simp [Zc] at hr; omega, fun p hp => ?_⟩
    cases hp with
    | head => exact ⟨by simp only; omega, rfl, fun ds hd => by simp only [RS.live.injEq, Res.box.injEq] at hd; subst hd; exact h1⟩
    | tail _ hp => exact h2 p hp
  | .agg cs, n => by
    obtain ⟨h1, h2⟩ := Zak cs n
    simp only [put]
    exact ⟨by simpa [Zc] using h1, h2⟩
  | .tup cs, n => by
    obtain ⟨h1, h2⟩ := Zak cs n
    simp only [put]
    exact ⟨by simpa [Zc] using h1, h2⟩
  | .fn f, n => by simp [put, Zc]
  | .ns t xs, n => by simp [put, Zc]
  | .clo f cs, n => by
    obtain ⟨h1, h2⟩ := Zak cs n
    simp only [put]
    exact ⟨by simpa [Zc] using h1, h2⟩
  | .bld T xs, n => by
    simp only [put]
    refine ⟨by intro r hr; simp [Zc] at hr; omega, fun p hp => ?_⟩
    simp only [List.mem_cons, List.not_mem_nil, or_false] at hp
    rcases hp with rfl | rfl
    · refine ⟨by simp only; omega, rfl, fun cs hc q hq => ?_⟩
      simp only [RS.live.injEq, Res.box.injEq] at hc
      subst hc
      simp [Zl, Zc] at hq
      omega
    · exact ⟨by simp only; omega, rfl, fun cs hc => by cases hc⟩
theorem Zak : (xs : List RV) → (n : Nat) → (∀ r ∈ Zl (ZG n xs).1, r < (ZG n xs).2.2) ∧ ∀ p ∈ (ZG n xs).2.1, p.1 < (ZG n xs).2.2 ∧ Kj p.2 = true ∧ ∀ cs, p.2 = .live (.box cs) → ∀ q ∈ Zl cs, q < (ZG n xs).2.2
  | [], n => by simp [ZG, Zl]
  | x :: xs, n => by
    obtain ⟨h1, h2⟩ := ZHh x n
    obtain ⟨h3, h4⟩ := Zak xs (put n x).2.2
    have hle := Ww xs (put n x).2.2
    simp only [ZG]
    refine ⟨fun r hr => ?_, fun p hp => ?_⟩
    · simp only [Zl, List.mem_append] at hr
      rcases hr with hr | hr
      · have := h1 r hr; omega
      · exact h3 r hr
    · rcases List.mem_append.1 hp with hp | hp
      · exact h4 p hp
      · obtain ⟨a, b, c⟩ := h2 p hp
        exact ⟨by omega, b, fun cs hc q hq => by have := c cs hc q hq; omega⟩
end
theorem ZAE : WL (fun _ => .fresh) = fun _ => .fresh := by
  funext n
  simp only [WL, Zeh, ite_self]
theorem ZJ2 {avs : List AV} {u : QL} (h : RelW G σ lim (enter avs u) tmps w) (hu : ∀ p ∈ u, p.1 < ZX ∧ Kj p.2 = true ∧ ∀ cs, p.2 = .live (.box cs) → ∀ q ∈ Zl cs, q < ZX)
    (hids : ∀ r ∈ Zl avs, r < ZX) (hp : ∀ p ∈ G.pins, p.1 < ZX) : Q3 G σ lim (enter avs u) tmps w := by
  have e : ZA u = Z1.put (fun _ => .fresh) u := ZaM u
  unfold enter at h ⊢
  rw [e] at h ⊢
  refine Q3.of_put (T := fun _ => .fresh) (by rw [ZAE]; exact h) (fun p hp => ⟨(hu p hp).1, (hu p hp).2.1⟩) ⟨fun s r hr => ?_, fun r cs hr => ?_, hp⟩
  · simp only at hr
    rcases KB avs 0 s with h | ⟨j, h1, h2⟩
    · rw [h] at hr; simp [Zc] at hr
    · exact hids r (ZpB h2 r hr)
  · simp only [Z1.put] at hr
    cases hl : Zx u r with
    | none => rw [hl] at hr; cases hr
    | some z => rw [hl] at hr; simp only at hr; exact (hu _ (QV hl)).2.2 cs hr
theorem Zoh : (ks : List Kd) → (as : List AV) → WH ks as = true → (Z5 ks as).length = (ZK ks).length
  | [], [], _ => rfl
  | [], _ :: _, h => by simp [WH] at h
  | k :: ks, [], h => by cases k <;> simp [WH] at h
  | k :: ks, a :: as, h => by
    cases k with
    | clo f l =>
      cases a with
      | clo g cs =>
        simp only [WH, Bool.and_eq_true] at h
        have := ZU h.1
        simp only [Z5, ZK, List.length_append, Zoh ks as h.2, this]
      | _ => simp [WH] at h
    | _ => simp only [WH] at h; simp only [Z5, ZK, List.length_cons, Zoh ks as h]
def ZgI : List Kd → Nat
  | [] => 0
  | .ref _ :: l => ZgI l + 1
  | _ :: l => ZgI l
theorem Zjl : (ks : List Kd) → Yy ks = false → ZgI ks = 0
  | [], _ => rfl
  | k :: ks, h => by
    cases k with
    | ref l => simp [Yy] at h
    | _ => simp only [Yy] at h; simp only [ZgI]; exact Zjl ks h
theorem Zbu : (ks : List Kd) → (cs : List AV) → {q : List Nat} → Zw ks cs = some q → q.length = ZgI ks
  | [], [], q, h => by simp [Zw] at h; subst h; rfl
  | k :: ks, a :: as, q, h => by
    have other : (∀ l, k ≠ .ref l) → q.length = ZgI (k :: ks) := by
      intro hk
      have e : Zw (k :: ks) (a :: as) = Zw ks as := by cases k <;> first | rfl | exact absurd rfl (hk _)
      have e2 : ZgI (k :: ks) = ZgI ks := by cases k <;> first | rfl | exact absurd rfl (hk _)
      rw [e] at h
      rw [e2]; exact Zbu ks as h
    cases k with
    | ref l =>
      cases a with
      | bx s kk =>
        cases kk with
        | succ kk => simp [Zw] at h
        | zero =>
          simp only [Zw] at h
          cases hq2 : Zw ks as with
          | none => rw [hq2] at h; simp at h
          | some q2 =>
            rw [hq2] at h
            simp only [Option.some.injEq] at h
            subst h
            simp only [List.length_cons, ZgI, Zbu ks as hq2]
      | _ => simp [Zw] at h
    | _ => exact other (by intro l; simp)
  | [], _ :: _, q, h => by simp [Zw] at h
  | k :: _, [], q, h => by cases k <;> simp [Zw] at h
theorem Zf1 {σ : Wt} : (ks : List Kd) → (q : List Nat) → (vs vs' : List Value) → q.length = ZgI ks → Z4 σ q ks vs → Z4 σ q ks vs' → Xu ks vs vs'
  | [], q, vs, vs', _, _, _ => by simp [Xu]
  | k :: ks, q, [], vs', _, _, _ => by cases k <;> simp [Xu]
  | k :: ks, q, v :: vs, [], _, _, _ => by cases k <;> simp [Xu]
  | k :: ks, q, v :: vs, v' :: vs', hl, h, h' => by
    have other : (∀ l, k ≠ .ref l) → Xu (k :: ks) (v :: vs) (v' :: vs') := by
      intro hk
      have e2 : ZgI (k :: ks) = ZgI ks := by cases k <;> first | rfl | exact absurd rfl (hk _)
      have e3 : Xu (k :: ks) (v :: vs) (v' :: vs') = Xu ks vs vs' := by cases k <;> first | rfl | exact absurd rfl (hk _)
      rw [e3]
      rw [e2] at hl
      cases q with
      | nil => exact Zf1 (σ := σ) ks [] vs vs' hl QI QI
      | cons q0 q =>
        have e4 : ∀ (u : Value) (us : List Value), Z4 σ (q0 :: q) (k :: ks) (u :: us) = Z4 σ (q0 :: q) ks us := by intro u us; cases k <;> first | rfl | exact absurd rfl (hk _)
        rw [e4] at h h'
        exact Zf1 ks (q0 :: q) vs vs' hl h h'
    cases k with
    | ref l =>
      cases q with
      | nil => simp [ZgI] at hl
      | cons q0 q =>
        simp only [Z4] at h h'
        simp only [Xu]
        exact ⟨h'.1.trans h.1.symm, Zf1 ks q vs vs' (by simpa [ZgI] using hl) h.2 h'.2⟩
    | _ => exact other (by intro l; simp)
theorem ZiF {σ1 : Wt} {w0 : World} (h : RelW G σ lim st tmps w) : (ks : List Kd) → {as : List AV} → {vs : List Value} → {l l' : List Nat} → {nm : List (List Nat)} → (YC ks as).run st.tbl l = some (nm, l') → ZW σ w lim as vs → Wp σ1 w0 nm ks vs → (∀ q ∈ nm.flatten, σ q = σ1 q) → XY w0 w ks vs
  | [], as, vs, l, l', nm, hm, hv, hr, hq => by cases vs <;> simp [XY]
  | k :: ks, [], vs, l, l', nm, hm, hv, hr, hq => by
    match vs, hv with
    | [], _ => cases k <;> simp [XY]
  | k :: ks, a :: as, vs, l, l', nm, hm, hv, hr, hq => by
    match vs, hv with
    | v :: vs, hv =>
      simp only [ZW] at hv
      have other : (∀ l, k ≠ .box l) → XY w0 w (k :: ks) (v :: vs) := fun hk => by
        rw [Kf hk] at hm
        have e : XY w0 w (k :: ks) (v :: vs) = XY w0 w ks vs := by cases k <;> first | rfl | exact absurd rfl (hk _)
        have e2 : Wp σ1 w0 nm (k :: ks) (v :: vs) = Wp σ1 w0 nm ks vs := by cases k <;> first | (cases nm <;> rfl) | exact absurd rfl (hk _)
        rw [e]
        rw [e2] at hr
        exact ZiF h ks hm hv.2 hr hq
      cases k with
      | box l0 =>
        cases a with
        | bx r kk =>
          cases kk with
          | succ kk => exact (M.run_fail hm).elim
          | zero =>
            simp only [YC] at hm
            obtain ⟨q0, l5, h5, h6⟩ := M.run_bind_some hm
            obtain ⟨qs, l6, h7, h8⟩ := M.run_bind_some h6
            obtain ⟨h9, _⟩ := M.run_ret h8
            subst h9
            simp only [Wp] at hr
            simp only [XY]
            refine ⟨fun b cs T fz cs' T' fz' e1 e2 e3 => ?_, ZiF h ks h7 hv.2 hr.2 (fun q' hq' => hq q' (by rw [List.flatten_cons]; exact List.mem_append_right _ hq'))⟩
            have hold := hr.1 b cs T fz e1 e2
            cases hh : Yy l0 with
            | false =>
              have hz := Zjl l0 hh
              exact Zf1 (σ := σ) l0 [] _ _ (by simp [hz]) QI QI
            | true =>
              unfold Zbx at h5
              rw [hh] at h5
              simp only [cond_true, M.run] at h5
              cases hrr : st.tbl r with
              | fresh => simp [hrr, M.run] at h5
              | gone => simp [hrr, M.run] at h5
              | live y =>
                cases y with
                | arr => simp [hrr, M.run] at h5
                | nest => simp [hrr, M.run] at h5
                | box as0 =>
                  simp only [hrr] at h5
                  have hn := M.run_ofOpt h5
                  obtain ⟨hR, _⟩ := h.res r _ hrr
                  obtain ⟨b0, ws, U, f1, f2, f3, f4, _⟩ := Xi hv.1 hR
                  rw [e1] at f2
                  obtain rfl : b = b0 := by simpa using f2
                  rw [e3] at f3
                  obtain ⟨rfl, _⟩ : cs' = ws ∧ _ := by simpa using f3
                  have hnew := XC l0 as0 hn f4 (ZeN l0 cs'.toList)
                  exact Zf1 (σ := σ1) l0 q0 _ _ (Zbu l0 as0 hn) hold (WN _ _ _ (fun q' hq' => (hq q' (by rw [List.flatten_cons]; exact List.mem_append_left _ hq')).symm) hnew)
        | _ => exact (M.run_fail hm).elim
      | _ => exact other (by intro l; simp)
    | [], hv => simp [ZW] at hv
theorem Zqm (h : RelW G σ lim st tmps w) : (ks : List Kd) → {as : List AV} → {vs : List Value} → XF as = true → ZW σ w lim as vs → Wp σ w (YB st.tbl ks as) ks vs
  | [], as, vs, hb, hv => by
    have : YB st.tbl [] as = [] := by cases as <;> rfl
    rw [this]; cases vs <;> simp [Wp]
  | k :: ks, [], vs, hb, hv => by
    match vs, hv with
    | [], _ => cases k <;> simp [YB, Wp]
  | k :: ks, a :: as, vs, hb, hv => by
    match vs, hv with
    | v :: vs, hv =>
      simp only [ZW] at hv
      simp only [XF, List.all_cons, Bool.and_eq_true] at hb
      have ih := Zqm h ks hb.2 hv.2
      have other : (∀ l, k ≠ .box l) → Wp σ w (YB st.tbl (k :: ks) (a :: as)) (k :: ks) (v :: vs) := fun hk => by
        have e : YB st.tbl (k :: ks) (a :: as) = YB st.tbl ks as := by cases k <;> first | rfl | exact absurd rfl (hk _)
        rw [e]
        have e2 : ∀ nm, Wp σ w nm (k :: ks) (v :: vs) = Wp σ w nm ks vs := by intro nm; cases k <;> first | (cases nm <;> rfl) | exact absurd rfl (hk _)
        rw [e2]; exact ih
      cases k with
      | box l0 =>
        cases a with
        | bx r kk =>
         cases kk with
         | succ kk => simp at hb
         | zero =>
          simp only [YB, Wp]
          refine ⟨fun b cs T fz e1 e2 => ?_, ih⟩
          cases hh : Yy l0 with
          | false => exact QI
          | true =>
            simp only [cond_true]
            cases hr : st.tbl r with
            | fresh => exact QI
            | gone => exact QI
            | live y =>
              cases y with
              | arr => exact QI
              | nest => exact QI
              | box as0 =>
                simp only
                cases hn : Zw l0 as0 with
                | none => exact QI
                | some q =>
                  obtain ⟨hR, _⟩ := h.res r _ hr
                  obtain ⟨b0, ws, U, f1, f2, f3, f4, _⟩ := Xi hv.1 hR
                  rw [e1] at f2
                  obtain rfl : b = b0 := by simpa using f2
                  rw [e2] at f3
                  obtain ⟨rfl, _⟩ : cs = ws ∧ _ := by simpa using f3
                  exact XC l0 as0 hn f4 (ZeN l0 cs.toList)
        | _ => simp at hb
      | _ => exact other (by intro l; simp)
    | [], hv => simp [ZW] at hv
theorem KG {tbl : Z1} {lim : Nat → Nat} (hres : ∀ r x, tbl r = .live x → RR σ w lim r x ∧ Zm tbl (Z6 r x)) : (ks : List Kd) → (as : List AV) → ∀ q ∈ (YB tbl ks as).flatten, ∃ r cs, tbl r = .live (.box cs) ∧ q ∈ Zl cs
  | [], as, q, hq => by
    have : YB tbl [] as = [] := by cases as <;> rfl
    rw [this] at hq; simp at hq
  | k :: ks, [], q, hq => by
    have : YB tbl (k :: ks) [] = [] := by cases k <;> rfl
    rw [this] at hq; simp at hq
  | k :: ks, a :: as, q, hq => by
    have other : YB tbl (k :: ks) (a :: as) = YB tbl ks as → ∃ r cs, tbl r = .live (.box cs) ∧ q ∈ Zl cs := fun e => by
      rw [e] at hq
      exact KG hres ks as q hq
    cases k with
    | box l0 =>
      cases a with
      | bx r kk =>
        cases kk with
        | succ kk => exact other rfl
        | zero =>
          simp only [YB, List.flatten_cons, List.mem_append] at hq
          rcases hq with hq | hq
          · cases hh : Yy l0 with
            | false => rw [hh] at hq; simp at hq
            | true =>
              rw [hh] at hq
              simp only [cond_true] at hq
              cases hr : tbl r with
              | fresh => rw [hr] at hq; simp at hq
              | gone => rw [hr] at hq; simp at hq
              | live y =>
                rw [hr] at hq
                cases y with
                | arr => simp at hq
                | nest => simp at hq
                | box as0 =>
                  simp only at hq
                  cases hn : Zw l0 as0 with
                  | none => rw [hn] at hq; simp at hq
                  | some q' => rw [hn] at hq; exact ⟨r, as0, hr, YJ l0 as0 hn q hq⟩
          · exact KG hres ks as q hq
      | _ => exact other rfl
    | _ => exact other rfl
theorem ZFT : {a b : List Nat} → nEq a b = true → a = b
  | [], [], _ => rfl
  | x :: a, y :: b, h => by
    simp only [nEq, Bool.and_eq_true] at h
    rw [ZU h.1, ZFT h.2]
  | [], _ :: _, h => by simp [nEq] at h
  | _ :: _, [], h => by simp [nEq] at h
theorem ZzZ : {a b : List (List Nat)} → ZAD a b = true → a = b
  | [], [], _ => rfl
  | x :: a, y :: b, h => by
    simp only [ZAD, Bool.and_eq_true] at h
    rw [ZFT h.1, ZzZ h.2]
  | [], _ :: _, h => by simp [ZAD] at h
  | _ :: _, [], h => by simp [ZAD] at h
theorem Zd4 {w0 : World} : (ks : List Kd) → (vs : List Value) → XY w0 w (WZ ks) (WU ks vs) → XY w0 w ks vs
  | [], vs, _ => by cases vs <;> simp [XY]
  | k :: ks, [], _ => by cases k <;> simp [XY]
  | k :: ks, v :: vs, h => by
    cases k with
    | box l =>
      simp only [WZ, WU, XY] at h ⊢
      exact ⟨h.1, Zd4 ks vs h.2⟩
    | bld T =>
      simp only [WZ, WU, XY] at h ⊢
      exact Zd4 ks vs h
    | _ => simp only [WZ, WU] at h; simp only [XY]; exact Zd4 ks vs h
theorem Ztq {rvs : List RV} {vs : List Value} {bs : List Nat} {pk : List Kd} {n : Nat} (hlz : ∀ b, w.heap.size ≤ b → lim b = 0) (hgl : ZqN w lim) (hT : TTs w lim rvs vs bs) (hnd : bs.Nodup) (hbs : ∀ b ∈ bs, b < w.heap.size)
    (hn : rvs.length ≤ n) (hin : (ZG 0 rvs).2.2 ≤ ZX) (hco : WH pk (ZG 0 rvs).1 = true) (hb : XF (Qh (ZK pk) (Z5 pk (ZG 0 rvs).1)) = true) :
    ∃ σ, Wl ⟨w, lim, bs, X5 (Qh (ZK pk) (Z5 pk (ZG 0 rvs).1)) (WU (ZK pk) (Wu pk vs)) ++ (K8 pk rvs).flatten.map (fun q => (q, σ q))⟩ n (enter (ZG 0 rvs).1 (ZG 0 rvs).2.1) { tmps := vs.toArray ++ Array.replicate (n - vs.toArray.size) undef, defers := [] } w ∧
      ZW σ w lim (Qh (ZK pk) (Z5 pk (ZG 0 rvs).1)) (WU (ZK pk) (Wu pk vs)) ∧ vs.length = rvs.length ∧ (Wu pk vs).length = (ZK pk).length ∧ Wp σ w (K8 pk rvs) (WZ (ZK pk)) (WU (ZK pk) (Wu pk vs)) := by
  have h0 : RelW ⟨w, lim, bs, []⟩ (fun _ => undef) lim ⟨fun _ => .dead, fun _ => .fresh⟩ (vs.toArray ++ Array.replicate (n - vs.toArray.size) undef) w :=
    { env := by intro s; simp [RA]
      known := by intro s; simp [Zc, Zm]
      res := by intro r x h; simp at h
      inj := by intro r r' b h; simp [ZO] at h
      own := by intro r b h; simp [ZO] at h
      ext := Ext.refl _ _
      keep := fun _ _ _ => rfl
      same := ⟨rfl, rfl, rfl⟩
      lz := hlz
      limk := fun _ _ _ => rfl
      glob := hgl
      pin := by intro p hp; simp at hp }
  obtain ⟨σ, hP, hA, hK⟩ := WJ rvs 0 h0 hT (fun _ _ _ => rfl) ⟨hnd, fun b hb => ⟨.inr hb, by intro r h; simp [ZO] at h⟩⟩
  have hlen : vs.length = rvs.length := by rw [← ZbV rvs 0]; exact (ZeR hA).symm
  have hfA := Zkj pk hco hA
  have hL := ZzP (ZK pk) hfA
  have hfl : (Wu pk vs).length = (ZK pk).length := by rw [← ZeR hfA]; exact Zoh pk _ hco
  have hrv : Wp σ w (K8 pk rvs) (WZ (ZK pk)) (WU (ZK pk) (Wu pk vs)) := by
    have := Zqm hP.rel (WZ (ZK pk)) hb hL
    simp only at this
    rw [← ZaM] at this
    exact this
  refine ⟨σ, ⟨σ, lim, ?_, by simp; omega, rfl⟩, hL, hlen, hfl, hrv⟩
  have hR := hP.rel
  simp only at hR hK
  rw [← ZaM] at hR hK
  have hpin := ZMu hb hL
  obtain ⟨lw1, lw2⟩ := Zak rvs 0
  refine ZJ2 ?_ (fun p hp => ⟨Nat.lt_of_lt_of_le (lw2 p hp).1 hin, (lw2 p hp).2.1, fun cs hc q hq => Nat.lt_of_lt_of_le ((lw2 p hp).2.2 cs hc q hq) hin⟩) (fun r hr => Nat.lt_of_lt_of_le (lw1 r hr) hin)
    (fun p hp => by
      rcases List.mem_append.1 hp with hp | hp
      · exact Nat.lt_of_lt_of_le (lw1 p.1 (Zcr pk _ _ (Xa (ZK pk) _ _ (ZgT _ _ p hp)))) hin
      · obtain ⟨q, hq, rfl⟩ := List.mem_map.1 hp
        obtain ⟨r, cs, hr, hqc⟩ := KG hR.res (WZ (ZK pk)) (Qh (ZK pk) (Z5 pk (ZG 0 rvs).1)) q hq
        simp only [ZaM, Z1.put] at hr
        cases hl : Zx (ZG 0 rvs).2.1 r with
        | none => rw [hl] at hr; cases hr
        | some z => rw [hl] at hr; simp only at hr; exact Nat.lt_of_lt_of_le ((lw2 _ (QV hl)).2.2 cs hr q hqc) hin)
  exact
    { env := by
        intro s
        rcases KB (ZG 0 rvs).1 0 s with h | ⟨j, h1, h2⟩
        · simp only [enter, h, RA]
        · have hs : s = j := by omega
          subst hs
          have hjl : s < vs.length := by
            rw [← ZeR hA]
            rcases Nat.lt_or_ge s (ZG 0 rvs).1.length with h | h
            · exact h
            · rw [List.getElem?_eq_none h] at h2; cases h2
          have hv : vs[s]? = some vs[s] := by simp [hjl]
          have := ZyH hA h2 hv
          simp only [enter]
          rw [Array.getD_eq_getD_getElem?, Array.getElem?_append_left (by simpa using hjl)]
          simpa [hv] using this
      known := by
        intro s
        rcases KB (ZG 0 rvs).1 0 s with h | ⟨j, h1, h2⟩
        · simp [enter, h, Zc, Zm]
        · intro r hr
          exact hK r (ZpB h2 r hr)
      res := hR.res, inj := hR.inj, own := hR.own, ext := hR.ext, keep := hR.keep, same := hR.same, lz := hR.lz, limk := hR.limk, glob := hR.glob
      pin := by
        intro p hp
        rcases List.mem_append.1 hp with hp | hp
        · refine ⟨hpin p hp, ?_⟩
          exact hK p.1 (Zcr pk _ _ (Xa (ZK pk) _ _ (ZgT _ _ p hp)))
        · obtain ⟨q, hq, rfl⟩ := List.mem_map.1 hp
          obtain ⟨r, cs, hr, hqc⟩ := KG hR.res (WZ (ZK pk)) (Qh (ZK pk) (Z5 pk (ZG 0 rvs).1)) q hq
          exact ⟨rfl, (hR.res r _ hr).2 q hqc⟩ }
def ZAi (w : World) (lim : Nat → Nat) (vs : List Value) (bs : List Nat) (pk : List Kd) (r : RV × List RV) : Ending → World → Prop := fun e w' => ∃ v lim' b1 b2, e = .returned v ∧ Ext w lim w' lim' ∧ (∀ b, w'.heap.size ≤ b → lim' b = 0) ∧
      (w'.os = w.os ∧ w'.tape = w.tape ∧ w'.output = w.output) ∧ (∀ b, b < w.heap.size → b ∉ bs → w'.heap[b]? = w.heap[b]? ∧ lim' b = lim b) ∧
      TT w' lim' r.1 v b1 ∧ TL w' lim' (ZK pk) (Wu pk vs) r.2 b2 ∧ XY w w' (ZK pk) (Wu pk vs) ∧ (b1 ++ b2).Nodup ∧ ∀ b ∈ b1 ++ b2, b ∈ bs ∨ w.heap.size ≤ b
theorem Zo5 {f : Nat} {fn : Func} {code : Code} {pk : List Kd} {rk : Kd} {rvs : List RV} {r : RV × List RV} {vs : List Value} {bs : List Nat} (hf : C.P.funcs[f]? = some fn) (hb : fn.body = some code)
    (hlz : ∀ b, w.heap.size ≤ b → lim b = 0) (hgl : ZqN w lim) (hT : TTs w lim rvs vs bs) (hnd : bs.Nodup) (hbs : ∀ b ∈ bs, b < w.heap.size) (hbx : XF (Qh (ZK pk) (Z5 pk (ZG 0 rvs).1)) = true) (hn : rvs.length ≤ fn.ntmps) (hin : (ZG 0 rvs).2.2 ≤ ZX) (hco : WH pk (ZG 0 rvs).1 = true)
    (hwp : ∀ (G : Glob), (∀ p ∈ G.pins, p.1 ∈ Q0 (Qh (ZK pk) (Z5 pk (ZG 0 rvs).1)) ++ (K8 pk rvs).flatten) → Wl G fn.ntmps (enter (ZG 0 rvs).1 (ZG 0 rvs).2.1) { tmps := vs.toArray ++ Array.replicate (fn.ntmps - vs.toArray.size) undef, defers := [] } w →
      code.wp C.P (fun e a w => ∃ e' st', e = Ex.out e' ∧ XS C fn.results.toList pk (Qh (ZK pk) (Z5 pk (ZG 0 rvs).1)) (K8 pk rvs) rk some e' st' = some r ∧ Wl G fn.ntmps st' a w) { tmps := vs.toArray ++ Array.replicate (fn.ntmps - vs.toArray.size) undef, defers := [] } w) :
    Calls C.P f vs.toArray w (ZAi w lim vs bs pk r) := by
  obtain ⟨σ0, hS, hL, hlen, hfl, hRV⟩ := Ztq (pk := pk) hlz hgl hT hnd hbs hn hin hco hbx
  refine calls_of_wp hf hb (wp_mono (hwp _ (fun p hp => by
    rcases List.mem_append.1 hp with hp | hp
    · exact List.mem_append_left _ (ZgT _ _ p hp)
    · obtain ⟨q, hq, rfl⟩ := List.mem_map.1 hp
      exact List.mem_append_right _ hq) hS) ?_)
  rintro e a' w' ⟨e', st', rfl, hK, hs⟩
  obtain ⟨σ, lim', ⟨hR, _⟩, _, hd⟩ := hs
  have leave : (Zl0 C fn.results.toList pk (Qh (ZK pk) (Z5 pk (ZG 0 rvs).1)) (K8 pk rvs) rk st').runK st'.tbl [] (fun x l => bif ZbT l then some x else none) = some r →
      a'.defers = [] ∧ ∃ v, (results fn a'.tmps).run C.P w' = .ok v w' ∧ ZAi w lim vs bs pk r (.returned v) w' := by
    intro hl
    rw [M.runK_eq] at hl
    cases hr : (Zl0 C fn.results.toList pk (Qh (ZK pk) (Z5 pk (ZG 0 rvs).1)) (K8 pk rvs) rk st').run st'.tbl [] with
    | none => rw [hr] at hl; simp at hl
    | some p =>
      obtain ⟨q, lg⟩ := p
      rw [hr] at hl
      simp only [Option.bind_some] at hl
      have hlow : ZbT lg = true := by
        cases hlg : ZbT lg with
        | true => rfl
        | false => rw [hlg] at hl; cases hl
      rw [hlow] at hl
      simp only [cond_true, Option.some.injEq] at hl
      subst hl
      have hr := Zsl hr hlow
      unfold Zl0 at hr
      rw [Zex (st := st') (st2 := ⟨st'.env, WL st'.tbl⟩) rfl] at hr
      obtain ⟨as, l1, h1, hr⟩ := M.run_bind_some hr
      obtain ⟨⟨y, u⟩, l2, h2, hr⟩ := M.run_bind_some hr
      obtain ⟨⟨ys, v⟩, l3, h3, hr⟩ := M.run_bind_some hr
      obtain ⟨nm', l4, h4, hr⟩ := M.run_bind_some hr
      obtain ⟨hok, hr2⟩ := M.run_guard hr
      simp only [Bool.and_eq_true] at hok
      obtain ⟨hok, hnm⟩ := hok
      have hnm := ZzZ hnm
      obtain ⟨hq, _⟩ := M.run_ret hr2
      subst hnm
      obtain ⟨rv, r1, r2⟩ := ZoF hR h1
      obtain ⟨g1, k1⟩ := Zqs (st := ⟨st'.env, WL st'.tbl⟩) (σ := σ) (w := w') (lim := lim') rk _ h2
      obtain ⟨g2, k2⟩ := Wg (st := ⟨st'.env, WL st'.tbl⟩) (σ := σ) (w := w') (lim := lim') (WZ (ZK pk)) _ h3
      obtain ⟨lim2, hR2, hE, hSh, hN, hB⟩ := hR.takes (g1.append g2) hok
      have hLf : ZW σ w' lim' (Qh (ZK pk) (Z5 pk (ZG 0 rvs).1)) (WU (ZK pk) (Wu pk vs)) := Zx0 hbx hL fun p hp => (hR.pin p (List.mem_append_left _ hp)).1
      have hStay : XY w w' (ZK pk) (Wu pk vs) := Zd4 _ _ (ZiF hR (WZ (ZK pk)) h4 hLf hRV fun q hq => (hR.pin (q, σ0 q) (List.mem_append_right _ (List.mem_map.2 ⟨q, hq, rfl⟩))).1)
      refine ⟨hd, rv, r1, rv, lim2, Qr σ (ZV u), Qr σ (ZV v), rfl, hR2.ext, hR2.lz, hR2.same, fun b hb1 hb2 => ⟨hR2.keep b hb1 hb2, hR2.limk b hb1 hb2⟩, ?_, ?_, hStay, ?_, ?_⟩
      · rw [hq]; exact k1 rv r2 (fun r y hy => (hR.res r y hy).1) lim2 hE hSh.left
      · rw [hq]; exact Zzo (ZK pk) hfl (k2 _ hLf (fun r y hy => (hR.res r y hy).1) lim2 hE hSh.right)
      · rw [← Zac, ← Xy]; exact hN
      · intro b hb; rw [← Zac, ← Xy] at hb; exact (hB b hb).1.symm
  cases e' with
  | normal => exact leave hK
  | ret => exact leave hK
  | exit i => simp [XS] at hK
theorem ZBn (hC : ∀ f cal, C.Φ f = some cal → Ctr C.P C.k f cal) (hm : C.P.follows .mixedOrders = true) {A : Nat → Ann} {f k : Nat} {fn : Func} {code : Code} {cal : Callee} {rk : Kd}
    (hf : C.P.funcs[f]? = some fn) (hb : fn.body = some code) (hname : (fn.name == "runtime.NumGoroutine") = false) (hfit : Xp C.P fn.ntmps code = true)
    (hlent : ∀ rvs x, cal.run k rvs = some x → XF (Qh (ZK cal.pk) (Z5 cal.pk (ZG 0 rvs).1)) = true)
    (hrun : ∀ rvs x, cal.run k rvs = some x → Zx4 C A fn.ntmps code fn.results.toList cal.pk rk rvs some = some (cal.enc x)) : Ctr C.P k f cal where
  enters := ⟨fn, hf, hname, by rw [hb]; rfl⟩
  calls := by
    intro rvs x hx w lim vs bs hlz hgl hT hnd hbs
    have h := hrun rvs x hx
    have hbx := hlent rvs x hx
    unfold Zx4 at h
    cases hg : ZHw cal.pk rvs fn.ntmps with
    | false => rw [hg] at h; simp at h
    | true =>
      rw [hg] at h
      simp only [cond_true] at h
      simp only [ZHw, Bool.and_eq_true] at hg
      exact Zo5 (rk := rk) hf hb hlz hgl hT hnd hbs hbx (Nat.le_of_ble_eq_true hg.1.1) (Nat.le_of_ble_eq_true hg.1.2) hg.2 fun G hp hS => Q1 hC hm hp code h hfit hS fun e st' a' w' hK hs => ⟨e, st', rfl, hK, hs⟩
end Go.Sh
namespace Go.Sh
open Go
variable [Gl]
def Zz5 : Ex → St → Option (Ex × St) := fun e s => some (e, s)
def Zfo {R : Type} (K : Ex → St → Option R) : Ex × St → Option R := fun x => K x.1 x.2
theorem Zl4 {R : Type} {nm : St → Option St} {b1 : St → (Ex → St → Option (Ex × St)) → Option (Ex × St)} {bR : St → (Ex → St → Option R) → Option R}
    (h1 : ∀ st K, b1 st K = (b1 st Zz5).bind (Zfo K)) (hb : ∀ st K, bR st K = (b1 st Zz5).bind (Zfo K)) : ∀ (n : Nat) (st : St) (K : Ex → St → Option R),
    Zeu bR nm n st K = (Zeu b1 nm n st Zz5).bind (Zfo K)
  | 0, st, K => rfl
  | n + 1, st, K => by
    simp only [Zeu]
    rw [hb]
    conv => rhs; rw [h1]
    rw [Option.bind_assoc]
    congr 1
    funext x
    obtain ⟨e, s⟩ := x
    cases e with
    | exit i => rfl
    | ret => rfl
    | normal =>
      simp only [Zfo]
      cases nm s with
      | none => rfl
      | some s' => exact Zl4 h1 hb n s' K
theorem QO {C : Ctx} {A : Nat → Ann} {kp : List Nat} : (c : Code) → {R : Type} → (st : St) → (K : Ex → St → Option R) → WC C A kp c st K = (WC C A kp c st Zz5).bind (Zfo K)
  | .skip, R, st, K => rfl
  | .label _, R, st, K => rfl
  | .ret, R, st, K => rfl
  | .exit _, R, st, K => rfl
  | .goto _, R, st, K => rfl
  | .refuse _, R, st, K => rfl
  | .rangeFunc _ _ _ _, R, st, K => rfl
  | .region id ops d, R, st, K => by
    simp only [WC]
    cases d with
    | false => simp only [cond_false, Zs8, Option.bind_assoc]; rfl
    | true =>
      simp only [cond_true, ZiE, Option.bind_assoc]
      congr 1
      funext x
      cases Yq ops.toList (XA ops.toList []) ([] ++ x.2) <;> rfl
  | .seq a b, R, st, K => by
    simp only [WC]
    rw [QO a]
    conv => rhs; rw [QO a]
    rw [Option.bind_assoc]
    congr 1
    funext x
    obtain ⟨e, s⟩ := x
    cases e with
    | normal => exact QO b s K
    | exit i => rfl
    | ret => rfl
  | .cond c a b, R, st, K => by
    simp only [WC]
    split
    · rename_i t _
      cases t with
      | true => simp only [cond_true]; exact QO a _ K
      | false => simp only [cond_false]; exact QO b _ K
    · rfl
  | .block id c, R, st, K => by
    simp only [WC]
    rw [QO c]
    conv => rhs; rw [QO c]
    rw [Option.bind_assoc]
    congr 1
    funext x
    obtain ⟨e, s⟩ := x
    cases e with
    | normal => rfl
    | ret => rfl
    | exit i => simp only [Zfo, Zt6]; cases Nat.beq i id <;> rfl
  | .loop c, R, st, K => by
    simp only [WC, Option.bind_assoc]
    congr 1
    funext s
    exact Zl4 (fun st K => QO c st K) (fun st K => QO c st K) C.k s K
  | .scope c, R, st, K => by simp only [WC]; exact QO c st K
theorem ZBy {C : Ctx} {A : Nat → Ann} {n : Nat} {body : Code} {rs : List ResultVar} {pk : List Kd} {rk : Kd} {rvs : List RV} {R : Type} (K : RV × List RV → Option R) :
    Zx4 C A n body rs pk rk rvs K = (Zx4 C A n body rs pk rk rvs some).bind K := by
  unfold Zx4
  cases ZHw pk rvs n with
  | false => rfl
  | true =>
    simp only [cond_true]
    rw [QO]
    conv => rhs; rw [QO]
    rw [Option.bind_assoc]
    congr 1
    funext x
    obtain ⟨e, s⟩ := x
    simp only [Zfo]
    cases e <;> simp only [XS, M.runK_eq, Option.bind_assoc, Option.bind_some, Option.bind_none]
    all_goals (congr 1; funext x; cases ZbT x.2 <;> rfl)
mutual
def Kd.den : Kd → Type
  | .view t => t.den
  | .own t _ => List t.den
  | .box ks => Kd.dens ks
  | .agg ks => Kd.dens ks
  | .tup ks => Kd.dens ks
  | .fn _ => Unit
  | .bld _ => List Int
  | .use _ => List Int
  | .clo _ ks => Kd.dens ks
  | .ref ks => Kd.dens ks
  | .ns t => List t.den
def Kd.dens : List Kd → Type
  | [] => Unit
  | k :: ks => k.den × Kd.dens ks
end
mutual
def enc : (k : Kd) → k.den → RV
  | .view t, x => .view t x
  | .own t sh, xs => .own t sh xs
  | .box ks, x => .box (WD ks x)
  | .agg ks, x => .agg (WD ks x)
  | .tup ks, x => .tup (WD ks x)
  | .fn f, _ => .fn f
  | .bld T, xs => .bld T xs
  | .use T, xs => .bld T xs
  | .clo f ks, x => .clo f (WD ks x)
  | .ref ks, x => .box (WD ks x)
  | .ns t, xs => .ns t xs
def WD : (ks : List Kd) → Kd.dens ks → List RV
  | [], _ => []
  | k :: ks, x => enc k x.1 :: WD ks x.2
end
def Zng (t : Ty) : RV → Option t.den
  | .view t' x => if h : t' = t then some (h ▸ x : t.den) else none
  | _ => none
def ZCy (t : Ty) (sh : Bool) : RV → Option (List t.den)
  | .own t' sh' xs => if h : t' = t then (bif sh == sh' then some (h ▸ xs : List t.den) else none) else none
  | _ => none
def Zzn : RV → Option (List RV)
  | .box cs => some cs
  | _ => none
def asAgg : RV → Option (List RV)
  | .agg cs => some cs
  | _ => none
def ZCK : RV → Option (List RV)
  | .tup cs => some cs
  | _ => none
def ZLh (f : Nat) : RV → Option Unit
  | .fn g => bif Nat.beq f g then some () else none
  | _ => none
def ZE0 (f : Nat) : RV → Option (List RV)
  | .clo g cs => bif Nat.beq f g then some cs else none
  | _ => none
def ZLi (t : Ty) : RV → Option (List t.den)
  | .ns t' xs => if h : t' = t then some (h ▸ xs : List t.den) else none
  | _ => none
def ZAa (T : TypeId) : RV → Option (List Int)
  | .bld U xs => bif Nat.beq T U then some xs else none
  | _ => none
mutual
def dec : (k : Kd) → RV → Option k.den
  | .view t, r => Zng t r
  | .own t sh, r => ZCy t sh r
  | .box ks, r => (Zzn r).bind (Zeg ks)
  | .agg ks, r => (asAgg r).bind (Zeg ks)
  | .tup ks, r => (ZCK r).bind (Zeg ks)
  | .fn f, r => ZLh f r
  | .bld T, r => ZAa T r
  | .use T, r => ZAa T r
  | .clo f ks, r => (ZE0 f r).bind (Zeg ks)
  | .ref ks, r => (Zzn r).bind (Zeg ks)
  | .ns t, r => ZLi t r
def Zeg : (ks : List Kd) → List RV → Option (Kd.dens ks)
  | [], [] => some ()
  | [], _ :: _ => none
  | _ :: _, [] => none
  | k :: ks, x :: xs => (dec k x).bind fun y => (Zeg ks xs).bind fun ys => some (y, ys)
end
theorem ZBh {t : Ty} {r : RV} {x : t.den} (h : Zng t r = some x) : r = .view t x := by
  unfold Zng at h
  split at h
  · split at h
    · rename_i e; subst e; simp at h; rw [h]
    · cases h
  · cases h
theorem ZDD {t : Ty} {sh : Bool} {r : RV} {x : List t.den} (h : ZCy t sh r = some x) : r = .own t sh x := by
  unfold ZCy at h
  split at h
  · split at h
    · rename_i sh' _ e
      subst e
      cases hs : (sh == sh') with
      | false => rw [hs] at h; simp at h
      | true => rw [hs] at h; simp at h hs; rw [h, hs]
    · cases h
  · cases h
theorem ZvK {r : RV} {cs : List RV} (h : Zzn r = some cs) : r = .box cs := by unfold Zzn at h; split at h <;> simp at h; rw [h]
theorem ZCO {r : RV} {cs : List RV} (h : asAgg r = some cs) : r = .agg cs := by unfold asAgg at h; split at h <;> simp at h; rw [h]
theorem ZFt {r : RV} {cs : List RV} (h : ZCK r = some cs) : r = .tup cs := by unfold ZCK at h; split at h <;> simp at h; rw [h]
theorem ZG9 {f : Nat} {r : RV} {x : Unit} (h : ZLh f r = some x) : r = .fn f := by
  unfold ZLh at h
  split at h
  · rename_i g
    cases hb : Nat.beq f g with
    | false => rw [hb] at h; simp at h
    | true => rw [ZU hb]
  · cases h
theorem ZCz {f : Nat} {r : RV} {cs : List RV} (h : ZE0 f r = some cs) : r = .clo f cs := by
  unfold ZE0 at h
  split at h
  · rename_i g l
    cases hb : Nat.beq f g with
    | false => rw [hb] at h; simp at h
    | true => rw [hb] at h; simp at h; rw [ZU hb, h]
  · cases h
theorem ZG6 {t : Ty} {r : RV} {x : List t.den} (h : ZLi t r = some x) : r = .ns t x := by
  unfold ZLi at h
  split at h
  · split at h
    · rename_i e; subst e; simp at h; rw [h]
    · cases h
  · cases h
theorem Zvp {T : TypeId} {r : RV} {x : List Int} (h : ZAa T r = some x) : r = .bld T x := by
  unfold ZAa at h
  split at h
  · rename_i U xs
    cases hb : Nat.beq T U with
    | false => rw [hb] at h; simp at h
    | true => rw [hb] at h; simp at h; rw [ZU hb, h]
  · cases h
mutual
theorem Zzb : (k : Kd) → (r : RV) → (x : k.den) → dec k r = some x → r = enc k x
  | .view t, r, x, h => by simp only [dec] at h; simp only [enc]; exact ZBh h
  | .own t sh, r, x, h => by simp only [dec] at h; simp only [enc]; exact ZDD h
  | .box ks, r, x, h => by
    simp only [dec] at h
    obtain ⟨cs, h1, h2⟩ := Option.bind_eq_some_iff.1 h
    simp only [enc, ZvK h1, QR ks cs x h2]
  | .agg ks, r, x, h => by
    simp only [dec] at h
    obtain ⟨cs, h1, h2⟩ := Option.bind_eq_some_iff.1 h
    simp only [enc, ZCO h1, QR ks cs x h2]
  | .tup ks, r, x, h => by
    simp only [dec] at h
    obtain ⟨cs, h1, h2⟩ := Option.bind_eq_some_iff.1 h
    simp only [enc, ZFt h1, QR ks cs x h2]
  | .fn f, r, x, h => by simp only [dec] at h; simp only [enc]; exact ZG9 h
  | .bld T, r, x, h => by simp only [dec] at h; simp only [enc]; exact Zvp h
  | .use T, r, x, h => by simp only [dec] at h; simp only [enc]; exact Zvp h
  | .clo f ks, r, x, h => by
    simp only [dec] at h
    obtain ⟨cs, h1, h2⟩ := Option.bind_eq_some_iff.1 h
    simp only [enc, ZCz h1, QR ks cs x h2]
  | .ns t, r, x, h => by simp only [dec] at h; simp only [enc]; exact ZG6 h
  | .ref ks, r, x, h => by
    simp only [dec] at h
    obtain ⟨cs, h1, h2⟩ := Option.bind_eq_some_iff.1 h
    simp only [enc, ZvK h1, QR ks cs x h2]
theorem QR : (ks : List Kd) → (rs : List RV) → (x : Kd.dens ks) → Zeg ks rs = some x → rs = WD ks x
  | [], [], x, h => rfl
  | k :: ks, r :: rs, x, h => by
    simp only [Zeg] at h
    obtain ⟨y, h1, h⟩ := Option.bind_eq_some_iff.1 h
    obtain ⟨ys, h2, h⟩ := Option.bind_eq_some_iff.1 h
    cases h
    simp only [WD, ← Zzb k r y h1, ← QR ks rs ys h2]
  | [], _ :: _, x, h => by simp [Zeg] at h
  | _ :: _, [], x, h => by simp [Zeg] at h
end
theorem Zjr : (ks : List Kd) → (x : Kd.dens ks) → (WD ks x).length = ks.length
  | [], _ => rfl
  | k :: ks, x => by simp only [WD, List.length_cons, Zjr ks]
theorem ZqQ {ks ls : List Kd} {as bs : List AV} (h : ks.length = as.length) : Qh (ks ++ ls) (as ++ bs) = Qh ks as ++ Qh ls bs := by
  induction ks generalizing as with
  | nil =>
    cases as with
    | nil => simp [Qh]
    | cons _ _ => simp at h
  | cons k ks ih =>
    cases as with
    | nil => simp at h
    | cons a as =>
      have ih := ih (as := as) (by simpa using h)
      cases k <;> simp [Qh, ih]
theorem Zso (a b : List AV) : XF (a ++ b) = (XF a && XF b) := by simp [XF]
theorem ZjB : (ks : List Kd) → (x : Kd.dens ks) → (n : Nat) → XF (Qh ks (ZG n (WD ks x)).1) = true
  | [], _, n => rfl
  | k :: ks, x, n => by
    have ih := ZjB ks x.2
    cases k with
    | box l =>
      simp only [WD, enc, ZG, put, Qh, XF, List.all_cons, Bool.true_and] at ih ⊢
      exact ih _
    | bld T =>
      simp only [WD, enc, ZG, put, Qh, XF, List.all_cons, Bool.true_and] at ih ⊢
      exact ih _
    | _ => simp only [WD, enc, ZG, Qh]; exact ih _
theorem ZlZ : (ks : List Kd) → (x : Kd.dens ks) → (n : Nat) → XF (Qh (ZK ks) (Z5 ks (ZG n (WD ks x)).1)) = true
  | [], _, n => rfl
  | k :: ks, x, n => by
    have ih := ZlZ ks x.2
    cases k with
    | box l =>
      simp only [WD, enc, ZG, put, ZK, Z5, Qh, XF, List.all_cons, Bool.true_and] at ih ⊢
      exact ih _
    | bld T =>
      simp only [WD, enc, ZG, put, ZK, Z5, Qh, XF, List.all_cons, Bool.true_and] at ih ⊢
      exact ih _
    | clo f l =>
      simp only [WD, enc, ZG, put, ZK, Z5]
      rw [ZqQ (by rw [ZbV]; exact (Zjr l x.1).symm), Zso, Bool.and_eq_true]
      exact ⟨ZjB l x.1 n, ih _⟩
    | _ => simp only [WD, enc, ZG, ZK, Z5, Qh]; exact ih _
abbrev Ans (pk : List Kd) (rk : Kd) : Type := rk.den × Kd.dens (WZ (ZK pk))
def ZDy (pk : List Kd) (rk : Kd) (r : RV × List RV) : Option (Ans pk rk) := (dec rk r.1).bind fun x => (Zeg (WZ (ZK pk)) r.2).bind fun l => some (x, l)
def ZJY (pk : List Kd) (rk : Kd) (x : Ans pk rk) : RV × List RV := (enc rk x.1, WD (WZ (ZK pk)) x.2)
theorem ZBu {pk : List Kd} {rk : Kd} {r : RV × List RV} {x : Ans pk rk} (h : ZDy pk rk r = some x) : r = ZJY pk rk x := by
  unfold ZDy at h
  obtain ⟨y, h1, h⟩ := Option.bind_eq_some_iff.1 h
  obtain ⟨ys, h2, h⟩ := Option.bind_eq_some_iff.1 h
  cases h
  obtain ⟨a, b⟩ := r
  simp only [ZJY, ← Zzb rk a y h1, ← QR (WZ (ZK pk)) b ys h2]
def mk (pk : List Kd) (rk : Kd) (F : Nat → Kd.dens pk → Option (Ans pk rk)) : Callee :=
  { ρ := Ans pk rk, pk := pk, run := fun k rvs => (Zeg pk rvs).bind (F k), enc := ZJY pk rk }
theorem ZHd {C : Ctx} (hC : ∀ f cal, C.Φ f = some cal → Ctr C.P C.k f cal) (hm : C.P.follows .mixedOrders = true) {A : Nat → Ann} {f k : Nat} {fn : Func} {code : Code} {pk : List Kd} {rk : Kd} {F : Nat → Kd.dens pk → Option (Ans pk rk)}
    (hf : C.P.funcs[f]? = some fn) (hb : fn.body = some code) (hname : (fn.name == "runtime.NumGoroutine") = false) (hfit : Xp C.P fn.ntmps code = true)
    (h : ∀ x y, F k x = some y → Zx4 C A fn.ntmps code fn.results.toList pk rk (WD pk x) (ZDy pk rk) = some y) : Ctr C.P k f (mk pk rk F) := by
  refine ZBn (A := A) (rk := rk) hC hm hf hb hname hfit (fun rvs x hx => ?_) (fun rvs x hx => ?_)
  · simp only [mk] at hx ⊢
    obtain ⟨y, h1, h2⟩ := Option.bind_eq_some_iff.1 hx
    rw [QR pk rvs y h1]
    exact ZlZ pk y 0
  · simp only [mk] at hx ⊢
    obtain ⟨y, h1, h2⟩ := Option.bind_eq_some_iff.1 hx
    have h3 := h y x h2
    rw [← QR pk rvs y h1, ZBy] at h3
    obtain ⟨r, h4, h5⟩ := Option.bind_eq_some_iff.1 h3
    rw [h4, ZBu h5]
def phi : List (Nat × Callee) → Nat → Option Callee
  | [], _ => none
  | (f, c) :: l, g => bif Nat.beq g f then some c else phi l g
theorem Zh {P : Program} {k : Nat} : ∀ {l : List (Nat × Callee)}, (∀ p ∈ l, Ctr P k p.1 p.2) → ∀ f cal, phi l f = some cal → Ctr P k f cal
  | [], _, f, cal, h => by simp [phi] at h
  | (g, c) :: l, hl, f, cal, h => by
    simp only [phi] at h
    cases hb : Nat.beq f g with
    | true => rw [hb] at h; simp at h; rw [ZU hb, ← h]; exact hl (g, c) (by simp)
    | false => rw [hb] at h; exact Zh (fun p hp => hl p (by simp [hp])) f cal h
theorem Zd {P : Program} {k : Nat} : ∀ p ∈ ([] : List (Nat × Callee)), Ctr P k p.1 p.2 := by intro p hp; simp at hp
theorem Za {P : Program} {k f : Nat} {c : Callee} {l : List (Nat × Callee)} (h : Ctr P k f c) (hl : ∀ p ∈ l, Ctr P k p.1 p.2) : ∀ p ∈ (f, c) :: l, Ctr P k p.1 p.2 := by
  intro p hp
  rcases List.mem_cons.1 hp with rfl | hp
  · exact h
  · exact hl p hp
def Zr {V R : Type} (step : (V → Option R) → V → Option R) : Nat → V → Option R
  | 0, _ => none
  | n + 1, v => step (Zr step n) v
theorem Zn {V R : Type} {L : Nat → V → Option R} {step : (V → Option R) → V → Option R} (h0 : ∀ v, L 0 v = none) (h : ∀ n v, L (n + 1) v = step (L n) v) : ∀ n, L n = Zr step n
  | 0 => funext h0
  | n + 1 => funext fun v => by rw [h, Zn h0 h n]; rfl
section
variable {R : Type}
def place (C : Ctx) (A : Nat → Ann) (kp : List Nat) : List Nat → List Nat → Code → (Ex → St → Option R) → Code × (Ex → St → Option R)
  | 0 :: p, ns, .seq a b, K => place C A kp p ns a (ZFY (fun s => WC C A kp b s K) K)
  | _ :: p, ns, .seq _ b, K => place C A kp p ns b K
  | 0 :: p, ns, .cond _ a _, K => place C A kp p ns a K
  | _ :: p, ns, .cond _ _ b, K => place C A kp p ns b K
  | _ :: p, ns, .block id c, K => place C A kp p ns c (Zt6 id K)
  | _ :: p, ns, .scope c, K => place C A kp p ns c K
  | _ :: p, n :: ns, .loop c, K => place C A kp p ns c fun e s => match e with
    | .normal => (ZoR kp (A (Qd c)) s).bind fun s => Zeu (WC C A kp c) (ZoR kp (A (Qd c))) n s K
    | .exit i => K (.exit i) s
    | .ret => K .ret s
  | _, _, c, K => (c, K)
def ZB (C : Ctx) (A : Nat → Ann) (kp : List Nat) (p ns : List Nat) (code : Code) (K : Ex → St → Option R) (n : Nat) (st : St) : Option R :=
  match place C A kp p ns code K with
  | (.loop c, K) => Zeu (WC C A kp c) (ZoR kp (A (Qd c))) n st K
  | _ => none
end
end Go.Sh
