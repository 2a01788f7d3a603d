/-
  The machine, part 10: regions.
-/
import Derived.Test.YtlbgcegonmbddaaDoorM22
import Derived.Orders
set_option linter.unusedSimpArgs false
set_option linter.unusedVariables false
namespace Go.Sh
open Go
variable {C : Ctx} {G : Glob} {σ : Sig} {w : World} {lim : Nat → Nat} {st : St} {a : Act}

/-! one operation, and what it asks -/
def runN (C : Ctx) (rid idx : Nat) (o : Oper) (st : St) : Option (Eff × List Nat) :=
  ((actN C rid idx o st.env).run st.tbl []).bind fun x => bif okEff (spOf C rid idx o st.env).isSome x.1 x.2 then some x else none
theorem runN_some {rid idx : Nat} {o : Oper} {st : St} {e : Eff} {l : List Nat} (h : runN C rid idx o st = some (e, l)) :
    (actN C rid idx o st.env).run st.tbl [] = some (e, l) ∧ okEff (spOf C rid idx o st.env).isSome e l = true := by
  unfold runN at h
  obtain ⟨⟨e', l'⟩, h1, h2⟩ := Option.bind_eq_some_iff.1 h
  simp only at h2
  cases hk : okEff (spOf C rid idx o st.env).isSome e' l' with
  | false => rw [hk] at h2; cases h2
  | true => rw [hk] at h2; cases h2; exact ⟨h1, hk⟩
def effOf (C : Ctx) (rid idx : Nat) (ops : List Oper) (o : Oper) (st : St) : Option (Eff × List Nat) :=
  match o.guard with
  | none => runN C rid idx o st
  | some (j, want) => match guardSlot ops j with
    | none => none
    | some d => match st.env d with
      | .val (.v (.bool g)) => bif (g == want) then runN C rid idx o st else some (⟨.tup [], []⟩, [])
      | .tup [] => some (⟨.tup [], []⟩, [])
      | _ => none
def after (st : St) (o : Oper) (e : Eff) : St := ⟨setO st.env o.dst e.val, st.tbl.put e.ups⟩
def stepB (C : Ctx) (rid idx : Nat) (ops : List Oper) (o : Oper) (st : St) : Option (St × Lg) :=
  (effOf C rid idx ops o st).map fun x => (after st o x.1, (x.2, x.1.ups.map (·.1)))

theorem goK_eq {R : Type} {rid idx : Nat} {o : Oper} {K : St → Lg → Option R} :
    goK C rid idx o st K = (runN C rid idx o st).bind fun x => K (after st o x.1) (x.2, x.1.ups.map (·.1)) := by
  rw [goK, M.runK_eq, runN, Option.bind_assoc]
  congr 1
  funext x
  cases okEff (spOf C rid idx o st.env).isSome x.1 x.2 <;> rfl
theorem setE_same {e : Nat → AV} {d : Nat} {x : AV} (h : e d = x) : setE e d x = e := by
  funext s
  simp only [setE]
  cases hb : Nat.beq s d with
  | false => rfl
  | true => rw [beq_eq hb, h]; rfl
theorem stepK_eq {R : Type} {rid idx : Nat} {ops : List Oper} {o : Oper} {K : St → Lg → Option R} :
    stepK C rid idx ops o st K = (stepB C rid idx ops o st).bind fun x => K x.1 x.2 := by
  unfold stepK stepB effOf
  cases hg : o.guard with
  | none => simp only [goK_eq, Option.bind_map]; rfl
  | some p =>
    obtain ⟨j, want⟩ := p
    cases hj : guardSlot ops j with
    | none => simp only [hj]; rfl
    | some d =>
      simp only [hj]
      split
      · rename_i g hd
        simp only [hd]
        cases g <;> cases want <;> simp only [cond_true, cond_false, setE_same hd, goK_eq, Option.bind_map] <;> rfl
      · rename_i hd; simp only [hd]; rfl
      · rename_i h1 h2
        split
        · rename_i g hd; exact (h1 g hd).elim
        · rename_i hd; exact (h2 hd).elim
        · rfl

def opsB (C : Ctx) (rid : Nat) (ops : List Oper) : List Oper → Nat → St → Option (St × List Lg)
  | [], _, st => some (st, [])
  | o :: l, idx, st => (stepB C rid idx ops o st).bind fun x => (opsB C rid ops l (idx + 1) x.1).map fun y => (y.1, x.2 :: y.2)

theorem opsK_eq {R : Type} {rid : Nat} {ops : List Oper} {K : St → Option R} : ∀ (l : List Oper) (idx : Nat) (st : St),
    opsK C rid ops l idx st K = (opsB C rid ops l idx st).bind fun x => K x.1
  | [], _, _ => rfl
  | o :: l, idx, st => by
    simp only [opsK, opsB, stepK_eq]
    cases stepB C rid idx ops o st with
    | none => rfl
    | some x => simp only [Option.bind_some, opsK_eq l, Option.bind_map]; rfl
theorem drawnK_eq {R : Type} {rid : Nat} {ops : List Oper} {K : St → Option R} : ∀ (l : List Oper) (idx : Nat) (st : St) (logs : List Lg),
    drawnK C rid ops l idx st logs K = (opsB C rid ops l idx st).bind fun x => bif indepAll ops (masks ops []) (logs ++ x.2) then K x.1 else none
  | [], _, _, _ => by simp [drawnK, opsB]
  | o :: l, idx, st, logs => by
    simp only [drawnK, opsB, stepK_eq]
    cases stepB C rid idx ops o st with
    | none => rfl
    | some x => simp only [Option.bind_some, drawnK_eq l, Option.bind_map, List.append_assoc, List.singleton_append]; rfl

/-! what must hold of the text -/
def fitsO (P : Program) (n : Nat) (o : Oper) : Bool := (match o.dst with | some d => Nat.blt d n | none => true) && opTypes P o.op
def predsLt (ops : List Oper) (j : Nat) : Bool := match ops[j]? with
  | some o => (preds o).all fun p => Nat.blt p j
  | none => true
def fitsR (P : Program) (n : Nat) (ops : List Oper) : Bool := ops.all (fitsO P n) && (List.range ops.length).all (predsLt ops)

theorem fitsO_dst {n : Nat} {o : Oper} (h : fitsO C.P n o = true) : ∀ d, o.dst = some d → d < n := by
  intro d hd
  simp only [fitsO, hd, Bool.and_eq_true, Nat.blt_eq] at h
  exact h.1

theorem getD_bool {tmps : Array Value} {d : Nat} {g : Bool} (h : tmps.getD d undef = .bool g) : tmps[d]? = some (.bool g) := by
  rw [Array.getD_eq_getD_getElem?] at h
  cases hd : tmps[d]? with
  | none => rw [hd] at h; simp [undef] at h
  | some x => rw [hd] at h; simp at h; rw [h]
theorem getD_tup {tmps : Array Value} {d : Nat} (h : tmps.getD d undef = .tuple #[]) : ∀ g, tmps[d]? ≠ some (.bool g) := by
  rw [Array.getD_eq_getD_getElem?] at h
  cases hd : tmps[d]? with
  | none => simp
  | some x => rw [hd] at h; simp at h; rw [h]; simp

theorem put_size (a : Act) (d : Option Nat) (v : Value) : (a.put d v).tmps.size = a.tmps.size := by cases d <;> simp [Act.put]
theorem put_defers' (a : Act) (d : Option Nat) (v : Value) : (a.put d v).defers = a.defers := by cases d <;> simp [Act.put]

theorem ra_nothing {σ : Sig} {w : World} {lim : Nat → Nat} : RA σ w lim (.tup []) undef := by simp only [RA]; exact ⟨[], rfl, by simp [RAs]⟩

theorem step_sound (hC : ∀ f cal, C.Φ f = some cal → Ctr C.P C.k f cal) (h : RelX G σ lim st a.tmps w) {ops : Array Oper} {rid i : Nat} {o : Oper} (ho : ops[i]? = some o)
    {st' : St} {lg : Lg} (hs : stepB C rid i ops.toList o st = some (st', lg)) (hf : fitsO C.P a.tmps.size o = true) {K : Act → World → Prop} {Q : Exit → Act → World → Prop}
    (hK : ∀ a' w' σ' lim', RelX G σ' lim' st' a'.tmps w' → a'.tmps.size = a.tmps.size → a'.defers = a.defers → K a' w') : wpOp C.P ops Q i K a w := by
  have go : ∀ e lg', runN C rid i o st = some (e, lg') → st' = after st o e → Region.wanted o (yielded ops a.tmps) = true → wpOp C.P ops Q i K a w := by
    intro e lg' hm hst hw
    subst hst
    unfold wpOp
    simp only [ho, hw, if_true]
    refine .inl (actN_sound hC h (runN_some hm).1 (runN_some hm).2 (fitsO_dst hf) ?_ K Q fun x w' σ' lim' hR => hK _ _ σ' lim' hR (put_size _ _ _) (put_defers' _ _ _))
    simp only [fitsO, Bool.and_eq_true] at hf; exact hf.2
  have skip : st' = after st o ⟨.tup [], []⟩ → Region.wanted o (yielded ops a.tmps) = false → wpOp C.P ops Q i K a w := by
    intro hst hw
    subst hst
    unfold wpOp
    simp only [ho, hw]
    have hR := h.skip o.dst (fitsO_dst hf)
    exact hK _ _ σ lim hR (put_size _ _ _) (put_defers' _ _ _)
  unfold stepB effOf at hs
  cases hg : o.guard with
  | none =>
    rw [hg] at hs
    simp only [Option.map_eq_some_iff, Prod.mk.injEq] at hs
    obtain ⟨⟨e, l1⟩, h1, h2, h3⟩ := hs
    exact go e l1 h1 h2.symm (by simp [Region.wanted, hg])
  | some p =>
    obtain ⟨j, want⟩ := p
    rw [hg] at hs
    simp only at hs
    cases hj : guardSlot ops.toList j with
    | none => rw [hj] at hs; simp at hs
    | some d =>
      rw [hj] at hs
      simp only at hs
      have hd0 : (ops[j]?).bind (·.dst) = some d := by
        simp only [guardSlot, Array.getElem?_toList] at hj
        cases hoj : ops[j]? with
        | none => rw [hoj] at hj; simp at hj
        | some oj => rw [hoj] at hj; simpa using hj
      have henv := h.1.env d
      split at hs
      · rename_i g hd
        rw [hd] at henv
        simp only [RA, RP] at henv
        have hy : yielded ops a.tmps j = some g := by simp [yielded, hd0, getD_bool henv]
        cases hgw : (g == want) with
        | true =>
          rw [hgw] at hs
          simp only [cond_true, Option.map_eq_some_iff, Prod.mk.injEq] at hs
          obtain ⟨⟨e, l1⟩, h1, h2, h3⟩ := hs
          exact go e l1 h1 h2.symm (by simp [Region.wanted, hg, hy]; simpa using hgw)
        | false =>
          rw [hgw] at hs
          simp only [cond_false, Option.map_some, Option.some.injEq, Prod.mk.injEq] at hs
          exact skip hs.1.symm (by simp [Region.wanted, hg, hy]; simpa using hgw)
      · rename_i hd
        rw [hd] at henv
        simp only [RA] at henv
        obtain ⟨vs, hv, hvs⟩ := henv
        cases vs with
        | cons _ _ => simp [RAs] at hvs
        | nil =>
          have hy : yielded ops a.tmps j = none := by
            have := getD_tup hv
            unfold yielded
            rw [hd0]
            simp only [Option.bind_some]
          simp only [Option.map_some, Option.some.injEq, Prod.mk.injEq] at hs
          exact skip hs.1.symm (by simp [Region.wanted, hg, hy])
      · simp at hs

/-! in the text's order -/
def RunL (C : Ctx) (rid : Nat) (ops : List Oper) (lg : Nat → Lg) : List Nat → St → St → Prop
  | [], st, stf => st = stf
  | i :: is, st, stf => ∃ o s, ops[i]? = some o ∧ stepB C rid i ops o st = some (s, lg i) ∧ RunL C rid ops lg is s stf

theorem RunL.congr {rid : Nat} {ops : List Oper} {lg lg' : Nat → Lg} : ∀ {is : List Nat} {st stf : St}, (∀ i ∈ is, lg i = lg' i) → RunL C rid ops lg is st stf → RunL C rid ops lg' is st stf
  | [], _, _, _, h => h
  | i :: is, _, _, hl, ⟨o, s, h1, h2, h3⟩ => ⟨o, s, h1, by rw [← hl i (by simp)]; exact h2, RunL.congr (fun k hk => hl k (by simp [hk])) h3⟩

theorem runL_of {rid : Nat} {ops : List Oper} : ∀ (l : List Oper) (idx : Nat) (st stf : St) (lgs : List Lg), ops.drop idx = l → opsB C rid ops l idx st = some (stf, lgs) →
    lgs.length = l.length ∧ RunL C rid ops (fun i => lgs.getD (i - idx) ([], [])) (List.range' idx l.length) st stf
  | [], idx, st, stf, lgs, hl, h => by simp [opsB] at h; simp [RunL, h]
  | o :: l, idx, st, stf, lgs, hl, h => by
    simp only [opsB] at h
    cases hs : stepB C rid idx ops o st with
    | none => simp [hs] at h
    | some x =>
      obtain ⟨s, g⟩ := x
      simp only [hs, Option.bind_some, Option.map_eq_some_iff, Prod.mk.injEq] at h
      obtain ⟨⟨sf, gs⟩, h1, h2, h3⟩ := h
      subst h2 h3
      have ho : ops[idx]? = some o := by
        have := congrArg (·[0]?) hl
        simpa using this
      have hd : ops.drop (idx + 1) = l := by
        rw [← List.drop_drop, hl]; rfl
      obtain ⟨h4, h5⟩ := runL_of l (idx + 1) s sf gs hd h1
      refine ⟨by simp [h4], ?_⟩
      simp only [List.length_cons, List.range'_succ, RunL]
      refine ⟨o, s, ho, by simpa using hs, h5.congr fun i hi => ?_⟩
      have hi' : idx + 1 ≤ i := (List.mem_range'_1.1 hi).1
      have : i - idx = (i - (idx + 1)) + 1 := by omega
      rw [this]; simp

theorem wpOps_runL (hC : ∀ f cal, C.Φ f = some cal → Ctr C.P C.k f cal) {ops : Array Oper} {rid : Nat} {lg : Nat → Lg} {stf : St} {Q : Exit → Act → World → Prop} {n : Nat} {ds : List Deferred}
    (hf : ∀ o ∈ ops.toList, fitsO C.P n o = true)
    (hQ : ∀ a' w' σ' lim', RelX G σ' lim' stf a'.tmps w' → a'.tmps.size = n → a'.defers = ds → Q .normal a' w') :
    ∀ (is : List Nat) (st : St) (a : Act) (w : World) (σ : Sig) (lim : Nat → Nat), RunL C rid ops.toList lg is st stf → RelX G σ lim st a.tmps w → a.tmps.size = n → a.defers = ds → wpOps C.P ops Q is a w
  | [], st, a, w, σ, lim, hr, h, hn, hd => by
    simp only [RunL] at hr; subst hr; exact hQ a w σ lim h hn hd
  | i :: is, st, a, w, σ, lim, ⟨o, s, h1, h2, h3⟩, h, hn, hd => by
    rw [wpOps_cons]
    refine step_sound hC h (by simpa using h1) h2 (by rw [hn]; exact hf o (List.mem_of_getElem? h1)) fun a' w' σ' lim' hR e1 e2 => ?_
    exact wpOps_runL hC hf hQ is s a' w' σ' lim' h3 hR (e1.trans hn) (e2.trans hd)
end Go.Sh
