/-
  The machine, part 15: callees with types; loops cut out.
-/
import Derived.Test.YtlbgcegonmbddaaDoorM14
set_option linter.unusedSimpArgs false
set_option linter.unusedVariables false
namespace Go.Sh
open Go

/-! what comes behind may be taken off -/
def pairK : Ex → St → Option (Ex × St) := fun e s => some (e, s)
def onPair {R : Type} (K : Ex → St → Option R) : Ex × St → Option R := fun x => K x.1 x.2

theorem loopK_bind {R : Type} {nm : St → Option St} {b1 : St → (Ex → St → Option (Ex × St)) → Option (Ex × St)} {bR : St → (Ex → St → Option R) → Option R}
    (h1 : ∀ st K, b1 st K = (b1 st pairK).bind (onPair K)) (hb : ∀ st K, bR st K = (b1 st pairK).bind (onPair K)) : ∀ (n : Nat) (st : St) (K : Ex → St → Option R),
    loopK bR nm n st K = (loopK b1 nm n st pairK).bind (onPair K)
  | 0, st, K => rfl
  | n + 1, st, K => by
    simp only [loopK]
    rw [hb]
    conv => rhs; rw [h1]
    rw [Option.bind_assoc]
    congr 1
    funext x
    obtain ⟨e, s⟩ := x
    cases e with
    | exit i => rfl
    | ret => rfl
    | normal =>
      simp only [onPair]
      cases nm s with
      | none => rfl
      | some s' => exact loopK_bind h1 hb n s' K

theorem exec_bind {C : Ctx} {A : Nat → Ann} {kp : List Nat} : (c : Code) → {R : Type} → (st : St) → (K : Ex → St → Option R) → exec C A kp c st K = (exec C A kp c st pairK).bind (onPair K)
  | .skip, R, st, K => rfl
  | .label _, R, st, K => rfl
  | .ret, R, st, K => rfl
  | .exit _, R, st, K => rfl
  | .goto _, R, st, K => rfl
  | .refuse _, R, st, K => rfl
  | .rangeFunc _ _ _ _, R, st, K => rfl
  | .region id ops d, R, st, K => by
    simp only [exec]
    cases d with
    | false => simp only [cond_false, opsK_eq, Option.bind_assoc]; rfl
    | true =>
      simp only [cond_true, drawnK_eq, Option.bind_assoc]
      congr 1
      funext x
      cases indepAll ops.toList (masks ops.toList []) ([] ++ x.2) <;> rfl
  | .seq a b, R, st, K => by
    simp only [exec]
    rw [exec_bind a]
    conv => rhs; rw [exec_bind a]
    rw [Option.bind_assoc]
    congr 1
    funext x
    obtain ⟨e, s⟩ := x
    cases e with
    | normal => exact exec_bind b s K
    | exit i => rfl
    | ret => rfl
  | .cond c a b, R, st, K => by
    simp only [exec]
    split
    · rename_i t _
      cases t with
      | true => simp only [cond_true]; exact exec_bind a _ K
      | false => simp only [cond_false]; exact exec_bind b _ K
    · rfl
  | .block id c, R, st, K => by
    simp only [exec]
    rw [exec_bind c]
    conv => rhs; rw [exec_bind c]
    rw [Option.bind_assoc]
    congr 1
    funext x
    obtain ⟨e, s⟩ := x
    cases e with
    | normal => rfl
    | ret => rfl
    | exit i => simp only [onPair, blockK]; cases Nat.beq i id <;> rfl
  | .loop c, R, st, K => by
    simp only [exec, Option.bind_assoc]
    congr 1
    funext s
    exact loopK_bind (fun st K => exec_bind c st K) (fun st K => exec_bind c st K) C.k s K
  | .scope c, R, st, K => by simp only [exec]; exact exec_bind c st K

theorem runF_bind {C : Ctx} {A : Nat → Ann} {n : Nat} {body : Code} {rs : List ResultVar} {pk : List Kd} {rk : Kd} {rvs : List RV} {R : Type} (K : RV × List RV → Option R) :
    runF C A n body rs pk rk rvs K = (runF C A n body rs pk rk rvs some).bind K := by
  unfold runF
  cases okIn rvs n with
  | false => rfl
  | true =>
    simp only [cond_true]
    rw [exec_bind]
    conv => rhs; rw [exec_bind]
    rw [Option.bind_assoc]
    congr 1
    funext x
    obtain ⟨e, s⟩ := x
    simp only [onPair]
    cases e <;> simp only [leaveK, M.runK_eq, Option.bind_assoc, Option.bind_some, Option.bind_none]
    all_goals (congr 1; funext x; cases lows x.2 <;> rfl)

/-! the types of what is handed over -/
mutual
def Kd.den : Kd → Type
  | .view t => t.den
  | .own t _ => List t.den
  | .box ks => Kd.dens ks
  | .agg ks => Kd.dens ks
  | .tup ks => Kd.dens ks
  | .fn _ => Unit
  | .bld _ => List Int
  | .use _ => List Int
def Kd.dens : List Kd → Type
  | [] => Unit
  | k :: ks => k.den × Kd.dens ks
end
mutual
def enc : (k : Kd) → k.den → RV
  | .view t, x => .view t x
  | .own t sh, xs => .own t sh xs
  | .box ks, x => .box (encs ks x)
  | .agg ks, x => .agg (encs ks x)
  | .tup ks, x => .tup (encs ks x)
  | .fn f, _ => .fn f
  | .bld T, xs => .bld T xs
  | .use T, xs => .bld T xs
def encs : (ks : List Kd) → Kd.dens ks → List RV
  | [], _ => []
  | k :: ks, x => enc k x.1 :: encs ks x.2
end
def asView (t : Ty) : RV → Option t.den
  | .view t' x => if h : t' = t then some (h ▸ x : t.den) else none
  | _ => none
def asOwn (t : Ty) (sh : Bool) : RV → Option (List t.den)
  | .own t' sh' xs => if h : t' = t then (bif sh == sh' then some (h ▸ xs : List t.den) else none) else none
  | _ => none
def asBox : RV → Option (List RV)
  | .box cs => some cs
  | _ => none
def asAgg : RV → Option (List RV)
  | .agg cs => some cs
  | _ => none
def asTup : RV → Option (List RV)
  | .tup cs => some cs
  | _ => none
def asFn (f : Nat) : RV → Option Unit
  | .fn g => bif Nat.beq f g then some () else none
  | _ => none
def asBld (T : TypeId) : RV → Option (List Int)
  | .bld U xs => bif Nat.beq T U then some xs else none
  | _ => none
mutual
def dec : (k : Kd) → RV → Option k.den
  | .view t, r => asView t r
  | .own t sh, r => asOwn t sh r
  | .box ks, r => (asBox r).bind (decs ks)
  | .agg ks, r => (asAgg r).bind (decs ks)
  | .tup ks, r => (asTup r).bind (decs ks)
  | .fn f, r => asFn f r
  | .bld T, r => asBld T r
  | .use T, r => asBld T r
def decs : (ks : List Kd) → List RV → Option (Kd.dens ks)
  | [], [] => some ()
  | [], _ :: _ => none
  | _ :: _, [] => none
  | k :: ks, x :: xs => (dec k x).bind fun y => (decs ks xs).bind fun ys => some (y, ys)
end
theorem asView_eq {t : Ty} {r : RV} {x : t.den} (h : asView t r = some x) : r = .view t x := by
  unfold asView at h
  split at h
  · split at h
    · rename_i e; subst e; simp at h; rw [h]
    · cases h
  · cases h
theorem asOwn_eq {t : Ty} {sh : Bool} {r : RV} {x : List t.den} (h : asOwn t sh r = some x) : r = .own t sh x := by
  unfold asOwn at h
  split at h
  · split at h
    · rename_i sh' _ e
      subst e
      cases hs : (sh == sh') with
      | false => rw [hs] at h; simp at h
      | true => rw [hs] at h; simp at h hs; rw [h, hs]
    · cases h
  · cases h
theorem asBox_eq {r : RV} {cs : List RV} (h : asBox r = some cs) : r = .box cs := by unfold asBox at h; split at h <;> simp at h; rw [h]
theorem asAgg_eq {r : RV} {cs : List RV} (h : asAgg r = some cs) : r = .agg cs := by unfold asAgg at h; split at h <;> simp at h; rw [h]
theorem asTup_eq {r : RV} {cs : List RV} (h : asTup r = some cs) : r = .tup cs := by unfold asTup at h; split at h <;> simp at h; rw [h]
theorem asFn_eq {f : Nat} {r : RV} {x : Unit} (h : asFn f r = some x) : r = .fn f := by
  unfold asFn at h
  split at h
  · rename_i g
    cases hb : Nat.beq f g with
    | false => rw [hb] at h; simp at h
    | true => rw [beq_eq hb]
  · cases h
theorem asBld_eq {T : TypeId} {r : RV} {x : List Int} (h : asBld T r = some x) : r = .bld T x := by
  unfold asBld at h
  split at h
  · rename_i U xs
    cases hb : Nat.beq T U with
    | false => rw [hb] at h; simp at h
    | true => rw [hb] at h; simp at h; rw [beq_eq hb, h]
  · cases h
mutual
theorem dec_enc : (k : Kd) → (r : RV) → (x : k.den) → dec k r = some x → r = enc k x
  | .view t, r, x, h => by simp only [dec] at h; simp only [enc]; exact asView_eq h
  | .own t sh, r, x, h => by simp only [dec] at h; simp only [enc]; exact asOwn_eq h
  | .box ks, r, x, h => by
    simp only [dec] at h
    obtain ⟨cs, h1, h2⟩ := Option.bind_eq_some_iff.1 h
    simp only [enc, asBox_eq h1, decs_encs ks cs x h2]
  | .agg ks, r, x, h => by
    simp only [dec] at h
    obtain ⟨cs, h1, h2⟩ := Option.bind_eq_some_iff.1 h
    simp only [enc, asAgg_eq h1, decs_encs ks cs x h2]
  | .tup ks, r, x, h => by
    simp only [dec] at h
    obtain ⟨cs, h1, h2⟩ := Option.bind_eq_some_iff.1 h
    simp only [enc, asTup_eq h1, decs_encs ks cs x h2]
  | .fn f, r, x, h => by simp only [dec] at h; simp only [enc]; exact asFn_eq h
  | .bld T, r, x, h => by simp only [dec] at h; simp only [enc]; exact asBld_eq h
  | .use T, r, x, h => by simp only [dec] at h; simp only [enc]; exact asBld_eq h
theorem decs_encs : (ks : List Kd) → (rs : List RV) → (x : Kd.dens ks) → decs ks rs = some x → rs = encs ks x
  | [], [], x, h => rfl
  | k :: ks, r :: rs, x, h => by
    simp only [decs] at h
    obtain ⟨y, h1, h⟩ := Option.bind_eq_some_iff.1 h
    obtain ⟨ys, h2, h⟩ := Option.bind_eq_some_iff.1 h
    cases h
    simp only [encs, ← dec_enc k r y h1, ← decs_encs ks rs ys h2]
  | [], _ :: _, x, h => by simp [decs] at h
  | _ :: _, [], x, h => by simp [decs] at h
end

theorem encs_length : (ks : List Kd) → (x : Kd.dens ks) → (encs ks x).length = ks.length
  | [], _ => rfl
  | k :: ks, x => by simp only [encs, List.length_cons, encs_length ks]
theorem boxes_puts : (ks : List Kd) → (x : Kd.dens ks) → (n : Nat) → boxes (lentA ks (puts n (encs ks x)).1) = true
  | [], _, n => rfl
  | k :: ks, x, n => by
    have ih := boxes_puts ks x.2
    cases k with
    | box l =>
      simp only [encs, enc, puts, put, lentA, boxes, List.all_cons, Bool.true_and] at ih ⊢
      exact ih _
    | bld T =>
      simp only [encs, enc, puts, put, lentA, boxes, List.all_cons, Bool.true_and] at ih ⊢
      exact ih _
    | _ => simp only [encs, enc, puts, lentA]; exact ih _

/-- what a call answers: its result, and what was lent -/
abbrev Ans (pk : List Kd) (rk : Kd) : Type := rk.den × Kd.dens (lentK pk)
def decR (pk : List Kd) (rk : Kd) (r : RV × List RV) : Option (Ans pk rk) := (dec rk r.1).bind fun x => (decs (lentK pk) r.2).bind fun l => some (x, l)
def encR (pk : List Kd) (rk : Kd) (x : Ans pk rk) : RV × List RV := (enc rk x.1, encs (lentK pk) x.2)
theorem decR_encR {pk : List Kd} {rk : Kd} {r : RV × List RV} {x : Ans pk rk} (h : decR pk rk r = some x) : r = encR pk rk x := by
  unfold decR at h
  obtain ⟨y, h1, h⟩ := Option.bind_eq_some_iff.1 h
  obtain ⟨ys, h2, h⟩ := Option.bind_eq_some_iff.1 h
  cases h
  obtain ⟨a, b⟩ := r
  simp only [encR, ← dec_enc rk a y h1, ← decs_encs (lentK pk) b ys h2]

def mk (pk : List Kd) (rk : Kd) (F : Nat → Kd.dens pk → Option (Ans pk rk)) : Callee :=
  { ρ := Ans pk rk, pk := pk, run := fun k rvs => (decs pk rvs).bind (F k), enc := encR pk rk }

/-- THE LAW OF A FUNCTION -/
theorem fun_law {C : Ctx} (hC : ∀ f cal, C.Φ f = some cal → Ctr C.P C.k f cal) (hm : C.P.follows .mixedOrders = true) {A : Nat → Ann} {f k : Nat} {fn : Func} {code : Code} {pk : List Kd} {rk : Kd} {F : Nat → Kd.dens pk → Option (Ans pk rk)}
    (hf : C.P.funcs[f]? = some fn) (hb : fn.body = some code) (hname : (fn.name == "runtime.NumGoroutine") = false) (hfit : fitsC C.P fn.ntmps code = true)
    (h : ∀ x y, F k x = some y → runF C A fn.ntmps code fn.results.toList pk rk (encs pk x) (decR pk rk) = some y) : Ctr C.P k f (mk pk rk F) := by
  refine fun_sound (A := A) (rk := rk) hC hm hf hb hname hfit (fun rvs x hx => ?_) (fun rvs x hx => ?_)
  · simp only [mk] at hx ⊢
    obtain ⟨y, h1, h2⟩ := Option.bind_eq_some_iff.1 hx
    rw [decs_encs pk rvs y h1]
    exact ⟨boxes_puts pk y 0, encs_length pk y⟩
  · simp only [mk] at hx ⊢
    obtain ⟨y, h1, h2⟩ := Option.bind_eq_some_iff.1 hx
    have h3 := h y x h2
    rw [← decs_encs pk rvs y h1, runF_bind] at h3
    obtain ⟨r, h4, h5⟩ := Option.bind_eq_some_iff.1 h3
    rw [h4, decR_encR h5]

/-- the contracts at hand -/
def phi : List (Nat × Callee) → Nat → Option Callee
  | [], _ => none
  | (f, c) :: l, g => bif Nat.beq g f then some c else phi l g
theorem phi_ok {P : Program} {k : Nat} : ∀ {l : List (Nat × Callee)}, (∀ p ∈ l, Ctr P k p.1 p.2) → ∀ f cal, phi l f = some cal → Ctr P k f cal
  | [], _, f, cal, h => by simp [phi] at h
  | (g, c) :: l, hl, f, cal, h => by
    simp only [phi] at h
    cases hb : Nat.beq f g with
    | true => rw [hb] at h; simp at h; rw [beq_eq hb, ← h]; exact hl (g, c) (by simp)
    | false => rw [hb] at h; exact phi_ok (fun p hp => hl p (by simp [hp])) f cal h

theorem ctr_nil {P : Program} {k : Nat} : ∀ p ∈ ([] : List (Nat × Callee)), Ctr P k p.1 p.2 := by intro p hp; simp at hp
theorem ctr_cons {P : Program} {k f : Nat} {c : Callee} {l : List (Nat × Callee)} (h : Ctr P k f c) (hl : ∀ p ∈ l, Ctr P k p.1 p.2) : ∀ p ∈ (f, c) :: l, Ctr P k p.1 p.2 := by
  intro p hp
  rcases List.mem_cons.1 hp with rfl | hp
  · exact h
  · exact hl p hp

/-! loops, cut out -/
def iter {V R : Type} (step : (V → Option R) → V → Option R) : Nat → V → Option R
  | 0, _ => none
  | n + 1, v => step (iter step n) v
theorem iter_law {V R : Type} {L : Nat → V → Option R} {step : (V → Option R) → V → Option R} (h0 : ∀ v, L 0 v = none) (h : ∀ n v, L (n + 1) v = step (L n) v) : ∀ n, L n = iter step n
  | 0 => funext h0
  | n + 1 => funext fun v => by rw [h, iter_law h0 h n]; rfl

section
variable {R : Type}
/-- a place in a text, and what comes behind it; of the loops around: how many rounds are left -/
def place (C : Ctx) (A : Nat → Ann) (kp : List Nat) : List Nat → List Nat → Code → (Ex → St → Option R) → Code × (Ex → St → Option R)
  | 0 :: p, ns, .seq a b, K => place C A kp p ns a (seqK (fun s => exec C A kp b s K) K)
  | _ :: p, ns, .seq _ b, K => place C A kp p ns b K
  | 0 :: p, ns, .cond _ a _, K => place C A kp p ns a K
  | _ :: p, ns, .cond _ _ b, K => place C A kp p ns b K
  | _ :: p, ns, .block id c, K => place C A kp p ns c (blockK id K)
  | _ :: p, ns, .scope c, K => place C A kp p ns c K
  | _ :: p, n :: ns, .loop c, K => place C A kp p ns c fun e s => match e with
    | .normal => (norm kp (A (firstRegion c)) s).bind fun s => loopK (exec C A kp c) (norm kp (A (firstRegion c))) n s K
    | .exit i => K (.exit i) s
    | .ret => K .ret s
  | _, _, c, K => (c, K)
def loopAt (C : Ctx) (A : Nat → Ann) (kp : List Nat) (p ns : List Nat) (code : Code) (K : Ex → St → Option R) (n : Nat) (st : St) : Option R :=
  match place C A kp p ns code K with
  | (.loop c, K) => loopK (exec C A kp c) (norm kp (A (firstRegion c))) n st K
  | _ => none
end
end Go.Sh
