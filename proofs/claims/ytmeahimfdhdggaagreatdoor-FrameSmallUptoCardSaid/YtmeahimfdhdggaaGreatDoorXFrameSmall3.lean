/-
  What the row needs, part 3.
-/
import Derived.Test.YtmeahimfdhdggaaGreatDoorXFrameSmall2
import Derived.Orders
set_option linter.unusedSimpArgs false
set_option linter.unusedVariables false
set_option linter.unusedSectionVars false
namespace Go.Sh
open Go
variable [Gl]
variable {C : Ctx} {G : Glob} {σ : Sig} {w : World} {lim : Nat → Nat} {st : St} {tmps : Array Value}
def TL (w : World) (lim : Nat → Nat) : List Kd → List Value → List RV → List Nat → Prop
  | [], [], [], bs => bs = []
  | .box _ :: ks, v :: vs, x :: rs, bs => ∃ b1 b2, bs = b1 ++ b2 ∧ TT w lim x v b1 ∧ TL w lim ks vs rs b2
  | .view _ :: ks, _ :: vs, rs, bs => TL w lim ks vs rs bs
  | .own _ _ :: ks, _ :: vs, rs, bs => TL w lim ks vs rs bs
  | .agg _ :: ks, _ :: vs, rs, bs => TL w lim ks vs rs bs
  | .tup _ :: ks, _ :: vs, rs, bs => TL w lim ks vs rs bs
  | .fn _ :: ks, _ :: vs, rs, bs => TL w lim ks vs rs bs
  | .use _ :: ks, _ :: vs, rs, bs => TL w lim ks vs rs bs
  | .clo _ _ :: ks, _ :: vs, rs, bs => TL w lim ks vs rs bs
  | .ns _ :: ks, _ :: vs, rs, bs => TL w lim ks vs rs bs
  | .ref _ :: ks, _ :: vs, rs, bs => TL w lim ks vs rs bs
  | .bld _ :: ks, v :: vs, x :: rs, bs => ∃ b1 b2, bs = b1 ++ b2 ∧ TT w lim x v b1 ∧ TL w lim ks vs rs b2
  | _, _, _, _ => False
theorem idsOfs_append (a b : List AV) : idsOfs (a ++ b) = idsOfs a ++ idsOfs b := by
  induction a with
  | nil => rfl
  | cons x a ih => simp [idsOfs, ih]
def Enters (P : Program) (f : Nat) : Prop := ∃ fn, P.funcs[f]? = some fn ∧ (fn.name == "runtime.NumGoroutine") = false ∧ fn.body.isNone = false
def stayC : List Kd → List Value → List Value → Prop
  | .ref _ :: ks, v :: vs, v' :: vs' => v' = v ∧ stayC ks vs vs'
  | _ :: ks, _ :: vs, _ :: vs' => stayC ks vs vs'
  | _, _, _ => True
def Stay (w w' : World) : List Kd → List Value → Prop
  | .box ks :: l, v :: vs => (∀ b cs T fz cs' T' fz', v = .pointer (some ⟨b, 0, none⟩) → w.heap[b]? = some (.cells cs T fz) → w'.heap[b]? = some (.cells cs' T' fz') → stayC ks cs.toList cs'.toList) ∧ Stay w w' l vs
  | _ :: l, _ :: vs => Stay w w' l vs
  | _, _ => True
def refVal (σ : Sig) : List Nat → List Kd → List Value → Prop
  | q :: qs, .ref _ :: ks, v :: vs => v = σ q ∧ refVal σ qs ks vs
  | [], _ :: _, _ :: _ => True
  | qs, _ :: ks, _ :: vs => refVal σ qs ks vs
  | _, _, _ => True
def RefV (σ : Sig) (w : World) : List (List Nat) → List Kd → List Value → Prop
  | q :: nm, .box ks :: l, v :: vs => (∀ b cs T fz, v = .pointer (some ⟨b, 0, none⟩) → w.heap[b]? = some (.cells cs T fz) → refVal σ q ks cs.toList) ∧ RefV σ w nm l vs
  | nm, _ :: l, _ :: vs => RefV σ w nm l vs
  | _, _, _ => True
theorem refVal_congr {σ σ' : Sig} : (qs : List Nat) → (ks : List Kd) → (vs : List Value) → (∀ q ∈ qs, σ' q = σ q) → refVal σ qs ks vs → refVal σ' qs ks vs
  | [], [], _, _, _ => by simp [refVal]
  | [], _ :: _, [], _, _ => by simp [refVal]
  | [], _ :: _, _ :: _, _, _ => by simp [refVal]
  | _ :: _, [], _, _, _ => by simp [refVal]
  | _ :: _, _ :: _, [], _, _ => by simp [refVal]
  | q :: qs, k :: ks, v :: vs, hq, h => by
    have other : (∀ l, k ≠ .ref l) → refVal σ' (q :: qs) (k :: ks) (v :: vs) := by
      intro hk
      have e1 : ∀ τ : Sig, refVal τ (q :: qs) (k :: ks) (v :: vs) = refVal τ (q :: qs) ks vs := by
        intro τ; cases k <;> first | rfl | exact absurd rfl (hk _)
      rw [e1] at h ⊢
      exact refVal_congr (q :: qs) ks vs hq h
    cases k with
    | ref l =>
      simp only [refVal] at h ⊢
      exact ⟨h.1.trans (hq q (List.mem_cons_self ..)).symm, refVal_congr qs ks vs (fun q' h' => hq q' (List.mem_cons_of_mem _ h')) h.2⟩
    | _ => exact other (by intro l; simp)
structure Ctr (P : Program) (k : Nat) (f : Nat) (cal : Callee) : Prop where
  enters : Enters P f
  calls : ∀ rvs x, cal.run k rvs = some x → ∀ (w : World) (lim : Nat → Nat) (vs : List Value) (bs : List Nat), (∀ b, w.heap.size ≤ b → lim b = 0) → Lies w lim → TTs w lim rvs vs bs → bs.Nodup →
    (∀ b ∈ bs, b < w.heap.size) → Calls P f vs.toArray w fun e w' => ∃ v lim' b1 b2, e = .returned v ∧ Ext w lim w' lim' ∧ (∀ b, w'.heap.size ≤ b → lim' b = 0) ∧
      (w'.os = w.os ∧ w'.tape = w.tape ∧ w'.output = w.output) ∧ (∀ b, b < w.heap.size → b ∉ bs → w'.heap[b]? = w.heap[b]? ∧ lim' b = lim b) ∧
      TT w' lim' (cal.enc x).1 v b1 ∧ TL w' lim' (flatK cal.pk) (flatV cal.pk vs) (cal.enc x).2 b2 ∧ Stay w w' (flatK cal.pk) (flatV cal.pk vs) ∧ (b1 ++ b2).Nodup ∧ ∀ b ∈ b1 ++ b2, b ∈ bs ∨ w.heap.size ≤ b
def lentIds : List (List Nat) → List Kd → List AV → List Nat
  | q :: nm, .box _ :: ks, .bx r 0 :: as => r :: (q ++ lentIds nm ks as)
  | nm, .bld _ :: ks, .bx r 0 :: as => r :: lentIds nm ks as
  | nm, _ :: ks, _ :: as => lentIds nm ks as
  | _, _, _ => []
theorem takes_len : (ks : List Kd) → (as : List AV) → {tbl : Tbl} → {l l' : List Nat} → {xs : List RV} → {u : Ups} → (takes ks as).run tbl l = some ((xs, u), l') → ks.length = as.length
  | [], [], tbl, l, l', xs, u, hm => rfl
  | k :: ks, a :: as, tbl, l, l', xs, u, hm => by
    simp only [takes] at hm
    obtain ⟨⟨x, u1⟩, l1, h1, h2⟩ := M.run_bind_some hm
    obtain ⟨⟨ys, u2⟩, l2, h3, h4⟩ := M.run_bind_some h2
    simp only [List.length_cons, takes_len ks as h3]
  | [], _ :: _, tbl, l, l', xs, u, hm => by simp [takes, M.run] at hm
  | _ :: _, [], tbl, l, l', xs, u, hm => by simp [takes, M.run] at hm
theorem nofresh_append {u v : Ups} (h : ∀ r, look u r ≠ some .fresh) (k : ∀ r, look v r ≠ some .fresh) : ∀ r, look (u ++ v) r ≠ some .fresh := by
  intro r
  have h1 := h r
  clear h
  induction u with
  | nil => exact k r
  | cons p u ih =>
    obtain ⟨i, z⟩ := p
    rw [List.cons_append, look_cons]
    rw [look_cons] at h1
    split
    · rename_i e; simpa [e] using h1
    · rename_i e; simp only [e, if_false] at h1; exact ih h1
theorem putsR_le : (qs : List Nat) → (ks : List Kd) → (cs : List RV) → (n : Nat) → n ≤ (putsR n qs ks cs).2.2
  | [], [], cs, n => by simp only [putsR]; exact puts_le cs n
  | _ :: _, [], cs, n => by simp only [putsR]; exact puts_le cs n
  | [], _ :: _, [], n => by simp only [putsR]; exact puts_le [] n
  | _ :: _, _ :: _, [], n => by simp only [putsR]; exact puts_le [] n
  | [], k :: ks, x :: cs, n => by
    have e : putsR n [] (k :: ks) (x :: cs) = ((put n x).1 :: (putsR (put n x).2.2 [] ks cs).1, (putsR (put n x).2.2 [] ks cs).2.1 ++ (put n x).2.1, (putsR (put n x).2.2 [] ks cs).2.2) := by cases k <;> rfl
    rw [e]
    exact Nat.le_trans (put_le x n) (putsR_le [] ks cs _)
  | q :: qs, k :: ks, x :: cs, n => by
    have other : (∀ l, k ≠ .ref l) → n ≤ (putsR n (q :: qs) (k :: ks) (x :: cs)).2.2 := by
      intro hk
      have e : putsR n (q :: qs) (k :: ks) (x :: cs) = ((put n x).1 :: (putsR (put n x).2.2 (q :: qs) ks cs).1, (putsR (put n x).2.2 (q :: qs) ks cs).2.1 ++ (put n x).2.1, (putsR (put n x).2.2 (q :: qs) ks cs).2.2) := by cases k <;> first | rfl | exact absurd rfl (hk _)
      rw [e]
      exact Nat.le_trans (put_le x n) (putsR_le (q :: qs) ks cs _)
    cases k with
    | ref l =>
      cases x with
      | box ds => simp only [putsR]; exact Nat.le_trans (puts_le ds n) (putsR_le qs ks cs _)
      | _ => simp only [putsR]; exact Nat.le_trans (put_le _ n) (putsR_le qs ks cs _)
    | _ => exact other (by intro l; simp)
theorem giveBack_le : (nm : List (List Nat)) → (ks : List Kd) → (as : List AV) → (rs : List RV) → (n : Nat) → {m : Nat} → {ups : Ups} → giveBack n nm ks as rs = some (ups, m) → n ≤ m
  | nm, [], [], [], n, m, ups, h => by simp [giveBack] at h; omega
  | nm, k :: ks, a :: as, rs, n, m, ups, h => by
    have rest : (∀ l, k ≠ .box l) → (∀ T, k ≠ .bld T) → n ≤ m := by
      intro hk hk2
      have e1 : giveBack n nm (k :: ks) (a :: as) rs = giveBack n nm ks as rs := by cases k <;> first | (cases nm <;> rfl) | exact absurd rfl (hk _) | exact absurd rfl (hk2 _)
      rw [e1] at h
      exact giveBack_le nm ks as rs n h
    cases k with
    | box l =>
      cases nm with
      | nil => cases a <;> simp [giveBack] at h
      | cons qs nm =>
      cases a with
      | bx r kk =>
        cases kk with
        | succ kk => simp [giveBack] at h
        | zero =>
          cases rs with
          | nil => simp [giveBack] at h
          | cons x rs =>
            cases x with
            | box cs =>
              simp only [giveBack] at h
              cases hg : giveBack (putsR n qs l cs).2.2 nm ks as rs with
              | none => simp [hg] at h
              | some q =>
                obtain ⟨v', m'⟩ := q
                simp only [hg, Option.some.injEq, Prod.mk.injEq] at h
                have h1 := giveBack_le nm ks as rs _ hg
                have h2 := putsR_le qs l cs n
                omega
            | _ => simp [giveBack] at h
      | _ => simp [giveBack] at h
    | bld T =>
      cases a with
      | bx r kk =>
        cases kk with
        | succ kk => cases nm <;> simp [giveBack] at h
        | zero =>
          cases rs with
          | nil => cases nm <;> simp [giveBack] at h
          | cons x rs =>
            cases x with
            | bld q xs =>
              have e : giveBack n nm (.bld T :: ks) (.bx r 0 :: as) (.bld q xs :: rs) = match giveBack (n + 1) nm ks as rs with
                  | some (v, m') => some (v ++ [(r, .live (.box [.me r q, .own n])), (n, .live (.arr (.int .u8) xs false))], m')
                  | none => none := by cases nm <;> rfl
              rw [e] at h
              cases hg : giveBack (n + 1) nm ks as rs with
              | none => simp [hg] at h
              | some q =>
                obtain ⟨v', m'⟩ := q
                simp only [hg, Option.some.injEq, Prod.mk.injEq] at h
                have h1 := giveBack_le nm ks as rs _ hg
                omega
            | _ => cases nm <;> simp [giveBack] at h
      | _ => cases nm <;> simp [giveBack] at h
    | _ => exact rest (by intro l; simp) (by intro T; simp)
  | nm, [], _ :: _, rs, n, m, ups, h => by cases nm <;> simp [giveBack] at h
  | nm, [], [], _ :: _, n, m, ups, h => by cases nm <;> simp [giveBack] at h
  | nm, k :: _, [], rs, n, m, ups, h => by cases k <;> cases nm <;> simp [giveBack] at h
structure OneR (G : Glob) (σ : Sig) (lim : Nat → Nat) (st : St) (tmps : Array Value) (w : World) (n m : Nat) (R : List Nat) (U : Ups) (bs : List Nat) (σ' : Sig) : Prop where
  rel : RelW G σ' lim ⟨st.env, st.tbl.put U⟩ tmps w
  old : ∀ s, st.tbl s ≠ .fresh → σ' s = σ s
  out : ∀ s, (s < n ∨ m ≤ s) → s ∉ R → (st.tbl.put U) s = st.tbl s
  nf : ∀ s, look U s ≠ some .fresh
  lv : ∀ s b, isLive (st.tbl.put U s) = true → blk (σ' s) = some b → (isLive (st.tbl s) = true ∧ blk (σ s) = some b) ∨ b ∈ bs
  le : n ≤ m
theorem PutR.one {n m : Nat} {U : Ups} {bs : List Nat} {σ' : Sig} (h : PutR G σ lim st tmps w n m U bs σ') (hn : ∀ s, look U s ≠ some .fresh) : OneR G σ lim st tmps w n m [] U bs σ' :=
  ⟨h.rel, h.old, fun s hs _ => by simp [Tbl.put, h.out s hs], hn, h.lv, h.le⟩
theorem OneR.nil (h : RelW G σ lim st tmps w) (n : Nat) : OneR G σ lim st tmps w n n [] [] [] σ :=
  ⟨by rw [put_nil]; exact h, fun _ _ => rfl, fun _ _ _ => rfl, fun _ => by simp [look], fun s b hl hb => .inl ⟨hl, hb⟩, Nat.le_refl _⟩
theorem OneR.keep {n m : Nat} {R : List Nat} {U : Ups} {bs : List Nat} {σ' : Sig} (hO : OneR G σ lim st tmps w n m R U bs σ') : ∀ s, st.tbl s ≠ .fresh → (st.tbl.put U) s ≠ .fresh := by
  intro s hs hfr
  simp only [Tbl.put] at hfr
  cases hls : look U s with
  | none => rw [hls] at hfr; exact hs hfr
  | some z => rw [hls] at hfr; simp only at hfr; subst hfr; exact hO.nf s hls
theorem OneR.fb {n m : Nat} {R : List Nat} {U : Ups} {b1 b2 : List Nat} {σ' : Sig} (hO : OneR G σ lim st tmps w n m R U b1 σ') (hb : FB G σ st (b1 ++ b2)) : FB G σ' ⟨st.env, st.tbl.put U⟩ b2 := by
  obtain ⟨hbn, hbm⟩ := hb
  rw [List.nodup_append] at hbn
  exact ⟨hbn.2.1, fun b' hb' => ⟨(hbm b' (List.mem_append_right _ hb')).1, fun s hls hbr => by
    rcases hO.lv s b' hls hbr with ⟨h5, h6⟩ | h5
    · exact (hbm b' (List.mem_append_right _ hb')).2 s h5 h6
    · exact hbn.2.2 b' h5 b' hb' rfl⟩⟩
theorem FB.left {bs cs : List Nat} (h : FB G σ st (bs ++ cs)) : FB G σ st bs := ⟨(List.nodup_append.1 h.1).1, fun b hb => h.2 b (List.mem_append_left _ hb)⟩
theorem OneR.gone {n m : Nat} {R : List Nat} {U : Ups} {bs : List Nat} {σ' : Sig} (hO : OneR G σ lim st tmps w n m R U bs σ') (hf : ∀ j, n ≤ j → j < m → st.tbl j = .fresh) {s : Nat} (hs : st.tbl s = .gone) (hn : s ∉ R) : (st.tbl.put U) s = .gone := by
  have hso : s < n ∨ m ≤ s := by
    by_cases hlt : n ≤ s ∧ s < m
    · have := hf s hlt.1 hlt.2
      rw [hs] at this; cases this
    · omega
  rw [hO.out s hso hn]; exact hs
theorem OneR.fresh {n m m2 : Nat} {R : List Nat} {U : Ups} {bs : List Nat} {σ' : Sig} (hO : OneR G σ lim st tmps w n m R U bs σ') (hR : ∀ r ∈ R, st.tbl r = .gone) (hf : ∀ j, n ≤ j → j < m2 → st.tbl j = .fresh) : ∀ j, m ≤ j → j < m2 → (st.tbl.put U) j = .fresh := by
  intro j h5 h6
  have hj := hf j (Nat.le_trans hO.le h5) h6
  rw [hO.out j (.inr h5) (fun hm => by have := hR j hm; rw [hj] at this; cases this)]; exact hj
theorem OneR.comp {n m1 m : Nat} {R R' : List Nat} {U V : Ups} {b1 b2 : List Nat} {σ1 σ2 : Sig} (hO : OneR G σ lim st tmps w n m1 R U b1 σ1) (hQ : OneR G σ1 lim ⟨st.env, st.tbl.put U⟩ tmps w m1 m R' V b2 σ2) :
    OneR G σ lim st tmps w n m (R ++ R') (V ++ U) (b1 ++ b2) σ2 := by
  refine ⟨by rw [put_append]; exact hQ.rel, fun s hs => (hQ.old s (hO.keep s hs)).trans (hO.old s hs), fun s hs hn => ?_, nofresh_append hQ.nf hO.nf, fun s b hl hb => ?_, Nat.le_trans hO.le hQ.le⟩
  · simp only [List.mem_append, not_or] at hn
    have h1 := hO.le; have h2 := hQ.le
    rw [put_append]
    have e1 := hQ.out s (by omega) hn.2
    simp only at e1
    rw [e1, hO.out s (by omega) hn.1]
  · rw [put_append] at hl
    rcases hQ.lv s b hl hb with ⟨h5, h6⟩ | h5
    · rcases hO.lv s b h5 h6 with h7 | h7
      · exact .inl h7
      · exact .inr (List.mem_append_left _ h7)
    · exact .inr (List.mem_append_right _ h5)
theorem give_box {cs : List RV} {n r : Nat} {v : Value} {bs : List Nat} (h : RelW G σ lim st tmps w) (ht : TT w lim (.box cs) v bs) (hgone : st.tbl r = .gone) (hvr : σ r = v)
    (hf : ∀ j, n ≤ j → j < (puts n cs).2.2 → st.tbl j = .fresh) (hb : FB G σ st bs) :
    ∃ σ', OneR G σ lim st tmps w n (puts n cs).2.2 [r] ((r, .live (.box (puts n cs).1)) :: (puts n cs).2.1) bs σ' := by
  simp only [TT] at ht
  obtain ⟨b, ws, U, bs1, rfl, g2, g3, g4, rfl⟩ := ht
  obtain ⟨hbn, hbm⟩ := hb
  rw [List.nodup_cons] at hbn
  have hle1 := puts_le cs n
  obtain ⟨σ1, hP, hA, hK⟩ := puts_sound cs n h g3 hf ⟨hbn.2, fun b' hb' => hbm b' (List.mem_cons_of_mem _ hb')⟩
  have hrn : r < n ∨ (puts n cs).2.2 ≤ r := by
    by_cases hlt : n ≤ r ∧ r < (puts n cs).2.2
    · have := hf r hlt.1 (by omega)
      rw [hgone] at this; cases this
    · omega
  have hr1 : (st.tbl.put (puts n cs).2.1) r = .gone := by simp [Tbl.put, hP.out r hrn, hgone]
  have hB := hP.rel.adopt (n := r) (v := .pointer (some ⟨b, 0, none⟩)) (.inr ⟨hr1, (hP.old r (by rw [hgone]; simp)).trans hvr⟩) (y := .box (puts n cs).1) hK (fun hσ => by
    simp only [RR]
    exact ⟨b, ws, U, by simp, g2, RAs.mono (Ext.refl _ _) hσ _ _ hK hA, g4⟩) (fun b' hb' => by
      simp [blk] at hb'; subst hb'
      refine ⟨(hbm b (List.mem_cons_self ..)).1, fun s hls hbr => ?_⟩
      rcases hP.lv s b hls hbr with ⟨h5, h6⟩ | h5
      · exact (hbm b (List.mem_cons_self ..)).2 s h5 h6
      · exact hbn.1 h5)
  refine ⟨_, ⟨by rw [put_cons]; exact hB, fun s hs => ?_, fun s hs hne => ?_, fun s => ?_, fun s b' hls hbr => ?_, hle1⟩⟩
  · by_cases e : s = r
    · subst e; simp [hvr]
    · simp [e]; exact hP.old s hs
  · have hne : s ≠ r := by simpa using hne
    rw [put_at, if_neg (Ne.symm hne)]
    simp [Tbl.put, hP.out s hs]
  · rw [look_cons]; split
    · simp
    · exact puts_nofresh cs n s
  · by_cases e : s = r
    · subst e; simp [blk] at hbr; subst hbr; exact .inr (List.mem_cons_self ..)
    · simp only [e, if_false] at hbr
      rw [put_at, if_neg (Ne.symm e)] at hls
      rcases hP.lv s b' hls hbr with h5 | h5
      · exact .inl h5
      · exact .inr (List.mem_cons_of_mem _ h5)
theorem putsR_sound : (qs : List Nat) → (ks : List Kd) → (cs : List RV) → (n : Nat) → {σ : Sig} → {st : St} → {vs : List Value} → {bs : List Nat} → RelW G σ lim st tmps w → TTs w lim cs vs bs → refVal σ qs ks vs → (∀ q ∈ qs, st.tbl q = .gone) → qs.Nodup →
    (∀ j, n ≤ j → j < (putsR n qs ks cs).2.2 → st.tbl j = .fresh) → FB G σ st bs →
    ∃ σ', OneR G σ lim st tmps w n (putsR n qs ks cs).2.2 qs (putsR n qs ks cs).2.1 bs σ' ∧ RAs σ' w lim (putsR n qs ks cs).1 vs ∧ Known (st.tbl.put (putsR n qs ks cs).2.1) (idsOfs (putsR n qs ks cs).1) := by
  intro qs ks cs
  -- without kinds: as ever
  have base : ∀ (qs : List Nat) (cs : List RV) (n : Nat) {σ : Sig} {st : St} {vs : List Value} {bs : List Nat}, RelW G σ lim st tmps w → TTs w lim cs vs bs → (∀ j, n ≤ j → j < (puts n cs).2.2 → st.tbl j = .fresh) → FB G σ st bs →
      ∃ σ', OneR G σ lim st tmps w n (puts n cs).2.2 qs (puts n cs).2.1 bs σ' ∧ RAs σ' w lim (puts n cs).1 vs ∧ Known (st.tbl.put (puts n cs).2.1) (idsOfs (puts n cs).1) := by
    intro qs cs n σ st vs bs h ht hf hb
    obtain ⟨σ1, hP, hA, hK⟩ := puts_sound cs n h ht hf hb
    have hO := hP.one (puts_nofresh cs n)
    exact ⟨σ1, ⟨hO.rel, hO.old, fun s hs _ => hO.out s hs (by simp), hO.nf, hO.lv, hO.le⟩, hA, hK⟩
  -- a cell, and the rest
  have plainS : ∀ (x : RV) (n : Nat) (qs : List Nat) (ks : List Kd) (cs : List RV),
      (∀ (n : Nat) {σ : Sig} {st : St} {vs : List Value} {bs : List Nat}, RelW G σ lim st tmps w → TTs w lim cs vs bs → refVal σ qs ks vs → (∀ q ∈ qs, st.tbl q = .gone) → qs.Nodup →
        (∀ j, n ≤ j → j < (putsR n qs ks cs).2.2 → st.tbl j = .fresh) → FB G σ st bs →
        ∃ σ', OneR G σ lim st tmps w n (putsR n qs ks cs).2.2 qs (putsR n qs ks cs).2.1 bs σ' ∧ RAs σ' w lim (putsR n qs ks cs).1 vs ∧ Known (st.tbl.put (putsR n qs ks cs).2.1) (idsOfs (putsR n qs ks cs).1)) →
      ∀ {σ : Sig} {st : St} {vs : List Value} {bs : List Nat} (v : Value), RelW G σ lim st tmps w → TTs w lim (x :: cs) (v :: vs) bs → refVal σ qs ks vs → (∀ q ∈ qs, st.tbl q = .gone) → qs.Nodup →
        (∀ j, n ≤ j → j < (putsR (put n x).2.2 qs ks cs).2.2 → st.tbl j = .fresh) → FB G σ st bs →
        ∃ σ', OneR G σ lim st tmps w n (putsR (put n x).2.2 qs ks cs).2.2 qs ((putsR (put n x).2.2 qs ks cs).2.1 ++ (put n x).2.1) bs σ' ∧ RAs σ' w lim ((put n x).1 :: (putsR (put n x).2.2 qs ks cs).1) (v :: vs) ∧
          Known (st.tbl.put ((putsR (put n x).2.2 qs ks cs).2.1 ++ (put n x).2.1)) (idsOfs ((put n x).1 :: (putsR (put n x).2.2 qs ks cs).1)) := by
    intro x n qs ks cs ih σ st vs bs v h ht hrv hqg hqn hf hb
    simp only [TTs] at ht
    obtain ⟨b1, b2, rfl, h1, h2⟩ := ht
    have hle := putsR_le qs ks cs (put n x).2.2
    obtain ⟨σ1, hP, hA, hK⟩ := put_sound x n h h1 (fun j h5 h6 => hf j h5 (by omega)) hb.left
    have hO := hP.one (put_nofresh x n)
    obtain ⟨σ2, hQ, hB, hL⟩ := ih (put n x).2.2 (st := ⟨st.env, st.tbl.put (put n x).2.1⟩) hO.rel h2 (refVal_congr _ _ _ (fun q hq => hO.old q (by rw [hqg q hq]; simp)) hrv)
      (fun q hq => hO.gone (fun j h5 h6 => hf j h5 (by omega)) (hqg q hq) (by simp)) hqn (hO.fresh (by simp) hf) (hO.fb hb)
    have hC := hO.comp hQ
    simp only [List.nil_append] at hC
    refine ⟨σ2, hC, ?_, ?_⟩
    · simp only [RAs]
      exact ⟨RA.mono (T := st.tbl.put (put n x).2.1) (Ext.refl _ _) hQ.old _ _ hK hA, hB⟩
    · rw [put_append]
      intro r hr
      simp only [idsOfs, List.mem_append] at hr
      rcases hr with hr | hr
      · exact hK.put hQ.nf r hr
      · exact hL r hr
  induction ks generalizing qs cs with
  | nil =>
    intro n σ st vs bs h ht hrv hqg hqn hf hb
    have e : putsR n qs [] cs = puts n cs := by cases qs <;> rfl
    rw [e] at hf ⊢
    exact base qs cs n h ht hf hb
  | cons k ks ih =>
    intro n σ st vs bs h ht hrv hqg hqn hf hb
    cases cs with
    | nil =>
      have e : putsR n qs (k :: ks) [] = puts n [] := by cases qs <;> cases k <;> rfl
      rw [e] at hf ⊢
      exact base qs [] n h ht hf hb
    | cons x cs =>
      match vs, ht with
      | [], ht => simp [TTs] at ht
      | v :: vs, ht =>
        cases qs with
        | nil =>
          have e : putsR n [] (k :: ks) (x :: cs) = ((put n x).1 :: (putsR (put n x).2.2 [] ks cs).1, (putsR (put n x).2.2 [] ks cs).2.1 ++ (put n x).2.1, (putsR (put n x).2.2 [] ks cs).2.2) := by cases k <;> rfl
          rw [e] at hf ⊢
          exact plainS x n [] ks cs (ih [] cs) v h ht (by cases ks <;> cases vs <;> simp [refVal]) hqg hqn hf hb
        | cons q qs =>
          have other : (∀ l, k ≠ .ref l) → ∃ σ', OneR G σ lim st tmps w n (putsR n (q :: qs) (k :: ks) (x :: cs)).2.2 (q :: qs) (putsR n (q :: qs) (k :: ks) (x :: cs)).2.1 bs σ' ∧ RAs σ' w lim (putsR n (q :: qs) (k :: ks) (x :: cs)).1 (v :: vs) ∧
              Known (st.tbl.put (putsR n (q :: qs) (k :: ks) (x :: cs)).2.1) (idsOfs (putsR n (q :: qs) (k :: ks) (x :: cs)).1) := by
            intro hk
            have e : putsR n (q :: qs) (k :: ks) (x :: cs) = ((put n x).1 :: (putsR (put n x).2.2 (q :: qs) ks cs).1, (putsR (put n x).2.2 (q :: qs) ks cs).2.1 ++ (put n x).2.1, (putsR (put n x).2.2 (q :: qs) ks cs).2.2) := by cases k <;> first | rfl | exact absurd rfl (hk _)
            have e1 : refVal σ (q :: qs) (k :: ks) (v :: vs) = refVal σ (q :: qs) ks vs := by cases k <;> first | rfl | exact absurd rfl (hk _)
            rw [e] at hf ⊢
            rw [e1] at hrv
            exact plainS x n (q :: qs) ks cs (ih (q :: qs) cs) v h ht hrv hqg hqn hf hb
          cases k with
          | ref l =>
            simp only [refVal] at hrv
            rw [List.nodup_cons] at hqn
            have hqs : ∀ q' ∈ qs, st.tbl q' = .gone := fun q' hq' => hqg q' (List.mem_cons_of_mem _ hq')
            have otherx : putsR n (q :: qs) (.ref l :: ks) (x :: cs) = ((put n x).1 :: (putsR (put n x).2.2 qs ks cs).1, (putsR (put n x).2.2 qs ks cs).2.1 ++ (put n x).2.1, (putsR (put n x).2.2 qs ks cs).2.2) →
                ∃ σ', OneR G σ lim st tmps w n (putsR n (q :: qs) (.ref l :: ks) (x :: cs)).2.2 (q :: qs) (putsR n (q :: qs) (.ref l :: ks) (x :: cs)).2.1 bs σ' ∧ RAs σ' w lim (putsR n (q :: qs) (.ref l :: ks) (x :: cs)).1 (v :: vs) ∧
                  Known (st.tbl.put (putsR n (q :: qs) (.ref l :: ks) (x :: cs)).2.1) (idsOfs (putsR n (q :: qs) (.ref l :: ks) (x :: cs)).1) := by
              intro e
              rw [e] at hf ⊢
              obtain ⟨σ', hO, hA, hK⟩ := plainS x n qs ks cs (ih qs cs) v h ht hrv.2 hqs hqn.2 hf hb
              exact ⟨σ', ⟨hO.rel, hO.old, fun s hs hn => hO.out s hs (fun hm => hn (List.mem_cons_of_mem _ hm)), hO.nf, hO.lv, hO.le⟩, hA, hK⟩
            cases x with
            | box ds =>
              simp only [TTs] at ht
              obtain ⟨b1, b2, rfl, h1, h2⟩ := ht
              simp only [putsR] at hf ⊢
              have hle := putsR_le qs ks cs (puts n ds).2.2
              have hqgone := hqg q (List.mem_cons_self ..)
              obtain ⟨σ1, hO⟩ := give_box h h1 hqgone hrv.1.symm (fun j h5 h6 => hf j h5 (by omega)) hb.left
              have hR : ∀ r ∈ [q], st.tbl r = .gone := by intro r hr; simp at hr; subst hr; exact hqgone
              obtain ⟨σ2, hQ, hB, hL⟩ := ih qs cs (puts n ds).2.2 (st := ⟨st.env, st.tbl.put ((q, .live (.box (puts n ds).1)) :: (puts n ds).2.1)⟩) hO.rel h2 (refVal_congr _ _ _ (fun q' hq' => hO.old q' (by rw [hqs q' hq']; simp)) hrv.2)
                (fun q' hq' => hO.gone (fun j h5 h6 => hf j h5 (by omega)) (hqs q' hq') (by simp; intro e; subst e; exact hqn.1 hq')) hqn.2 (hO.fresh hR hf) (hO.fb hb)
              have hC := hO.comp hQ
              refine ⟨σ2, hC, ?_, ?_⟩
              · simp only [RAs, RA]
                refine ⟨?_, hB⟩
                simp only [TT] at h1
                obtain ⟨b, ws, U, bs1, hv, _⟩ := h1
                have e1 : σ2 q = σ q := hC.old q (by rw [hqgone]; simp)
                exact ⟨b, by rw [e1, ← hrv.1, hv], hv⟩
              · intro r hr
                simp only [idsOfs, idsOf, List.mem_append, List.mem_singleton] at hr
                rw [put_append]
                rcases hr with rfl | hr
                · exact hQ.keep r (by simp only; rw [put_at]; simp)
                · exact hL r hr
            | _ => exact otherx rfl
          | _ => exact other (by intro l; simp)
theorem give_boxQ {ks0 : List Kd} {cs : List RV} {n r : Nat} {qs : List Nat} {v : Value} {bs : List Nat} (h : RelW G σ lim st tmps w) (ht : TT w lim (.box cs) v bs) (hgone : st.tbl r = .gone) (hvr : σ r = v)
    (hq : ∀ b ws T fz, v = .pointer (some ⟨b, 0, none⟩) → w.heap[b]? = some (.cells ws T fz) → refVal σ qs ks0 ws.toList) (hqg : ∀ q ∈ qs, st.tbl q = .gone) (hqn : (r :: qs).Nodup)
    (hf : ∀ j, n ≤ j → j < (putsR n qs ks0 cs).2.2 → st.tbl j = .fresh) (hb : FB G σ st bs) :
    ∃ σ', OneR G σ lim st tmps w n (putsR n qs ks0 cs).2.2 (r :: qs) ((r, .live (.box (putsR n qs ks0 cs).1)) :: (putsR n qs ks0 cs).2.1) bs σ' := by
  simp only [TT] at ht
  obtain ⟨b, ws, U, bs1, rfl, g2, g3, g4, rfl⟩ := ht
  have hb' := hb
  obtain ⟨hbn, hbm⟩ := hb
  rw [List.nodup_cons] at hbn hqn
  obtain ⟨σ1, hP, hA, hK⟩ := putsR_sound qs ks0 cs n h g3 (hq b ws U (0, 0) rfl g2) hqg hqn.2 hf ⟨hbn.2, fun b' hb' => hbm b' (List.mem_cons_of_mem _ hb')⟩
  have hr1 : (st.tbl.put (putsR n qs ks0 cs).2.1) r = .gone := hP.gone hf hgone hqn.1
  have hB := hP.rel.adopt (n := r) (v := .pointer (some ⟨b, 0, none⟩)) (.inr ⟨hr1, (hP.old r (by rw [hgone]; simp)).trans hvr⟩) (y := .box (putsR n qs ks0 cs).1) hK (fun hσ => by
    simp only [RR]
    exact ⟨b, ws, U, by simp, g2, RAs.mono (Ext.refl _ _) hσ _ _ hK hA, g4⟩) (fun b' hb' => by
      simp [blk] at hb'; subst hb'
      refine ⟨(hbm b (List.mem_cons_self ..)).1, fun s hls hbr => ?_⟩
      rcases hP.lv s b hls hbr with ⟨h5, h6⟩ | h5
      · exact (hbm b (List.mem_cons_self ..)).2 s h5 h6
      · exact hbn.1 h5)
  refine ⟨_, ⟨by rw [put_cons]; exact hB, fun s hs => ?_, fun s hs hne => ?_, fun s => ?_, fun s b' hls hbr => ?_, hP.le⟩⟩
  · by_cases e : s = r
    · subst e; simp [hvr]
    · simp [e]; exact hP.old s hs
  · simp only [List.mem_cons, not_or] at hne
    rw [put_at, if_neg (Ne.symm hne.1)]
    exact hP.out s hs hne.2
  · rw [look_cons]; split
    · simp
    · exact hP.nf s
  · by_cases e : s = r
    · subst e; simp [blk] at hbr; subst hbr; exact .inr (List.mem_cons_self ..)
    · simp only [e, if_false] at hbr
      rw [put_at, if_neg (Ne.symm e)] at hls
      rcases hP.lv s b' hls hbr with h5 | h5
      · exact .inl h5
      · exact .inr (List.mem_cons_of_mem _ h5)
theorem put_two' {T : Tbl} {n r : Nat} {x x' y : RS} : ((T.put [(n, y)]).put [(r, x')]).put [(r, x)] = T.put [(r, x), (n, y)] := by
  funext s
  simp only [put_one, Tbl.put, look_cons]
  by_cases h1 : r = s
  · simp [h1]
  · by_cases h2 : n = s
    · simp [h1, h2, look]
    · simp [h1, h2, look]
theorem give_bld {n r : Nat} {U : TypeId} {xs : List Int} {v : Value} {bs : List Nat} (h : RelW G σ lim st tmps w) (ht : TT w lim (.bld U xs) v bs) (hgone : st.tbl r = .gone) (hvr : σ r = v)
    (hn : st.tbl n = .fresh) (hb : FB G σ st bs) :
    ∃ σ', OneR G σ lim st tmps w n (n + 1) [r] [(r, .live (.box [AV.me r U, .own n])), (n, .live (.arr (.int .u8) xs false))] bs σ' := by
  simp only [TT] at ht
  obtain ⟨b, x, y, bs1, rfl, h2, h3, h4, h5, rfl⟩ := ht
  obtain ⟨hbn, hbm⟩ := hb
  rw [List.nodup_cons] at hbn
  have hnr : n ≠ r := by intro e; subst e; rw [hgone] at hn; cases hn
  have hmem : ∀ b', blk y = some b' → b' ∈ bs1 := by
    intro b' hbv
    rcases h4.2 with ⟨_, rfl, rfl⟩ | ⟨c, off, cap, vs, T, fz, rfl, _, _, _, _, _, _, rfl⟩
    · simp [blk] at hbv
    · simp [blk] at hbv; subst hbv; simp
  have hval : RA (fun s => if s = n then y else σ s) w lim (.own n) y := by
    simp only [RA]
    rcases h4.2 with ⟨_, rfl, _⟩ | ⟨c, off, cap, vs, T, fz, rfl, _⟩
    · exact ⟨by simp, _, _, _, rfl⟩
    · exact ⟨by simp, _, _, _, rfl⟩
  have R1 := h.adopt (n := n) (v := y) (.inl hn) (y := .arr (.int .u8) xs false) (by intro s hs; cases hs) (fun hσ => by
    simp only [RR]
    refine ⟨h4.1, ?_⟩
    rcases h4.2 with ⟨e1, rfl, _⟩ | ⟨c, off, cap, vs, T, fz, rfl, e2, e3, e4, e5, e6, e7, _⟩
    · exact .inl ⟨e1, by simp⟩
    · exact .inr ⟨c, off, cap, vs, T, fz, by simp, e2, e3, e4, e5, e6, e7⟩) (fun b' hbv => hbm b' (List.mem_cons_of_mem _ (hmem b' hbv)))
  have hg1 : (st.tbl.put [(n, .live (.arr (.int .u8) xs false))]) r = .gone := by rw [put_one, if_neg hnr]; exact hgone
  have hk1 : Known (st.tbl.put [(n, .live (.arr (.int .u8) xs false))]) (idsOf (.own n)) := known_own (y := .arr (.int .u8) xs false) (by rw [put_at]; simp)
  have R2 := R1.adopt (n := r) (v := .pointer (some ⟨b, 0, none⟩)) (.inr ⟨hg1, by simp only [if_neg hnr.symm]; exact hvr⟩) (y := .box [.dead, .own n]) (by
      intro s hs
      simp only [resIds, idsOfs, idsOf, List.nil_append, List.append_nil] at hs
      exact hk1 s (by simpa [idsOf] using hs)) (fun hσ => by
    simp only [RR]
    refine ⟨b, #[x, y], U, by simp, h2, ?_, h5⟩
    simp only [RAs, and_true]
    exact ⟨by simp [RA], RA.mono (T := st.tbl.put [(n, .live (.arr (.int .u8) xs false))]) (Ext.refl _ _) hσ _ _ hk1 hval⟩) (fun b' hb' => by
      simp [blk] at hb'; subst hb'
      refine ⟨(hbm b (List.mem_cons_self ..)).1, fun s hl hbr => ?_⟩
      simp only at hl
      rw [put_one] at hl
      by_cases e : s = n
      · subst e; simp only [if_true] at hbr; exact hbn.1 (hmem b hbr)
      · simp only [e, if_false] at hbr
        rw [if_neg (Ne.symm e)] at hl
        exact (hbm b (List.mem_cons_self ..)).2 s hl hbr)
  simp only at R2
  have hr2 : ((st.tbl.put [(n, .live (.arr (.int .u8) xs false))]).put [(r, .live (.box [.dead, .own n]))]) r = .live (.box [.dead, .own n]) := by rw [put_one]; simp
  obtain ⟨q1, q2⟩ := R2.res r _ hr2
  have R3 := R2.reword (r := r) (y := .box [AV.me r U, .own n]) hr2 (by
      intro s hs
      simp only [resIds, idsOfs, List.append_nil, List.mem_append] at hs
      rcases hs with hs | hs
      · rw [me_ids s hs]; simp only; rw [hr2]; simp
      · exact q2 s (by simp only [resIds, idsOfs, idsOf, List.nil_append, List.append_nil] at hs ⊢; exact hs)) (by
      simp only [RR] at q1 ⊢
      obtain ⟨b', vs, T, e1, e2, e3, e4⟩ := q1
      have hbb : b' = b := by simp at e1; exact e1.symm
      subst hbb
      rw [h2] at e2
      obtain ⟨rfl, rfl⟩ : #[x, y] = vs ∧ U = T := by simpa using e2
      simp only [RAs, and_true] at e3
      refine ⟨b', #[x, y], U, by simp, h2, ?_, e4⟩
      simp only [RAs, and_true]
      exact ⟨me_ra h3 (by simp) (by simp [typeAt, h2]), e3.2⟩)
  simp only at R3
  rw [put_two'] at R3
  refine ⟨_, ⟨R3, fun s hs => ?_, fun s hs hne => ?_, fun s => ?_, fun s b' hl hbr => ?_, by omega⟩⟩
  · have e2 : s ≠ n := by intro e; subst e; exact hs hn
    by_cases e1 : s = r
    · subst e1; simp [hvr]
    · simp [e1, e2]
  · have hne : s ≠ r := by simpa using hne
    simp only [Tbl.put, look_cons]; rw [if_neg (fun e => hne e.symm), if_neg (fun e => by omega)]; rfl
  · rw [look_cons]; split
    · simp
    · rw [look_cons]; split <;> simp [look]
  · by_cases e1 : s = r
    · subst e1; simp [blk] at hbr; subst hbr; exact .inr (List.mem_cons_self ..)
    · by_cases e2 : s = n
      · subst e2; simp [e1] at hbr; exact .inr (List.mem_cons_of_mem _ (hmem b' hbr))
      · simp only [e1, e2, if_false] at hbr
        have : (st.tbl.put [(r, .live (.box [AV.me r U, .own n])), (n, .live (.arr (.int .u8) xs false))]) s = st.tbl s := by
          simp only [Tbl.put, look_cons]; rw [if_neg (fun e => e1 e.symm), if_neg (fun e => e2 e.symm)]; rfl
        rw [this] at hl
        exact .inl ⟨hl, hbr⟩
theorem RefV_congr {σ σ' : Sig} : (nm : List (List Nat)) → (ks : List Kd) → (vs : List Value) → (∀ q ∈ nm.flatten, σ' q = σ q) → RefV σ w nm ks vs → RefV σ' w nm ks vs
  | nm, [], vs, _, _ => by cases nm <;> simp [RefV]
  | nm, _ :: _, [], _, _ => by cases nm <;> simp [RefV]
  | [], k :: ks, v :: vs, hq, h => by
    have e : ∀ τ : Sig, RefV τ w [] (k :: ks) (v :: vs) = RefV τ w [] ks vs := by intro τ; cases k <;> rfl
    rw [e] at h ⊢
    exact RefV_congr [] ks vs hq h
  | q :: nm, k :: ks, v :: vs, hq, h => by
    have other : (∀ l, k ≠ .box l) → RefV σ' w (q :: nm) (k :: ks) (v :: vs) := by
      intro hk
      have e : ∀ τ : Sig, RefV τ w (q :: nm) (k :: ks) (v :: vs) = RefV τ w (q :: nm) ks vs := by intro τ; cases k <;> first | rfl | exact absurd rfl (hk _)
      rw [e] at h ⊢
      exact RefV_congr (q :: nm) ks vs hq h
    cases k with
    | box l =>
      simp only [RefV] at h ⊢
      refine ⟨fun b cs T fz h1 h2 => refVal_congr _ _ _ (fun q' hq' => hq q' (by simp [hq'])) (h.1 b cs T fz h1 h2), RefV_congr nm ks vs (fun q' hq' => hq q' (by
        rw [List.flatten_cons]; exact List.mem_append_right _ hq')) h.2⟩
    | _ => exact other (by intro l; simp)
theorem giveBack_sound : (nm : List (List Nat)) → (ks : List Kd) → (as : List AV) → (rs : List RV) → (n : Nat) → {m : Nat} → {ups : Ups} → {σ : Sig} → {st : St} → {vs : List Value} → {bs : List Nat} → giveBack n nm ks as rs = some (ups, m) →
    RelW G σ lim st tmps w → TL w lim ks vs rs bs → RefV σ w nm ks vs → (∀ (i r : Nat) (v : Value), as[i]? = some (AV.bx r 0) → vs[i]? = some v → σ r = v ∧ st.tbl r ≠ .fresh) → (∀ r ∈ lentIds nm ks as, st.tbl r = .gone) → (∀ q ∈ nm.flatten, st.tbl q ≠ .fresh) → (lentIds nm ks as).Nodup → (∀ j, n ≤ j → j < m → st.tbl j = .fresh) → FB G σ st bs →
    ∃ σ', RelW G σ' lim ⟨st.env, st.tbl.put ups⟩ tmps w ∧ (∀ r, st.tbl r ≠ .fresh → σ' r = σ r) ∧ (∀ r, look ups r ≠ some .fresh) ∧ n ≤ m
  | nm, [], [], [], n, m, ups, σ, st, vs, bs, hm, h, ht, hrv, hv, hl, hq, hn, hf, hb => by
    simp [giveBack] at hm
    obtain ⟨rfl, rfl⟩ := hm
    exact ⟨σ, by rw [put_nil]; exact h, fun _ _ => rfl, by simp [look], Nat.le_refl _⟩
  | nm, k :: ks, a :: as, rs, n, m, ups, σ, st, vs, bs, hm, h, ht, hrv, hv, hl, hq, hn, hf, hb => by
    match vs, ht with
    | [], ht => cases k <;> simp [TL] at ht
    | v :: vs, ht =>
      have rest : ∀ (hk : ∀ l, k ≠ .box l) (hk2 : ∀ T, k ≠ .bld T), ∃ σ', RelW G σ' lim ⟨st.env, st.tbl.put ups⟩ tmps w ∧ (∀ r, st.tbl r ≠ .fresh → σ' r = σ r) ∧ (∀ r, look ups r ≠ some .fresh) ∧ n ≤ m := by
        intro hk hk2
        have e1 : giveBack n nm (k :: ks) (a :: as) rs = giveBack n nm ks as rs := by cases k <;> first | (cases nm <;> rfl) | exact absurd rfl (hk _) | exact absurd rfl (hk2 _)
        have e2 : TL w lim ks vs rs bs := by cases k <;> first | exact ht | exact absurd rfl (hk _) | exact absurd rfl (hk2 _)
        have e3 : lentIds nm (k :: ks) (a :: as) = lentIds nm ks as := by cases k <;> first | (cases nm <;> rfl) | exact absurd rfl (hk _) | exact absurd rfl (hk2 _)
        have e4 : RefV σ w nm ks vs := by cases k <;> first | (cases nm <;> exact hrv) | exact absurd rfl (hk _)
        rw [e1] at hm
        rw [e3] at hl hn
        exact giveBack_sound nm ks as rs n hm h e2 e4 (fun i r v h1 h2 => hv (i + 1) r v (by simpa using h1) (by simpa using h2)) hl hq hn hf hb
      -- one box, and the rest
      have more : ∀ (nm' : List (List Nat)) (rs' : List RV) (R : List Nat) (m1 m' : Nat) (U v' : Ups) (b1 b2 : List Nat) (σ1 : Sig), OneR G σ lim st tmps w n m1 R U b1 σ1 → giveBack m1 nm' ks as rs' = some (v', m') → ups = v' ++ U → m = m' → bs = b1 ++ b2 →
          TL w lim ks vs rs' b2 → RefV σ w nm' ks vs → (∀ q ∈ nm'.flatten, st.tbl q ≠ .fresh) → lentIds nm (k :: ks) (a :: as) = R ++ lentIds nm' ks as →
          ∃ σ', RelW G σ' lim ⟨st.env, st.tbl.put ups⟩ tmps w ∧ (∀ r, st.tbl r ≠ .fresh → σ' r = σ r) ∧ (∀ r, look ups r ≠ some .fresh) ∧ n ≤ m := by
        intro nm' rs' R m1 m' U v' b1 b2 σ1 hO hg hups hmm hbs ht2 hrv2 hq2 hids
        subst hups hmm hbs
        rw [hids] at hl hn
        rw [List.nodup_append] at hn
        have hR : ∀ r ∈ R, st.tbl r = .gone := fun r hr => hl r (List.mem_append_left _ hr)
        have hle2 : m1 ≤ m := giveBack_le nm' ks as rs' _ hg
        have hle1 := hO.le
        obtain ⟨σ2, hQ, hold, hnf, hle⟩ := giveBack_sound nm' ks as rs' m1 (st := ⟨st.env, st.tbl.put U⟩) hg hO.rel ht2 (RefV_congr nm' ks vs (fun q' hq' => hO.old q' (hq2 q' hq')) hrv2)
          (fun i s u h5 h6 => by
            obtain ⟨h7, h8⟩ := hv (i + 1) s u (by simpa using h5) (by simpa using h6)
            exact ⟨(hO.old s h8).trans h7, hO.keep s h8⟩)
          (fun s hs => hO.gone (fun j h5 h6 => hf j h5 (by omega)) (hl s (List.mem_append_right _ hs)) (fun hm => hn.2.2 s hm s hs rfl))
          (fun q' hq' => hO.keep q' (hq2 q' hq')) hn.2.1
          (hO.fresh hR hf) (hO.fb hb)
        exact ⟨σ2, by rw [put_append]; exact hQ, fun s hs => (hold s (hO.keep s hs)).trans (hO.old s hs), fun s => nofresh_append hnf hO.nf s, by omega⟩
      cases k with
      | box l =>
        cases nm with
        | nil => cases a <;> simp [giveBack] at hm
        | cons qs nm =>
        cases a with
        | bx r kk =>
         cases kk with
         | succ kk => simp [giveBack] at hm
         | zero =>
          cases rs with
          | nil => simp [TL] at ht
          | cons x rs =>
           cases x with
           | box cs =>
            simp only [giveBack] at hm
            simp only [TL] at ht
            simp only [RefV] at hrv
            obtain ⟨b1, b2, hbs, h1, h2⟩ := ht
            simp only [lentIds, List.flatten_cons, List.mem_append] at hl hn hq
            have hn' : (r :: qs).Nodup := by
              rw [← List.cons_append] at hn
              exact (List.nodup_append.1 hn).1
            cases hg : giveBack (putsR n qs l cs).2.2 nm ks as rs with
            | none => simp [hg] at hm
            | some q =>
              obtain ⟨v', m'⟩ := q
              simp only [hg, Option.some.injEq, Prod.mk.injEq] at hm
              have hmm := giveBack_le nm ks as rs _ hg
              obtain ⟨σ1, hO⟩ := give_boxQ h h1 (hl r (List.mem_cons_self ..)) (hv 0 r v rfl rfl).1 hrv.1 (fun q' hq' => hl q' (List.mem_cons_of_mem _ (List.mem_append_left _ hq'))) hn' (fun j h5 h6 => hf j h5 (by omega)) ⟨(List.nodup_append.1 (hbs ▸ hb.1)).1, fun b' hb' => hb.2 b' (hbs ▸ List.mem_append_left _ hb')⟩
              exact more nm rs (r :: qs) _ m' _ v' b1 b2 σ1 hO hg hm.1.symm hm.2.symm hbs h2 hrv.2 (fun q' hq' => hq q' (.inr hq')) rfl
           | _ => simp [giveBack] at hm
        | _ => simp [giveBack] at hm
      | bld T =>
        cases a with
        | bx r kk =>
         cases kk with
         | succ kk => cases nm <;> simp [giveBack] at hm
         | zero =>
          cases rs with
          | nil => simp [TL] at ht
          | cons x rs =>
           cases x with
           | bld mm xs =>
            have e : giveBack n nm (.bld T :: ks) (.bx r 0 :: as) (.bld mm xs :: rs) = match giveBack (n + 1) nm ks as rs with
                | some (v, m') => some (v ++ [(r, .live (.box [.me r mm, .own n])), (n, .live (.arr (.int .u8) xs false))], m')
                | none => none := by cases nm <;> rfl
            rw [e] at hm
            simp only [TL] at ht
            obtain ⟨b1, b2, hbs, h1, h2⟩ := ht
            have e3 : lentIds nm (.bld T :: ks) (.bx r 0 :: as) = r :: lentIds nm ks as := by cases nm <;> rfl
            have e4 : RefV σ w nm ks vs := by cases nm <;> exact hrv
            cases hg : giveBack (n + 1) nm ks as rs with
            | none => simp [hg] at hm
            | some q =>
              obtain ⟨v', m'⟩ := q
              simp only [hg, Option.some.injEq, Prod.mk.injEq] at hm
              have hmm := giveBack_le nm ks as rs _ hg
              obtain ⟨σ1, hO⟩ := give_bld h h1 (hl r (by rw [e3]; simp)) (hv 0 r v rfl rfl).1 (hf n (Nat.le_refl _) (by omega)) ⟨(List.nodup_append.1 (hbs ▸ hb.1)).1, fun b' hb' => hb.2 b' (hbs ▸ List.mem_append_left _ hb')⟩
              exact more nm rs [r] _ m' _ v' b1 b2 σ1 hO hg hm.1.symm hm.2.symm hbs h2 e4 hq e3
           | _ => cases nm <;> simp [giveBack] at hm
        | _ => cases nm <;> simp [giveBack] at hm
      | _ => exact rest (by intro l; simp) (by intro T; simp)
  | nm, [], _ :: _, rs, n, m, ups, σ, st, vs, bs, hm, h, ht, hrv, hv, hl, hq, hn, hf, hb => by cases nm <;> simp [giveBack] at hm
  | nm, [], [], _ :: _, n, m, ups, σ, st, vs, bs, hm, h, ht, hrv, hv, hl, hq, hn, hf, hb => by cases nm <;> simp [giveBack] at hm
  | nm, k :: _, [], rs, n, m, ups, σ, st, vs, bs, hm, h, ht, hrv, hv, hl, hq, hn, hf, hb => by cases k <;> cases nm <;> simp [giveBack] at hm
theorem freshes {α : Type} {tbl : Tbl} : {n m : Nat} → {k : M α} → {l l' : List Nat} → {x : α} → (freshAll n m k).run tbl l = some (x, l') → (∀ j, n ≤ j → j < n + m → tbl j = .fresh) ∧ ∃ l2, k.run tbl l2 = some (x, l')
  | n, 0, k, l, l', x, h => ⟨fun j h1 h2 => by omega, l, h⟩
  | n, m + 1, k, l, l', x, h => by
    simp only [freshAll, M.run] at h
    cases hf : tbl n with
    | fresh =>
      simp only [hf] at h
      obtain ⟨h1, h2⟩ := freshes (n := n + 1) (m := m) h
      refine ⟨fun j h3 h4 => ?_, h2⟩
      by_cases e : j = n
      · subst e; exact hf
      · exact h1 j (by omega) (by omega)
    | gone => simp [hf, M.run] at h
    | live y => simp [hf, M.run] at h
theorem take_box_gone {l : List Kd} {r : Nat} {tbl : Tbl} {lg lg' : List Nat} {x : RV} {u : Ups} (h : (take (.box l) (.bx r 0)).run tbl lg = some ((x, u), lg')) :
    ∃ cs u' ys l1 l2, tbl r = .live (.box cs) ∧ u = (r, .gone) :: u' ∧ (takes l cs).run tbl l1 = some ((ys, u'), l2) := by
  simp only [take, M.run] at h
  cases hr : tbl r with
  | fresh => simp [hr, M.run] at h
  | gone => simp [hr, M.run] at h
  | live y =>
    cases y with
    | arr => simp [hr, M.run] at h
    | nest => simp [hr, M.run] at h
    | box cs =>
      simp only [hr] at h
      obtain ⟨⟨ys, u1⟩, l1, h1, h2⟩ := M.run_bind_some h
      obtain ⟨h3, _⟩ := M.run_ret h2
      cases h3
      exact ⟨cs, u1, ys, _, _, rfl, rfl, h1⟩
theorem refs_gones : (ks : List Kd) → (cs : List AV) → {tbl : Tbl} → {l l' : List Nat} → {xs : List RV} → {u : Ups} → {q : List Nat} → (takes ks cs).run tbl l = some ((xs, u), l') → refNames ks cs = some q → q.Sublist (gones u)
  | [], [], tbl, l, l', xs, u, q, hm, hq => by simp [refNames] at hq; subst hq; simp
  | k :: ks, a :: as, tbl, l, l', xs, u, q, hm, hq => by
    simp only [takes] at hm
    obtain ⟨⟨x, u1⟩, l1, h1, h2⟩ := M.run_bind_some hm
    obtain ⟨⟨ys, u2⟩, l2, h3, h4⟩ := M.run_bind_some h2
    obtain ⟨h, _⟩ := M.run_ret h4
    cases h
    rw [gones_append]
    have other : (∀ l, k ≠ .ref l) → q.Sublist (gones u1 ++ gones u2) := by
      intro hk
      have e : refNames (k :: ks) (a :: as) = refNames ks as := by cases k <;> first | rfl | exact absurd rfl (hk _)
      rw [e] at hq
      exact (refs_gones ks as h3 hq).trans (List.sublist_append_right _ _)
    cases k with
    | ref l =>
      cases a with
      | bx r kk =>
        cases kk with
        | succ kk => simp [refNames] at hq
        | zero =>
          simp only [refNames] at hq
          cases hq2 : refNames ks as with
          | none => rw [hq2] at hq; simp at hq
          | some q2 =>
            rw [hq2] at hq
            simp only [Option.some.injEq] at hq
            subst hq
            rw [take_ref] at h1
            obtain ⟨cs, u', ys', l3, l4, e1, e2, e3⟩ := take_box_gone h1
            subst e2
            have hg : [r].Sublist (gones ((r, RS.gone) :: u')) := by simp [gones, isGone]
            exact List.Sublist.append (l₁ := [r]) hg (refs_gones ks as h3 hq2)
      | _ => simp [refNames] at hq
    | _ => exact other (by intro l; simp)
  | [], _ :: _, tbl, l, l', xs, u, q, hm, hq => by simp [takes, M.run] at hm
  | _ :: _, [], tbl, l, l', xs, u, q, hm, hq => by simp [takes, M.run] at hm
theorem refsM_cons {k : Kd} {ks : List Kd} {a : AV} {as : List AV} (hk : ∀ l, k ≠ .box l) : refsM (k :: ks) (a :: as) = refsM ks as := by
  cases k <;> first | rfl | exact absurd rfl (hk _)
theorem boxRefs_spec {ks : List Kd} {r : Nat} {tbl : Tbl} {l l' : List Nat} {q : List Nat} (h : (boxRefs ks r).run tbl l = some (q, l')) {cs : List AV} (hr : tbl r = .live (.box cs)) : q = [] ∨ refNames ks cs = some q := by
  unfold boxRefs at h
  cases hh : hasRef ks with
  | false => rw [hh] at h; obtain ⟨rfl, _⟩ := M.run_ret h; exact .inl rfl
  | true =>
    rw [hh] at h
    simp only [cond_true, M.run, hr] at h
    exact .inr (M.run_ofOpt h)
theorem takes_lent : (ks : List Kd) → (as : List AV) → {tbl : Tbl} → {l l' l2 l3 : List Nat} → {xs : List RV} → {u : Ups} → {nm : List (List Nat)} → (takes ks as).run tbl l = some ((xs, u), l') → (refsM ks as).run tbl l2 = some (nm, l3) → (lentIds nm ks as).Sublist (gones u)
  | [], [], tbl, l, l', l2, l3, xs, u, nm, hm, hr => by cases nm <;> simp [lentIds]
  | k :: ks, a :: as, tbl, l, l', l2, l3, xs, u, nm, hm, hr => by
    simp only [takes] at hm
    obtain ⟨⟨x, u1⟩, l1, h1, h2⟩ := M.run_bind_some hm
    obtain ⟨⟨ys, u2⟩, l2', h3, h4⟩ := M.run_bind_some h2
    obtain ⟨h, _⟩ := M.run_ret h4
    cases h
    rw [gones_append]
    have rest : (∀ l, k ≠ .box l) → (∀ T, k ≠ .bld T) → (lentIds nm (k :: ks) (a :: as)).Sublist (gones u1 ++ gones u2) := by
      intro hk hk2
      rw [refsM_cons hk] at hr
      have i2 := takes_lent ks as h3 hr
      have e : lentIds nm (k :: ks) (a :: as) = lentIds nm ks as := by cases k <;> first | (cases nm <;> rfl) | exact absurd rfl (hk _) | exact absurd rfl (hk2 _)
      rw [e]
      exact i2.trans (List.sublist_append_right _ _)
    cases k with
    | box l =>
      cases a with
      | bx r kk =>
        cases kk with
        | succ kk => simp [take, M.run] at h1
        | zero =>
          simp only [refsM] at hr
          obtain ⟨q, l5, h5, h6⟩ := M.run_bind_some hr
          obtain ⟨qs, l6, h7, h8⟩ := M.run_bind_some h6
          obtain ⟨h9, _⟩ := M.run_ret h8
          subst h9
          obtain ⟨cs, u', ys', l3', l4, e1, e2, e3⟩ := take_box_gone h1
          subst e2
          have hq : q.Sublist (gones u') := by
            rcases boxRefs_spec h5 e1 with rfl | hq
            · simp
            · exact refs_gones l cs e3 hq
          simp only [lentIds]
          have i2 := takes_lent ks as h3 h7
          have hg : gones ((r, RS.gone) :: u') = r :: gones u' := by simp [gones, isGone]
          rw [hg, ← List.cons_append]
          exact List.Sublist.append (List.Sublist.cons_cons r hq) i2
      | _ => simp [take, M.run] at h1
    | bld T =>
      rw [refsM_cons (by intro l; simp)] at hr
      have i2 := takes_lent ks as h3 hr
      cases a with
      | bx r kk =>
        cases kk with
        | succ kk => simp [take, M.run] at h1
        | zero =>
          have hr : r ∈ gones u1 := by
            simp only [take, M.run] at h1
            cases hr : tbl r with
            | fresh => simp [hr, M.run] at h1
            | gone => simp [hr, M.run] at h1
            | live y =>
              cases y with
              | arr => simp [hr, M.run] at h1
              | nest => simp [hr, M.run] at h1
              | box cs =>
                match cs, hr with
                | [c0, c1], hr =>
                  simp only [hr] at h1
                  obtain ⟨hg, h1⟩ := M.run_guard h1
                  obtain ⟨⟨ys', u1'⟩, l1', h1', h2'⟩ := M.run_bind_some h1
                  obtain ⟨h, _⟩ := M.run_ret h2'
                  cases h
                  simp [gones, isGone]
                | [], hr => simp [hr, M.run] at h1
                | [_], hr => simp [hr, M.run] at h1
                | _ :: _ :: _ :: _, hr => simp [hr, M.run] at h1
          have e : lentIds nm (.bld T :: ks) (.bx r 0 :: as) = r :: lentIds nm ks as := by cases nm <;> rfl
          rw [e]
          exact List.Sublist.append (l₁ := [r]) (List.singleton_sublist.2 hr) i2
      | _ => simp [take, M.run] at h1
    | _ => exact rest (by intro l; simp) (by intro T; simp)
  | [], _ :: _, tbl, l, l', l2, l3, xs, u, nm, hm, hr => by simp [takes, M.run] at hm
  | _ :: _, [], tbl, l, l', l2, l3, xs, u, nm, hm, hr => by simp [takes, M.run] at hm
theorem all2_idx {as : List AV} {vs : List Value} (h : RAs σ w lim as vs) {i r : Nat} {v : Value} (h1 : as[i]? = some (AV.bx r 0)) (h2 : vs[i]? = some v) : σ r = v := by
  obtain ⟨u, h3, h4⟩ := (RAs_all2.1 h).get h1
  rw [h2] at h3
  obtain rfl : v = u := by simpa using h3
  simp only [RA] at h4
  obtain ⟨b, e1, e2⟩ := h4
  rw [e1, e2]
theorem takes_append {tbl : Tbl} : (ks : List Kd) → (cs : List AV) → {l l1 l2 : List Nat} → {xs ys : List RV} → {u v : Ups} → {ls : List Kd} → {as : List AV} → (takes ks cs).run tbl l = some ((xs, u), l1) → (takes ls as).run tbl l1 = some ((ys, v), l2) →
    (takes (ks ++ ls) (cs ++ as)).run tbl l = some ((xs ++ ys, u ++ v), l2)
  | [], [], l, l1, l2, xs, ys, u, v, ls, as, h, k => by
    obtain ⟨e, e2⟩ := M.run_ret h
    cases e; subst e2
    exact k
  | k0 :: ks, a :: cs, l, l1, l2, xs, ys, u, v, ls, as, h, k => by
    simp only [takes] at h
    obtain ⟨⟨x, u1⟩, l3, h1, h2⟩ := M.run_bind_some h
    obtain ⟨⟨zs, u2⟩, l4, h3, h4⟩ := M.run_bind_some h2
    obtain ⟨e, e2⟩ := M.run_ret h4
    cases e; subst e2
    have := takes_append ks cs h3 k
    simp only [List.cons_append, takes, M.run_bind, h1, Option.bind_some, this, M.run, List.append_assoc]
  | [], _ :: _, l, l1, l2, xs, ys, u, v, ls, as, h, k => by simp [takes, M.run] at h
  | _ :: _, [], l, l1, l2, xs, ys, u, v, ls, as, h, k => by simp [takes, M.run] at h
theorem takes_flat : (ks : List Kd) → (as : List AV) → {tbl : Tbl} → {l l' : List Nat} → {xs : List RV} → {u : Ups} → (takes ks as).run tbl l = some ((xs, u), l') →
    cloOk ks as = true ∧ ∃ ys, (takes (flatK ks) (flatA ks as)).run tbl l = some ((ys, u), l')
  | [], [], tbl, l, l', xs, u, hm => ⟨rfl, xs, hm⟩
  | k :: ks, a :: as, tbl, l, l', xs, u, hm => by
    simp only [takes] at hm
    obtain ⟨⟨x, u1⟩, l1, h1, h2⟩ := M.run_bind_some hm
    obtain ⟨⟨ys, u2⟩, l2, h3, h4⟩ := M.run_bind_some h2
    obtain ⟨h, e⟩ := M.run_ret h4
    cases h; subst e
    obtain ⟨i1, zs, i2⟩ := takes_flat ks as h3
    have plainK : (∀ f l, k ≠ .clo f l) → cloOk (k :: ks) (a :: as) = true ∧ ∃ ys, (takes (flatK (k :: ks)) (flatA (k :: ks) (a :: as))).run tbl l = some ((ys, u1 ++ u2), l') := by
      intro hk
      have e1 : flatK (k :: ks) = k :: flatK ks := by cases k <;> first | rfl | exact absurd rfl (hk _ _)
      have e2 : flatA (k :: ks) (a :: as) = a :: flatA ks as := by cases k <;> first | rfl | exact absurd rfl (hk _ _)
      have e3 : cloOk (k :: ks) (a :: as) = cloOk ks as := by cases k <;> first | rfl | exact absurd rfl (hk _ _)
      rw [e1, e2, e3]
      refine ⟨i1, x :: zs, ?_⟩
      simp only [takes, M.run_bind, h1, Option.bind_some, i2, M.run]
    cases k with
    | clo f ks0 =>
      cases a with
      | clo g cs =>
        simp only [take] at h1
        obtain ⟨hg, h1⟩ := M.run_guard h1
        obtain ⟨⟨zs', u3⟩, l3, h5, h6⟩ := M.run_bind_some h1
        obtain ⟨h, e⟩ := M.run_ret h6
        cases h; subst e
        have hl := takes_len ks0 cs h5
        refine ⟨by simp only [cloOk, hl, beq_self, i1, Bool.and_self], zs' ++ zs, ?_⟩
        simp only [flatK, flatA]
        exact takes_append ks0 cs h5 i2
      | _ => simp [take, M.run] at h1
    | _ => exact plainK (by intro f l; simp)
  | [], _ :: _, tbl, l, l', xs, u, hm => by simp [takes, M.run] at hm
  | _ :: _, [], tbl, l, l', xs, u, hm => by simp [takes, M.run] at hm
theorem refNames_val {lim : Nat → Nat} : (ks : List Kd) → (cs : List AV) → {q : List Nat} → {vs vs' : List Value} → refNames ks cs = some q → RAs σ w lim cs vs → stayC ks vs vs' → refVal σ q ks vs'
  | [], [], q, vs, vs', hq, hv, hs => by simp [refNames] at hq; subst hq; simp [refVal]
  | k :: ks, a :: as, q, vs, vs', hq, hv, hs => by
    match vs, vs', hv, hs with
    | [], _, hv, _ => simp [RAs] at hv
    | _ :: _, [], _, _ => cases q <;> simp [refVal]
    | v :: vs, v' :: vs', hv, hs =>
      simp only [RAs] at hv
      have other : (∀ l, k ≠ .ref l) → refVal σ q (k :: ks) (v' :: vs') := by
        intro hk
        have e1 : refNames (k :: ks) (a :: as) = refNames ks as := by cases k <;> first | rfl | exact absurd rfl (hk _)
        have e2 : stayC (k :: ks) (v :: vs) (v' :: vs') = stayC ks vs vs' := by cases k <;> first | rfl | exact absurd rfl (hk _)
        rw [e1] at hq
        rw [e2] at hs
        have := refNames_val ks as hq hv.2 hs
        cases q with
        | nil => simp [refVal]
        | cons q0 q =>
          have e3 : refVal σ (q0 :: q) (k :: ks) (v' :: vs') = refVal σ (q0 :: q) ks vs' := by cases k <;> first | rfl | exact absurd rfl (hk _)
          rw [e3]; exact this
      cases k with
      | ref l =>
        cases a with
        | bx r kk =>
          cases kk with
          | succ kk => simp [refNames] at hq
          | zero =>
            simp only [refNames] at hq
            cases hq2 : refNames ks as with
            | none => rw [hq2] at hq; simp at hq
            | some q2 =>
              rw [hq2] at hq
              simp only [Option.some.injEq] at hq
              subst hq
              simp only [stayC] at hs
              simp only [refVal]
              refine ⟨?_, refNames_val ks as hq2 hv.2 hs.2⟩
              have h1 := hv.1
              simp only [RA] at h1
              obtain ⟨b, h2, h3⟩ := h1
              rw [hs.1, h3, h2]
        | _ => simp [refNames] at hq
      | _ => exact other (by intro l; simp)
  | [], _ :: _, q, vs, vs', hq, hv, hs => by simp [refNames] at hq
  | k :: _, [], q, vs, vs', hq, hv, hs => by cases k <;> simp [refNames] at hq
theorem stayC_same : (ks : List Kd) → (vs : List Value) → stayC ks vs vs
  | [], _ => by simp [stayC]
  | _ :: _, [] => by simp [stayC]
  | k :: ks, v :: vs => by cases k <;> simp [stayC, stayC_same ks vs]
theorem flat_ra {lim : Nat → Nat} : (ks : List Kd) → {as : List AV} → {vs : List Value} → cloOk ks as = true → RAs σ w lim as vs → RAs σ w lim (flatA ks as) (flatV ks vs)
  | [], [], vs, _, h => by cases vs <;> simp [RAs, flatA, flatV] at h ⊢
  | [], _ :: _, vs, h, _ => by simp [cloOk] at h
  | k :: ks, [], vs, h, _ => by cases k <;> simp [cloOk] at h
  | k :: ks, a :: as, vs, hc, h => by
    match vs, h with
    | v :: vs, h =>
      simp only [RAs] at h
      have plainK : (∀ f l, k ≠ .clo f l) → RAs σ w lim (flatA (k :: ks) (a :: as)) (flatV (k :: ks) (v :: vs)) := by
        intro hk
        have e2 : flatA (k :: ks) (a :: as) = a :: flatA ks as := by cases k <;> first | rfl | exact absurd rfl (hk _ _)
        have e1 : flatV (k :: ks) (v :: vs) = v :: flatV ks vs := by cases k <;> first | rfl | exact absurd rfl (hk _ _)
        have e3 : cloOk (k :: ks) (a :: as) = cloOk ks as := by cases k <;> first | rfl | exact absurd rfl (hk _ _)
        rw [e1, e2]
        simp only [RAs]
        exact ⟨h.1, flat_ra ks (by rw [← e3]; exact hc) h.2⟩
      cases k with
      | clo f ks0 =>
        cases a with
        | clo g cs =>
          simp only [cloOk, Bool.and_eq_true] at hc
          have h1 := h.1
          simp only [RA] at h1
          obtain ⟨us, rfl, h2⟩ := h1
          simp only [flatA, flatV, List.toList_toArray]
          exact RAs_all2.2 ((RAs_all2.1 h2).append (RAs_all2.1 (flat_ra ks hc.2 h.2)))
        | _ => simp [cloOk] at hc
      | _ => exact plainK (by intro f l; simp)
    | [], h => simp [RAs] at h
theorem flat_ids : (ks : List Kd) → (as : List AV) → ∀ r ∈ idsOfs (flatA ks as), r ∈ idsOfs as
  | [], as, r, hr => by cases as <;> simp [flatA, idsOfs] at hr
  | k :: ks, [], r, hr => by cases k <;> simp [flatA, idsOfs] at hr
  | k :: ks, a :: as, r, hr => by
    simp only [idsOfs, List.mem_append]
    have plainK : flatA (k :: ks) (a :: as) = a :: flatA ks as → r ∈ idsOf a ∨ r ∈ idsOfs as := by
      intro e
      rw [e] at hr
      simp only [idsOfs, List.mem_append] at hr
      exact hr.imp id (flat_ids ks as r)
    cases k with
    | clo f ks0 =>
      cases a with
      | clo g cs =>
        simp only [flatA, idsOfs_append, List.mem_append] at hr
        exact hr.imp (by intro h; simpa [idsOf] using h) (flat_ids ks as r)
      | _ => exact plainK rfl
    | _ => exact plainK rfl
theorem refNames_ids : (ks : List Kd) → (cs : List AV) → {q : List Nat} → refNames ks cs = some q → ∀ r ∈ q, r ∈ idsOfs cs
  | [], [], q, h, r, hr => by simp [refNames] at h; subst h; cases hr
  | k :: ks, a :: as, q, h, r, hr => by
    simp only [idsOfs, List.mem_append]
    have other : (∀ l, k ≠ .ref l) → r ∈ idsOf a ∨ r ∈ idsOfs as := by
      intro hk
      have e : refNames (k :: ks) (a :: as) = refNames ks as := by cases k <;> first | rfl | exact absurd rfl (hk _)
      rw [e] at h
      exact .inr (refNames_ids ks as h r hr)
    cases k with
    | ref l =>
      cases a with
      | bx s kk =>
        cases kk with
        | succ kk => simp [refNames] at h
        | zero =>
          simp only [refNames] at h
          cases hq2 : refNames ks as with
          | none => rw [hq2] at h; simp at h
          | some q2 =>
            rw [hq2] at h
            simp only [Option.some.injEq] at h
            subst h
            rcases List.mem_cons.1 hr with rfl | hr
            · exact .inl (by simp [idsOf])
            · exact .inr (refNames_ids ks as hq2 r hr)
      | _ => simp [refNames] at h
    | _ => exact other (by intro l; simp)
  | [], _ :: _, q, h, r, hr => by simp [refNames] at h
  | k :: _, [], q, h, r, hr => by cases k <;> simp [refNames] at h
theorem boxRefs_known {tbl : Tbl} {lim : Nat → Nat} (hres : ∀ r x, tbl r = .live x → RR σ w lim r x ∧ Known tbl (resIds r x)) {ks : List Kd} {r : Nat} {l l' : List Nat} {q : List Nat} (h : (boxRefs ks r).run tbl l = some (q, l')) : Known tbl q := by
  have h0 := h
  unfold boxRefs at h
  cases hh : hasRef ks with
  | false => rw [hh] at h; obtain ⟨rfl, _⟩ := M.run_ret h; intro s hs; cases hs
  | true =>
    rw [hh] at h
    simp only [cond_true, M.run] at h
    cases hr : tbl r with
    | fresh => simp [hr, M.run] at h
    | gone => simp [hr, M.run] at h
    | live y =>
      cases y with
      | arr => simp [hr, M.run] at h
      | nest => simp [hr, M.run] at h
      | box cs =>
        simp only [hr] at h
        have h1 := M.run_ofOpt h
        intro s hs
        exact (hres r _ hr).2 s (refNames_ids ks cs h1 s hs)
theorem refsM_known {tbl : Tbl} {lim : Nat → Nat} (hres : ∀ r x, tbl r = .live x → RR σ w lim r x ∧ Known tbl (resIds r x)) : (ks : List Kd) → (as : List AV) → {l l' : List Nat} → {nm : List (List Nat)} → (refsM ks as).run tbl l = some (nm, l') → ∀ q ∈ nm.flatten, tbl q ≠ .fresh
  | [], as, l, l', nm, h, q, hq => by
    have : refsM [] as = .ret [] := by cases as <;> rfl
    rw [this] at h
    obtain ⟨rfl, _⟩ := M.run_ret h
    simp at hq
  | k :: ks, [], l, l', nm, h, q, hq => by
    have : refsM (k :: ks) [] = .ret [] := by cases k <;> rfl
    rw [this] at h
    obtain ⟨rfl, _⟩ := M.run_ret h
    simp at hq
  | k :: ks, a :: as, l, l', nm, h, q, hq => by
    have other : (∀ l, k ≠ .box l) → tbl q ≠ .fresh := fun hk => by
      rw [refsM_cons hk] at h
      exact refsM_known hres ks as h q hq
    cases k with
    | box l0 =>
      cases a with
      | bx r kk =>
        cases kk with
        | succ kk => exact (M.run_fail h).elim
        | zero =>
          simp only [refsM] at h
          obtain ⟨q0, l5, h5, h6⟩ := M.run_bind_some h
          obtain ⟨qs, l6, h7, h8⟩ := M.run_bind_some h6
          obtain ⟨h9, _⟩ := M.run_ret h8
          subst h9
          rw [List.flatten_cons, List.mem_append] at hq
          rcases hq with hq | hq
          · exact boxRefs_known hres h5 q hq
          · exact refsM_known hres ks as h7 q hq
      | _ => exact (M.run_fail h).elim
    | _ => exact other (by intro l; simp)
theorem refVal_nil {ks : List Kd} {vs : List Value} : refVal σ [] ks vs := by cases ks <;> cases vs <;> simp [refVal]
theorem refsM_val (h : RelW G σ lim st tmps w) {w' : World} : (ks : List Kd) → {as : List AV} → {vs : List Value} → {l l' : List Nat} → {nm : List (List Nat)} → (refsM ks as).run st.tbl l = some (nm, l') → RAs σ w lim as vs → Stay w w' ks vs → RefV σ w' nm ks vs
  | [], as, vs, l, l', nm, hm, hv, hs => by cases nm <;> cases vs <;> simp [RefV]
  | k :: ks, [], vs, l, l', nm, hm, hv, hs => by
    match vs, hv with
    | [], _ => cases nm <;> simp [RefV]
  | k :: ks, a :: as, vs, l, l', nm, hm, hv, hs => by
    match vs, hv with
    | v :: vs, hv =>
      simp only [RAs] at hv
      have other : (∀ l, k ≠ .box l) → RefV σ w' nm (k :: ks) (v :: vs) := fun hk => by
        rw [refsM_cons hk] at hm
        have e : Stay w w' (k :: ks) (v :: vs) = Stay w w' ks vs := by cases k <;> first | rfl | exact absurd rfl (hk _)
        rw [e] at hs
        have e2 : RefV σ w' nm (k :: ks) (v :: vs) = RefV σ w' nm ks vs := by cases k <;> first | (cases nm <;> rfl) | exact absurd rfl (hk _)
        rw [e2]
        exact refsM_val h ks hm hv.2 hs
      cases k with
      | box l0 =>
        cases a with
        | bx r kk =>
          cases kk with
          | succ kk => exact (M.run_fail hm).elim
          | zero =>
            simp only [refsM] at hm
            obtain ⟨q0, l5, h5, h6⟩ := M.run_bind_some hm
            obtain ⟨qs, l6, h7, h8⟩ := M.run_bind_some h6
            obtain ⟨h9, _⟩ := M.run_ret h8
            subst h9
            simp only [Stay] at hs
            simp only [RefV]
            refine ⟨fun b cs' T' fz' e1 e2 => ?_, refsM_val h ks h7 hv.2 hs.2⟩
            cases q0 with
            | nil => exact refVal_nil
            | cons q1 q0 =>
              -- the box, at first
              have hbox : ∃ cs0, st.tbl r = .live (.box cs0) ∧ refNames l0 cs0 = some (q1 :: q0) := by
                unfold boxRefs at h5
                cases hh : hasRef l0 with
                | false => rw [hh] at h5; obtain ⟨e, _⟩ := M.run_ret h5; cases e
                | true =>
                  rw [hh] at h5
                  simp only [cond_true, M.run] at h5
                  cases hr : st.tbl r with
                  | fresh => simp [hr, M.run] at h5
                  | gone => simp [hr, M.run] at h5
                  | live y =>
                    cases y with
                    | arr => simp [hr, M.run] at h5
                    | nest => simp [hr, M.run] at h5
                    | box cs =>
                      simp only [hr] at h5
                      exact ⟨cs, rfl, M.run_ofOpt h5⟩
              obtain ⟨cs0, hr, hq⟩ := hbox
              obtain ⟨hR, _⟩ := h.res r _ hr
              obtain ⟨b0, ws, U, f1, f2, f3, f4, _⟩ := box_cells hv.1 hR
              rw [e1] at f2
              obtain rfl : b = b0 := by simpa using f2
              exact refNames_val l0 cs0 hq f4 (hs.1 b ws U (0, 0) cs' T' fz' e1 f3 e2)
        | _ => exact (M.run_fail hm).elim
      | _ => exact other (by intro l; simp)
    | [], hv => simp [RAs] at hv
theorem call_sound (hC : ∀ f cal, C.Φ f = some cal → Ctr C.P C.k f cal) (h : RelW G σ lim st tmps w) {base f : Nat} {args : List AV} {vs : List Value} {l l' : List Nat} {e : Eff}
    (hm : (actCall C base f args).run st.tbl l = some (e, l')) (ha : RAs σ w lim args vs) (hk : ∀ a ∈ args, Known st.tbl (idsOf a)) :
    Enters C.P f ∧ Calls C.P f vs.toArray w fun en w' => ∃ v σ' lim', en = .returned v ∧ RelW G σ' lim' ⟨st.env, st.tbl.put e.ups⟩ tmps w' ∧ RA σ' w' lim' e.val v ∧ Known (st.tbl.put e.ups) (idsOf e.val) := by
  unfold actCall at hm
  cases hcal : C.Φ f with
  | none => simp [hcal, M.run] at hm
  | some cal =>
    simp only [hcal] at hm
    have hctr := hC f cal hcal
    refine ⟨hctr.enters, ?_⟩
    obtain ⟨⟨rvs, u⟩, l1, h1, h2'⟩ := M.run_bind_some hm
    obtain ⟨nm, l1', hnm, h2⟩ := M.run_bind_some h2'
    obtain ⟨hok, h3⟩ := M.run_guard h2
    simp only at hok h3
    simp only [M.run] at h3
    cases hrun : cal.run C.k rvs with
    | none => simp [hrun] at h3
    | some x =>
      simp only [hrun, Option.bind_some] at h3
      cases hg : giveBack (put base (cal.enc x).1).2.2 nm (flatK cal.pk) (flatA cal.pk args) (cal.enc x).2 with
      | none => simp [hg, M.run] at h3
      | some q =>
        obtain ⟨wu, m⟩ := q
        simp only [hg] at h3
        obtain ⟨hfr, l2, h4⟩ := freshes h3
        obtain ⟨rfl, _⟩ := M.run_ret h4
        obtain ⟨s1, k1⟩ := takes_spec (st := st) (σ := σ) (w := w) (lim := lim) cal.pk args h1
        obtain ⟨lim1, hR, hE, hS, hnd, hbl⟩ := h.takes s1 hok
        have hT := k1 vs ha (fun r y hy => (h.res r y hy).1) lim1 hE hS
        refine (hctr.calls rvs x hrun w lim1 vs _ hR.lz (hR.glob.mono hR.ext) hT hnd (fun b hb => (hbl b hb).2.1)).mono ?_
        rintro en w' ⟨v, lim2, b1, b2, rfl, hE2, hlz2, hsame, hkeep, hT1, hT2, hStay, hnd2, hb2⟩
        -- the world behind the call
        have hW : RelW G σ lim2 ⟨st.env, (st.tbl.put u).put []⟩ tmps w' := RelW.noput (st := ⟨st.env, st.tbl.put u⟩) (ups := []) (v := .dead) (x := undef) hR (Upd.dead hE2 hlz2 hsame (fun _ _ => rfl)
          (fun r hl _ b hb => by
            have h5 : b ∉ blocks σ (gones u) := fun hm => (hbl b hm).2.2 r hl hb
            exact hkeep b (live_block hR hl hb) h5)
          (fun r y hl => by simp [look] at hl) (fun r _ y _ hl => by simp [look] at hl) (fun r y _ hl => by simp [look] at hl)
          (fun b hb hl => by
            have h5 : b ∉ blocks σ (gones u) := fun hm => by
              rcases (hbl b hm).1 with h6 | h6
              · omega
              · exact hl h6
            exact (hkeep b (Nat.lt_of_lt_of_le hb h.ext.size) h5).1)
          (fun b hb hl => by
            have h5 : b ∉ blocks σ (gones u) := fun hm => by
              rcases (hbl b hm).1 with h6 | h6
              · omega
              · exact hl h6
            exact (hkeep b (Nat.lt_of_lt_of_le hb h.ext.size) h5).2)
          (fun r => by simp [look]) (by simp [RA]) (by simp [idsOf, Known]))
        rw [put_nil] at hW
        have hfb : ∀ b ∈ b1 ++ b2, (G.w0.heap.size ≤ b ∨ b ∈ G.lent) ∧ ∀ r, isLive (st.tbl.put u r) = true → blk (σ r) ≠ some b := by
          intro b hb
          rcases hb2 b hb with h5 | h5
          · exact ⟨(hbl b h5).1, (hbl b h5).2.2⟩
          · refine ⟨.inl (Nat.le_trans h.ext.size h5), fun r hl hbr => ?_⟩
            have := live_block hR hl hbr
            omega
        rw [List.nodup_append] at hnd2
        have hle := put_le (cal.enc x).1 base
        have hle2 := giveBack_le _ _ _ _ _ hg
        have hfu : ∀ j, base ≤ j → j < m → (st.tbl.put u) j = .fresh := by
          intro j h5 h6
          have h7 := hfr j h5 (by omega)
          have : ∀ y, (j, y) ∉ u := by
            intro y hy
            rcases s1 _ hy with ⟨_, h8⟩ | ⟨t, xs, sh, _, h8⟩
            · simp only at h8; rw [h7] at h8; cases h8
            · simp only at h8; rw [h7] at h8; cases h8
          rw [put_out this]; exact h7
        obtain ⟨σ1, hP, hA, hK⟩ := put_sound (cal.enc x).1 base (st := ⟨st.env, st.tbl.put u⟩) hW hT1 (fun j h5 h6 => hfu j h5 (by omega)) ⟨hnd2.1, fun b hb => hfb b (List.mem_append_left _ hb)⟩
        obtain ⟨hco, zs, hflat⟩ := takes_flat cal.pk args h1
        have hl2 := takes_lent _ _ hflat hnm
        have hl1 : ∀ r ∈ lentIds nm (flatK cal.pk) (flatA cal.pk args), r ∈ gones u := fun r hr => hl2.subset hr
        have hfa := flat_ra (σ := σ) (w := w) (lim := lim) cal.pk hco ha
        have hgone : ∀ r ∈ gones u, (st.tbl.put u) r = .gone := by
          intro r hr
          obtain ⟨y, hy⟩ := mem_look (mem_gones.1 hr)
          have := okUps_gone hok (mem_gones.1 hr) y (look_mem hy)
          simp [Tbl.put, hy, this]
        have hputkeep : ∀ r, (st.tbl.put u) r ≠ .fresh → ((st.tbl.put u).put (put base (cal.enc x).1).2.1) r = (st.tbl.put u) r := by
          intro r hr
          have : r < base ∨ (put base (cal.enc x).1).2.2 ≤ r := by
            by_cases hlt : base ≤ r ∧ r < (put base (cal.enc x).1).2.2
            · exact absurd (hfu r hlt.1 (by omega)) hr
            · omega
          simp only [Tbl.put] at hr ⊢
          rw [hP.out r this]
        have hufresh : ∀ r, st.tbl r ≠ .fresh → (st.tbl.put u) r ≠ .fresh := by
          intro r hr hf
          simp only [Tbl.put] at hf
          cases hls : look u r with
          | none => rw [hls] at hf; exact hr hf
          | some z =>
            rw [hls] at hf; simp only at hf; subst hf
            rcases s1 _ (look_mem hls) with ⟨h8, _⟩ | ⟨t, xs, sh, h8, _⟩ <;> simp at h8
        have hRV : RefV σ w' nm (flatK cal.pk) (flatV cal.pk vs) := refsM_val h (flatK cal.pk) hnm hfa hStay
        have hrefs : ∀ q ∈ nm.flatten, (st.tbl.put u) q ≠ .fresh := fun q hq => hufresh q (refsM_known h.res (flatK cal.pk) (flatA cal.pk args) hnm q hq)
        obtain ⟨σ2, hQ, hold, hnf, hle3⟩ := giveBack_sound nm (flatK cal.pk) (flatA cal.pk args) (cal.enc x).2 _ (st := ⟨st.env, (st.tbl.put u).put (put base (cal.enc x).1).2.1⟩) hg hP.rel hT2 (RefV_congr nm _ _ (fun q hq => hP.old q (hrefs q hq)) hRV)
          (fun i r v' h5 h6 => by
            have h7 : st.tbl r ≠ .fresh := by
              obtain ⟨a, h8, h9⟩ := mem_idsOfs (flat_ids cal.pk args r (idsOfs_mem (List.mem_of_getElem? h5) (by simp [idsOf])))
              exact hk a h8 r h9
            have h8 := hufresh r h7
            exact ⟨(hP.old r h8).trans (all2_idx hfa h5 h6), by simp only; rw [hputkeep r h8]; exact h8⟩)
          (fun r hr => by
            have h5 := hgone r (hl1 r hr)
            simp only; rw [hputkeep r (by rw [h5]; simp)]; exact h5)
          (fun q hq => by simp only; rw [hputkeep q (hrefs q hq)]; exact hrefs q hq)
          (hl2.nodup (okUps_nodup hok))
          (fun j h5 h6 => by
            have h7 := hfu j (by omega) h6
            simp only [Tbl.put] at h7 ⊢
            rw [hP.out j (.inr h5)]; exact h7)
          ⟨hnd2.2.1, fun b hb => ⟨(hfb b (List.mem_append_right _ hb)).1, fun r hls hbr => by
            rcases hP.lv r b hls hbr with ⟨h5, h6⟩ | h5
            · exact (hfb b (List.mem_append_right _ hb)).2 r h5 h6
            · exact hnd2.2.2 b h5 b hb rfl⟩⟩
        refine ⟨v, σ2, lim2, rfl, ?_, ?_, ?_⟩
        · rw [put_append, put_append]; exact hQ
        · exact RA.mono (T := (st.tbl.put u).put (put base (cal.enc x).1).2.1) (Ext.refl _ _) hold _ _ hK hA
        · rw [put_append, put_append]; exact hK.put hnf
theorem mark_does {C : Ctx} {G : Glob} {σ : Sig} {w : World} {lim : Nat → Nat} {st : St} {tmps : Array Value} (h : RelW G σ lim st tmps w) {src el : TypeId} (hd : C.P.underlying src = some (.slice el)) (hb : byteT C.P el = true) {r : Nat} {t : Ty} {xs : List t.den} {sh : Bool}
    (hr : st.tbl r = .live (.arr t xs sh)) (hx : 1 ≤ xs.length) (hv : ∃ A l c, σ r = .slice A l c) : Does C G st tmps w (convert src src (σ r)) ⟨.own r, [(r, .live (.arr t xs sh))]⟩ := by
  obtain ⟨hR, hk⟩ := h.res r _ hr
  have hlr : isLive (st.tbl r) = true := by rw [hr]; rfl
  simp only [RR] at hR
  obtain ⟨hsz, hR⟩ := hR
  rcases hR with ⟨rfl, _⟩ | ⟨b, off, cap, vs, U, fz, h4, h5, h6, h7, h8, h9, h10⟩
  · simp at hx
  obtain ⟨hu8, _⟩ := byteT_spec hb
  have hrun : (convert src src (σ r)).run C.P w = .ok (σ r) (w.freeze ⟨b, vs.size, none⟩ 1) := by
    rw [h4]
    have hs : w.shape? b = some (U, vs.size) := by simp [World.shape?, h6]
    simp [convert, run_underlying hd, run_underlying hu8, markStringish, hs]
  obtain ⟨fz', hf1, hf2⟩ : ∃ fz', (w.freeze ⟨b, vs.size, none⟩ 1).heap = w.heap.modify b (fun _ => .cells vs U fz') ∧ Fit t U vs.size fz' := by
    refine ⟨(if fz.1 == fz.2 then (vs.size, vs.size + 1) else (min fz.1 vs.size, max fz.2 (vs.size + 1))), ?_, ?_, h8.kind, ?_⟩
    · unfold World.freeze
      rw [if_neg (by omega)]
      apply Array.ext_getElem?
      intro i
      simp only [Array.getElem?_modify]
      by_cases hi : b = i
      · subst hi
        simp only [if_true, h6, Option.map_some]
      · simp [hi]
    · intro o ho
      have hfree := h8.free o ho
      have hord := h8.ord
      by_cases he : fz.1 = fz.2
      · simp only [he, beq_self_eq_true, if_true]; omega
      · have hne : (fz.1 == fz.2) = false := by simpa using he
        have hall : vs.size ≤ fz.1 := by
          rcases Nat.lt_or_ge fz.1 vs.size with h' | h'
          · exact absurd ⟨Nat.le_refl _, by omega⟩ (h8.free fz.1 h')
          · exact h'
        simp only [hne, Bool.false_eq_true, if_false]; omega
    · have hord := h8.ord
      split <;> simp <;> omega
  have hold : ∀ k : Nat, k ≠ b → (w.freeze ⟨b, vs.size, none⟩ 1).heap[k]? = w.heap[k]? := by
    intro k hk
    rw [hf1, Array.getElem?_modify, if_neg (fun e => hk e.symm)]
  have hnew : (w.freeze ⟨b, vs.size, none⟩ 1).heap[b]? = some (.cells vs U fz') := by
    rw [hf1, Array.getElem?_modify, if_pos rfl, h6]; rfl
  have hsize : (w.freeze ⟨b, vs.size, none⟩ 1).heap.size = w.heap.size := by rw [hf1]; simp
  have hsame : (w.freeze ⟨b, vs.size, none⟩ 1).os = w.os ∧ (w.freeze ⟨b, vs.size, none⟩ 1).tape = w.tape ∧ (w.freeze ⟨b, vs.size, none⟩ 1).output = w.output := by
    unfold World.freeze
    rw [if_neg (by omega)]
    exact ⟨rfl, rfl, rfl⟩
  generalize w.freeze ⟨b, vs.size, none⟩ 1 = w' at *
  have hE : Ext w lim w' lim := ⟨by omega, fun b' o _ => by
    by_cases e : b' = b
    · subst e; simp [World.cell?, hnew, h6]
    · simp [World.cell?, hold b' e], fun _ _ ho => ho, fun b' T' hT => by
    by_cases e : b' = b
    · subst e
      simp only [typeAt, h6] at hT
      simpa [typeAt, hnew] using hT
    · simpa [typeAt, hold b' e] using hT⟩
  have hbk : blk (σ r) = some b := by rw [h4]; rfl
  have hRel : RelW G σ lim ⟨st.env, st.tbl.put [(r, .live (.arr t xs sh))]⟩ tmps w' := by
    refine h.noput (v := .dead) (x := undef) (Upd.dead hE ?_ hsame (fun _ _ => rfl) ?_ ?_ ?_ ?_ ?_ (fun _ _ _ => rfl) ?_ (by simp [RA]) (by simp [idsOf, Known]))
    · intro b' hb'; exact h.lz b' (by omega)
    · intro r' hl hn b' hb'
      rw [look_cons] at hn
      have hne : r' ≠ r := by intro e; simp [e] at hn
      have : b' ≠ b := by intro e; subst e; exact hne (h.inj r' r b' hl hlr hb' hbk)
      exact ⟨hold b' this, rfl⟩
    · intro r' z hl
      rw [look_cons] at hl
      split at hl
      · rename_i e; subst e
        simp at hl; subst hl
        refine ⟨?_, hk.put (by intro r''; rw [look_cons]; split <;> simp [look])⟩
        simp only [RR]
        exact ⟨hsz, .inr ⟨b, off, cap, vs, U, fz', h4, h5, hnew, h7, hf2, fun i hi => (h9 i hi).mono hE, h10⟩⟩
      · simp [look] at hl
    · intro r1 r2 z b' hl hl2 hb1 hb2
      rw [look_cons] at hl
      split at hl
      · rename_i e; subst e
        rw [put_one] at hl2
        split at hl2
        · rename_i e; exact e.symm
        · exact h.inj r2 r b' hl2 hlr hb2 hb1
      · simp [look] at hl
    · intro r1 z b' hl hb'
      rw [look_cons] at hl
      split at hl
      · rename_i e; subst e; exact h.own r b' hlr hb'
      · simp [look] at hl
    · intro b' hb' hl
      have : b' ≠ b := by
        intro e; subst e
        rcases h.own r b' hlr hbk with h1 | h1
        · omega
        · exact hl h1
      exact hold b' this
    · intro r'; rw [look_cons]; split <;> simp [look]
  obtain ⟨A, l, c, hvv⟩ := hv
  exact ⟨_, w', σ, lim, hrun, hRel, own_done hvv rfl, known_own (y := .arr t xs sh) (by rw [put_one, if_pos rfl])⟩
end Go.Sh
namespace Go.Sh
open Go
variable [Gl]
variable {C : Ctx} {G : Glob} {σ : Sig} {w : World} {lim : Nat → Nat} {st : St} {a : Act}
theorem opnd_ra (h : RelW G σ lim st a.tmps w) (x : Operand) : RA σ w lim (opnd st.env x) (a.eval x) ∧ Known st.tbl (idsOf (opnd st.env x)) := by
  cases x with
  | tmp t => exact ⟨h.env t, h.known t⟩
  | const v => exact ⟨plain_ra, known_nil⟩
  | func f => exact ⟨by simp only [opnd, RA]; rfl, known_nil⟩
  | global g => exact ⟨by simp [opnd, RA], known_nil⟩
def opndS (env : Nat → AV) (x : Operand) : AV := plainS (opnd env x)
theorem opnds_ra (h : RelW G σ lim st a.tmps w) (l : List Operand) : RAs σ w lim (l.map (opnd st.env)) (l.map a.eval) ∧ ∀ x ∈ l.map (opnd st.env), Known st.tbl (idsOf x) := by
  induction l with
  | nil => exact ⟨by simp [RAs], by simp⟩
  | cons x l ih =>
    refine ⟨by simp only [List.map_cons, RAs]; exact ⟨(opnd_ra h x).1, ih.1⟩, fun y hy => ?_⟩
    cases hy with
    | head => exact (opnd_ra h x).2
    | tail _ hy => exact ih.2 y hy
theorem v1_some {vals : List AV} {f : AV → M Eff} {tbl : Tbl} {l l' : List Nat} {e : Eff} (hm : (v1 vals f).run tbl l = some (e, l')) : ∃ x, vals = [x] ∧ (f x).run tbl l = some (e, l') := by
  unfold v1 at hm; split at hm
  · exact ⟨_, rfl, hm⟩
  · exact (M.run_fail hm).elim
theorem v2_some {vals : List AV} {f : AV → AV → M Eff} {tbl : Tbl} {l l' : List Nat} {e : Eff} (hm : (v2 vals f).run tbl l = some (e, l')) : ∃ x y, vals = [x, y] ∧ (f x y).run tbl l = some (e, l') := by
  unfold v2 at hm; split at hm
  · exact ⟨_, _, rfl, hm⟩
  · exact (M.run_fail hm).elim
theorem v3_some {vals : List AV} {f : AV → AV → AV → M Eff} {tbl : Tbl} {l l' : List Nat} {e : Eff} (hm : (v3 vals f).run tbl l = some (e, l')) : ∃ x y z, vals = [x, y, z] ∧ (f x y z).run tbl l = some (e, l') := by
  unfold v3 at hm; split at hm
  · exact ⟨_, _, _, rfl, hm⟩
  · exact (M.run_fail hm).elim
def Goes (C : Ctx) (G : Glob) (st : St) (o : Oper) (a : Act) (w : World) (e : Eff) : Prop :=
  ∀ (next : Act → World → Prop) (Q : Exit → Act → World → Prop), (∀ x w' σ' lim', RelW G σ' lim' ⟨setO st.env o.dst e.val, st.tbl.put e.ups⟩ (a.put o.dst x).tmps w' → next (a.put o.dst x) w') → o.wp C.P a w next Q
theorem Goes.value {o : Oper} {s : Sem Value} {e : Eff} (hx : execOp a.eval o = (do pure (Next.value (← s)))) (h : Does C G st a.tmps w s e) (hd : ∀ d, o.dst = some d → d < a.tmps.size) : Goes C G st o a w e := by
  intro next Q hn
  obtain ⟨x, w', σ', lim', hr, hR, hv, hk⟩ := h
  unfold Oper.wp
  rw [hx]
  simp only [bind_pure_comp, Sem.run_map, hr, Result.andThen_ok, Oper.upon_value]
  have := RelW.step (a := a) hR (Upd.quiet hR hv hk) o.dst hd
  simp only [put_nil] at this
  exact hn x w' σ' lim' this
theorem Goes.unit {o : Oper} {s : Sem Unit} {e : Eff} (hx : execOp a.eval o = (do s; pure Next.skip)) (h : DoesU C G st a.tmps w s e) (hd : ∀ d, o.dst = some d → d < a.tmps.size) : Goes C G st o a w e := by
  intro next Q hn
  obtain ⟨w', σ', lim', hr, hR, hv⟩ := h
  unfold Oper.wp
  rw [hx]
  simp only [Sem.run_bind, hr, Result.andThen_ok, Sem.run_pure, Oper.upon_skip]
  have := RelW.step (a := a) hR (Upd.quiet (v := .tup []) (x := undef) hR (by simp only [RA]; exact ⟨[], rfl, by simp [RAs]⟩) (by simp [idsOf, idsOfs, Known])) o.dst hd
  simp only [put_nil] at this
  rw [← hv] at this
  exact hn undef w' σ' lim' this
theorem does_val (h : RelW G σ lim st a.tmps w) {x : AV} {v : Value} (hx : RA σ w lim x v) (hk : Known st.tbl (idsOf x)) : Does C G st a.tmps w (pure v) ⟨x, []⟩ :=
  ⟨v, w, σ, lim, rfl, h, hx, hk⟩
def opTypes (P : Program) : Op → Bool
  | .store T _ _ => (P.underlying T).isSome
  | _ => true
theorem ext_bits (fn : Func) (h : fn.name = "math.Float64bits") (ho : fn.origin = "") : Extern.findNext fn = none ∧ Extern.find fn = some Extern.MathFloatBits.float64bits := by
  have a1 : Extern.allNextRows.lookup "math.Float64bits" = none := by kernel_rfl
  have a2 : Extern.allNextRows.lookup "" = none := by kernel_rfl
  have b1 : Extern.allGenericRows.lookup "math.Float64bits" = none := by kernel_rfl
  have b2 : Extern.allTypedRows.lookup "math.Float64bits" = none := by kernel_rfl
  have b3 : Extern.allRows.lookup "math.Float64bits" = some Extern.MathFloatBits.float64bits := by kernel_rfl
  unfold Extern.findNext Extern.find
  rw [h, ho]
  simp only [a1, a2, b1, b2, b3]
  exact ⟨rfl, rfl⟩
theorem ext_from (fn : Func) (h : fn.name = "math.Float64frombits") (ho : fn.origin = "") : Extern.findNext fn = none ∧ Extern.find fn = some Extern.MathFloatBits.float64frombits := by
  have a1 : Extern.allNextRows.lookup "math.Float64frombits" = none := by kernel_rfl
  have a2 : Extern.allNextRows.lookup "" = none := by kernel_rfl
  have b1 : Extern.allGenericRows.lookup "math.Float64frombits" = none := by kernel_rfl
  have b2 : Extern.allTypedRows.lookup "math.Float64frombits" = none := by kernel_rfl
  have b3 : Extern.allRows.lookup "math.Float64frombits" = some Extern.MathFloatBits.float64frombits := by kernel_rfl
  unfold Extern.findNext Extern.find
  rw [h, ho]
  simp only [a1, a2, b1, b2, b3]
  exact ⟨rfl, rfl⟩
theorem ext_floor (fn : Func) (h : fn.name = "math.archFloor") (ho : fn.origin = "") : Extern.findNext fn = none ∧ Extern.find fn = some (Extern.MathFloor.toIntegral "math.archFloor" .down) := by
  have a1 : Extern.allNextRows.lookup "math.archFloor" = none := by kernel_rfl
  have a2 : Extern.allNextRows.lookup "" = none := by kernel_rfl
  have b1 : Extern.allGenericRows.lookup "math.archFloor" = none := by kernel_rfl
  have b2 : Extern.allTypedRows.lookup "math.archFloor" = none := by kernel_rfl
  have b3 : Extern.allRows.lookup "math.archFloor" = some (Extern.MathFloor.toIntegral "math.archFloor" .down) := by kernel_rfl
  unfold Extern.findNext Extern.find
  rw [h, ho]
  simp only [a1, a2, b1, b2, b3]
  exact ⟨rfl, rfl⟩
theorem ext_trunc (fn : Func) (h : fn.name = "math.archTrunc") (ho : fn.origin = "") : Extern.findNext fn = none ∧ Extern.find fn = some (Extern.MathFloor.toIntegral "math.archTrunc" .zero) := by
  have a1 : Extern.allNextRows.lookup "math.archTrunc" = none := by kernel_rfl
  have a2 : Extern.allNextRows.lookup "" = none := by kernel_rfl
  have b1 : Extern.allGenericRows.lookup "math.archTrunc" = none := by kernel_rfl
  have b2 : Extern.allTypedRows.lookup "math.archTrunc" = none := by kernel_rfl
  have b3 : Extern.allRows.lookup "math.archTrunc" = some (Extern.MathFloor.toIntegral "math.archTrunc" .zero) := by kernel_rfl
  unfold Extern.findNext Extern.find
  rw [h, ho]
  simp only [a1, a2, b1, b2, b3]
  exact ⟨rfl, rfl⟩
theorem extCode_name {s : String} {c : Nat} (h : extCode s = some c) : (c = 0 ∧ s = "math.Float64bits") ∨ (c = 1 ∧ s = "math.Float64frombits") ∨ (c = 2 ∧ s = "math.archFloor") ∨ (c = 3 ∧ s = "math.archTrunc") := by
  unfold extCode at h
  cases h0 : (s == "math.Float64bits") with
  | true => rw [h0] at h; cases h; exact .inl ⟨rfl, by simpa using h0⟩
  | false =>
    rw [h0] at h
    cases h1 : (s == "math.Float64frombits") with
    | true => rw [h1] at h; cases h; exact .inr (.inl ⟨rfl, by simpa using h1⟩)
    | false =>
      rw [h1] at h
      cases h2 : (s == "math.archFloor") with
      | true => rw [h2] at h; cases h; exact .inr (.inr (.inl ⟨rfl, by simpa using h2⟩))
      | false =>
        rw [h2] at h
        cases h3 : (s == "math.archTrunc") with
        | true => rw [h3] at h; cases h; exact .inr (.inr (.inr ⟨rfl, by simpa using h3⟩))
        | false => rw [h3] at h; cases h
theorem integral_run {P : Program} {name : String} {way : Ieee.Toward} {x r : Nat} (h : integralFl way x = some r) (w : World) : (Extern.MathFloor.toIntegral name way #[.float .f64 x]).run P w = .ok (.float .f64 r) w := by
  unfold integralFl at h
  show (match FloatKind.f64.decode x with
    | .nan s t => _
    | d => (pure (.float .f64 (FloatKind.f64.encode (d.integral way))) : Sem Value)).run P w = _
  split at h
  · cases h
  · rename_i d hn
    cases h
    split
    · rename_i s t he; exact (hn s t he).elim
    · rfl
theorem ext_call {P : Program} {f : Nat} {fn : Func} (hf : P.funcs[f]? = some fn) (hb : fn.body.isNone = true) (hn : (fn.name == "runtime.NumGoroutine") = false) {e : Array Value → Sem Value} (h1 : Extern.findNext fn = none) (h2 : Extern.find fn = some e) {args : Array Value} {v : Value} {w : World}
    (he : (e args).run P w = .ok v w) : (callFunc f args).run P w = .ok (.value v) w := by
  have hb' : fn.body = none := by simpa using hb
  have hn' : ¬ fn.name = "runtime.NumGoroutine" := by simpa using hn
  simp [callFunc, hf, hb', h1, h2, hn', he]
theorem ext_run {b : Nat} {args : List AV} {vs : List Value} {tbl : Tbl} {l l' : List Nat} {e : Eff} (hm : (actExt b args).run tbl l = some (e, l')) (ha : RAs σ w lim args vs) {f : Nat} (hx : extOf C f = some b) :
    ∃ v, (callFunc f vs.toArray).run C.P w = .ok (.value v) w ∧ RA σ w lim e.val v ∧ Known tbl (idsOf e.val) ∧ e.ups = [] := by
  unfold extOf at hx
  cases hf : C.P.funcs[f]? with
  | none => rw [hf] at hx; cases hx
  | some fn =>
    rw [hf] at hx
    simp only at hx
    cases hg : (fn.body.isNone && (fn.origin == "")) with
    | false => rw [hg] at hx; cases hx
    | true =>
      rw [hg] at hx
      simp only [cond_true] at hx
      simp only [Bool.and_eq_true, beq_iff_eq] at hg
      obtain ⟨g1, g2⟩ := hg
      have one : ∀ p, args = [.val (.v p)] → vs = [p] := by
        intro p hp
        subst hp
        match vs, ha with
        | [v], ha => simp only [RAs, RA, RP, and_true] at ha; rw [ha]
        | [], ha => simp [RAs] at ha
        | _ :: _ :: _, ha => simp [RAs] at ha
      rcases extCode_name hx with ⟨rfl, hn⟩ | ⟨rfl, hn⟩ | ⟨rfl, hn⟩ | ⟨rfl, hn⟩
      · obtain ⟨e1, e2⟩ := ext_bits fn hn g2
        simp only [actExt] at hm
        split at hm <;> first | contradiction | skip
        · rename_i x _
          obtain ⟨rfl, _⟩ := M.run_ret hm
          rw [one _ rfl]
          exact ⟨.int .u64 x, ext_call hf g1 (by rw [hn]; rfl) e1 e2 rfl, plain_ra, known_nil, rfl⟩
        all_goals exact (M.run_fail hm).elim
      · obtain ⟨e1, e2⟩ := ext_from fn hn g2
        simp only [actExt] at hm
        split at hm <;> first | contradiction | skip
        · rename_i x _
          obtain ⟨rfl, _⟩ := M.run_ret hm
          rw [one _ rfl]
          exact ⟨.float .f64 x.toNat, ext_call hf g1 (by rw [hn]; rfl) e1 e2 rfl, plain_ra, known_nil, rfl⟩
        all_goals exact (M.run_fail hm).elim
      · obtain ⟨e1, e2⟩ := ext_floor fn hn g2
        simp only [actExt] at hm
        split at hm <;> first | contradiction | skip
        · rename_i x _
          obtain ⟨r, hr, hm⟩ := M.run_opt hm
          obtain ⟨rfl, _⟩ := M.run_ret hm
          rw [one _ rfl]
          exact ⟨.float .f64 r, ext_call hf g1 (by rw [hn]; rfl) e1 e2 (integral_run hr w), plain_ra, known_nil, rfl⟩
        all_goals exact (M.run_fail hm).elim
      · obtain ⟨e1, e2⟩ := ext_trunc fn hn g2
        simp only [actExt] at hm
        split at hm <;> first | contradiction | skip
        · rename_i x _
          obtain ⟨r, hr, hm⟩ := M.run_opt hm
          obtain ⟨rfl, _⟩ := M.run_ret hm
          rw [one _ rfl]
          exact ⟨.float .f64 r, ext_call hf g1 (by rw [hn]; rfl) e1 e2 (integral_run hr w), plain_ra, known_nil, rfl⟩
        all_goals exact (M.run_fail hm).elim
theorem complex_run {P : Program} (ats : Array TypeId) (ty : TypeId) (k : FloatKind) (a b : Nat) (w : World) : (Builtin.complex_ ats ty #[.float k a, .float k b]).run P w = .ok (.complex k a b) w := by
  show (if k = k then (pure (.complex k a b) : Sem Value) else _).run P w = _
  rw [if_pos rfl]; rfl
theorem act_sound (hC : ∀ f cal, C.Φ f = some cal → Ctr C.P C.k f cal) (h : RelW G σ lim st a.tmps w) {base : Nat} {o : Oper} {l lg : List Nat} {e : Eff}
    (hm : (act C base o.op ((opsOf o.op).map (opnd st.env))).run st.tbl l = some (e, lg)) (hd : ∀ d, o.dst = some d → d < a.tmps.size) (hT : opTypes C.P o.op = true) : Goes C G st o a w e := by
  have hres := h.res
  have hops := opnds_ra h (opsOf o.op)
  obtain ⟨dst, op, type, pos, after, guard⟩ := o
  simp only at hm hd hT hops
  cases op with
  | move x =>
    simp only [act] at hm
    obtain ⟨y, hy, hm⟩ := v1_some hm
    obtain ⟨rfl, _⟩ := M.run_ret hm
    simp only [opsOf, List.map_cons, List.map_nil, List.cons.injEq, and_true] at hy; subst hy
    obtain ⟨h1, h2⟩ := opnd_ra h x
    exact Goes.value (by simp [execOp]) (does_val h h1 h2) hd
  | assign x =>
    simp only [act] at hm
    obtain ⟨y, hy, hm⟩ := v1_some hm
    obtain ⟨rfl, _⟩ := M.run_ret hm
    simp only [opsOf, List.map_cons, List.map_nil, List.cons.injEq, and_true] at hy; subst hy
    obtain ⟨h1, h2⟩ := opnd_ra h x
    exact Goes.value (by simp [execOp]) (does_val h h1 h2) hd
  | pick c p q =>
    simp only [act] at hm
    obtain ⟨y, z, u, hy, hm⟩ := v3_some hm
    simp only [opsOf, List.map_cons, List.map_nil, List.cons.injEq, and_true] at hy; obtain ⟨rfl, rfl, rfl⟩ := hy
    obtain ⟨c1, _⟩ := opnd_ra h c
    obtain ⟨p1, p2⟩ := opnd_ra h p
    obtain ⟨q1, q2⟩ := opnd_ra h q
    obtain ⟨t, x, e1, e2, e3, e4, e5⟩ := pick_sound hm c1 p1 q1 p2 q2
    refine Goes.value (s := do pure (if ← asBool (a.eval c) then a.eval p else a.eval q)) (by simp [execOp]) (Does.quiet h ⟨x, ?_, e3, e4, e5⟩) hd
    rw [e1, e2]; cases t <;> rfl
  | alloc T => exact Goes.value rfl (alloc_does h hm) hd
  | box T x =>
    simp only [act] at hm
    obtain ⟨y, hy, hm⟩ := v1_some hm
    simp only [opsOf, List.map_cons, List.map_nil, List.cons.injEq, and_true] at hy; subst hy
    obtain ⟨h1, h2⟩ := opnd_ra h x
    exact Goes.value rfl (box_does h hm h1 h2) hd
  | build T ps =>
    simp only [opsOf, List.map_map] at hops hm
    refine Goes.value rfl (build_does h (ρ := a.eval) hm ?_ hops.2) hd
    exact hops.1
  | buildSlice T n ps =>
    simp only [opsOf, List.map_map] at hops hm
    exact Goes.value rfl (buildSlice_does h (ρ := a.eval) hm hops.1) hd
  | load T x =>
    simp only [act] at hm
    obtain ⟨y, hy, hm⟩ := v1_some hm
    simp only [opsOf, List.map_cons, List.map_nil, List.cons.injEq, and_true] at hy; subst hy
    obtain ⟨h1, h2⟩ := opnd_ra h x
    exact Goes.value rfl (Does.quiet h (load_sound hm h1 hres)) hd
  | store T x y =>
    simp only [act] at hm
    obtain ⟨p, q, hy, hm⟩ := v2_some hm
    simp only [opsOf, List.map_cons, List.map_nil, List.cons.injEq, and_true] at hy; obtain ⟨rfl, rfl⟩ := hy
    obtain ⟨h1, h2⟩ := opnd_ra h x
    obtain ⟨h3, h4⟩ := opnd_ra h y
    exact Goes.unit rfl (store_does h hm h1 h3 h4 (Option.isSome_iff_exists.1 hT)) hd
  | nilCheck x =>
    simp only [act] at hm
    obtain ⟨y, hy, hm⟩ := v1_some hm
    simp only [opsOf, List.map_cons, List.map_nil, List.cons.injEq, and_true] at hy; subst hy
    obtain ⟨h1, h2⟩ := opnd_ra h x
    obtain ⟨⟨p, e1⟩, e2, e3⟩ := nilCheck_sound hm h1
    refine Goes.value (s := pure (a.eval x)) (by simp [execOp, e1]) (Does.quiet h ⟨_, rfl, by rw [e2]; exact h1, by rw [e2]; exact h2, e3⟩) hd
  | binOp op T x y U =>
    simp only [act] at hm
    obtain ⟨p, q, hy, hm⟩ := v2_some hm
    simp only [opsOf, List.map_cons, List.map_nil, List.cons.injEq, and_true] at hy; obtain ⟨rfl, rfl⟩ := hy
    exact Goes.value rfl (Does.quiet h (bin2_sound hm (opnd_ra h x).1 (opnd_ra h y).1)) hd
  | unOp op T x =>
    simp only [act] at hm
    obtain ⟨y, hy, hm⟩ := v1_some hm
    simp only [opsOf, List.map_cons, List.map_nil, List.cons.injEq, and_true] at hy; subst hy
    exact Goes.value rfl (Does.quiet h (un_sound hm (opnd_ra h x).1)) hd
  | convert src dst' x =>
    simp only [act] at hm
    obtain ⟨y, hy, hm⟩ := v1_some hm
    simp only [opsOf, List.map_cons, List.map_nil, List.cons.injEq, and_true] at hy; subst hy
    obtain ⟨h1, h2⟩ := opnd_ra h x
    rcases convert_sound hm h1 hres with h3 | ⟨el, s, g1, g2, g3, g3', g4, g5, g6, rfl⟩ | ⟨r, t, xs, sh, el, el', rfl, g1, g2, g3, g4, g5, g6, g7, rfl⟩
    · exact Goes.value rfl (Does.quiet h h3) hd
    · refine Goes.value (s := convert src dst' (a.eval x)) rfl ?_ hd
      rw [g4]
      exact toBytes_does h g1 g2 g3 g3' g6 g5
    · refine Goes.value (s := convert src src (a.eval x)) rfl ?_ hd
      rw [g4]
      exact mark_does h g2 g3 g6 g7 (by rw [← g4]; exact g5)
  | makeSlice T x y =>
    simp only [act] at hm
    obtain ⟨p, q, hy, hm⟩ := v2_some hm
    simp only [opsOf, List.map_cons, List.map_nil, List.cons.injEq, and_true] at hy; obtain ⟨rfl, rfl⟩ := hy
    exact Goes.value rfl (make_does h hm (opnd_ra h x).1 (opnd_ra h y).1) hd
  | slice T x lo hi mx =>
    simp only [act, actSliceOp] at hm
    cases lo with
    | none =>
      cases hi with
      | none =>
        cases mx with
        | none =>
          simp only [opsOf, Option.toList, List.append_nil, List.map_cons, List.map_nil, Option.isSome_none] at hm
          exact Goes.value rfl (slice_does h hm (plainS_ra (opnd_ra h x).1) (vlo := none) (vhi := none) trivial trivial) hd
        | some m => simp [opsOf, M.run] at hm
      | some b =>
        cases mx with
        | none =>
          simp only [opsOf, Option.toList, List.append_nil, List.nil_append, List.map_cons, List.map_nil, Option.isSome_none, Option.isSome_some] at hm
          exact Goes.value rfl (slice_does h hm (plainS_ra (opnd_ra h x).1) (vlo := none) (vhi := some (a.eval b)) trivial (plainS_ra (opnd_ra h b).1)) hd
        | some m => simp [opsOf, M.run] at hm
    | some b =>
      cases hi with
      | none =>
        cases mx with
        | none =>
          simp only [opsOf, Option.toList, List.append_nil, List.map_cons, List.map_nil, Option.isSome_none, Option.isSome_some] at hm
          exact Goes.value rfl (slice_does h hm (plainS_ra (opnd_ra h x).1) (vlo := some (a.eval b)) (vhi := none) (plainS_ra (opnd_ra h b).1) trivial) hd
        | some m => simp [opsOf, M.run] at hm
      | some c =>
        cases mx with
        | none =>
          simp only [opsOf, Option.toList, List.append_nil, List.cons_append, List.nil_append, List.map_cons, List.map_nil, Option.isSome_none, Option.isSome_some] at hm
          exact Goes.value rfl (slice_does h hm (plainS_ra (opnd_ra h x).1) (vlo := some (a.eval b)) (vhi := some (a.eval c)) (plainS_ra (opnd_ra h b).1) (plainS_ra (opnd_ra h c).1)) hd
        | some m => simp [opsOf, M.run] at hm
  | fieldAddr T x f =>
    simp only [act] at hm
    obtain ⟨y, hy, hm⟩ := v1_some hm
    simp only [opsOf, List.map_cons, List.map_nil, List.cons.injEq, and_true] at hy; subst hy
    exact Goes.value rfl (Does.quiet h (fieldAddr_sound hm (opnd_ra h x).1 (opnd_ra h x).2)) hd
  | indexAddr T x y =>
    simp only [act] at hm
    obtain ⟨p, q, hy, hm⟩ := v2_some hm
    simp only [opsOf, List.map_cons, List.map_nil, List.cons.injEq, and_true] at hy; obtain ⟨rfl, rfl⟩ := hy
    exact Goes.value rfl (Does.quiet h (indexAddr_sound hm (plainS_ra (opnd_ra h x).1) (plainS_ra (opnd_ra h y).1) (by rw [plainS_ids]; exact (opnd_ra h x).2) hres)) hd
  | index T x y =>
    simp only [act] at hm
    obtain ⟨p, q, hy, hm⟩ := v2_some hm
    simp only [opsOf, List.map_cons, List.map_nil, List.cons.injEq, and_true] at hy; obtain ⟨rfl, rfl⟩ := hy
    exact Goes.value rfl (Does.quiet h (index_sound hm (opnd_ra h x).1 (opnd_ra h y).1)) hd
  | extract x i =>
    simp only [act] at hm
    obtain ⟨y, hy, hm⟩ := v1_some hm
    simp only [opsOf, List.map_cons, List.map_nil, List.cons.injEq, and_true] at hy; subst hy
    exact Goes.value rfl (Does.quiet h (extract_sound hm (opnd_ra h x).1 (opnd_ra h x).2)) hd
  | call c =>
    have opnd_ra : ∀ (_ : RelW G σ lim st a.tmps w) (x : Operand), RA σ w lim (opndS st.env x) (a.eval x) ∧ Known st.tbl (idsOf (opndS st.env x)) :=
      fun h x => ⟨plainS_ra (opnd_ra h x).1, by show Known st.tbl (idsOf (plainS (opnd st.env x))); rw [plainS_ids]; exact (opnd_ra h x).2⟩
    have opnds_ra : ∀ (_ : RelW G σ lim st a.tmps w) (l : List Operand), RAs σ w lim (l.map (opndS st.env)) (l.map a.eval) ∧ ∀ x ∈ l.map (opndS st.env), Known st.tbl (idsOf x) := by
      intro h l
      induction l with
      | nil => exact ⟨by simp [RAs], by simp⟩
      | cons x l ih =>
        refine ⟨by simp only [List.map_cons, RAs]; exact ⟨(opnd_ra h x).1, ih.1⟩, fun y hy => ?_⟩
        cases hy with
        | head => exact (opnd_ra h x).2
        | tail _ hy => exact ih.2 y hy
    replace hm : (actCallee C base c ((opsOf (.call c)).map (opndS st.env))).run st.tbl l = some (e, lg) := by
      have e1 : ((opsOf (.call c)).map (opnd st.env)).map plainS = (opsOf (.call c)).map (opndS st.env) := by rw [List.map_map]; rfl
      rw [← e1]; exact hm
    obtain ⟨callee, args, argTypes⟩ := c
    cases callee with
    | invoke r n => exact (M.run_fail (show M.run st.tbl .fail l = some (e, lg) from hm)).elim
    | builtin b =>
      replace hm : (actBuiltin C base b argTypes (args.toList.map (opndS st.env))).run st.tbl l = some (e, lg) := hm
      have hargs := opnds_ra h args.toList
      obtain ⟨L, rfl⟩ : ∃ L : List Operand, args = L.toArray := ⟨args.toList, by simp⟩
      simp only [List.toList_toArray] at hm hargs
      cases b with
      | len =>
        match L, hm with
        | [x], hm =>
          have h1 := opnd_ra h x
          obtain ⟨v, e1, e2⟩ := len_sound (ty := type) hm h1.1 hres
          exact Goes.value (s := Builtin.len_ argTypes type #[a.eval x]) (by simp [execOp, resolve, invoke, builtin]) (Does.quiet h ⟨v, e1, e2⟩) hd
        | [], hm => exact (M.run_fail (show M.run st.tbl .fail l = some (e, lg) from hm)).elim
        | _ :: _ :: _, hm => exact (M.run_fail (show M.run st.tbl .fail l = some (e, lg) from hm)).elim
      | append =>
        match L, hm with
        | [x, y], hm =>
          exact Goes.value (s := Builtin.append_ argTypes type #[a.eval x, a.eval y]) (by simp [execOp, resolve, invoke, builtin]) (append_does h hm (opnd_ra h x).1 (opnd_ra h y).1) hd
        | [], hm => exact (M.run_fail (show M.run st.tbl .fail l = some (e, lg) from hm)).elim
        | [_], hm => exact (M.run_fail (show M.run st.tbl .fail l = some (e, lg) from hm)).elim
        | _ :: _ :: _ :: _, hm => exact (M.run_fail (show M.run st.tbl .fail l = some (e, lg) from hm)).elim
      | copy =>
        match L, hm with
        | [x, y], hm =>
          exact Goes.value (s := Builtin.copy_ argTypes type #[a.eval x, a.eval y]) (by simp [execOp, resolve, invoke, builtin]) (copy_does h hm (opnd_ra h x).1 (opnd_ra h y).1) hd
        | [], hm => exact (M.run_fail (show M.run st.tbl .fail l = some (e, lg) from hm)).elim
        | [_], hm => exact (M.run_fail (show M.run st.tbl .fail l = some (e, lg) from hm)).elim
        | _ :: _ :: _ :: _, hm => exact (M.run_fail (show M.run st.tbl .fail l = some (e, lg) from hm)).elim
      | max =>
        have hb := hargs.1
        simp only [actBuiltin] at hm
        split at hm <;> first | contradiction | skip
        · rename_i k n k' n' heq
          obtain ⟨hk, hm2⟩ := M.run_guard hm
          obtain rfl := of_decide_eq_true hk
          obtain ⟨rfl, _⟩ := M.run_ret hm2
          match L, heq, hb with
          | [], heq, _ => exact (by simp at heq)
          | [_], heq, _ => exact (by simp at heq)
          | _ :: _ :: _ :: _, heq, _ => exact (by simp at heq)
          | [x, y], heq, hb =>
            simp only [List.map_cons, List.map_nil, List.cons.injEq, and_true] at heq
            obtain ⟨h1, h2⟩ := heq
            have h3 := (opnd_ra h x).1
            have h4 := (opnd_ra h y).1
            rw [h1] at h3; rw [h2] at h4
            simp only [RA, RP] at h3 h4
            exact Goes.value (s := Builtin.max_ argTypes type #[a.eval x, a.eval y]) (by simp [execOp, resolve, invoke, builtin]) (Does.quiet h ⟨_, by simp [Builtin.max_, h3, h4, Builtin.max2], plain_ra, known_nil, rfl⟩) hd
        · rename_i k n k' n' _ heq
          obtain ⟨hk, hm2⟩ := M.run_guard hm
          obtain rfl := of_decide_eq_true hk
          obtain ⟨r, hr, hm3⟩ := M.run_opt hm2
          obtain ⟨rfl, _⟩ := M.run_ret hm3
          match L, heq, hb with
          | [], heq, _ => exact (by simp at heq)
          | [_], heq, _ => exact (by simp at heq)
          | _ :: _ :: _ :: _, heq, _ => exact (by simp at heq)
          | [x, y], heq, hb =>
            simp only [List.map_cons, List.map_nil, List.cons.injEq, and_true] at heq
            obtain ⟨h1, h2⟩ := heq
            have h3 := (opnd_ra h x).1
            have h4 := (opnd_ra h y).1
            rw [h1] at h3; rw [h2] at h4
            simp only [RA, RP] at h3 h4
            refine Goes.value (s := Builtin.max_ argTypes type #[a.eval x, a.eval y]) (by simp [execOp, resolve, invoke, builtin]) (Does.quiet h ⟨.float k r, ?_, plain_ra, known_nil, rfl⟩) hd
            simp only [Builtin.max_, h3, h4, List.foldlM_cons, List.foldlM_nil, Builtin.max2]
            unfold maxFl at hr
            split at hr
            · cases hr
            · rename_i ho; cases hr; simp [ho]
            · rename_i ho; cases hr; simp [ho]
            · rename_i ho; cases hr; simp [ho]
        all_goals exact (M.run_fail hm).elim
      | complex =>
        have hb := hargs.1
        simp only [actBuiltin] at hm
        split at hm <;> first | contradiction | skip
        · rename_i k n k' n' heq
          obtain ⟨hk, hm2⟩ := M.run_guard hm
          obtain rfl := of_decide_eq_true hk
          obtain ⟨rfl, _⟩ := M.run_ret hm2
          match L, heq, hb with
          | [], heq, _ => exact (by simp at heq)
          | [_], heq, _ => exact (by simp at heq)
          | _ :: _ :: _ :: _, heq, _ => exact (by simp at heq)
          | [x, y], heq, hb =>
            simp only [List.map_cons, List.map_nil, List.cons.injEq, and_true] at heq
            obtain ⟨h1, h2⟩ := heq
            have h3 := (opnd_ra h x).1
            have h4 := (opnd_ra h y).1
            rw [h1] at h3; rw [h2] at h4
            simp only [RA, RP] at h3 h4
            exact Goes.value (s := Builtin.complex_ argTypes type #[a.eval x, a.eval y]) (by simp [execOp, resolve, invoke, builtin]) (Does.quiet h ⟨_, by rw [h3, h4]; exact complex_run .., plain_ra, known_nil, rfl⟩) hd
        all_goals exact (M.run_fail hm).elim
      | real =>
        have hb := hargs.1
        simp only [actBuiltin] at hm
        split at hm <;> first | contradiction | skip
        · rename_i k n n' heq
          obtain ⟨rfl, _⟩ := M.run_ret hm
          match L, heq, hb with
          | [], heq, _ => exact (by simp at heq)
          | _ :: _ :: _, heq, _ => exact (by simp at heq)
          | [x], heq, hb =>
            simp only [List.map_cons, List.map_nil, List.cons.injEq, and_true] at heq
            have h3 := (opnd_ra h x).1
            rw [heq] at h3
            simp only [RA, RP] at h3
            exact Goes.value (s := Builtin.real_ argTypes type #[a.eval x]) (by simp [execOp, resolve, invoke, builtin]) (Does.quiet h ⟨_, by rw [h3]; rfl, plain_ra, known_nil, rfl⟩) hd
        all_goals exact (M.run_fail hm).elim
      | imag =>
        have hb := hargs.1
        simp only [actBuiltin] at hm
        split at hm <;> first | contradiction | skip
        · rename_i k n n' heq
          obtain ⟨rfl, _⟩ := M.run_ret hm
          match L, heq, hb with
          | [], heq, _ => exact (by simp at heq)
          | _ :: _ :: _, heq, _ => exact (by simp at heq)
          | [x], heq, hb =>
            simp only [List.map_cons, List.map_nil, List.cons.injEq, and_true] at heq
            have h3 := (opnd_ra h x).1
            rw [heq] at h3
            simp only [RA, RP] at h3
            exact Goes.value (s := Builtin.imag_ argTypes type #[a.eval x]) (by simp [execOp, resolve, invoke, builtin]) (Does.quiet h ⟨_, by rw [h3]; rfl, plain_ra, known_nil, rfl⟩) hd
        all_goals exact (M.run_fail hm).elim
      | min =>
        have hb := hargs.1
        simp only [actBuiltin] at hm
        split at hm <;> first | contradiction | skip
        · rename_i k n k' n' heq
          obtain ⟨hk, hm2⟩ := M.run_guard hm
          obtain rfl := of_decide_eq_true hk
          obtain ⟨rfl, _⟩ := M.run_ret hm2
          match L, heq, hb with
          | [], heq, _ => exact (by simp at heq)
          | [_], heq, _ => exact (by simp at heq)
          | _ :: _ :: _ :: _, heq, _ => exact (by simp at heq)
          | [x, y], heq, hb =>
            simp only [List.map_cons, List.map_nil, List.cons.injEq, and_true] at heq
            obtain ⟨h1, h2⟩ := heq
            have h3 := (opnd_ra h x).1
            have h4 := (opnd_ra h y).1
            rw [h1] at h3; rw [h2] at h4
            simp only [RA, RP] at h3 h4
            exact Goes.value (s := Builtin.min_ argTypes type #[a.eval x, a.eval y]) (by simp [execOp, resolve, invoke, builtin]) (Does.quiet h ⟨_, by simp [Builtin.min_, h3, h4, Builtin.min2], plain_ra, known_nil, rfl⟩) hd
        all_goals exact (M.run_fail hm).elim
      | _ =>
        match L, hm with
        | [], hm => exact (M.run_fail (show M.run st.tbl .fail l = some (e, lg) from hm)).elim
        | [_], hm => exact (M.run_fail (show M.run st.tbl .fail l = some (e, lg) from hm)).elim
        | [_, _], hm => exact (M.run_fail (show M.run st.tbl .fail l = some (e, lg) from hm)).elim
        | _ :: _ :: _ :: _, hm => exact (M.run_fail (show M.run st.tbl .fail l = some (e, lg) from hm)).elim
    | value f =>
      simp only [actCallee, opsOf, List.map_cons] at hm
      split at hm
      · rename_i g as heq
        simp only [List.cons.injEq] at heq
        obtain ⟨hf, rfl⟩ := heq
        have hfv := (opnd_ra h f).1
        rw [hf] at hfv
        simp only [RA] at hfv
        have hargs := opnds_ra h args.toList
        have hmap : Array.map a.eval args = (args.toList.map a.eval).toArray := by apply Array.ext'; simp
        split at hm
        · rename_i b hx
          obtain ⟨v, h1, h2, h3, h4⟩ := ext_run hm hargs.1 hx
          intro next Q hn
          unfold Oper.wp
          have hx : (execOp a.eval { dst := dst, op := .call { callee := .value f, args := args, argTypes := argTypes }, type := type, pos := pos, after := after, guard := guard }).run C.P w = .ok (.value v) w := by
            simp only [execOp, resolve, hfv, Deferred.ofValue, Sem.run_bind, Sem.run_pure, Result.andThen_ok, invoke, hmap, List.append_toArray, List.nil_append, List.append_nil, Array.empty_append, Array.append_empty]
            exact h1
          rw [hx, Oper.upon_value]
          have := RelW.step (a := a) h (Upd.quiet h h2 h3) dst hd
          simp only [put_nil] at this
          rw [← put_nil st.tbl, ← h4] at this
          exact hn v w σ lim (by simpa only [h4, put_nil] using this)
        obtain ⟨⟨fn, e1, e2, e3⟩, hcalls⟩ := call_sound hC h hm hargs.1 hargs.2
        intro next Q hn
        unfold Oper.wp
        have hx : (execOp a.eval { dst := dst, op := .call { callee := .value f, args := args, argTypes := argTypes }, type := type, pos := pos, after := after, guard := guard }).run C.P w = .ok (.enter g (args.toList.map a.eval).toArray) w := by
          have hmap : Array.map a.eval args = (args.toList.map a.eval).toArray := by apply Array.ext'; simp
          have e2' : ¬ fn.name = "runtime.NumGoroutine" := by simpa using e2
          have e3' : ¬ fn.body = none := by intro h0; rw [h0] at e3; cases e3
          simp [execOp, resolve, hfv, Deferred.ofValue, invoke, callFunc, e1, hmap]
          rw [if_neg e2', if_neg e3']
        rw [hx, Oper.upon_enter]
        refine hcalls.mono ?_
        rintro en w' ⟨v, σ', lim', rfl, hR, hv, hk⟩
        simp only
        have := RelW.step (a := a) hR (Upd.quiet hR hv hk) dst hd
        simp only [put_nil] at this
        exact hn v w' σ' lim' this
      · rename_i g cs as heq
        simp only [List.cons.injEq] at heq
        obtain ⟨hf, rfl⟩ := heq
        obtain ⟨hfv, hfk⟩ := opnd_ra h f
        rw [hf] at hfv hfk
        simp only [RA] at hfv
        obtain ⟨us, hfv, hus⟩ := hfv
        have hargs := opnds_ra h args.toList
        have hall : RAs σ w lim (args.toList.map (opndS st.env) ++ cs) (args.toList.map a.eval ++ us) := RAs_all2.2 ((RAs_all2.1 hargs.1).append (RAs_all2.1 hus))
        obtain ⟨⟨fn, e1, e2, e3⟩, hcalls⟩ := call_sound hC h hm hall (fun x hx => by
          rcases List.mem_append.1 hx with hx | hx
          · exact hargs.2 x hx
          · intro r hr
            exact hfk r (by simp only [idsOf]; exact idsOfs_mem hx hr))
        intro next Q hn
        unfold Oper.wp
        have hx : (execOp a.eval { dst := dst, op := .call { callee := .value f, args := args, argTypes := argTypes }, type := type, pos := pos, after := after, guard := guard }).run C.P w = .ok (.enter g (args.toList.map a.eval ++ us).toArray) w := by
          have hmap : Array.map a.eval args ++ us.toArray = (args.toList.map a.eval ++ us).toArray := by apply Array.ext'; simp
          have e2' : ¬ fn.name = "runtime.NumGoroutine" := by simpa using e2
          have e3' : ¬ fn.body = none := by intro h0; rw [h0] at e3; cases e3
          simp [execOp, resolve, hfv, Deferred.ofValue, invoke, callFunc, e1, hmap]
          rw [if_neg e2', if_neg e3']
        rw [hx, Oper.upon_enter]
        refine hcalls.mono ?_
        rintro en w' ⟨v, σ', lim', rfl, hR, hv, hk⟩
        simp only
        have := RelW.step (a := a) hR (Upd.quiet hR hv hk) dst hd
        simp only [put_nil] at this
        exact hn v w' σ' lim' this
      · exact (M.run_fail hm).elim
  | field T x f =>
    simp only [act] at hm
    obtain ⟨y, hy, hm⟩ := v1_some hm
    simp only [opsOf, List.map_cons, List.map_nil, List.cons.injEq, and_true] at hy; subst hy
    obtain ⟨h1, h2⟩ := opnd_ra h x
    exact Goes.value rfl (Does.quiet h (field_sound hm h1 h2)) hd
  | makeFunc fn first captured =>
    cases fn with
    | func f =>
      simp only [act] at hm
      obtain ⟨hg, hm1⟩ := M.run_guard hm
      have hz := beq_eq hg
      have hfirst : first = #[] := Array.eq_empty_of_size_eq_zero hz
      subst hfirst
      obtain ⟨rfl, _⟩ := M.run_ret hm1
      simp only [opsOf] at hops
      refine Goes.value (s := Instr.makeFunc (.func f) (#[].map a.eval) (captured.map a.eval)) rfl (Does.quiet h ⟨.func (.func f) #[] (captured.map a.eval), by simp [Instr.makeFunc], ?_, ?_, rfl⟩) hd
      · simp only [opsOf]
        have hc : captured.map a.eval = (captured.toList.map a.eval).toArray := by apply Array.ext'; simp
        rw [hc]
        have h1 := hops.1
        revert h1
        generalize captured.toList.map (opnd st.env) = L
        generalize captured.toList.map a.eval = V
        intro h1
        cases L with
        | nil => cases V with
          | nil => simp [RA]
          | cons _ _ => simp [RAs] at h1
        | cons x L => simp only [RA]; exact ⟨V, rfl, h1⟩
      · simp only [opsOf]
        have h2 := hops.2
        revert h2
        generalize captured.toList.map (opnd st.env) = L
        intro h2
        cases L with
        | nil => simp [idsOf, Known]
        | cons x L =>
          simp only [idsOf]
          intro r hr
          obtain ⟨y, hy, hr⟩ := mem_idsOfs hr
          exact h2 y hy r hr
    | _ => exact (M.run_fail hm).elim
  | _ => exact (M.run_fail hm).elim
end Go.Sh
namespace Go.Sh
open Go
variable [Gl]
variable {C : Ctx} {G : Glob} {σ : Sig} {w : World} {lim : Nat → Nat} {env : Nat → AV} {tmps : Array Value}
theorem hidB_pos : 0 < hidB := by decide
theorem hid_ge (r i : Nat) : hidB ≤ hid r i := by
  unfold hid
  rw [Nat.add_mul]; omega
theorem hid_mod {r : Nat} (h : r < hidB) (i : Nat) : hid r i % hidB = r := by
  unfold hid
  rw [Nat.mul_add_mod_of_lt' h]
where
  Nat.mul_add_mod_of_lt' {a b c : Nat} (h : c < b) : (a * b + c) % b = c := by
    rw [Nat.mul_comm, Nat.mul_add_mod, Nat.mod_eq_of_lt h]
theorem hid_div {r : Nat} (h : r < hidB) (i : Nat) : hid r i / hidB - 1 = i := by
  unfold hid
  rw [Nat.mul_comm, Nat.mul_add_div hidB_pos, Nat.div_eq_of_lt h]; omega
theorem hid_inj {r r' i i' : Nat} (h : r < hidB) (h' : r' < hidB) (e : hid r i = hid r' i') : r = r' ∧ i = i' :=
  ⟨by rw [← hid_mod h i, e, hid_mod h' i'], by rw [← hid_div h i, e, hid_div h' i']⟩
theorem low_or_hid (n : Nat) : n < hidB ∨ ∃ r i, r < hidB ∧ n = hid r i := by
  by_cases h : n < hidB
  · exact .inl h
  · refine .inr ⟨n % hidB, n / hidB - 1, Nat.mod_lt _ hidB_pos, ?_⟩
    have h1 : 1 ≤ n / hidB := (Nat.le_div_iff_mul_le hidB_pos).2 (by omega)
    unfold hid
    rw [show n / hidB - 1 + 1 = n / hidB by omega, Nat.mul_comm, Nat.div_add_mod]
def expI (i : Nat) : RS → RS
  | .live (.nest t xss h) => match xss[i]? with
    | some xs => if h = some i then .fresh else .live (.arr t xs true)
    | none => .fresh
  | _ => .fresh
def exp (T : Tbl) : Tbl := fun n => if n < hidB then T n else expI (n / hidB - 1) (T (n % hidB))
theorem exp_low {T : Tbl} {n : Nat} (h : n < hidB) : exp T n = T n := by simp [exp, h]
theorem exp_hid {T : Tbl} {r : Nat} (h : r < hidB) (i : Nat) : exp T (hid r i) = expI i (T r) := by
  have := hid_ge r i
  simp only [exp, hid_mod h, hid_div h]
  rw [if_neg (by omega)]
theorem expI_live {i : Nat} {x : RS} {y : Res} (h : expI i x = .live y) : ∃ (t : Ty) (xss : List (List t.den)) (o : Option Nat) (hi : i < xss.length), x = .live (.nest t xss o) ∧ o ≠ some i ∧ y = .arr t xss[i] true := by
  unfold expI at h
  split at h
  · rename_i t xss o
    split at h
    · rename_i xs hx
      split at h
      · cases h
      · rename_i ho
        obtain ⟨hi, hx⟩ := List.getElem?_eq_some_iff.1 hx
        subst hx
        cases h
        exact ⟨t, xss, o, hi, rfl, ho, rfl⟩
    · cases h
  · cases h
theorem exp_nest {T : Tbl} {r : Nat} {t : Ty} {xss : List (List t.den)} {o : Option Nat} (h : exp T r = .live (.nest t xss o)) : r < hidB ∧ T r = .live (.nest t xss o) := by
  rcases low_or_hid r with hl | ⟨q, i, hq, rfl⟩
  · exact ⟨hl, by rw [← h, exp_low hl]⟩
  · rw [exp_hid hq] at h
    obtain ⟨_, _, _, _, _, _, e⟩ := expI_live h
    cases e
theorem exp_box {T : Tbl} {r : Nat} {cs : List AV} (h : exp T r = .live (.box cs)) : r < hidB ∧ T r = .live (.box cs) := by
  rcases low_or_hid r with hl | ⟨q, i, hq, rfl⟩
  · exact ⟨hl, by rw [← h, exp_low hl]⟩
  · rw [exp_hid hq] at h
    obtain ⟨_, _, _, _, _, _, e⟩ := expI_live h
    cases e
theorem exp_at {T : Tbl} {r : Nat} {t : Ty} {xss : List (List t.den)} {o : Option Nat} (h : exp T r = .live (.nest t xss o)) {i : Nat} (hi : i < xss.length) (ho : o ≠ some i) :
    exp T (hid r i) = .live (.arr t xss[i] true) := by
  obtain ⟨hr, h⟩ := exp_nest h
  rw [exp_hid hr, h]
  simp [expI, List.getElem?_eq_getElem hi, ho]
theorem exp_known {T : Tbl} {r : Nat} {t : Ty} {xss : List (List t.den)} {o : Option Nat} (h : exp T r = .live (.nest t xss o)) : Known (exp T) (resIds r (.nest t xss o)) := by
  intro n hn
  obtain ⟨i, hi, ho, rfl⟩ := mem_nestIds.1 hn
  rw [exp_at h hi ho]; simp
theorem RelW.forget {A B : Tbl} (h : RelW G σ lim ⟨env, A⟩ tmps w) (hB : ∀ n, B n = A n ∨ (hidB ≤ n ∧ B n = .fresh)) (he : ∀ s, ∀ r ∈ idsOf (env s), r < hidB)
    (hb : ∀ r cs, B r = .live (.box cs) → ∀ q ∈ idsOfs cs, q < hidB) (hn : ∀ r (t : Ty) (xss : List (List t.den)) o, B r = .live (.nest t xss o) → Known B (resIds r (.nest t xss o)))
    (hp : ∀ p ∈ G.pins, p.1 < hidB) : RelW G σ lim ⟨env, B⟩ tmps w := by
  have low : ∀ r, r < hidB → B r = A r := by
    intro r hr
    rcases hB r with h1 | ⟨h1, _⟩
    · exact h1
    · omega
  have liv : ∀ r x, B r = .live x → A r = .live x := by
    intro r x hx
    rcases hB r with h1 | ⟨_, h1⟩
    · rw [← h1]; exact hx
    · rw [h1] at hx; cases hx
  have liv' : ∀ r, isLive (B r) = true → isLive (A r) = true := by
    intro r hr
    cases hx : B r with
    | live x => rw [liv r x hx]; rfl
    | fresh => rw [hx] at hr; cases hr
    | gone => rw [hx] at hr; cases hr
  exact
    { env := h.env
      known := fun s r hr => by simp only; rw [low r (he s r hr)]; exact h.known s r hr
      res := fun r x hx => by
        simp only at hx ⊢
        obtain ⟨h1, h2⟩ := h.res r x (liv r x hx)
        refine ⟨h1, ?_⟩
        cases x with
        | box cs =>
          intro q hq
          rw [low q (hb r cs hx q hq)]; exact h2 q hq
        | arr t xs sh => intro q hq; cases hq
        | nest t xss o => exact hn r t xss o hx
      inj := fun r r' b h1 h2 => h.inj r r' b (liv' r h1) (liv' r' h2)
      own := fun r b h1 => h.own r b (liv' r h1)
      ext := h.ext, keep := h.keep, same := h.same, lz := h.lz, limk := h.limk, glob := h.glob
      pin := fun p hpp => by
        obtain ⟨h1, h2⟩ := h.pin p hpp
        exact ⟨h1, by simp only; rw [low p.1 (hp p hpp)]; exact h2⟩ }
structure Low (G : Glob) (st : St) : Prop where
  env : ∀ s, ∀ r ∈ idsOf (st.env s), r < hidB
  box : ∀ r cs, st.tbl r = .live (.box cs) → ∀ q ∈ idsOfs cs, q < hidB
  pins : ∀ p ∈ G.pins, p.1 < hidB
def RelX (G : Glob) (σ : Sig) (lim : Nat → Nat) (st : St) (tmps : Array Value) (w : World) : Prop := RelW G σ lim ⟨st.env, exp st.tbl⟩ tmps w ∧ Low G st
theorem exp_put {T : Tbl} {u : Ups} (h : ∀ p ∈ u, p.1 < hidB ∧ noNest p.2 = true) (n : Nat) : exp (T.put u) n = (exp T).put u n ∨ (hidB ≤ n ∧ exp (T.put u) n = .fresh) := by
  rcases low_or_hid n with hl | ⟨q, i, hq, rfl⟩
  · left
    rw [exp_low hl]
    simp only [Tbl.put]
    rw [exp_low hl]
  · have hno : look u (hid q i) = none := by
      cases hk : look u (hid q i) with
      | none => rfl
      | some z =>
        have := (h _ (look_mem hk)).1
        have := hid_ge q i
        simp only at *; omega
    rw [exp_hid hq]
    simp only [Tbl.put, hno]
    cases hk : look u q with
    | none => left; rw [exp_hid hq]
    | some z =>
      right
      refine ⟨hid_ge q i, ?_⟩
      have := (h _ (look_mem hk)).2
      simp only at this ⊢
      cases z with
      | fresh => rfl
      | gone => rfl
      | live y => cases y with
        | nest => simp [noNest] at this
        | box => rfl
        | arr => rfl
theorem RelX.of_put {T : Tbl} {u : Ups} (h : RelW G σ lim ⟨env, (exp T).put u⟩ tmps w) (hu : ∀ p ∈ u, p.1 < hidB ∧ noNest p.2 = true) (hL : Low G ⟨env, T.put u⟩) :
    RelX G σ lim ⟨env, T.put u⟩ tmps w :=
  ⟨h.forget (exp_put hu) hL.env (fun r cs hr => hL.box r cs (exp_box hr).2) (fun r t xss o hr => exp_known hr) hL.pins, hL⟩
theorem RelW.takeout {T : Tbl} (h : RelW G σ lim ⟨env, exp T⟩ tmps w) (hL : Low G ⟨env, T⟩) {r base : Nat} {t : Ty} {xss : List (List t.den)} {i : Nat} (hrl : r < hidB) (hbl : base < hidB)
    (hr : T r = .live (.nest t xss none)) (hi : i < xss.length) (hb : T base = .fresh) :
    RelW G (fun s => if s = base then σ (hid r i) else σ s) lim ⟨env, exp (T.put [(r, .live (.nest t xss (some i))), (base, .live (.arr t xss[i] true))])⟩ tmps w := by
  have er : exp T r = .live (.nest t xss none) := by rw [exp_low hrl]; exact hr
  have eb : exp T base = .fresh := by rw [exp_low hbl]; exact hb
  have eq : exp T (hid r i) = .live (.arr t xss[i] true) := exp_at er hi (by simp)
  have hg := hid_ge r i
  obtain ⟨hR, hK⟩ := h.res r _ er
  obtain ⟨hQ, _⟩ := h.res (hid r i) _ eq
  have hne : r ≠ base := by intro e; subst e; rw [hr] at hb; cases hb
  have R1 := h.reword (r := r) er (y := .nest t xss (some i)) (fun n hn => by
    obtain ⟨j, hj, ho, rfl⟩ := mem_nestIds.1 hn
    exact hK _ (mem_nestIds.2 ⟨j, hj, by simp, rfl⟩)) (by
    simp only [RR] at hR ⊢
    obtain ⟨h0, b, off, cap, vs, U, fz, s1, s2, s3, s4, s5, s6, s7⟩ := hR
    exact ⟨h0, b, off, cap, vs, U, fz, s1, s2, s3, s4, s5, fun j hj _ => s6 j hj (by simp), s7⟩)
  have R2 := R1.gone (r := hid r i) (by simp only; rw [put_one, if_neg (by omega), eq]; simp)
  have tb : (((exp T).put [(r, .live (.nest t xss (some i)))]).put [(hid r i, .gone)]) base = .fresh := by
    rw [put_one, if_neg (by omega), put_one, if_neg hne]; exact eb
  have R3 := R2.adopt (n := base) (v := σ (hid r i)) (.inl tb) (y := .arr t xss[i] true) (by intro q hq; cases hq) (fun hσ => by
    simp only [RR, if_true] at hQ ⊢
    exact hQ) (fun b hbk => by
      refine ⟨h.own _ b (by simp only; rw [eq]; rfl) hbk, fun s hs hbs => ?_⟩
      simp only at hs
      rw [put_one] at hs
      split at hs
      · cases hs
      · rename_i hsq
        have hs0 : isLive (exp T s) = true := by
          rw [put_one] at hs
          split at hs
          · rename_i e; rw [← e, er]; rfl
          · exact hs
        exact hsq (h.inj s (hid r i) b hs0 (by simp only; rw [eq]; rfl) hbs hbk).symm)
  simp only at R3
  refine R3.forget (fun n => ?_) hL.env (fun q cs hq => ?_) (fun q t' x o hq => exp_known hq) hL.pins
  · rcases low_or_hid n with hl | ⟨q, j, hq, rfl⟩
    · left
      rw [exp_low hl, put_one, put_one, put_one, put_at, put_one]
      by_cases e1 : base = n
      · subst e1; simp [hne]
      · by_cases e2 : r = n
        · subst e2; simp [e1]; intro e; omega
        · simp [e1, e2]
          rw [if_neg (by omega), exp_low hl]
    · rw [exp_hid hq, put_at, put_one]
      have g1 := hid_ge q j
      by_cases e1 : r = q
      · subst e1
        simp only [if_true]
        by_cases e2 : i = j
        · subst e2
          right
          exact ⟨hg, by simp [expI, List.getElem?_eq_getElem hi]⟩
        · left
          rw [put_one, if_neg (by omega), put_one, if_neg (fun e => e2 (hid_inj hrl hrl e).2), put_one, if_neg (by omega), exp_hid hrl, hr]
          simp [expI, e2]
      · rw [if_neg e1]
        have e3 : hid r i ≠ hid q j := fun e => e1 (hid_inj hrl hq e).1
        by_cases e2 : base = q
        · subst e2
          rw [if_pos rfl]
          right; exact ⟨g1, rfl⟩
        · left
          rw [if_neg e2, put_one, if_neg (by omega), put_one, if_neg e3, put_one, if_neg (by omega), exp_hid hq]
  · obtain ⟨_, hq⟩ := exp_box hq
    rw [put_at] at hq
    split at hq
    · cases hq
    · rw [put_one] at hq
      split at hq
      · cases hq
      · exact hL.box q cs hq
theorem getElem?_mid {α : Type} (l : List α) (k : Nat) (a : α) (hk : k < l.length) (m : Nat) : (l.take k ++ [a] ++ l.drop (k + 1))[m]? = if k = m then some a else l[m]? := by
  rw [show l.take k ++ [a] ++ l.drop (k + 1) = l.set k a by rw [List.set_eq_take_append_cons_drop, if_pos hk]; simp]
  rw [List.getElem?_set]
  by_cases h : k = m
  · subst h; simp [hk]
  · simp [h]
theorem RelW.putin {T : Tbl} (h : RelW G σ lim ⟨env, exp T⟩ tmps w) (hL : Low G ⟨env, T⟩) {r q : Nat} {t : Ty} {xss : List (List t.den)} {xs : List t.den} {sh : Bool} {i : Nat} (hrl : r < hidB) (hql : q < hidB)
    (hr : T r = .live (.nest t xss (some i))) (hi : i < xss.length) (hq : T q = .live (.arr t xs sh)) {b off len cap : Nat} {vs : Array Value} {U : TypeId} {fz : Nat × Nat}
    (hs : σ r = .slice (some ⟨b, off, none⟩) len cap) (hv : w.heap[b]? = some (.cells vs U fz)) :
    ∃ σ' lim', RelW G σ' lim' ⟨env, exp (T.put [(r, .live (.nest t (xss.set i xs) none)), (q, .gone)])⟩ tmps (w.setRow b (vs.toList.take (off + i) ++ [σ q] ++ vs.toList.drop (off + i + 1)).toArray) ∧
      off + i < vs.size ∧ (∀ o, o < vs.size → ¬ (fz.1 ≤ o ∧ o < fz.2)) := by
  have er : exp T r = .live (.nest t xss (some i)) := by rw [exp_low hrl]; exact hr
  have eq : exp T q = .live (.arr t xs sh) := by rw [exp_low hql]; exact hq
  have eh : exp T (hid r i) = .fresh := by rw [exp_hid hrl, hr]; simp [expI, List.getElem?_eq_getElem hi]
  have hg := hid_ge r i
  have hne : r ≠ q := by intro e; subst e; rw [hr] at hq; cases hq
  obtain ⟨hQ, _⟩ := h.res q _ eq
  have R1 := h.gone (r := q) (by simp only; rw [eq]; simp)
  have th : ((exp T).put [(q, .gone)]) (hid r i) = .fresh := by rw [put_one, if_neg (by omega)]; exact eh
  have R2 := R1.adopt (n := hid r i) (v := σ q) (.inl th) (y := .arr t xs true) (by intro q hq; cases hq) (fun hσ => by
    simp only [RR, if_true] at hQ ⊢
    refine ⟨hQ.1, ?_⟩
    rcases hQ.2 with h1 | ⟨b, off, cap, vs, U, fz, h1, h2, h3, h4, h5, h6, h7⟩
    · exact .inl h1
    · refine .inr ⟨b, off, cap, vs, U, fz, h1, h2, h3, h4, h5, h6, ?_⟩
      cases sh <;> simp at h7 ⊢ <;> omega) (fun b' hbk => by
      refine ⟨h.own _ b' (by simp only; rw [eq]; rfl) hbk, fun s hs' hbs => ?_⟩
      simp only at hs'
      rw [put_one] at hs'
      split at hs'
      · cases hs'
      · rename_i hsq
        exact hsq (h.inj s q b' hs' (by simp only; rw [eq]; rfl) hbs hbk).symm)
  simp only at R2
  have hsr : (fun s => if s = hid r i then σ q else σ s) r = σ r := by simp only; rw [if_neg (by omega)]
  have tr : (((exp T).put [(q, .gone)]).put [(hid r i, .live (.arr t xs true))]) r = .live (.nest t xss (some i)) := by
    rw [put_one, if_neg (by omega), put_one, if_neg (Ne.symm hne)]; exact er
  obtain ⟨hR, hK⟩ := R2.res r _ tr
  simp only [RR] at hR
  obtain ⟨h0, b', off', cap', vs', U', fz', s1, s2, s3, s4, s5, s6, s7⟩ := hR
  rw [if_neg (by omega : r ≠ hid r i), hs] at s1
  obtain ⟨⟨rfl, rfl⟩, rfl, rfl⟩ : (b = b' ∧ off = off') ∧ len = xss.length ∧ cap = cap' := by simpa using s1
  rw [hv] at s3
  obtain ⟨rfl, rfl, rfl⟩ : vs = vs' ∧ U = U' ∧ fz = fz' := by simpa using s3
  have hsz : (Ty.sl t).size = 1 := rfl
  rw [hsz] at s4
  have hlt : off + i < vs.toList.length := by simp; omega
  have hlen : (vs.toList.take (off + i) ++ [σ q] ++ vs.toList.drop (off + i + 1)).length = vs.size := by simp; omega
  obtain ⟨R3, hE⟩ := R2.write (r := r) tr (b := b) (by rw [if_neg (by omega), hs]; rfl) hv (cs := (vs.toList.take (off + i) ++ [σ q] ++ vs.toList.drop (off + i + 1)).toArray) (fun o ho => by rw [s7] at ho; omega)
    (y := .nest t (xss.set i xs) none) (fun n hn => by
      obtain ⟨j, hj, _, rfl⟩ := mem_nestIds.1 hn
      rw [List.length_set] at hj
      by_cases e : i = j
      · subst e; show (((exp T).put [(q, .gone)]).put [(hid r i, .live (.arr t xs true))]) (hid r i) ≠ .fresh; rw [put_one]; simp
      · exact hK _ (mem_nestIds.2 ⟨j, hj, by simp [e], rfl⟩)) (fun hE => by
      simp only [RR]
      refine ⟨h0, b, off, cap, _, U, fz, by rw [if_neg (by omega), hs, List.length_set], by rw [List.length_set]; exact s2, setRow_heap w b vs _ U fz hv, by rw [List.size_toArray, hlen, hsz]; omega, ?_, fun j hj _ => ?_, s7⟩
      · rw [List.size_toArray, hlen]; exact s5
      · rw [List.length_set] at hj
        simp only
        rw [getElem?_mid _ _ _ hlt]
        by_cases e : i = j
        · subst e; simp
        · rw [if_neg (by omega), s6 j hj (by simp [e])])
  refine ⟨_, _, R3.forget (fun n => ?_) hL.env (fun q' cs hq' => ?_) (fun q' t' x o hq' => exp_known hq') hL.pins, by simpa using hlt, fun o ho => s5.free o ho⟩
  · left
    show exp (T.put [(r, .live (.nest t (xss.set i xs) none)), (q, .gone)]) n = ((((exp T).put [(q, .gone)]).put [(hid r i, .live (.arr t xs true))]).put [(r, .live (.nest t (xss.set i xs) none))]) n
    rcases low_or_hid n with hl | ⟨q', j, hq', rfl⟩
    · rw [exp_low hl, put_at, put_one, put_one, put_one, put_one]
      rw [if_neg (by omega : hid r i ≠ n), exp_low hl]
    · have g1 := hid_ge q' j
      rw [exp_hid hq', put_at, put_one, put_one, if_neg (by omega : r ≠ hid q' j), put_one, put_one, if_neg (by omega : q ≠ hid q' j), exp_hid hq']
      by_cases e1 : r = q'
      · subst e1
        rw [if_pos rfl, hr]
        by_cases e2 : i = j
        · subst e2; simp [expI, hi]
        · rw [if_neg (fun e => e2 (hid_inj hrl hrl e).2)]
          simp only [expI, List.getElem?_set, e2, if_false]
          cases xss[j]? <;> simp [e2]
      · rw [if_neg e1, if_neg (fun e => e1 (hid_inj hrl hq' e).1)]
        by_cases e2 : q = q'
        · subst e2; rw [if_pos rfl, hq]; rfl
        · rw [if_neg e2]
  · obtain ⟨_, hq'⟩ := exp_box hq'
    rw [put_at] at hq'
    split at hq'
    · cases hq'
    · rw [put_one] at hq'
      split at hq'
      · cases hq'
      · exact hL.box q' cs hq'
end Go.Sh
namespace Go.Sh
open Go
variable [Gl]
variable {C : Ctx} {G : Glob} {σ : Sig} {w : World} {lim : Nat → Nat} {env : Nat → AV} {tmps : Array Value}
namespace M
variable {α : Type}
theorem run_more {T : Tbl} (m : M α) : ∀ {l l' : List Nat} {x : α}, m.run T l = some (x, l') → ∀ r ∈ l, r ∈ l' := by
  induction m with
  | ret a => intro l l' x h; simp [run] at h; obtain ⟨_, rfl⟩ := h; exact fun _ h => h
  | fail => intro l l' x h; simp [run] at h
  | get r k ih => intro l l' x h s hs; exact ih _ h s (by simp [hs])
  | need b k ih => intro l l' x h; cases b <;> simp [run] at h; exact ih h
  | br b k ih => intro l l' x h; cases b <;> simp [run] at h <;> exact ih _ h
  | opt o k ih => intro l l' x h; cases o <;> simp [run] at h; exact ih _ h
theorem run_local {T T' : Tbl} (m : M α) : ∀ {l l' : List Nat} {x : α}, m.run T l = some (x, l') → (∀ r ∈ l', T' r = T r) → m.run T' l = some (x, l') := by
  induction m with
  | ret a => intro l l' x h _; exact h
  | fail => intro l l' x h; simp [run] at h
  | get r k ih =>
    intro l l' x h hT
    have hr : T' r = T r := hT r (run_more (k (T r)) (l := r :: l) h r (by simp))
    simp only [run, hr] at h ⊢
    exact ih _ h hT
  | need b k ih => intro l l' x h hT; cases b <;> simp [run] at h ⊢; exact ih h hT
  | br b k ih => intro l l' x h hT; cases b <;> simp [run] at h ⊢ <;> exact ih _ h hT
  | opt o k ih => intro l l' x h hT; cases o <;> simp [run] at h ⊢; exact ih _ h hT
end M
theorem lows_spec {l : List Nat} (h : lows l = true) : ∀ r ∈ l, r < hidB := by
  intro r hr
  simp only [lows, List.all_eq_true] at h
  have := h r hr
  simpa [lowN, Nat.blt_eq] using this
theorem run_exp {α : Type} {T : Tbl} {m : M α} {l l' : List Nat} {x : α} (h : m.run T l = some (x, l')) (hl : lows l' = true) : m.run (exp T) l = some (x, l') :=
  M.run_local m h fun r hr => exp_low (lows_spec hl r hr)
structure OkEff (sp : Bool) (e : Eff) (l : List Nat) : Prop where
  log : lows l = true
  val : ∀ r ∈ idsOf e.val, r < hidB
  ups : ∀ p ∈ e.ups, p.1 < hidB
  box : ∀ p ∈ e.ups, ∀ cs, p.2 = .live (.box cs) → ∀ q ∈ idsOfs cs, q < hidB
  non : sp = false → ∀ p ∈ e.ups, noNest p.2 = true
theorem okEff_spec {sp : Bool} {e : Eff} {l : List Nat} (h : okEff sp e l = true) : OkEff sp e l := by
  simp only [okEff, Bool.and_eq_true, List.all_eq_true] at h
  obtain ⟨⟨h1, h2⟩, h3⟩ := h
  exact
    { log := h1
      val := lows_spec h2
      ups := fun p hp => by have := (h3 p hp).1.1; simpa [lowN, Nat.blt_eq] using this
      box := fun p hp cs hc => by have := (h3 p hp).1.2; rw [hc] at this; exact lows_spec this
      non := fun hs p hp => by have := (h3 p hp).2; rw [hs] at this; simpa using this }
theorem setO_at (e : Nat → AV) (d : Option Nat) (v : AV) (s : Nat) : setO e d v s = v ∨ setO e d v s = e s := by
  cases d with
  | none => exact .inr rfl
  | some d =>
    simp only [setO, setE]
    cases Nat.beq s d
    · exact .inr rfl
    · exact .inl rfl
theorem Low.after {st : St} {sp : Bool} {e : Eff} {l : List Nat} {d : Option Nat} (h : Low G st) (k : OkEff sp e l) : Low G ⟨setO st.env d e.val, st.tbl.put e.ups⟩ where
  env s r hr := by
    rcases setO_at st.env d e.val s with h1 | h1
    · simp only [h1] at hr; exact k.val r hr
    · simp only [h1] at hr; exact h.env s r hr
  box r cs hr := by
    simp only [Tbl.put] at hr
    cases hl : look e.ups r with
    | none => rw [hl] at hr; exact h.box r cs hr
    | some z => rw [hl] at hr; simp only at hr; exact k.box _ (look_mem hl) cs hr
  pins := h.pins
theorem Low.set {st : St} (h : Low G st) {d : Option Nat} {v : AV} (hv : ∀ r ∈ idsOf v, r < hidB) : Low G ⟨setO st.env d v, st.tbl⟩ where
  env s r hr := by
    rcases setO_at st.env d v s with h1 | h1
    · simp only [h1] at hr; exact hv r hr
    · simp only [h1] at hr; exact h.env s r hr
  box := h.box
  pins := h.pins
def hidT (base : Nat) (t : Ty) : Nat → Tbl → Tbl
  | 0, A => A
  | L + 1, A => (hidT base t L A).put [(hid base L, .live (.arr t [] true))]
theorem hid_lt {b i j : Nat} (h : i ≠ j) : hid b i ≠ hid b j := by
  unfold hid
  intro e
  have := hidB_pos
  have h1 : (i + 1) * hidB = (j + 1) * hidB := by omega
  have := Nat.eq_of_mul_eq_mul_right hidB_pos h1
  omega
theorem hidT_out {base : Nat} {t : Ty} {A : Tbl} {n : Nat} : ∀ L, (∀ j, j < L → n ≠ hid base j) → hidT base t L A n = A n
  | 0, _ => rfl
  | L + 1, h => by
    simp only [hidT]
    rw [put_one, if_neg (Ne.symm (h L (by omega)))]
    exact hidT_out L fun j hj => h j (by omega)
theorem hidT_in {base : Nat} {t : Ty} {A : Tbl} : ∀ L j, j < L → hidT base t L A (hid base j) = .live (.arr t [] true)
  | 0, j, h => by omega
  | L + 1, j, h => by
    simp only [hidT]
    rw [put_one]
    by_cases e : L = j
    · subst e; simp
    · rw [if_neg (hid_lt e)]; exact hidT_in L j (by omega)
theorem RelW.hides {A : Tbl} {base : Nat} {t : Ty} (ht : 0 < t.size) (hA : ∀ j, A (hid base j) = .fresh) : ∀ L, RelW G σ lim ⟨env, A⟩ tmps w →
    ∃ σ', RelW G σ' lim ⟨env, hidT base t L A⟩ tmps w ∧ (∀ j, j < L → σ' (hid base j) = .slice none 0 0) ∧ (∀ n, (∀ j, j < L → n ≠ hid base j) → σ' n = σ n)
  | 0, h => ⟨σ, h, by omega, fun _ _ => rfl⟩
  | L + 1, h => by
    obtain ⟨σ1, h1, h2, h3⟩ := RelW.hides ht hA L h
    have := h1.nilname (n := hid base L) (by simp only; rw [hidT_out L fun j hj => hid_lt (by omega)]; exact hA L) t ht true
    refine ⟨_, this, fun j hj => ?_, fun n hn => ?_⟩
    · by_cases e : j = L
      · subst e; simp
      · rw [if_neg (hid_lt e)]; exact h2 j (by omega)
    · rw [if_neg (hn L (by omega))]; exact h3 n fun j hj => hn j (by omega)
def DoesX (C : Ctx) (G : Glob) (env : Nat → AV) (T : Tbl) (tmps : Array Value) (w : World) (s : Sem Value) (e : Eff) : Prop :=
  ∃ x w' σ' lim', s.run C.P w = .ok x w' ∧ RelW G σ' lim' ⟨env, exp (T.put e.ups)⟩ tmps w' ∧ RA σ' w' lim' e.val x ∧ Known (exp (T.put e.ups)) (idsOf e.val)
theorem nestMake_does {T : Tbl} (h : RelW G σ lim ⟨env, exp T⟩ tmps w) (hL : Low G ⟨env, T⟩) {base : Nat} {U : TypeId} {a b : AV} {vl vc : Value} {l l' : List Nat} {e : Eff}
    (hm : (nestMake C base U a b).run T l = some (e, l')) (hups : ∀ p ∈ e.ups, p.1 < hidB) (ha : RA σ w lim a vl) (hb : RA σ w lim b vc) : DoesX C G env T tmps w (Instr.makeSlice U vl vc) e := by
  unfold nestMake at hm
  split at hm
  · rename_i ll cc
    simp only [RA, RP] at ha hb; subst ha; subst hb
    split at hm
    · rename_i ee t he
      obtain ⟨hg, hm1⟩ := M.run_guard hm
      simp only [Bool.and_eq_true] at hg
      have g1 := Nat.le_of_ble_eq_true hg.1.1
      have gk := (posB_spec hg.1.2).2
      have g2 := Nat.le_of_ble_eq_true hg.2
      split at hm1
      · rename_i hz
        obtain ⟨hn, hm2⟩ := M.run_need hm1
        obtain ⟨h0, h1, h2⟩ := of_decide_eq_true hn
        obtain ⟨hf, l2, hm3⟩ := fresh1 hm2
        obtain ⟨rfl, _⟩ := M.run_ret hm3
        have hbl : base < hidB := hups (base, _) (List.mem_cons_self ..)
        obtain ⟨i, hi, his, hib⟩ := elem_info he
        obtain ⟨hu, ht, hs⟩ := elemT_spec he
        obtain ⟨zv, hz1, hz2⟩ := zero_run hz w
        obtain ⟨L, rfl⟩ := Int.eq_ofNat_of_zero_le h0
        obtain ⟨N, rfl⟩ := Int.eq_ofNat_of_zero_le (show 0 ≤ cc by omega)
        have hLN : L ≤ N := by omega
        have hsz : (Ty.sl t).size = 1 := rfl
        have hzs : zv.cells.size = 1 := by rw [← Array.length_toList, hz2]; rfl
        have hcell : ∀ x, zv.cells[x % zv.cells.size]! = Value.slice none 0 0 := by
          intro x
          rw [hzs, Nat.mod_one]
          have : zv.cells.toList[0]? = some (Value.slice none 0 0) := by rw [hz2]; rfl
          rw [Array.getElem?_toList] at this
          rw [getElem!_def, this]
        have hA : ∀ j, exp T (hid base j) = .fresh := by intro j; rw [exp_hid hbl, hf]; rfl
        obtain ⟨σ1, hH, hσ1, hσ2⟩ := RelW.hides (t := t) g2 hA L h
        have hbh : ∀ j, j < L → base ≠ hid base j := fun j _ => by have := hid_ge base j; omega
        have tb : hidT base t L (exp T) base = .fresh := by rw [hidT_out L hbh, exp_low hbl]; exact hf
        obtain ⟨hN, hE⟩ := hH.newblk (w' := w.alloc (.cells ((Array.range (N * i.size)).map (fun x => zv.cells[x % zv.cells.size]!)) ee)) (by simp) (fun k hk => heap_alloc_old w _ k hk) ⟨rfl, rfl, rfl⟩ tb
          (y := .nest t (List.replicate L []) none) (x := .slice (some ⟨w.heap.size, 0, none⟩) L N) rfl (fun hE hσ => by
            simp only [RR, List.length_replicate, if_true]
            refine ⟨g2, w.heap.size, 0, N, _, ee, (0, 0), rfl, hLN, heap_alloc_new w _, by simp [hsz, his], ⟨fun o _ => okfz o, gk, Nat.le_refl _⟩, fun j hj _ => ?_, h.lz _ (Nat.le_refl _)⟩
            rw [if_neg (Ne.symm (hbh j hj)), hσ1 j hj]
            simp only [Array.toList_map, Array.toList_range, List.getElem?_map, Nat.zero_add, his, hsz, Nat.mul_one, hcell]
            rw [List.getElem?_range (by omega)]; rfl) (fun n hn => by
            obtain ⟨j, hj, _, rfl⟩ := mem_nestIds.1 hn
            rw [List.length_replicate] at hj
            simp only; rw [hidT_in L j hj]; simp)
        have hT : (hidT base t L (exp T)).put [(base, .live (.nest t (List.replicate L []) none))] = exp (T.put [(base, .live (.nest t (List.replicate L []) none))]) := by
          funext n
          rw [put_one]
          rcases low_or_hid n with hl | ⟨q, j, hq, rfl⟩
          · rw [exp_low hl, put_one, hidT_out L (fun j _ => by have := hid_ge base j; omega), exp_low hl]
          · have g1 := hid_ge q j
            rw [if_neg (by omega), exp_hid hq, put_one]
            by_cases e : base = q
            · subst e
              rw [if_pos rfl]
              by_cases hj : j < L
              · rw [hidT_in L j hj]; simp [expI, List.getElem?_replicate, hj]
              · rw [hidT_out L (fun k hk => hid_lt (by omega)), hA j]; simp [expI, List.getElem?_replicate, hj]
            · rw [if_neg e, hidT_out L (fun k hk e' => e (hid_inj hbl hq e'.symm).1), exp_hid hq]
        refine ⟨.slice (some ⟨w.heap.size, 0, none⟩) L N, _, _, _, ?_, by simp only [Int.toNat_natCast]; rw [← hT]; exact hN, own_done rfl (by simp), fun r hr => by simp [idsOf] at hr; subst hr; rw [exp_low hbl, put_one]; simp⟩
        have hmul : (i.bytes : Int) * (N : Int) ≤ 281474976710656 := by
          rw [← hib]
          have h3 : C.P.bytesOf ee * N ≤ 65536 * 4294967295 := Nat.mul_le_mul g1 (by omega)
          have : ((C.P.bytesOf ee * N : Nat) : Int) ≤ 281474976710656 := by omega
          simpa using this
        have w1 : IntKind.i64.wrap (L : Int) = L := wrap_small (by omega) (by omega)
        have w2 : IntKind.i64.wrap (N : Int) = N := wrap_small (by omega) (by omega)
        have hc0 : ¬ ((N : Int) < 0) := by omega
        have hl0 : ¬ ((L : Int) < 0) := by omega
        have hlc : ¬ ((N : Int) < (L : Int)) := by omega
        have hbig : ¬ (281474976710656 < (i.bytes : Int) * (N : Int)) := by omega
        simp only [Instr.makeSlice, Sem.run_bind, run_underlying hu, Result.andThen_ok, asInt, asIntOf, Sem.run_pure, typeInfo, run_program, hi, w1, w2]
        simp only [Int.reducePow, decide_eq_true_eq, Bool.or_eq_true, hc0, hl0, hlc, hbig, gt_iff_lt, or_self, decide_false, Bool.false_eq_true, if_false, Sem.run_bind, run_askRoom, Result.andThen_ok, sizeOf, typeInfo, run_program, hi, Sem.run_pure, Int.toNat_natCast, Sem.run_ite, hz1]
        by_cases hN0 : N * i.size = 0
        · have hr0 : ∀ f : Nat → Value, Array.map f (Array.range 0) = #[] := fun f => by simp
          rw [if_pos hN0, hN0]
          simp only [hr0, Result.andThen_ok]
          simp [newRow]
        · simp [hN0, newRow]
      · simp [M.run] at hm1
    · simp [M.run] at hm
  · simp [M.run] at hm
theorem put_kept {T : Tbl} {u : Ups} (h : ∀ p ∈ u, T p.1 = p.2) : T.put u = T := by
  funext n
  simp only [Tbl.put]
  cases hl : look u n with
  | none => rfl
  | some z => exact (h _ (look_mem hl)).symm
theorem RelW.melt {T : Tbl} (h : RelW G σ lim ⟨env, exp T⟩ tmps w) (hL : Low G ⟨env, T⟩) {r : Nat} {t : Ty} {xss : List (List t.den)} (hrl : r < hidB) (hr : T r = .live (.nest t xss none)) :
    ∃ lim', RelX G σ lim' ⟨env, T.put [(r, .live (.arr (.sl t) xss false))]⟩ tmps w := by
  have er : exp T r = .live (.nest t xss none) := by rw [exp_low hrl]; exact hr
  let U : Ups := (List.finRange xss.length).map fun (j : Fin xss.length) => (hid r j.val, RS.live (.arr t xss[j.val] true))
  have hU : ∀ p ∈ U, ∃ (j : Nat) (hj : j < xss.length), p = (hid r j, RS.live (.arr t xss[j] true)) := by
    intro p hp
    obtain ⟨j, _, rfl⟩ := List.mem_map.1 hp
    exact ⟨j, j.2, rfl⟩
  obtain ⟨lim1, h1, hE, h2⟩ := RelW.shows U h (fun p hp => by
    obtain ⟨j, hj, rfl⟩ := hU p hp
    exact ⟨t, xss[j], true, rfl, exp_at er hj (by simp)⟩)
  have hsame : (exp T).put U = exp T := put_kept fun p hp => by
    obtain ⟨j, hj, rfl⟩ := hU p hp
    exact exp_at er hj (by simp)
  simp only at h1
  rw [hsame] at h1
  obtain ⟨hR, hK⟩ := h1.res r _ er
  have h3 := h1.reword (r := r) er (y := .arr (.sl t) xss false) (by intro q hq; cases hq) (by
    simp only [RR] at hR ⊢
    obtain ⟨h0, b, off, cap, vs, V, fz, s1, s2, s3, s4, s5, s6, s7⟩ := hR
    refine ⟨by simp [Ty.size], .inr ⟨b, off, cap, vs, V, fz, s1, s2, s3, s4, s5, fun i hi => ?_, s7⟩⟩
    have hq : (hid r i, RS.live (.arr t xss[i] true)) ∈ U := List.mem_map.2 ⟨⟨i, hi⟩, List.mem_finRange _, rfl⟩
    have h4 := h2 _ _ _ hq
    simp only [RP] at h4
    have h5 := s6 i hi (by simp)
    have h6 : (vs.toList.drop (off + i * (Ty.sl t).size)).take (Ty.sl t).size = [σ (hid r i)] := by
      rw [show (Ty.sl t).size = 1 from rfl, Nat.mul_one]
      obtain ⟨h7, h8⟩ := List.getElem?_eq_some_iff.1 h5
      rw [List.drop_eq_getElem_cons h7, h8]; rfl
    rw [h6]; exact h4)
  refine ⟨lim1, RelX.of_put h3 (fun p hp => ?_) ⟨hL.env, fun q cs hq => ?_, hL.pins⟩⟩
  · simp only [List.mem_singleton] at hp; subst hp; exact ⟨hrl, rfl⟩
  · simp only at hq
    rw [put_one] at hq
    split at hq
    · cases hq
    · exact hL.box q cs hq
end Go.Sh
namespace Go.Sh
open Go
variable [Gl]
variable {C : Ctx} {G : Glob} {σ : Sig} {w : World} {lim : Nat → Nat} {env : Nat → AV} {tmps : Array Value} {st : St} {a : Act}
theorem oneT_spec {T : TypeId} (h : oneT C T = true) : ∃ d, C.P.underlying T = some d ∧ aggD d = false ∧ C.P.cellsOf T = 1 := by
  unfold oneT at h
  cases hd : C.P.underlying T with
  | none => rw [hd] at h; cases h
  | some d =>
    rw [hd] at h
    simp only [Bool.and_eq_true, Bool.not_eq_true'] at h
    exact ⟨d, rfl, h.1, beq_eq h.2⟩
theorem nestLoad_does {T : Tbl} (h : RelW G σ lim ⟨env, exp T⟩ tmps w) (hL : Low G ⟨env, T⟩) {base : Nat} {U : TypeId} {r : Nat} {t : Ty} {i k : Nat} {v : Value} {l l' : List Nat} {e : Eff}
    (hm : (nestLoad C base U r t i k).run T l = some (e, l')) (hups : ∀ p ∈ e.ups, p.1 < hidB) (ha : RA σ w lim (.el r (.pair .unit (.sl t)) i k) v) : DoesX C G env T tmps w (Instr.loadAt U v) e := by
  simp only [nestLoad, M.run] at hm
  cases hr : T r with
  | fresh => simp [hr, M.run] at hm
  | gone => simp [hr, M.run] at hm
  | live y =>
    cases y with
    | box => simp [hr, M.run] at hm
    | arr => simp [hr, M.run] at hm
    | nest t' xss o =>
      cases o with
      | some j => simp [hr, M.run] at hm
      | none =>
        simp only [hr] at hm
        split at hm
        · rename_i ht
          subst ht
          obtain ⟨hg, hm1⟩ := M.run_guard hm
          clear hm
          simp only [Bool.and_eq_true] at hg
          obtain ⟨hk, hT⟩ := hg
          have hk0 := beq_eq hk
          subst hk0
          obtain ⟨d, hd, hag, hc⟩ := oneT_spec hT
          obtain ⟨hi, hm2⟩ := M.run_need hm1
          have hi := of_decide_eq_true hi
          obtain ⟨hb, l2, hm3⟩ := fresh1 hm2
          obtain ⟨rfl, _⟩ := M.run_ret hm3
          have hrl : r < hidB := hups (r, _) (List.mem_cons_self ..)
          have hbl : base < hidB := hups (base, _) (List.mem_cons_of_mem _ (List.mem_cons_self ..))
          have hxi : xss.getD i [] = xss[i] := by simp [List.getD, List.getElem?_eq_getElem hi]
          have R := h.takeout hL hrl hbl hr hi hb
          have er : exp T r = .live (.nest t' xss none) := by rw [exp_low hrl]; exact hr
          have eq : exp T (hid r i) = .live (.arr t' xss[i] true) := exp_at er hi (by simp)
          obtain ⟨hR, _⟩ := h.res r _ er
          obtain ⟨hQ, _⟩ := h.res _ _ eq
          simp only [RR] at hR
          obtain ⟨h0, b, off, cap, vs, V, fz, s1, s2, s3, s4, s5, s6, s7⟩ := hR
          simp only [RA] at ha
          obtain ⟨b', off', len', cap', h1, rfl⟩ := ha
          rw [s1] at h1
          obtain ⟨⟨rfl, rfl⟩, rfl, rfl⟩ : (b = b' ∧ off = off') ∧ xss.length = len' ∧ cap = cap' := by simpa using h1
          have hz : off + i * (Ty.pair Ty.unit (Ty.sl t')).size + 0 = off + i := by simp [Ty.size]
          rw [hz]
          have hsl : ∃ A l c, σ (hid r i) = .slice A l c := by
            simp only [RR] at hQ
            rcases hQ.2 with ⟨_, e1⟩ | ⟨_, _, _, _, _, _, e1, _⟩
            · exact ⟨_, _, _, e1⟩
            · exact ⟨_, _, _, e1⟩
          obtain ⟨A, sl, sc, hsl⟩ := hsl
          refine ⟨σ (hid r i), w, (fun s => if s = base then σ (hid r i) else σ s), lim, ?_, ?_, own_done hsl (by simp), fun q hq => by simp [idsOf] at hq; subst hq; rw [exp_low hbl, put_at, put_one]; split <;> simp⟩
          · have := run_loadVar_one (P := C.P) hd hag (w := w) (b := b) (off := off + i) (v := σ (hid r i)) (by rw [cell_of s3]; exact s6 i hi (by simp))
            simpa [Instr.loadAt, Instr.sureAddr] using this
          · rw [← hxi] at R; exact R
        · simp [M.run] at hm
def DoesXU (C : Ctx) (G : Glob) (env : Nat → AV) (T : Tbl) (tmps : Array Value) (w : World) (s : Sem Unit) (e : Eff) : Prop :=
  ∃ w' σ' lim', s.run C.P w = .ok () w' ∧ RelW G σ' lim' ⟨env, exp (T.put e.ups)⟩ tmps w' ∧ e.val = .tup []
theorem nestStore_does {T : Tbl} (h : RelW G σ lim ⟨env, exp T⟩ tmps w) (hL : Low G ⟨env, T⟩) {U : TypeId} {r : Nat} {t : Ty} {i k : Nat} {x : AV} {v vx : Value} {l l' : List Nat} {e : Eff}
    (hm : (nestStore C U r t i k x).run T l = some (e, l')) (hups : ∀ p ∈ e.ups, p.1 < hidB) (ha : RA σ w lim (.el r (.pair .unit (.sl t)) i k) v) (hx : RA σ w lim x vx) :
    DoesXU C G env T tmps w (Instr.storeAt U v vx) e := by
  unfold nestStore at hm
  split at hm
  · rename_i q
    simp only [M.run] at hm
    cases hr : T r with
    | fresh => simp [hr, M.run] at hm
    | gone => simp [hr, M.run] at hm
    | live y =>
      cases y with
      | box => simp [hr, M.run] at hm
      | arr => simp [hr, M.run] at hm
      | nest t' xss o =>
        cases o with
        | none => simp [hr, M.run] at hm
        | some j =>
          simp only [hr, M.run] at hm
          cases hq : T q with
          | fresh => simp [hq, M.run] at hm
          | gone => simp [hq, M.run] at hm
          | live z =>
            cases z with
            | box => simp [hq, M.run] at hm
            | nest => simp [hq, M.run] at hm
            | arr t'' xs sh =>
              simp only [hq] at hm
              split at hm
              · rename_i ht
                subst ht
                split at hm
                · rename_i ht
                  subst ht
                  obtain ⟨hg, hm1⟩ := M.run_guard hm
                  clear hm
                  simp only [Bool.and_eq_true] at hg
                  obtain ⟨hk, hT⟩ := hg
                  have hk0 := beq_eq hk
                  subst hk0
                  obtain ⟨d, hd, hag, hc⟩ := oneT_spec hT
                  obtain ⟨hij, hm2⟩ := M.run_need hm1
                  have hij := of_decide_eq_true hij
                  subst hij
                  obtain ⟨hi, hm3⟩ := M.run_need hm2
                  have hi := of_decide_eq_true hi
                  obtain ⟨rfl, _⟩ := M.run_ret hm3
                  have hrl : r < hidB := hups (r, _) (List.mem_cons_self ..)
                  have hql : q < hidB := hups (q, _) (List.mem_cons_of_mem _ (List.mem_cons_self ..))
                  have er : exp T r = .live (.nest t'' xss (some i)) := by rw [exp_low hrl]; exact hr
                  obtain ⟨hR, _⟩ := h.res r _ er
                  simp only [RR] at hR
                  obtain ⟨h0, b, off, cap, vs, V, fz, s1, s2, s3, s4, s5, s6, s7⟩ := hR
                  simp only [RA] at ha hx
                  obtain ⟨b', off', len', cap', h1, rfl⟩ := ha
                  obtain ⟨rfl, A, sl, sc, hsl⟩ := hx
                  rw [s1] at h1
                  obtain ⟨⟨rfl, rfl⟩, rfl, rfl⟩ : (b = b' ∧ off = off') ∧ xss.length = len' ∧ cap = cap' := by simpa using h1
                  have hz : off + i * (Ty.pair Ty.unit (Ty.sl t'')).size + 0 = off + i := by simp [Ty.size]
                  rw [hz]
                  obtain ⟨σ', lim', R, hlt, hfree⟩ := h.putin hL hrl hql hr hi hq s1 s3
                  refine ⟨_, σ', lim', ?_, R, rfl⟩
                  have hone : (σ q).oneCell' = true := by rw [hsl]; rfl
                  have := run_storeCells (P := C.P) b (off + i) V fz [σ q] 0 vs w s3 (by simp; omega) hfree (by simpa using hone)
                  simp only [Nat.add_zero, List.length_singleton] at this
                  simp only [Instr.storeAt, Instr.sureAddr, Sem.run_bind, Sem.run_pure, Result.andThen_ok, storeVar, run_sizeOf hd, cells_one hone, hc]
                  rw [if_neg (by simp)]
                  exact this
                · simp [M.run] at hm
              · simp [M.run] at hm
  · simp [M.run] at hm
def GoesX (C : Ctx) (G : Glob) (st : St) (o : Oper) (a : Act) (w : World) (e : Eff) : Prop :=
  ∀ (next : Act → World → Prop) (Q : Exit → Act → World → Prop), (∀ x w' σ' lim', RelX G σ' lim' ⟨setO st.env o.dst e.val, st.tbl.put e.ups⟩ (a.put o.dst x).tmps w' → next (a.put o.dst x) w') → o.wp C.P a w next Q
theorem GoesX.value {o : Oper} {s : Sem Value} {e : Eff} (hx : execOp a.eval o = (do pure (Next.value (← s)))) (h : DoesX C G st.env st.tbl a.tmps w s e) (hL : Low G ⟨setO st.env o.dst e.val, st.tbl.put e.ups⟩) (hd : ∀ d, o.dst = some d → d < a.tmps.size) : GoesX C G st o a w e := by
  intro next Q hn
  obtain ⟨x, w', σ', lim', hr, hR, hv, hk⟩ := h
  unfold Oper.wp
  rw [hx]
  simp only [bind_pure_comp, Sem.run_map, hr, Result.andThen_ok, Oper.upon_value]
  have := RelW.step (a := a) hR (Upd.quiet hR hv hk) o.dst hd
  simp only [put_nil] at this
  exact hn x w' σ' lim' ⟨this, hL⟩
theorem GoesX.unit {o : Oper} {s : Sem Unit} {e : Eff} (hx : execOp a.eval o = (do s; pure Next.skip)) (h : DoesXU C G st.env st.tbl a.tmps w s e) (hL : Low G ⟨setO st.env o.dst e.val, st.tbl.put e.ups⟩) (hd : ∀ d, o.dst = some d → d < a.tmps.size) : GoesX C G st o a w e := by
  intro next Q hn
  obtain ⟨w', σ', lim', hr, hR, hv⟩ := h
  unfold Oper.wp
  rw [hx]
  simp only [Sem.run_bind, hr, Result.andThen_ok, Sem.run_pure, Oper.upon_skip]
  have := RelW.step (a := a) hR (Upd.quiet (v := .tup []) (x := undef) hR (by simp only [RA]; exact ⟨[], rfl, by simp [RAs]⟩) (by simp [idsOf, idsOfs, Known])) o.dst hd
  simp only [put_nil] at this
  rw [← hv] at this
  exact hn undef w' σ' lim' ⟨this, hL⟩
theorem tabLoad_does {T : Tbl} (h : RelW G σ lim ⟨env, exp T⟩ tmps w) {U : TypeId} {g : Nat} {k : IntKind} {i : Int} {l l' : List Nat} {e : Eff} {vi : Value}
    (hm : (tabLoad C U g i).run T l = some (e, l')) (hi : RA σ w lim (.val (.v (.int k i))) vi) : DoesX C G env T tmps w (Instr.indexAt U (.pointer (some ⟨g, 0, none⟩)) vi) e := by
  unfold tabLoad at hm
  split at hm
  · rename_i len ee hu
    obtain ⟨hg, hm1⟩ := M.run_guard hm
    clear hm
    simp only [Bool.and_eq_true] at hg
    obtain ⟨⟨⟨g1, g2⟩, g3⟩, g4⟩ := hg
    have g1 := beq_eq g1
    have g3 := beq_eq g3
    obtain ⟨hc, hm2⟩ := M.run_need hm1
    obtain ⟨c1, c2⟩ := of_decide_eq_true hc
    obtain ⟨rfl, _⟩ := M.run_ret hm2
    simp only [RA, RP] at hi
    subst hi
    obtain ⟨d, hd⟩ := Option.isSome_iff_exists.1 g2
    have hLies := h.glob.mono h.ext
    have hlt : i.toNat < (Gl.tab g).2.length := by omega
    have hget : (Gl.tab g).2[i.toNat]? = some ((Gl.tab g).2.getD i.toNat 0) := by
      rw [List.getD_eq_getElem?_getD, List.getElem?_eq_getElem hlt]; rfl
    obtain ⟨q1, q2⟩ := hLies g i.toNat _ hget
    refine ⟨.pointer (some ⟨g, i.toNat, none⟩), w, σ, lim, ?_, by rw [put_nil]; exact h, ?_, by intro q hq; simp [idsOf] at hq⟩
    · have hsz : (sizeOf ee).run C.P w = .ok 1 w := by simp [sizeOf, typeInfo, hd, ← g1, Program.cellsOf]
      simp [Instr.indexAt, asIntOf, run_underlying hu, c1, c2, hsz, Instr.sureAddr, add_none]
    · simp only [RA]
      refine ⟨g, i.toNat, rfl, fun j p hp => ?_⟩
      cases j with
      | zero =>
        simp only [List.getElem?_cons_zero, Option.some.injEq] at hp
        subst hp
        exact ⟨_, q1, q2, by simp [RP]⟩
      | succ j => simp at hp
  · exact (M.run_fail hm).elim
theorem scalar_rt {w' : World} {l l' : Nat → Nat} {t : Ty} (ht : scalarT t = true) {x : t.den} {cs : List Value} (h : Rt w' l t x cs) : Rt w' l' t x cs := by
  cases t <;> first | (simp [scalarT] at ht; done) | (simpa only [Rt] using h)
theorem noGone_spec : ∀ {u : Ups}, noGone u = true → gones u = []
  | [], _ => rfl
  | (i, x) :: u, h => by
    cases x with
    | gone => simp [noGone] at h
    | fresh => simp only [noGone] at h; simp only [gones, isGone]; exact noGone_spec h
    | live y => simp only [noGone] at h; simp only [gones, isGone]; exact noGone_spec h
theorem scalar_av {t : Ty} {x : t.den} {w' : World} {l l' : Nat → Nat} {v : Value} (ht : scalarT t = true) (h : viewT w' l t x v) : RA σ w' l' (avOf t x) v :=
  avOf_sound (by
    obtain ⟨cs, h1, h2⟩ := h
    exact ⟨cs, scalar_rt ht h1, h2⟩)
set_option maxHeartbeats 1000000 in
theorem peek_goes (hC : ∀ f cal, C.Φ f = some cal → Ctr C.P C.k f cal) (h : RelX G σ lim st a.tmps w) {base f : Nat} {o : Oper} {fo : Operand} {args : Array Operand} {ats : Array TypeId} (ho : o.op = .call ⟨.value fo, args, ats⟩)
    (hf : opnd st.env fo = .fn f) {l lg : List Nat} {e : Eff} (hm : (peek C base f (args.toList.map (opnd st.env))).run st.tbl l = some (e, lg)) (hlow : lows lg = true) (hok : OkEff true e lg)
    (hL2 : Low G ⟨setO st.env o.dst e.val, st.tbl.put e.ups⟩) (hd : ∀ d, o.dst = some d → d < a.tmps.size) : GoesX C G st o a w e := by
  obtain ⟨hR, hL⟩ := h
  have hm := run_exp hm hlow
  have hfv := (opnd_ra hR fo).1
  simp only at hfv
  rw [hf] at hfv
  simp only [RA] at hfv
  have hargs := opnds_ra hR args.toList
  simp only at hargs
  unfold peek at hm
  cases hcal : C.Φ f with
  | none => simp [hcal, M.run] at hm
  | some cal =>
    simp only [hcal] at hm
    have hctr := hC f cal hcal
    obtain ⟨⟨rvs, u⟩, l1, h1, h2⟩ := M.run_bind_some hm
    obtain ⟨hgu, h3⟩ := M.run_guard h2
    simp only at hgu h3
    simp only [Bool.and_eq_true] at hgu
    obtain ⟨hou, hng⟩ := hgu
    have hgn := noGone_spec hng
    simp only [M.run] at h3
    cases hrun : cal.run C.k rvs with
    | none => simp [hrun] at h3
    | some x =>
      simp only [hrun, Option.bind_some] at h3
      obtain ⟨s1, k1⟩ := takes_spec (st := ⟨st.env, exp st.tbl⟩) (σ := σ) (w := w) (lim := lim) cal.pk _ h1
      obtain ⟨lim1, hR1, hE1, hS, hnd1, hbl1⟩ := RelW.takes (st := ⟨st.env, exp st.tbl⟩) hR s1 hou
      have hT := k1 _ hargs.1 (fun r y hy => (hR.res r y hy).1) lim1 hE1 hS
      obtain ⟨fn, e1, e2, e3⟩ := hctr.enters
      have hcalls := hctr.calls rvs x hrun w lim1 _ _ hR1.lz (hR1.glob.mono hR1.ext) hT hnd1 (fun b hb => (hbl1 b hb).2.1)
      rw [hgn] at hcalls
      simp only [blocks, List.filterMap_nil] at hcalls
      intro next Q hn
      unfold Oper.wp
      have hrunx : (execOp a.eval o).run C.P w = .ok (.enter f (args.toList.map a.eval).toArray) w := by
        have hmap : Array.map a.eval args = (args.toList.map a.eval).toArray := by apply Array.ext'; simp
        have e2' : ¬ fn.name = "runtime.NumGoroutine" := by simpa using e2
        have e3' : ¬ fn.body = none := by intro h0; rw [h0] at e3; cases e3
        obtain ⟨dst, op, type, pos, after, guard⟩ := o
        simp only at ho
        subst ho
        simp [execOp, resolve, hfv, Deferred.ofValue, invoke, callFunc, e1, hmap]
        rw [if_neg e2', if_neg e3']
      rw [hrunx, Oper.upon_enter]
      refine hcalls.mono ?_
      rintro en w' ⟨v, lim2, b1, b2, rfl, hE2, hlz2, hsame, hkeep, hT1, _, _, hnd, hb⟩
      simp only
      have hE : Ext w lim w' lim := ⟨hE2.size, fun b o ho => by
        have hbs : b < w.heap.size := by
          rcases Nat.lt_or_ge b w.heap.size with h' | h'
          · exact h'
          · rw [hR.lz b h'] at ho; omega
        simp [World.cell?, (hkeep b hbs (by simp)).1], fun _ _ h => h, hE2.typ⟩
      have hlive : ∀ r' b, isLive (exp st.tbl r') = true → blk (σ r') = some b → b < w.heap.size := fun r' b hl hb => live_block (st := ⟨st.env, exp st.tbl⟩) hR hl hb
      unfold peekRes at h3
      split at h3
      · rename_i t' ys henc
        obtain ⟨hsc, hm2⟩ := M.run_guard h3
        obtain ⟨hfx, l2, hm3⟩ := fresh1 hm2
        obtain ⟨rfl, _⟩ := M.run_ret hm3
        have hbl : base < hidB := hok.ups (base, _) (List.mem_cons_self ..)
        rw [henc] at hT1
        simp only [TT, ownT] at hT1
        have hblk : ∀ b, blk v = some b → w.heap.size ≤ b := by
          intro b hbv
          rcases hT1.2 with ⟨_, rfl, _⟩ | ⟨b', off, cap, vs, T, fz, rfl, _, _, _, _, _, _, rfl⟩
          · simp [blk] at hbv
          · simp [blk] at hbv; subst hbv
            rcases hb b' (by simp) with h' | h'
            · cases h'
            · exact h'
        have hU : Upd G σ lim ⟨st.env, exp st.tbl⟩ w (fun s => if s = base then v else σ s) lim w' (.own base) v [(base, .live (.arr t' ys false))] :=
          { ext := hE
            lz := fun b hb => hR.lz b (Nat.le_trans hE2.size hb)
            same := hsame
            sig := fun r' hr' => by rw [if_neg]; intro e; subst e; exact hr' hfx
            rest := fun r' hl _ b hb => ⟨(hkeep b (hlive r' b hl hb) (by simp)).1, rfl⟩
            new := fun r' y hl => by
              rw [look_cons] at hl
              split at hl
              · rename_i e; subst e
                simp at hl; subst hl
                refine ⟨?_, by intro q hq; cases hq⟩
                simp only [RR]
                refine ⟨hT1.1, ?_⟩
                rcases hT1.2 with ⟨g1, rfl, _⟩ | ⟨b', off, cap, vs, T, fz, rfl, g2, g3, g4, g5, g6, g7, rfl⟩
                · exact .inl ⟨g1, by simp⟩
                · refine .inr ⟨b', off, cap, vs, T, fz, by simp, g2, g3, g4, g5, fun i hi => scalar_rt hsc (g6 i hi), ?_⟩
                  simp only [cond_false]
                  exact hR.lz b' (hblk b' rfl)
              · simp [look] at hl
            inj := fun r1 r2 y b hl hl2 hb1 hb2 => by
              rw [look_cons] at hl
              split at hl
              · rename_i e; subst e
                by_cases e : r2 = base
                · exact e
                · rw [put_one, if_neg (Ne.symm e)] at hl2
                  simp only [if_true] at hb1
                  simp only [e, if_false] at hb2
                  have := hblk b hb1
                  have := hlive r2 b hl2 hb2
                  omega
              · simp [look] at hl
            own := fun r1 y b hl hb1 => by
              rw [look_cons] at hl
              split at hl
              · rename_i e; subst e
                simp only [if_true] at hb1
                exact .inl (Nat.le_trans hR.ext.size (hblk b hb1))
              · simp [look] at hl
            keep := fun b hb _ => (hkeep b (Nat.lt_of_lt_of_le hb hR.ext.size) (by simp)).1
            limk := fun _ _ _ => rfl
            nofresh := by intro r'; rw [look_cons]; split <;> simp [look]
            val := by
              simp only [RA]
              rcases hT1.2 with ⟨_, rfl, _⟩ | ⟨b', off, cap, vs, T, fz, rfl, _⟩
              · exact ⟨by simp, _, _, _, rfl⟩
              · exact ⟨by simp, _, _, _, rfl⟩
            known := known_own (y := .arr t' ys false) (by rw [put_one]; simp) }
        have hS := RelW.step (a := a) hR hU o.dst hd
        exact hn v w' _ lim (RelX.of_put hS (fun p hp => by
          simp only [List.mem_singleton] at hp; subst hp; exact ⟨hbl, rfl⟩) hL2)
      · rename_i t' y henc
        obtain ⟨hsc, hm2⟩ := M.run_guard h3
        obtain ⟨rfl, _⟩ := M.run_ret hm2
        rw [henc] at hT1
        simp only [TT] at hT1
        have hU : Upd G σ lim ⟨st.env, exp st.tbl⟩ w σ lim w' (avOf t' y) v [] :=
          { ext := hE
            lz := fun b hb => hR.lz b (Nat.le_trans hE2.size hb)
            same := hsame
            sig := fun _ _ => rfl
            rest := fun r' hl _ b hb => ⟨(hkeep b (hlive r' b hl hb) (by simp)).1, rfl⟩
            new := fun r' y hl => by simp [look] at hl
            inj := fun r1 r2 y b hl hl2 hb1 hb2 => by simp [look] at hl
            own := fun r1 y b hl hb1 => by simp [look] at hl
            keep := fun b hb _ => (hkeep b (Nat.lt_of_lt_of_le hb hR.ext.size) (by simp)).1
            limk := fun _ _ _ => rfl
            nofresh := by intro r'; simp [look]
            val := scalar_av hsc hT1.1
            known := by rw [avOf_ids]; intro q hq; cases hq }
        have hS := RelW.step (a := a) hR hU o.dst hd
        exact hn v w' _ lim (RelX.of_put hS (fun p hp => by cases hp) hL2)
      · exact (M.run_fail h3).elim
theorem special_sound (hC : ∀ f cal, C.Φ f = some cal → Ctr C.P C.k f cal) (h : RelX G σ lim st a.tmps w) {base : Nat} {o : Oper} {m : M Eff} (hs : special C base o.op ((opsOf o.op).map (opnd st.env)) = some m) {l lg : List Nat} {e : Eff}
    (hm : m.run st.tbl l = some (e, lg)) (hok : OkEff true e lg) (hd : ∀ d, o.dst = some d → d < a.tmps.size) : GoesX C G st o a w e := by
  obtain ⟨hR, hL⟩ := h
  have hL2 := hL.after (d := o.dst) hok
  obtain ⟨dst, op, type, pos, after, guard⟩ := o
  simp only at hs hd hL2
  unfold special at hs
  split at hs
  · rename_i fo args ats f avs hv
    cases hb : (C.live 999998).any (Nat.beq f) with
    | false => rw [hb] at hs; cases hs
    | true =>
      rw [hb] at hs
      cases hs
      simp only [opsOf, List.map_cons, List.cons.injEq] at hv
      obtain ⟨hv1, hv2⟩ := hv
      subst hv2
      exact peek_goes hC ⟨hR, hL⟩ rfl hv1 hm hok.log hok hL2 hd
  · rename_i U g y z k i hv
    cases hs
    simp only [opsOf, List.map_cons, List.map_nil, List.cons.injEq, and_true] at hv
    have h2 := (opnd_ra hR y).1
    simp only at h2
    rw [hv.2] at h2
    exact GoesX.value rfl (tabLoad_does hR hm h2) hL2 hd
  · rename_i U ord x r t i k hv
    cases hs
    simp only [opsOf, List.map_cons, List.map_nil, List.cons.injEq, and_true] at hv
    have := (opnd_ra hR x).1
    simp only at this
    rw [hv] at this
    exact GoesX.value rfl (nestLoad_does hR hL hm hok.ups this) hL2 hd
  · rename_i U ord x y r t i k z hv
    cases hs
    simp only [opsOf, List.map_cons, List.map_nil, List.cons.injEq, and_true] at hv
    have h1 := (opnd_ra hR x).1
    have h2 := (opnd_ra hR y).1
    simp only at h1 h2
    rw [hv.1] at h1
    rw [hv.2] at h2
    exact GoesX.unit rfl (nestStore_does hR hL hm hok.ups h1 h2) hL2 hd
  · rename_i U x y p q hv
    cases hb : (C.live 1).any (Nat.beq U) with
    | false => rw [hb] at hs; cases hs
    | true =>
      rw [hb] at hs
      cases hs
      simp only [opsOf, List.map_cons, List.map_nil, List.cons.injEq, and_true] at hv
      have h1 := (opnd_ra hR x).1
      have h2 := (opnd_ra hR y).1
      simp only at h1 h2
      rw [hv.1] at h1
      rw [hv.2] at h2
      exact GoesX.value rfl (nestMake_does hR hL hm hok.ups h1 h2) hL2 hd
  · cases hs
theorem actN_sound (hC : ∀ f cal, C.Φ f = some cal → Ctr C.P C.k f cal) (h : RelX G σ lim st a.tmps w) {rid i : Nat} {o : Oper} {lg : List Nat} {e : Eff}
    (hm : (actN C rid i o st.env).run st.tbl [] = some (e, lg)) (hok : okEff (spOf C rid i o st.env).isSome e lg = true) (hd : ∀ d, o.dst = some d → d < a.tmps.size) (hT : opTypes C.P o.op = true) : GoesX C G st o a w e := by
  have hok := okEff_spec hok
  cases hs : spOf C rid i o st.env with
  | some m =>
    rw [hs] at hok
    simp only [actN, hs] at hm
    exact special_sound hC h hs hm hok hd
  | none =>
    rw [hs] at hok
    simp only [actN, hs] at hm
    have hm2 := run_exp hm hok.log
    have hG := act_sound hC h.1 (base := baseOf rid i) hm2 hd hT
    intro next Q hn
    refine hG next Q fun x w' σ' lim' hR => hn x w' σ' lim' ?_
    exact RelX.of_put hR (fun p hp => ⟨hok.ups p hp, hok.non rfl p hp⟩) (h.2.after hok)
theorem RelX.skip (h : RelX G σ lim st a.tmps w) (d : Option Nat) (hd : ∀ x, d = some x → x < a.tmps.size) : RelX G σ lim ⟨setO st.env d (.tup []), st.tbl⟩ (a.put d undef).tmps w := by
  have := RelW.step h.1 (Upd.quiet (v := .tup []) (x := undef) h.1 (by simp only [RA]; exact ⟨[], rfl, by simp [RAs]⟩) (by simp [idsOf, idsOfs, Known])) d hd
  simp only [put_nil] at this
  exact ⟨this, h.2.set (by simp [idsOf, idsOfs])⟩
end Go.Sh
namespace Go.Sh
open Go
variable [Gl]
variable {C : Ctx} {G : Glob} {σ : Sig} {w : World} {lim : Nat → Nat} {st : St} {a : Act}
def runN (C : Ctx) (rid idx : Nat) (o : Oper) (st : St) : Option (Eff × List Nat) :=
  ((actN C rid idx o st.env).run st.tbl []).bind fun x => bif okEff (spOf C rid idx o st.env).isSome x.1 x.2 then some x else none
theorem runN_some {rid idx : Nat} {o : Oper} {st : St} {e : Eff} {l : List Nat} (h : runN C rid idx o st = some (e, l)) :
    (actN C rid idx o st.env).run st.tbl [] = some (e, l) ∧ okEff (spOf C rid idx o st.env).isSome e l = true := by
  unfold runN at h
  obtain ⟨⟨e', l'⟩, h1, h2⟩ := Option.bind_eq_some_iff.1 h
  simp only at h2
  cases hk : okEff (spOf C rid idx o st.env).isSome e' l' with
  | false => rw [hk] at h2; cases h2
  | true => rw [hk] at h2; cases h2; exact ⟨h1, hk⟩
def effOf (C : Ctx) (rid idx : Nat) (ops : List Oper) (o : Oper) (st : St) : Option (Eff × List Nat) :=
  match o.guard with
  | none => runN C rid idx o st
  | some (j, want) => match guardSlot ops j with
    | none => none
    | some d => match st.env d with
      | .val (.v (.bool g)) => bif (g == want) then runN C rid idx o st else some (⟨.tup [], []⟩, [])
      | .tup [] => some (⟨.tup [], []⟩, [])
      | _ => none
def after (st : St) (o : Oper) (e : Eff) : St := ⟨setO st.env o.dst e.val, st.tbl.put e.ups⟩
def stepB (C : Ctx) (rid idx : Nat) (ops : List Oper) (o : Oper) (st : St) : Option (St × Lg) :=
  (effOf C rid idx ops o st).map fun x => (after st o x.1, (x.2, x.1.ups.map (·.1)))
theorem goK_eq {R : Type} {rid idx : Nat} {o : Oper} {K : St → Lg → Option R} :
    goK C rid idx o st K = (runN C rid idx o st).bind fun x => K (after st o x.1) (x.2, x.1.ups.map (·.1)) := by
  rw [goK, M.runK_eq, runN, Option.bind_assoc]
  congr 1
  funext x
  cases okEff (spOf C rid idx o st.env).isSome x.1 x.2 <;> rfl
theorem setE_same {e : Nat → AV} {d : Nat} {x : AV} (h : e d = x) : setE e d x = e := by
  funext s
  simp only [setE]
  cases hb : Nat.beq s d with
  | false => rfl
  | true => rw [beq_eq hb, h]; rfl
theorem stepK_eq {R : Type} {rid idx : Nat} {ops : List Oper} {o : Oper} {K : St → Lg → Option R} :
    stepK C rid idx ops o st K = (stepB C rid idx ops o st).bind fun x => K x.1 x.2 := by
  unfold stepK stepB effOf
  cases hg : o.guard with
  | none => simp only [goK_eq, Option.bind_map]; rfl
  | some p =>
    obtain ⟨j, want⟩ := p
    cases hj : guardSlot ops j with
    | none => simp only [hj]; rfl
    | some d =>
      simp only [hj]
      split
      · rename_i g hd
        simp only [hd]
        cases g <;> cases want <;> simp only [cond_true, cond_false, setE_same hd, goK_eq, Option.bind_map] <;> rfl
      · rename_i hd; simp only [hd]; rfl
      · rename_i h1 h2
        split
        · rename_i g hd; exact (h1 g hd).elim
        · rename_i hd; exact (h2 hd).elim
        · rfl
def opsB (C : Ctx) (rid : Nat) (ops : List Oper) : List Oper → Nat → St → Option (St × List Lg)
  | [], _, st => some (st, [])
  | o :: l, idx, st => (stepB C rid idx ops o st).bind fun x => (opsB C rid ops l (idx + 1) x.1).map fun y => (y.1, x.2 :: y.2)
theorem opsK_eq {R : Type} {rid : Nat} {ops : List Oper} {K : St → Option R} : ∀ (l : List Oper) (idx : Nat) (st : St),
    opsK C rid ops l idx st K = (opsB C rid ops l idx st).bind fun x => K x.1
  | [], _, _ => rfl
  | o :: l, idx, st => by
    simp only [opsK, opsB, stepK_eq]
    cases stepB C rid idx ops o st with
    | none => rfl
    | some x => simp only [Option.bind_some, opsK_eq l, Option.bind_map]; rfl
theorem drawnK_eq {R : Type} {rid : Nat} {ops : List Oper} {K : St → Option R} : ∀ (l : List Oper) (idx : Nat) (st : St) (logs : List Lg),
    drawnK C rid ops l idx st logs K = (opsB C rid ops l idx st).bind fun x => bif indepAll ops (masks ops []) (logs ++ x.2) then K x.1 else none
  | [], _, _, _ => by simp [drawnK, opsB]
  | o :: l, idx, st, logs => by
    simp only [drawnK, opsB, stepK_eq]
    cases stepB C rid idx ops o st with
    | none => rfl
    | some x => simp only [Option.bind_some, drawnK_eq l, Option.bind_map, List.append_assoc, List.singleton_append]; rfl
def fitsO (P : Program) (n : Nat) (o : Oper) : Bool := (match o.dst with | some d => Nat.blt d n | none => true) && opTypes P o.op
def predsLt (ops : List Oper) (j : Nat) : Bool := match ops[j]? with
  | some o => (preds o).all fun p => Nat.blt p j
  | none => true
def fitsR (P : Program) (n : Nat) (ops : List Oper) : Bool := ops.all (fitsO P n) && (List.range ops.length).all (predsLt ops)
theorem fitsO_dst {n : Nat} {o : Oper} (h : fitsO C.P n o = true) : ∀ d, o.dst = some d → d < n := by
  intro d hd
  simp only [fitsO, hd, Bool.and_eq_true, Nat.blt_eq] at h
  exact h.1
theorem getD_bool {tmps : Array Value} {d : Nat} {g : Bool} (h : tmps.getD d undef = .bool g) : tmps[d]? = some (.bool g) := by
  rw [Array.getD_eq_getD_getElem?] at h
  cases hd : tmps[d]? with
  | none => rw [hd] at h; simp [undef] at h
  | some x => rw [hd] at h; simp at h; rw [h]
theorem getD_tup {tmps : Array Value} {d : Nat} (h : tmps.getD d undef = .tuple #[]) : ∀ g, tmps[d]? ≠ some (.bool g) := by
  rw [Array.getD_eq_getD_getElem?] at h
  cases hd : tmps[d]? with
  | none => simp
  | some x => rw [hd] at h; simp at h; rw [h]; simp
theorem put_size (a : Act) (d : Option Nat) (v : Value) : (a.put d v).tmps.size = a.tmps.size := by cases d <;> simp [Act.put]
theorem put_defers' (a : Act) (d : Option Nat) (v : Value) : (a.put d v).defers = a.defers := by cases d <;> simp [Act.put]
theorem ra_nothing {σ : Sig} {w : World} {lim : Nat → Nat} : RA σ w lim (.tup []) undef := by simp only [RA]; exact ⟨[], rfl, by simp [RAs]⟩
theorem step_sound (hC : ∀ f cal, C.Φ f = some cal → Ctr C.P C.k f cal) (h : RelX G σ lim st a.tmps w) {ops : Array Oper} {rid i : Nat} {o : Oper} (ho : ops[i]? = some o)
    {st' : St} {lg : Lg} (hs : stepB C rid i ops.toList o st = some (st', lg)) (hf : fitsO C.P a.tmps.size o = true) {K : Act → World → Prop} {Q : Exit → Act → World → Prop}
    (hK : ∀ a' w' σ' lim', RelX G σ' lim' st' a'.tmps w' → a'.tmps.size = a.tmps.size → a'.defers = a.defers → K a' w') : wpOp C.P ops Q i K a w := by
  have go : ∀ e lg', runN C rid i o st = some (e, lg') → st' = after st o e → Region.wanted o (yielded ops a.tmps) = true → wpOp C.P ops Q i K a w := by
    intro e lg' hm hst hw
    subst hst
    unfold wpOp
    simp only [ho, hw, if_true]
    refine .inl (actN_sound hC h (runN_some hm).1 (runN_some hm).2 (fitsO_dst hf) ?_ K Q fun x w' σ' lim' hR => hK _ _ σ' lim' hR (put_size _ _ _) (put_defers' _ _ _))
    simp only [fitsO, Bool.and_eq_true] at hf; exact hf.2
  have skip : st' = after st o ⟨.tup [], []⟩ → Region.wanted o (yielded ops a.tmps) = false → wpOp C.P ops Q i K a w := by
    intro hst hw
    subst hst
    unfold wpOp
    simp only [ho, hw]
    have hR := h.skip o.dst (fitsO_dst hf)
    exact hK _ _ σ lim hR (put_size _ _ _) (put_defers' _ _ _)
  unfold stepB effOf at hs
  cases hg : o.guard with
  | none =>
    rw [hg] at hs
    simp only [Option.map_eq_some_iff, Prod.mk.injEq] at hs
    obtain ⟨⟨e, l1⟩, h1, h2, h3⟩ := hs
    exact go e l1 h1 h2.symm (by simp [Region.wanted, hg])
  | some p =>
    obtain ⟨j, want⟩ := p
    rw [hg] at hs
    simp only at hs
    cases hj : guardSlot ops.toList j with
    | none => rw [hj] at hs; simp at hs
    | some d =>
      rw [hj] at hs
      simp only at hs
      have hd0 : (ops[j]?).bind (·.dst) = some d := by
        simp only [guardSlot, Array.getElem?_toList] at hj
        cases hoj : ops[j]? with
        | none => rw [hoj] at hj; simp at hj
        | some oj => rw [hoj] at hj; simpa using hj
      have henv := h.1.env d
      split at hs
      · rename_i g hd
        rw [hd] at henv
        simp only [RA, RP] at henv
        have hy : yielded ops a.tmps j = some g := by simp [yielded, hd0, getD_bool henv]
        cases hgw : (g == want) with
        | true =>
          rw [hgw] at hs
          simp only [cond_true, Option.map_eq_some_iff, Prod.mk.injEq] at hs
          obtain ⟨⟨e, l1⟩, h1, h2, h3⟩ := hs
          exact go e l1 h1 h2.symm (by simp [Region.wanted, hg, hy]; simpa using hgw)
        | false =>
          rw [hgw] at hs
          simp only [cond_false, Option.map_some, Option.some.injEq, Prod.mk.injEq] at hs
          exact skip hs.1.symm (by simp [Region.wanted, hg, hy]; simpa using hgw)
      · rename_i hd
        rw [hd] at henv
        simp only [RA] at henv
        obtain ⟨vs, hv, hvs⟩ := henv
        cases vs with
        | cons _ _ => simp [RAs] at hvs
        | nil =>
          have hy : yielded ops a.tmps j = none := by
            have := getD_tup hv
            unfold yielded
            rw [hd0]
            simp only [Option.bind_some]
          simp only [Option.map_some, Option.some.injEq, Prod.mk.injEq] at hs
          exact skip hs.1.symm (by simp [Region.wanted, hg, hy])
      · simp at hs
def RunL (C : Ctx) (rid : Nat) (ops : List Oper) (lg : Nat → Lg) : List Nat → St → St → Prop
  | [], st, stf => st = stf
  | i :: is, st, stf => ∃ o s, ops[i]? = some o ∧ stepB C rid i ops o st = some (s, lg i) ∧ RunL C rid ops lg is s stf
theorem RunL.congr {rid : Nat} {ops : List Oper} {lg lg' : Nat → Lg} : ∀ {is : List Nat} {st stf : St}, (∀ i ∈ is, lg i = lg' i) → RunL C rid ops lg is st stf → RunL C rid ops lg' is st stf
  | [], _, _, _, h => h
  | i :: is, _, _, hl, ⟨o, s, h1, h2, h3⟩ => ⟨o, s, h1, by rw [← hl i (by simp)]; exact h2, RunL.congr (fun k hk => hl k (by simp [hk])) h3⟩
theorem runL_of {rid : Nat} {ops : List Oper} : ∀ (l : List Oper) (idx : Nat) (st stf : St) (lgs : List Lg), ops.drop idx = l → opsB C rid ops l idx st = some (stf, lgs) →
    lgs.length = l.length ∧ RunL C rid ops (fun i => lgs.getD (i - idx) ([], [])) (List.range' idx l.length) st stf
  | [], idx, st, stf, lgs, hl, h => by simp [opsB] at h; simp [RunL, h]
  | o :: l, idx, st, stf, lgs, hl, h => by
    simp only [opsB] at h
    cases hs : stepB C rid idx ops o st with
    | none => simp [hs] at h
    | some x =>
      obtain ⟨s, g⟩ := x
      simp only [hs, Option.bind_some, Option.map_eq_some_iff, Prod.mk.injEq] at h
      obtain ⟨⟨sf, gs⟩, h1, h2, h3⟩ := h
      subst h2 h3
      have ho : ops[idx]? = some o := by
        have := congrArg (·[0]?) hl
        simpa using this
      have hd : ops.drop (idx + 1) = l := by
        rw [← List.drop_drop, hl]; rfl
      obtain ⟨h4, h5⟩ := runL_of l (idx + 1) s sf gs hd h1
      refine ⟨by simp [h4], ?_⟩
      simp only [List.length_cons, List.range'_succ, RunL]
      refine ⟨o, s, ho, by simpa using hs, h5.congr fun i hi => ?_⟩
      have hi' : idx + 1 ≤ i := (List.mem_range'_1.1 hi).1
      have : i - idx = (i - (idx + 1)) + 1 := by omega
      rw [this]; simp
theorem wpOps_runL (hC : ∀ f cal, C.Φ f = some cal → Ctr C.P C.k f cal) {ops : Array Oper} {rid : Nat} {lg : Nat → Lg} {stf : St} {Q : Exit → Act → World → Prop} {n : Nat} {ds : List Deferred}
    (hf : ∀ o ∈ ops.toList, fitsO C.P n o = true)
    (hQ : ∀ a' w' σ' lim', RelX G σ' lim' stf a'.tmps w' → a'.tmps.size = n → a'.defers = ds → Q .normal a' w') :
    ∀ (is : List Nat) (st : St) (a : Act) (w : World) (σ : Sig) (lim : Nat → Nat), RunL C rid ops.toList lg is st stf → RelX G σ lim st a.tmps w → a.tmps.size = n → a.defers = ds → wpOps C.P ops Q is a w
  | [], st, a, w, σ, lim, hr, h, hn, hd => by
    simp only [RunL] at hr; subst hr; exact hQ a w σ lim h hn hd
  | i :: is, st, a, w, σ, lim, ⟨o, s, h1, h2, h3⟩, h, hn, hd => by
    rw [wpOps_cons]
    refine step_sound hC h (by simpa using h1) h2 (by rw [hn]; exact hf o (List.mem_of_getElem? h1)) fun a' w' σ' lim' hR e1 e2 => ?_
    exact wpOps_runL hC hf hQ is s a' w' σ' lim' h3 hR (e1.trans hn) (e2.trans hd)
end Go.Sh
namespace Go.Sh
open Go
variable [Gl]
variable {C : Ctx} {G : Glob} {σ : Sig} {w : World} {lim : Nat → Nat} {st : St} {a : Act}
theorem eff_local {rid i : Nat} {ops : List Oper} {o : Oper} {st st' : St} {e : Eff} {lg : List Nat} (h : effOf C rid i ops o st = some (e, lg))
    (he : ∀ s ∈ slotsOf ops o, st'.env s = st.env s) (ht : ∀ r ∈ lg, st'.tbl r = st.tbl r) : effOf C rid i ops o st' = some (e, lg) := by
  have hmap : (opsOf o.op).map (opnd st'.env) = (opsOf o.op).map (opnd st.env) := by
    refine List.map_congr_left fun x hx => ?_
    cases x with
    | tmp t => exact he t (by simp only [slotsOf, List.mem_append, List.mem_filterMap]; exact .inl ⟨.tmp t, hx, rfl⟩)
    | _ => rfl
  have hact : ∀ {e lg}, runN C rid i o st = some (e, lg) → (∀ r ∈ lg, st'.tbl r = st.tbl r) → runN C rid i o st' = some (e, lg) := by
    intro e lg h ht
    obtain ⟨h1, h2⟩ := runN_some h
    have hs : spOf C rid i o st'.env = spOf C rid i o st.env := by simp only [spOf, hmap]
    have : actN C rid i o st'.env = actN C rid i o st.env := by simp only [actN, actOf, hs, hmap]
    unfold runN
    rw [this, hs, M.run_local _ h1 ht]
    simp only [Option.bind_some, h2, cond_true]
  unfold effOf at h ⊢
  cases hg : o.guard with
  | none => rw [hg] at h; exact hact h ht
  | some p =>
    obtain ⟨j, want⟩ := p
    rw [hg] at h
    simp only at h ⊢
    cases hj : guardSlot ops j with
    | none => rw [hj] at h; simp at h
    | some d =>
      rw [hj] at h
      simp only at h ⊢
      rw [he d (by simp [slotsOf, hg, hj])]
      split at h
      · rename_i g hd
        cases hgw : (g == want) <;> rw [hgw] at h <;> simp only [cond_true, cond_false] at h ⊢
        · exact h
        · exact hact h ht
      · rename_i hd; exact h
      · simp at h
theorem disjoint_spec {a b : List Nat} (h : disjoint a b = true) : ∀ x ∈ a, x ∉ b := by
  intro x hx hb
  simp only [disjoint, List.all_eq_true, Bool.not_eq_true', List.any_eq_false] at h
  exact h x hx x hb (beq_self x)
theorem look_none {u : Ups} {r : Nat} (h : r ∉ u.map (·.1)) : look u r = none := by
  induction u with
  | nil => rfl
  | cons p u ih =>
    obtain ⟨i, x⟩ := p
    simp only [List.map_cons, List.mem_cons, not_or] at h
    rw [look_cons]
    simp [Ne.symm h.1, ih h.2]
theorem put_other {T : Tbl} {u : Ups} {r : Nat} (h : r ∉ u.map (·.1)) : T.put u r = T r := by simp [Tbl.put, look_none h]
theorem setO_other {e : Nat → AV} {d : Option Nat} {v : AV} {s : Nat} (h : d ≠ some s) : setO e d v s = e s := by
  cases d with
  | none => rfl
  | some d => simp [setO, setE, beq_ne (fun hs => h (by rw [hs] : some d = some s) : s ≠ d)]
theorem put_comm {T : Tbl} {u v : Ups} (h : ∀ r ∈ u.map (·.1), r ∉ v.map (·.1)) : (T.put u).put v = (T.put v).put u := by
  funext r
  by_cases hu : r ∈ u.map (·.1)
  · rw [put_other (h r hu)]
    simp only [Tbl.put]
    cases hl : look u r with
    | some x => rfl
    | none => simp [look_none (h r hu)]
  · rw [put_other (T := T.put v) hu]
    simp only [Tbl.put]
    cases hl : look v r with
    | some x => rfl
    | none => simp [look_none hu]
theorem setO_comm {e : Nat → AV} {c d : Option Nat} {x y : AV} (h : ∀ s, c = some s → d ≠ some s) : setO (setO e c x) d y = setO (setO e d y) c x := by
  funext s
  by_cases hc : c = some s
  · rw [setO_other (h s hc)]
    subst hc; simp [setO, setE, beq_self]
  · rw [setO_other (e := setO e d y) hc]
    by_cases hd : d = some s
    · subst hd; simp [setO, setE, beq_self]
    · rw [setO_other hd, setO_other hd, setO_other hc]
theorem step_swap {rid i j : Nat} {ops : List Oper} {x y : Oper} {st s1 s2 : St} {p q : Lg} (h1 : stepB C rid i ops x st = some (s1, p)) (h2 : stepB C rid j ops y s1 = some (s2, q))
    (hi : indep ops x y p q = true) : ∃ s1', stepB C rid j ops y st = some (s1', q) ∧ stepB C rid i ops x s1' = some (s2, p) := by
  simp only [indep, Bool.and_eq_true] at hi
  obtain ⟨⟨⟨d1, d2⟩, d3⟩, d4⟩ := hi
  have d1 := disjoint_spec d1; have d2 := disjoint_spec d2; have d3 := disjoint_spec d3; have d4 := disjoint_spec d4
  simp only [stepB, Option.map_eq_some_iff, Prod.mk.injEq] at h1 h2
  obtain ⟨⟨e1, l1⟩, a1, a2, a3⟩ := h1
  obtain ⟨⟨e2, l2⟩, b1, b2, b3⟩ := h2
  subst a2 a3 b2 b3
  simp only at d1 d2 d3 d4 a1 b1
  have y0 : effOf C rid j ops y st = some (e2, l2) := by
    refine eff_local b1 (fun s hs => ?_) (fun r hr => ?_)
    · simp only [after]
      rw [setO_other]
      intro he
      exact d1 s (by simp [dstOf, he]) (by simp [hs])
    · simp only [after]
      rw [put_other]
      intro he
      exact d3 r he (by simp [hr])
  have x1 : effOf C rid i ops x (after st y e2) = some (e1, l1) := by
    refine eff_local a1 (fun s hs => ?_) (fun r hr => ?_)
    · simp only [after]
      rw [setO_other]
      intro he
      exact d2 s (by simp [dstOf, he]) hs
    · simp only [after]
      rw [put_other]
      intro he
      exact d4 r he hr
  refine ⟨after st y e2, by simp [stepB, y0], ?_⟩
  simp only [stepB, x1, Option.map_some, Option.some.injEq, Prod.mk.injEq, and_true]
  simp only [after, St.mk.injEq]
  refine ⟨(setO_comm fun s hs hd => ?_).symm, (put_comm fun r hr hb => ?_).symm⟩
  · exact d1 s (by simp [dstOf, hs]) (by simp [dstOf, hd])
  · exact d3 r hr (by simp [hb])
theorem RunL.ahead {rid : Nat} {ops : List Oper} {lg : Nat → Lg} {i : Nat} : ∀ {pre post : List Nat} {st stf : St}, RunL C rid ops lg (pre ++ i :: post) st stf →
    (∀ j ∈ pre, ∀ x y, ops[j]? = some x → ops[i]? = some y → indep ops x y (lg j) (lg i) = true) →
    ∃ o s, ops[i]? = some o ∧ stepB C rid i ops o st = some (s, lg i) ∧ RunL C rid ops lg (pre ++ post) s stf
  | [], post, st, stf, h, _ => h
  | j :: pre, post, st, stf, ⟨x, s, h1, h2, h3⟩, hd => by
    obtain ⟨y, s', k1, k2, k3⟩ := RunL.ahead h3 fun j' hj' => hd j' (by simp [hj'])
    obtain ⟨s1', e1, e2⟩ := step_swap h2 k2 (hd j (by simp) x y h1 k1)
    exact ⟨y, s1', k1, e1, x, s', h1, e2, k3⟩
theorem masks_split : ∀ (l : List Oper) (acc : List Nat), ∃ r, masks l acc = acc ++ r ∧ r.length = l.length
  | [], acc => ⟨[], by simp [masks]⟩
  | o :: l, acc => by
    obtain ⟨r, h1, h2⟩ := masks_split l (acc ++ [(preds o).foldl (fun s p => s ||| 2 ^ p ||| acc.getD p 0) 0])
    exact ⟨_ :: r, by simp only [masks]; rw [h1, List.append_assoc]; rfl, by simp [h2]⟩
theorem masks_at : ∀ (l : List Oper) (acc : List Nat) (j : Nat) (o : Oper), l[j]? = some o →
    (masks l acc).getD (acc.length + j) 0 = (preds o).foldl (fun s p => s ||| 2 ^ p ||| ((masks l acc).take (acc.length + j)).getD p 0) 0
  | [], _, _, _, h => by simp at h
  | x :: l, acc, 0, o, h => by
    simp at h; subst h
    simp only [masks]
    obtain ⟨r, h1, h2⟩ := masks_split l (acc ++ [(preds x).foldl (fun s p => s ||| 2 ^ p ||| acc.getD p 0) 0])
    rw [h1]
    simp [List.getD_eq_getElem?_getD, List.getElem?_append, List.take_append]
  | x :: l, acc, j + 1, o, h => by
    have := masks_at l (acc ++ [(preds x).foldl (fun s p => s ||| 2 ^ p ||| acc.getD p 0) 0]) j o (by simpa using h)
    simp only [masks]
    rw [List.length_append, List.length_singleton, Nat.add_assoc, Nat.add_comm 1 j] at this
    exact this
theorem fold_bit {f : Nat → Nat} {i : Nat} : ∀ (l : List Nat) (s : Nat), Nat.testBit (l.foldl (fun s p => s ||| 2 ^ p ||| f p) s) i = true → Nat.testBit s i = true ∨ ∃ p ∈ l, i = p ∨ Nat.testBit (f p) i = true
  | [], s, h => .inl h
  | p :: l, s, h => by
    rcases fold_bit l _ h with h | ⟨q, h1, h2⟩
    · rw [Nat.testBit_or, Nat.testBit_or, Nat.testBit_two_pow] at h
      simp only [Bool.or_eq_true, decide_eq_true_eq] at h
      rcases h with (h | h) | h
      · exact .inl h
      · exact .inr ⟨p, by simp, .inl h.symm⟩
      · exact .inr ⟨p, by simp, .inr h⟩
    · exact .inr ⟨q, by simp [h1], h2⟩
theorem masks_spec {ops : List Oper} {j : Nat} {o : Oper} (ho : ops[j]? = some o) {i : Nat} (h : Nat.testBit ((masks ops []).getD j 0) i = true) :
    ∃ p ∈ preds o, i = p ∨ Nat.testBit ((masks ops []).getD p 0) i = true := by
  have := masks_at ops [] j o ho
  simp only [List.length_nil, Nat.zero_add] at this
  rw [this] at h
  rcases fold_bit _ _ h with h | ⟨p, h1, h2⟩
  · simp at h
  · refine ⟨p, h1, h2.imp id fun h2 => ?_⟩
    rw [List.getD_eq_getElem?_getD, List.getElem?_take] at h2
    rw [List.getD_eq_getElem?_getD]
    split at h2
    · exact h2
    · simp at h2
theorem preds_spec {o : Oper} {p : Nat} : p ∈ preds o ↔ ∃ e ∈ o.after, Region.binds .any e = true ∧ e.on = p := by
  simp only [preds, List.mem_map, List.mem_filter, Array.mem_toList_iff]
  constructor
  · rintro ⟨e, ⟨h1, h2⟩, h3⟩; exact ⟨e, h1, h2, h3⟩
  · rintro ⟨e, h1, h2, h3⟩; exact ⟨e, ⟨h1, h2⟩, h3⟩
theorem mem_ready {ops : Array Oper} {listed : Array Bool} {i : Nat} (h : i ∈ Region.ready .any ops listed) :
    ∃ o, ops[i]? = some o ∧ listed.getD i true = false ∧ ∀ p ∈ preds o, listed.getD p false = true := by
  simp only [Region.ready, List.mem_filter, List.mem_range, Bool.and_eq_true, Bool.not_eq_true'] at h
  obtain ⟨h1, h2, h3⟩ := h
  have ho : ops[i]? = some ops[i] := by simp [h1]
  refine ⟨ops[i], ho, h2, fun p hp => ?_⟩
  obtain ⟨e, e1, e2, e3⟩ := preds_spec.1 hp
  rw [ho] at h3
  simp only [Option.map_some, Option.getD_some, Array.all_eq_true_iff_forall_mem] at h3
  have := h3 e e1
  simp only [e2, Bool.not_true, Bool.false_or] at this
  rw [← e3]; exact this
theorem ready_of {ops : Array Oper} {listed : Array Bool} {i : Nat} {o : Oper} (ho : ops[i]? = some o) (hl : listed.getD i true = false) (hp : ∀ p ∈ preds o, listed.getD p false = true) :
    i ∈ Region.ready .any ops listed := by
  have hi : i < ops.size := by
    rcases Nat.lt_or_ge i ops.size with h | h
    · exact h
    · simp [Array.getElem?_eq_none h] at ho
  simp only [Region.ready, List.mem_filter, List.mem_range, Bool.and_eq_true, Bool.not_eq_true', ho, Option.map_some, Option.getD_some, Array.all_eq_true_iff_forall_mem]
  refine ⟨hi, hl, fun e he => ?_⟩
  cases hb : Region.binds .any e with
  | false => rfl
  | true => simp [hp e.on (preds_spec.2 ⟨e, he, hb, rfl⟩)]
def left (n : Nat) (listed : Array Bool) : List Nat := (List.range n).filter fun i => !listed.getD i true
theorem getD_set {listed : Array Bool} {i k : Nat} {b : Bool} (hi : listed.getD i true = false) : (listed.setIfInBounds i true).getD k b = if i = k then true else listed.getD k b := by
  have hlt : i < listed.size := by
    rcases Nat.lt_or_ge i listed.size with h | h
    · exact h
    · rw [Array.getD_eq_getD_getElem?, Array.getElem?_eq_none h] at hi; simp at hi
  simp only [Array.getD_eq_getD_getElem?, Array.getElem?_setIfInBounds]
  by_cases h : i = k
  · subst h; simp [hlt]
  · simp [h]
theorem left_split {n : Nat} {listed : Array Bool} {i : Nat} (hn : i < n) (hi : listed.getD i true = false) :
    ∃ pre post, left n listed = pre ++ i :: post ∧ left n (listed.setIfInBounds i true) = pre ++ post ∧ (∀ j ∈ pre, j < i ∧ listed.getD j true = false) := by
  have hr : List.range n = List.range i ++ i :: List.range' (i + 1) (n - (i + 1)) := by
    rw [List.range_eq_range', List.range_eq_range']
    have h1 : n = i + (1 + (n - (i + 1))) := by omega
    conv => lhs; rw [h1]
    rw [List.range'_append_1.symm, Nat.zero_add, Nat.add_comm 1, List.range'_succ]
  refine ⟨(List.range i).filter fun j => !listed.getD j true, (List.range' (i + 1) (n - (i + 1))).filter fun j => !listed.getD j true, ?_, ?_, ?_⟩
  · simp only [left, hr, List.filter_append, List.filter_cons, hi, Bool.not_false, if_true]
  · simp only [left, hr, List.filter_append, List.filter_cons, getD_set hi, if_true, Bool.not_true]
    congr 1
    · refine List.filter_congr fun j hj => ?_
      have : i ≠ j := by have := List.mem_range.1 hj; omega
      simp [this]
    · simp only [Bool.false_eq_true, if_false]
      refine List.filter_congr fun j hj => ?_
      have : i ≠ j := by have := (List.mem_range'_1.1 hj).1; omega
      simp [this]
  · intro j hj
    simp only [List.mem_filter, List.mem_range, Bool.not_eq_true'] at hj
    exact hj
theorem wpAny_runL (hC : ∀ f cal, C.Φ f = some cal → Ctr C.P C.k f cal) {ops : Array Oper} {rid : Nat} {lg : Nat → Lg} {stf : St} {Q : Exit → Act → World → Prop} {n : Nat} {ds : List Deferred}
    (hf : fitsR C.P n ops.toList = true)
    (hI : ∀ i j x y, i < j → ops[i]? = some x → ops[j]? = some y → Nat.testBit ((masks ops.toList []).getD j 0) i = true ∨ indep ops.toList x y (lg i) (lg j) = true)
    (hQ : ∀ a' w' σ' lim', RelX G σ' lim' stf a'.tmps w' → a'.tmps.size = n → a'.defers = ds → Q .normal a' w') :
    ∀ (fuel : Nat) (listed : Array Bool) (st : St) (a : Act) (w : World) (σ : Sig) (lim : Nat → Nat), listed.size = ops.size → (left ops.size listed).length ≤ fuel →
      (∀ p, listed.getD p false = true → ∀ i, Nat.testBit ((masks ops.toList []).getD p 0) i = true → listed.getD i false = true) →
      RunL C rid ops.toList lg (left ops.size listed) st stf → RelX G σ lim st a.tmps w → a.tmps.size = n → a.defers = ds → wpAny C.P .any ops Q fuel listed a w := by
  have hf1 : ∀ o ∈ ops.toList, fitsO C.P n o = true := by
    simp only [fitsR, Bool.and_eq_true, List.all_eq_true] at hf; exact hf.1
  have hf2 : ∀ j o, ops[j]? = some o → ∀ p ∈ preds o, p < j := by
    intro j o ho p hp
    simp only [fitsR, Bool.and_eq_true, List.all_eq_true, List.mem_range] at hf
    have hj : j < ops.toList.length := by
      rcases Nat.lt_or_ge j ops.toList.length with h | h
      · exact h
      · rw [← Array.getElem?_toList, List.getElem?_eq_none h] at ho; simp at ho
    have := hf.2 j hj
    simp only [predsLt, Array.getElem?_toList, ho, List.all_eq_true, Nat.blt_eq] at this
    exact this p hp
  have done : ∀ (listed : Array Bool) (st : St) (a : Act) (w : World) (σ : Sig) (lim : Nat → Nat), listed.size = ops.size → RunL C rid ops.toList lg (left ops.size listed) st stf →
      RelX G σ lim st a.tmps w → a.tmps.size = n → a.defers = ds → Region.ready .any ops listed = [] → Q .normal a w := by
    intro listed st a w σ lim hsz hr h hn hd h0
    have : left ops.size listed = [] := by
      cases hl : left ops.size listed with
      | nil => rfl
      | cons i is =>
        exfalso
        -- the least one is ready
        have hmem : i ∈ left ops.size listed := by rw [hl]; simp
        simp only [left, List.mem_filter, List.mem_range, Bool.not_eq_true'] at hmem
        obtain ⟨m1, m2⟩ := hmem
        have ho : ops[i]? = some ops[i] := by simp [m1]
        have hlow : ∀ p, p < i → listed.getD p false = true := by
          intro p hp
          cases hb : listed.getD p true with
          | true =>
            have hps : p < listed.size := by omega
            simpa [Array.getD_eq_getD_getElem?, hps] using hb
          | false =>
            exfalso
            have hp' : p ∈ left ops.size listed := by
              simp only [left, List.mem_filter, List.mem_range, Bool.not_eq_true']; exact ⟨by omega, hb⟩
            have hs : (left ops.size listed).Pairwise (· < ·) := List.Pairwise.filter _ List.pairwise_lt_range
            rw [hl] at hp' hs
            rcases List.mem_cons.1 hp' with rfl | hp'
            · omega
            · have := (List.pairwise_cons.1 hs).1 p hp'; omega
        have := ready_of ho m2 fun p hp => hlow p (hf2 i _ ho p hp)
        rw [h0] at this; simp at this
    rw [this] at hr
    simp only [RunL] at hr; subst hr
    exact hQ a w σ lim h hn hd
  intro fuel
  induction fuel with
  | zero =>
    intro listed st a w σ lim hsz hl hc hr h hn hd
    have h0 : left ops.size listed = [] := List.length_eq_zero_iff.1 (by omega)
    have hrd : Region.ready .any ops listed = [] := by
      refine List.eq_nil_iff_forall_not_mem.2 fun i hi => ?_
      obtain ⟨o, o1, o2, _⟩ := mem_ready hi
      have : i ∈ left ops.size listed := by
        simp only [left, List.mem_filter, List.mem_range, Bool.not_eq_true']
        refine ⟨?_, o2⟩
        rcases Nat.lt_or_ge i ops.size with h | h
        · exact h
        · simp [Array.getElem?_eq_none h] at o1
      rw [h0] at this; simp at this
    exact ⟨hrd, done listed st a w σ lim hsz hr h hn hd hrd⟩
  | succ fuel ih =>
    intro listed st a w σ lim hsz hl hc hr h hn hd
    refine ⟨done listed st a w σ lim hsz hr h hn hd, fun i hi => ?_⟩
    obtain ⟨o, o1, o2, o3⟩ := mem_ready hi
    have hin : i < ops.size := by
      rcases Nat.lt_or_ge i ops.size with h | h
      · exact h
      · simp [Array.getElem?_eq_none h] at o1
    obtain ⟨pre, post, p1, p2, p3⟩ := left_split hin o2
    have hmask : ∀ k, Nat.testBit ((masks ops.toList []).getD i 0) k = true → listed.getD k false = true := by
      intro k hk
      obtain ⟨p, q1, q2⟩ := masks_spec (by simpa using o1) hk
      rcases q2 with rfl | q2
      · exact o3 _ q1
      · exact hc p (o3 p q1) k q2
    rw [p1] at hr
    obtain ⟨o', s, k1, k2, k3⟩ := hr.ahead (fun j hj x y hx hy => by
      obtain ⟨j1, j2⟩ := p3 j hj
      rcases hI j i x y j1 (by simpa using hx) (by simpa using hy) with hm | hm
      · exfalso
        have := hmask j hm
        have hjs : j < listed.size := by omega
        simp [Array.getD_eq_getD_getElem?, hjs] at this j2
        rw [this] at j2; simp at j2
      · exact hm)
    refine step_sound hC h (by simpa using k1) k2 (by rw [hn]; exact hf1 o' (List.mem_of_getElem? k1)) fun a' w' σ' lim' hR e1 e2 => ?_
    refine ih _ s a' w' σ' lim' (by simpa using hsz) ?_ ?_ (by rw [p2]; exact k3) hR (e1.trans hn) (e2.trans hd)
    · rw [p1] at hl; rw [p2]; simp at hl ⊢; omega
    · intro p hp k hk
      rw [getD_set o2] at hp ⊢
      by_cases hik : i = k
      · simp [hik]
      · simp only [hik, if_false]
        by_cases hip : i = p
        · subst hip; exact hmask k hk
        · simp only [hip, if_false] at hp; exact hc p hp k hk
theorem RelW.draw (h : RelW G σ lim st a.tmps w) : RelW G σ lim st a.tmps { w with drawn := w.drawn + 1 } := by
  have u : Upd G σ lim st w σ lim { w with drawn := w.drawn + 1 } (.tup []) undef [] :=
    { ext := ⟨Nat.le_refl _, fun _ _ _ => rfl, fun _ _ h => h, fun _ _ h => h⟩
      lz := h.lz, same := ⟨rfl, rfl, rfl⟩, sig := fun _ _ => rfl, rest := fun _ _ _ _ _ => ⟨rfl, rfl⟩
      new := by intro r y hl; simp [look] at hl
      inj := by intro r r' y b hl; simp [look] at hl
      own := by intro r y b hl; simp [look] at hl
      keep := fun _ _ _ => rfl, limk := fun _ _ _ => rfl, nofresh := by intro r; simp [look]
      val := ra_nothing, known := by simp [idsOf, idsOfs, Known] }
  have := RelW.step h u none (by simp)
  simpa [setO, Act.put, put_nil] using this
theorem RelX.draw (h : RelX G σ lim st a.tmps w) : RelX G σ lim st a.tmps { w with drawn := w.drawn + 1 } := ⟨h.1.draw, h.2⟩
theorem indepAll_spec {ops : List Oper} {ms : List Nat} {logs : List Lg} (h : indepAll ops ms logs = true) {i j : Nat} {x y : Oper} (hij : i < j) (hx : ops[i]? = some x) (hy : ops[j]? = some y) :
    Nat.testBit (ms.getD j 0) i = true ∨ indep ops x y (logs.getD i ([], [])) (logs.getD j ([], [])) = true := by
  have hj : j < ops.length := by
    rcases Nat.lt_or_ge j ops.length with h | h
    · exact h
    · simp [List.getElem?_eq_none h] at hy
  simp only [indepAll, List.all_eq_true, List.mem_range] at h
  have := h j hj i hij
  rw [Bool.or_eq_true] at this
  refine this.imp id fun h => ?_
  rw [hx, hy] at h
  split at h
  · rename_i x' y' p q h1 h2 h3 h4
    simp only [Option.some.injEq] at h1 h2; subst h1 h2
    simpa [List.getD_eq_getElem?_getD, h3, h4] using h
  · simp at h
theorem region_sound (hC : ∀ f cal, C.Φ f = some cal → Ctr C.P C.k f cal) (hm : C.P.follows .mixedOrders = true) {ops : Array Oper} {rid : Nat} {d : Bool} {n : Nat} {ds : List Deferred} (hf : fitsR C.P n ops.toList = true)
    (h : RelX G σ lim st a.tmps w) (hn : a.tmps.size = n) (hd : a.defers = ds) {stf : St} {lgs : List Lg} (hr : opsB C rid ops.toList ops.toList 0 st = some (stf, lgs))
    (hi : d = true → indepAll ops.toList (masks ops.toList []) lgs = true) {Q : Exit → Act → World → Prop}
    (hQ : ∀ a' w' σ' lim', RelX G σ' lim' stf a'.tmps w' → a'.tmps.size = n → a'.defers = ds → Q .normal a' w') : (Code.region rid ops d).wp C.P Q a w := by
  obtain ⟨h1, h2⟩ := runL_of ops.toList 0 st stf lgs (by simp) hr
  rw [← List.range_eq_range', Array.length_toList] at h2
  simp only [Nat.sub_zero] at h2
  cases d with
  | false =>
    refine wp_region ?_
    refine wpOps_runL hC ?_ hQ _ st a w σ lim h2 h hn hd
    simp only [fitsR, Bool.and_eq_true, List.all_eq_true] at hf; exact hf.1
  | true =>
    refine wp_region_any hm ?_
    have hall : left ops.size (Array.replicate ops.size false) = List.range ops.size := by
      refine List.filter_eq_self.2 fun i hi => ?_
      have := List.mem_range.1 hi
      simp [Array.getD_eq_getD_getElem?, Array.getElem?_replicate, this]
    refine wpAny_runL hC (lg := fun i => lgs.getD i ([], [])) hf (fun i j x y hij hx hy => indepAll_spec (hi rfl) hij (by simpa using hx) (by simpa using hy)) hQ _ _ st a _ σ lim (by simp) (by rw [hall]; simp) ?_ (by rw [hall]; exact h2) h.draw hn hd
    intro p hp
    simp only [Array.getD_eq_getD_getElem?, Array.getElem?_replicate] at hp
    split at hp <;> simp at hp
end Go.Sh
namespace Go.Sh
open Go
variable [Gl]
variable {C : Ctx} {G : Glob} {σ : Sig} {w : World} {lim : Nat → Nat} {st : St} {tmps : Array Value}
theorem RelW.setenv (h : RelW G σ lim st tmps w) {s : Nat} {x : AV} (hx : RA σ w lim x (tmps.getD s undef)) (hk : Known st.tbl (idsOf x)) : RelW G σ lim ⟨setE st.env s x, st.tbl⟩ tmps w :=
  { h with
    env := fun t => by
      simp only [setE]
      cases hb : Nat.beq t s with
      | false => exact h.env t
      | true => rw [beq_eq hb]; exact hx
    known := fun t => by
      simp only [setE]
      cases hb : Nat.beq t s with
      | false => exact h.known t
      | true => exact hk }
theorem isFresh_eq {x : RS} (h : isFresh x = true) : x = .fresh := by cases x <;> simp [isFresh] at h ⊢
theorem RAs_set {cs : List AV} {vs : List Value} {k : Nat} {x : AV} (h : RAs σ w lim cs vs) (hx : ∀ v, vs[k]? = some v → RA σ w lim x v) : RAs σ w lim (cs.set k x) vs := by
  induction cs generalizing vs k with
  | nil => simpa using h
  | cons c cs ih =>
    cases vs with
    | nil => simp [RAs] at h
    | cons v vs =>
      simp only [RAs] at h
      cases k with
      | zero => simp only [List.set_cons_zero, RAs]; exact ⟨hx v (by simp), h.2⟩
      | succ k => simp only [List.set_cons_succ, RAs]; exact ⟨h.1, ih h.2 fun v hv => hx v (by simpa using hv)⟩
theorem RAs_at {cs : List AV} {vs : List Value} {k : Nat} {x : AV} {v : Value} (h : RAs σ w lim cs vs) (hx : cs[k]? = some x) (hv : vs[k]? = some v) : RA σ w lim x v := by
  induction cs generalizing vs k with
  | nil => simp at hx
  | cons c cs ih =>
    cases vs with
    | nil => simp at hv
    | cons u vs =>
      simp only [RAs] at h
      cases k with
      | zero => simp at hx hv; subst hx hv; exact h.1
      | succ k => exact ih h.2 (by simpa using hx) (by simpa using hv)
theorem idsOfs_set {cs : List AV} {k : Nat} {x : AV} : ∀ r ∈ idsOfs (cs.set k x), r ∈ idsOfs cs ∨ r ∈ idsOf x := by
  induction cs generalizing k with
  | nil => intro r hr; simp [idsOfs] at hr
  | cons c cs ih =>
    intro r hr
    cases k with
    | zero => simp only [List.set_cons_zero, idsOfs, List.mem_append] at hr ⊢; rcases hr with hr | hr; exact .inr hr; exact .inl (.inr hr)
    | succ k =>
      simp only [List.set_cons_succ, idsOfs, List.mem_append] at hr ⊢
      rcases hr with hr | hr
      · exact .inl (.inl hr)
      · rcases ih r hr with h | h
        · exact .inl (.inr h)
        · exact .inr h
theorem promote1_sound (h : RelW G σ lim st tmps w) (n : Nat) (p : Pro) : ∃ σ' lim', RelW G σ' lim' (promote1 n st p) tmps w := by
  cases p with
  | slot s t =>
    simp only [promote1]
    split
    · rename_i x hx
      cases hg : (isNil x && isFresh (st.tbl n) && Nat.ble 1 t.size) with
      | false => exact ⟨σ, lim, h⟩
      | true =>
        simp only [Bool.and_eq_true] at hg
        obtain ⟨⟨g1, g2⟩, g3⟩ := hg
        have g1 := isNil_eq g1; have g2 := isFresh_eq g2; have g3 : 0 < t.size := Nat.le_of_ble_eq_true g3
        subst g1
        have hN := h.nilname g2 t g3 false
        have hv := h.env s
        rw [hx] at hv; simp only [RA, RP] at hv
        refine ⟨_, lim, hN.setenv (s := s) (x := .own n) ?_ ?_⟩
        · simp only [RA]; exact ⟨by rw [hv]; simp, none, 0, 0, hv⟩
        · exact known_own (y := .arr t [] false) (by simp only [put_at]; simp)
    · exact ⟨σ, lim, h⟩
  | cell s k t =>
    simp only [promote1]
    split
    · rename_i r hs
      split
      · rename_i cs hr
        split
        · rename_i x hx
          cases hg : (isNil x && isFresh (st.tbl n) && Nat.ble 1 t.size) with
          | false => exact ⟨σ, lim, h⟩
          | true =>
            simp only [Bool.and_eq_true] at hg
            obtain ⟨⟨g1, g2⟩, g3⟩ := hg
            have g1 := isNil_eq g1; have g2 := isFresh_eq g2; have g3 : 0 < t.size := Nat.le_of_ble_eq_true g3
            subst g1
            have hN := h.nilname g2 t g3 false
            have hnr : n ≠ r := by intro e; subst e; rw [hr] at g2; cases g2
            have hr' : (st.tbl.put [(n, .live (.arr t [] false))]) r = .live (.box cs) := by rw [put_one]; simp [hnr, hr]
            obtain ⟨q1, q2⟩ := hN.res r _ hr'
            simp only [cond_true]
            have hkn : Known (st.tbl.put [(n, .live (.arr t [] false))]) (idsOf (.own n)) := by
              intro i hi; simp [idsOf] at hi; subst hi; rw [put_at]; simp
            have := hN.reword (r := r) (y := .box (cs.set k (.own n))) hr' ?_ ?_
            · refine ⟨fun s => if s = n then Value.slice none 0 0 else σ s, lim, ?_⟩
              have e : st.tbl.put [(n, .live (.arr t [] false)), (r, .live (.box (cs.set k (.own n))))] = (st.tbl.put [(n, .live (.arr t [] false))]).put [(r, .live (.box (cs.set k (.own n))))] := by
                rw [show [(n, RS.live (.arr t [] false)), (r, .live (.box (cs.set k (.own n))))] = [(n, RS.live (.arr t [] false))] ++ [(r, .live (.box (cs.set k (.own n))))] from rfl, put_append]
                exact put_comm (u := [(r, .live (.box (cs.set k (.own n))))]) (v := [(n, RS.live (.arr t [] false))]) (by simp; exact fun e => hnr e.symm)
              rw [e]
              exact this
            · intro i hi
              simp only [resIds] at hi
              rcases idsOfs_set i hi with hi | hi
              · exact q2 i hi
              · exact hkn i hi
            · simp only [RR] at q1 ⊢
              obtain ⟨b, vs, T, e1, e2, e3, e4⟩ := q1
              refine ⟨b, vs, T, e1, e2, RAs_set e3 fun v hv => ?_, e4⟩
              have := RAs_at e3 hx hv
              simp only [RA, RP] at this
              simp only [RA]
              exact ⟨by rw [this]; simp, none, 0, 0, this⟩
        · exact ⟨σ, lim, h⟩
      · exact ⟨σ, lim, h⟩
    · exact ⟨σ, lim, h⟩
  | «show» s =>
    simp only [promote1]
    split
    · rename_i r hs
      split
      · rename_i t xs sh hr
        obtain ⟨lim', h1, _, _⟩ := RelW.show_one h hr
        exact ⟨σ, lim', h1⟩
      · exact ⟨σ, lim, h⟩
    · exact ⟨σ, lim, h⟩
  | see s =>
    simp only [promote1]
    split
    · rename_i r hs
      split
      · rename_i t xs sh hr
        obtain ⟨lim', h1, _, h2⟩ := RelW.show_one h hr
        refine ⟨σ, lim', h1.setenv ?_ ?_⟩
        · have hv := h.env s
          rw [hs] at hv; simp only [RA] at hv
          simp only [RA]; rw [hv.1]; exact h2
        · intro i hi; simp [idsOf] at hi
      · exact ⟨σ, lim, h⟩
    · exact ⟨σ, lim, h⟩
  | seen s k =>
    simp only [promote1]
    split
    · rename_i r hs
      split
      · rename_i cs hr
        split
        · rename_i n hc
          split
          · rename_i t xs sh hn
            obtain ⟨lim', h1, _, h2⟩ := RelW.show_one h hn
            have hnr : r ≠ n := by intro e; subst e; rw [hr] at hn; cases hn
            have hr' : (st.tbl.put [(n, .live (.arr t xs true))]) r = .live (.box cs) := by rw [put_one]; simp [Ne.symm hnr, hr]
            obtain ⟨q1, q2⟩ := h1.res r _ hr'
            have := h1.reword (r := r) (y := .box (cs.set k (.val (.sl t xs)))) hr' ?_ ?_
            · refine ⟨σ, lim', ?_⟩
              rw [show [(r, RS.live (.box (cs.set k (.val (.sl t xs))))), (n, .live (.arr t xs true))] = [(r, RS.live (.box (cs.set k (.val (.sl t xs)))))] ++ [(n, .live (.arr t xs true))] from rfl, put_append]
              exact this
            · intro i hi
              simp only [resIds] at hi
              rcases idsOfs_set i hi with hi | hi
              · exact q2 i hi
              · simp [idsOf] at hi
            · simp only [RR] at q1 ⊢
              obtain ⟨b, vs, T, e1, e2, e3, e4⟩ := q1
              refine ⟨b, vs, T, e1, e2, RAs_set e3 fun v hv => ?_, e4⟩
              have := RAs_at e3 hc hv
              simp only [RA] at this
              simp only [RA]
              rw [this.1]; exact h2
          · exact ⟨σ, lim, h⟩
        · exact ⟨σ, lim, h⟩
      · exact ⟨σ, lim, h⟩
    · exact ⟨σ, lim, h⟩
theorem promote1_exp (hL : Low G st) {n : Nat} (hn : n < hidB) (p : Pro) : ∃ env' u, promote1 n st p = ⟨env', st.tbl.put u⟩ ∧ promote1 n ⟨st.env, exp st.tbl⟩ p = ⟨env', (exp st.tbl).put u⟩ ∧
    (∀ p ∈ u, p.1 < hidB ∧ noNest p.2 = true) ∧ Low G ⟨env', st.tbl.put u⟩ := by
  have same : ∃ env' u, st = ⟨env', st.tbl.put u⟩ ∧ (⟨st.env, exp st.tbl⟩ : St) = ⟨env', (exp st.tbl).put u⟩ ∧ (∀ p ∈ u, p.1 < hidB ∧ noNest p.2 = true) ∧ Low G ⟨env', st.tbl.put u⟩ :=
    ⟨st.env, [], rfl, rfl, (by intro p hp; cases hp), hL⟩
  cases p with
  | slot s t =>
    simp only [promote1]
    cases hs : st.env s with
    | val q =>
      cases q with
      | v x =>
        simp only [exp_low hn]
        cases hg : (isNil x && isFresh (st.tbl n) && Nat.ble 1 t.size) with
        | false => simpa using same
        | true =>
          simp only [cond_true]
          refine ⟨_, _, rfl, rfl, ?_, ?_, ?_, hL.pins⟩
          · intro p hp; simp only [List.mem_singleton] at hp; subst hp; exact ⟨hn, rfl⟩
          · intro s' r hr
            simp only [setE] at hr
            cases hb : Nat.beq s' s with
            | true => rw [hb] at hr; simp only [cond_true, idsOf, List.mem_singleton] at hr; subst hr; exact hn
            | false => rw [hb] at hr; exact hL.env s' r hr
          · intro r cs hr
            simp only at hr
            rw [put_one] at hr
            split at hr
            · cases hr
            · exact hL.box r cs hr
      | sl => simpa using same
    | _ => simpa using same
  | cell s k t =>
    simp only [promote1]
    cases hs : st.env s with
    | bx r j =>
      cases j with
      | succ j => simpa using same
      | zero =>
        have hr : r < hidB := hL.env s r (by rw [hs]; simp [idsOf])
        simp only [exp_low hr]
        cases hT : st.tbl r with
        | live y =>
          cases y with
          | box cs =>
            simp only
            cases hc : cs[k]? with
            | some c =>
              cases c with
              | val q =>
                cases q with
                | v x =>
                  simp only [exp_low hn]
                  cases hg : (isNil x && isFresh (st.tbl n) && Nat.ble 1 t.size) with
                  | false => simpa using same
                  | true =>
                    simp only [cond_true]
                    refine ⟨_, _, rfl, rfl, ?_, hL.env, ?_, hL.pins⟩
                    · intro p hp
                      simp only [List.mem_cons, List.not_mem_nil, or_false] at hp
                      rcases hp with rfl | rfl
                      · exact ⟨hn, rfl⟩
                      · exact ⟨hr, rfl⟩
                    · intro r' cs' hr'
                      simp only at hr'
                      rw [put_at] at hr'
                      split at hr'
                      · cases hr'
                      · rw [put_one] at hr'
                        split at hr'
                        · cases hr'
                          intro q hq
                          rcases idsOfs_set q hq with hq | hq
                          · exact hL.box r cs hT q hq
                          · simp only [idsOf, List.mem_singleton] at hq; subst hq; exact hn
                        · exact hL.box r' cs' hr'
                | sl => simpa using same
              | _ => simpa using same
            | none => simpa using same
          | _ => simpa using same
        | _ => simpa using same
    | _ => simpa using same
  | «show» s =>
    simp only [promote1]
    cases hs : st.env s with
    | own r =>
      have hr : r < hidB := hL.env s r (by rw [hs]; simp [idsOf])
      simp only [exp_low hr]
      cases hT : st.tbl r with
      | live y =>
        cases y with
        | arr t xs sh =>
          refine ⟨_, _, rfl, rfl, ?_, hL.env, ?_, hL.pins⟩
          · intro p hp; simp only [List.mem_singleton] at hp; subst hp; exact ⟨hr, rfl⟩
          · intro r' cs hr'
            simp only at hr'
            rw [put_one] at hr'
            split at hr'
            · cases hr'
            · exact hL.box r' cs hr'
        | _ => simpa using same
      | _ => simpa using same
    | _ => simpa using same
  | see s =>
    simp only [promote1]
    cases hs : st.env s with
    | own r =>
      have hr : r < hidB := hL.env s r (by rw [hs]; simp [idsOf])
      simp only [exp_low hr]
      cases hT : st.tbl r with
      | live y =>
        cases y with
        | arr t xs sh =>
          refine ⟨_, _, rfl, rfl, ?_, ?_, ?_, hL.pins⟩
          · intro p hp; simp only [List.mem_singleton] at hp; subst hp; exact ⟨hr, rfl⟩
          · intro s' q hq
            simp only [setE] at hq
            cases hb : Nat.beq s' s with
            | true => rw [hb] at hq; simp [idsOf] at hq
            | false => rw [hb] at hq; exact hL.env s' q hq
          · intro r' cs hr'
            simp only at hr'
            rw [put_one] at hr'
            split at hr'
            · cases hr'
            · exact hL.box r' cs hr'
        | _ => simpa using same
      | _ => simpa using same
    | _ => simpa using same
  | seen s k =>
    simp only [promote1]
    cases hs : st.env s with
    | bx r j =>
      cases j with
      | succ j => simpa using same
      | zero =>
        have hr : r < hidB := hL.env s r (by rw [hs]; simp [idsOf])
        simp only [exp_low hr]
        cases hT : st.tbl r with
        | live y =>
          cases y with
          | box cs =>
            simp only
            cases hc : cs[k]? with
            | some c =>
              cases c with
              | own m =>
                have hm : m < hidB := hL.box r cs hT m (idsOfs_mem (List.mem_of_getElem? hc) (by simp [idsOf]))
                simp only [exp_low hm]
                cases hM : st.tbl m with
                | live y =>
                  cases y with
                  | arr t xs sh =>
                    refine ⟨_, _, rfl, rfl, ?_, hL.env, ?_, hL.pins⟩
                    · intro p hp
                      simp only [List.mem_cons, List.not_mem_nil, or_false] at hp
                      rcases hp with rfl | rfl
                      · exact ⟨hr, rfl⟩
                      · exact ⟨hm, rfl⟩
                    · intro r' cs' hr'
                      simp only at hr'
                      rw [put_at] at hr'
                      split at hr'
                      · cases hr'
                        rename_i e; subst e
                        intro q hq
                        rcases idsOfs_set q hq with hq | hq
                        · exact hL.box r cs hT q hq
                        · simp [idsOf] at hq
                      · rw [put_one] at hr'
                        split at hr'
                        · cases hr'
                        · exact hL.box r' cs' hr'
                  | _ => simpa using same
                | _ => simpa using same
              | _ => simpa using same
            | none => simpa using same
          | _ => simpa using same
        | _ => simpa using same
    | _ => simpa using same
theorem promote_sound : ∀ (l : List Pro) (n : Nat) {lim : Nat → Nat} {σ : Sig} {st : St}, n + l.length ≤ hidB → RelX G σ lim st tmps w → ∃ σ' lim', RelX G σ' lim' (promote n l st) tmps w
  | [], n, lim, σ, st, _, h => ⟨σ, lim, h⟩
  | p :: l, n, lim, σ, st, hn, h => by
    simp only [List.length_cons] at hn
    obtain ⟨env', u, e1, e2, e3, e4⟩ := promote1_exp h.2 (show n < hidB by omega) p
    obtain ⟨σ1, lim1, h1⟩ := promote1_sound h.1 n p
    rw [e2] at h1
    have h2 := RelX.of_put h1 e3 e4
    rw [← e1] at h2
    exact promote_sound l (n + 1) (by omega) h2
theorem fwd_mem {m : List (Nat × Nat)} {r n : Nat} (h : fwd m r = some n) : (r, n) ∈ m := by
  induction m with
  | nil => simp [fwd] at h
  | cons p m ih =>
    obtain ⟨a, b⟩ := p
    simp only [fwd] at h
    cases hb : Nat.beq a r with
    | true => rw [hb] at h; simp at h; rw [beq_eq hb, h]; simp
    | false => rw [hb] at h; simp at h; simp [ih h]
theorem bwd_of {m : List (Nat × Nat)} {r n : Nat} (hn : (m.map (·.2)).Nodup) (h : (r, n) ∈ m) : bwd m n = some r := by
  induction m with
  | nil => simp at h
  | cons p m ih =>
    obtain ⟨a, b⟩ := p
    simp only [List.map_cons, List.nodup_cons] at hn
    simp only [bwd]
    rcases List.mem_cons.1 h with e | h
    · cases e; simp [beq_self]
    · have : b ≠ n := by rintro rfl; exact hn.1 (List.mem_map.2 ⟨(r, b), h, rfl⟩)
      rw [beq_ne this]; exact ih hn.2 h
theorem nodupB_spec : ∀ {l : List Nat}, nodupB l = true → l.Nodup
  | [], _ => by simp
  | a :: l, h => by
    simp only [nodupB, Bool.and_eq_true, Bool.not_eq_true', List.any_eq_false] at h
    refine List.nodup_cons.2 ⟨fun hm => h.1 a hm (beq_self a), nodupB_spec h.2⟩
theorem fst_inj {m : List (Nat × Nat)} (hn : (m.map (·.1)).Nodup) {a b c : Nat} (h : (a, b) ∈ m) (k : (a, c) ∈ m) : b = c := by
  induction m with
  | nil => simp at h
  | cons p m ih =>
    simp only [List.map_cons, List.nodup_cons] at hn
    rcases List.mem_cons.1 h with e | h <;> rcases List.mem_cons.1 k with e' | k
    · rw [← e] at e'; cases e'; rfl
    · exact absurd (List.mem_map.2 ⟨_, k, rfl⟩) (by rw [← e] at hn; exact hn.1)
    · exact absurd (List.mem_map.2 ⟨_, h, rfl⟩) (by rw [← e'] at hn; exact hn.1)
    · exact ih hn.2 h k
theorem tblOf_renT {m : List (Nat × Nat)} {T : Tbl} : ∀ {l : List (Nat × Nat)} {n : Nat}, (l.map (·.2)).Nodup → (∀ a, (a, n) ∈ l → tblOf (renT m T l) n = renRS m (T a)) ∧ ((∀ a, (a, n) ∉ l) → tblOf (renT m T l) n = .fresh)
  | [], n, _ => by simp [renT, tblOf]
  | (a, b) :: l, n, hn => by
    simp only [List.map_cons, List.nodup_cons] at hn
    obtain ⟨h1, h2⟩ := tblOf_renT (m := m) (T := T) (n := n) hn.2
    simp only [renT, tblOf]
    constructor
    · intro c hc
      rcases List.mem_cons.1 hc with e | hm
      · cases e; rw [beq_self]; rfl
      · have : n ≠ b := by rintro rfl; exact hn.1 (List.mem_map.2 ⟨(c, n), hm, rfl⟩)
        rw [beq_ne this.symm]; exact h1 c hm
    · intro hc
      have : n ≠ b := by rintro rfl; exact hc a (by simp)
      rw [beq_ne this.symm]; exact h2 fun c hm => hc c (by simp [hm])
mutual
theorem ren_ids {m : List (Nat × Nat)} : (x : AV) → ∀ n ∈ idsOf (ren m x), ∃ r ∈ idsOf x, fwd m r = some n
  | .own r, n, hn => by
    simp only [ren] at hn
    split at hn
    · rename_i k hk; simp [idsOf] at hn ⊢; rw [hn]; exact hk
    · simp [idsOf] at hn
  | .bx r _, n, hn => by
    simp only [ren] at hn
    split at hn
    · rename_i k hk; simp [idsOf] at hn ⊢; rw [hn]; exact hk
    · simp [idsOf] at hn
  | .el r _ _ _, n, hn => by
    simp only [ren] at hn
    split at hn
    · rename_i k hk; simp [idsOf] at hn ⊢; rw [hn]; exact hk
    · simp [idsOf] at hn
  | .sub r _ _ _, n, hn => by
    simp only [ren] at hn
    split at hn
    · rename_i k hk; simp [idsOf] at hn ⊢; rw [hn]; exact hk
    · simp [idsOf] at hn
  | .me r _, n, hn => by
    simp only [ren] at hn
    split at hn
    · rename_i k hk; simp [idsOf] at hn ⊢; rw [hn]; exact hk
    · simp [idsOf] at hn
  | .agg cs, n, hn => by simp only [ren, idsOf] at hn ⊢; exact rens_ids cs n hn
  | .tup cs, n, hn => by simp only [ren, idsOf] at hn ⊢; exact rens_ids cs n hn
  | .clo _ cs, n, hn => by simp only [ren, idsOf] at hn ⊢; exact rens_ids cs n hn
  | .dead, n, hn => by simp [ren, idsOf] at hn
  | .val p, n, hn => by simp [ren, idsOf] at hn
  | .sp ps, n, hn => by simp [ren, idsOf] at hn
  | .fn f, n, hn => by simp [ren, idsOf] at hn
  | .ns t xs, n, hn => by simp [ren, idsOf] at hn
theorem rens_ids {m : List (Nat × Nat)} : (l : List AV) → ∀ n ∈ idsOfs (rens m l), ∃ r ∈ idsOfs l, fwd m r = some n
  | [], n, hn => by simp [rens, idsOfs] at hn
  | x :: l, n, hn => by
    simp only [rens, idsOfs, List.mem_append] at hn ⊢
    rcases hn with hn | hn
    · obtain ⟨r, h1, h2⟩ := ren_ids x n hn; exact ⟨r, .inl h1, h2⟩
    · obtain ⟨r, h1, h2⟩ := rens_ids l n hn; exact ⟨r, .inr h1, h2⟩
end
mutual
theorem ren_ra {m : List (Nat × Nat)} {σ' : Sig} (hσ : ∀ r n, fwd m r = some n → σ' n = σ r) : (x : AV) → (v : Value) → RA σ w lim x v → RA σ' w lim (ren m x) v
  | .own r, v, h => by
    simp only [ren]
    split
    · rename_i k hk; simp only [RA] at h ⊢; rw [hσ _ _ hk]; exact h
    · simp [RA]
  | .bx r _, v, h => by
    simp only [ren]
    split
    · rename_i k hk; simp only [RA] at h ⊢; rw [hσ _ _ hk]; exact h
    · simp [RA]
  | .el r _ _ _, v, h => by
    simp only [ren]
    split
    · rename_i k hk; simp only [RA] at h ⊢; rw [hσ _ _ hk]; exact h
    · simp [RA]
  | .sub r _ _ _, v, h => by
    simp only [ren]
    split
    · rename_i k hk; simp only [RA] at h ⊢; rw [hσ _ _ hk]; exact h
    · simp [RA]
  | .me r _, v, h => by
    simp only [ren]
    split
    · rename_i k hk; simp only [RA] at h ⊢; rw [hσ _ _ hk]; exact h
    · simp [RA]
  | .agg cs, v, h => by simp only [ren, RA] at h ⊢; obtain ⟨vs, e, h⟩ := h; exact ⟨vs, e, rens_ra hσ cs vs h⟩
  | .tup cs, v, h => by simp only [ren, RA] at h ⊢; obtain ⟨vs, e, h⟩ := h; exact ⟨vs, e, rens_ra hσ cs vs h⟩
  | .clo _ cs, v, h => by simp only [ren, RA] at h ⊢; obtain ⟨vs, e, h⟩ := h; exact ⟨vs, e, rens_ra hσ cs vs h⟩
  | .dead, v, h => by simp [ren, RA]
  | .val p, v, h => by simpa only [ren, RA] using h
  | .sp ps, v, h => by simpa only [ren, RA] using h
  | .fn f, v, h => by simpa only [ren, RA] using h
  | .ns t xs, v, h => by simpa only [ren, RA] using h
theorem rens_ra {m : List (Nat × Nat)} {σ' : Sig} (hσ : ∀ r n, fwd m r = some n → σ' n = σ r) : (l : List AV) → (vs : List Value) → RAs σ w lim l vs → RAs σ' w lim (rens m l) vs
  | [], [], h => by simp [rens, RAs]
  | [], _ :: _, h => by simp [RAs] at h
  | x :: l, [], h => by simp [RAs] at h
  | x :: l, v :: vs, h => by simp only [rens, RAs] at h ⊢; exact ⟨ren_ra hσ x v h.1, rens_ra hσ l vs h.2⟩
end
theorem envOf_pick {m : List (Nat × Nat)} {e : Nat → AV} {s : Nat} : ∀ (l : List Nat), envOf (renE m (pick l e)) s = .dead ∨ envOf (renE m (pick l e)) s = ren m (e s)
  | [] => .inl rfl
  | a :: l => by
    simp only [pick, renE, envOf]
    cases hb : Nat.beq s a with
    | true => rw [beq_eq hb]; exact .inr rfl
    | false => exact envOf_pick l
theorem rename_sound (h : RelW G σ lim st tmps w) {m : List (Nat × Nat)} (h1 : (m.map (·.1)).Nodup) (h2 : (m.map (·.2)).Nodup) (hp : ∀ p ∈ G.pins, fwd m p.1 = some p.1)
    (hN : ∀ r n (t : Ty) (xss : List (List t.den)) o, (r, n) ∈ m → st.tbl r = .live (.nest t xss o) → ∀ i, i < xss.length → (hid r i, hid n i) ∈ m) (live : List Nat) :
    ∃ σ', RelW G σ' lim ⟨envOf (renE m (pick live st.env)), tblOf (renT m st.tbl m)⟩ tmps w := by
  let σ' : Sig := fun n => match bwd m n with | some r => σ r | none => undef
  have hσ : ∀ r n, fwd m r = some n → σ' n = σ r := by
    intro r n hf
    simp only [σ', bwd_of h2 (fwd_mem hf)]
  have hσ' : ∀ r n, (r, n) ∈ m → σ' n = σ r := by
    intro r n hm
    simp only [σ', bwd_of h2 hm]
  have ht : ∀ r n, (r, n) ∈ m → tblOf (renT m st.tbl m) n = renRS m (st.tbl r) := fun r n hm => (tblOf_renT h2).1 r hm
  have hlive : ∀ n, tblOf (renT m st.tbl m) n ≠ .fresh → ∃ r, (r, n) ∈ m ∧ tblOf (renT m st.tbl m) n = renRS m (st.tbl r) := by
    intro n hn
    by_cases hex : ∃ r, (r, n) ∈ m
    · obtain ⟨r, hr⟩ := hex; exact ⟨r, hr, ht r n hr⟩
    · exact absurd ((tblOf_renT h2).2 fun a ha => hex ⟨a, ha⟩) hn
  have hknown : ∀ ids : List Nat, Known st.tbl ids → ∀ ns : List Nat, (∀ n ∈ ns, ∃ r ∈ ids, fwd m r = some n) → Known (tblOf (renT m st.tbl m)) ns := by
    intro ids hk ns hn n hin
    obtain ⟨r, hr, hf⟩ := hn n hin
    rw [ht r n (fwd_mem hf)]
    have := hk r hr
    cases hx : st.tbl r with
    | fresh => exact absurd hx this
    | gone => simp [renRS]
    | live x => cases x <;> simp [renRS]
  have hl2 : ∀ x, isLive (renRS m x) = isLive x := by intro x; cases x with | live y => cases y <;> rfl | _ => rfl
  have hliv : ∀ n, isLive (tblOf (renT m st.tbl m) n) = true → ∃ r, (r, n) ∈ m ∧ isLive (st.tbl r) = true := by
    intro n hn
    obtain ⟨r, h3, h4⟩ := hlive n (by intro e; rw [e] at hn; cases hn)
    exact ⟨r, h3, by rw [h4, hl2] at hn; exact hn⟩
  refine ⟨σ', { h with env := ?_, known := ?_, res := ?_, inj := ?_, own := ?_, pin := ?_ }⟩
  · intro s
    rcases envOf_pick (m := m) (e := st.env) (s := s) live with e | e
    · simp only [e, RA]
    · simp only [e]; exact ren_ra hσ _ _ (h.env s)
  · intro s
    rcases envOf_pick (m := m) (e := st.env) (s := s) live with e | e
    · simp [e, idsOf, Known]
    · simp only [e]; exact hknown _ (h.known s) _ (ren_ids _)
  · intro n x hx
    simp only at hx ⊢
    obtain ⟨r, h3, h4⟩ := hlive n (by rw [hx]; simp)
    rw [h4] at hx
    cases hy : st.tbl r with
    | fresh => rw [hy] at hx; simp [renRS] at hx
    | gone => rw [hy] at hx; simp [renRS] at hx
    | live y =>
      obtain ⟨q1, q2⟩ := h.res r y hy
      rw [hy] at hx
      cases y with
      | box cs =>
        simp only [renRS, RS.live.injEq] at hx; subst hx
        simp only [RR] at q1 ⊢
        obtain ⟨b, vs, T, e1, e2, e3, e4⟩ := q1
        exact ⟨⟨b, vs, T, by rw [hσ' r n h3]; exact e1, e2, rens_ra hσ _ _ e3, e4⟩, hknown _ q2 _ (by simp only [resIds]; exact rens_ids cs)⟩
      | arr t xs sh =>
        simp only [renRS, RS.live.injEq] at hx; subst hx
        refine ⟨?_, by simp [resIds, Known]⟩
        simp only [RR] at q1 ⊢
        rw [hσ' r n h3]; exact q1
      | nest t xss o =>
        simp only [renRS, RS.live.injEq] at hx; subst hx
        have hN := hN r n t xss o h3 hy
        refine ⟨?_, fun q hq => ?_⟩
        · simp only [RR] at q1 ⊢
          obtain ⟨h0, b, off, cap, vs, U, fz, s1, s2, s3, s4, s5, s6, s7⟩ := q1
          exact ⟨h0, b, off, cap, vs, U, fz, by rw [hσ' r n h3]; exact s1, s2, s3, s4, s5, fun i hi ho => by rw [hσ' _ _ (hN i hi)]; exact s6 i hi ho, s7⟩
        · obtain ⟨i, hi, ho, rfl⟩ := mem_nestIds.1 hq
          rw [ht _ _ (hN i hi)]
          have := q2 _ (mem_nestIds.2 ⟨i, hi, ho, rfl⟩)
          cases hx : st.tbl (hid r i) with
          | fresh => exact absurd hx this
          | gone => simp [renRS]
          | live x => cases x <;> simp [renRS]
  · intro n n' b l1 l2 b1 b2
    obtain ⟨r, m1, k1⟩ := hliv n l1
    obtain ⟨r', m2, k2⟩ := hliv n' l2
    rw [hσ' r n m1] at b1
    rw [hσ' r' n' m2] at b2
    have := h.inj r r' b k1 k2 b1 b2
    subst this
    exact fst_inj h1 m1 m2
  · intro n b l1 b1
    obtain ⟨r, m1, k1⟩ := hliv n l1
    rw [hσ' r n m1] at b1
    exact h.own r b k1 b1
  · intro p hpp
    obtain ⟨e1, e2⟩ := h.pin p hpp
    refine ⟨by rw [hσ _ _ (hp p hpp)]; exact e1, ?_⟩
    simp only
    rw [ht _ _ (fwd_mem (hp p hpp))]
    cases hx : st.tbl p.1 with
    | fresh => exact absurd hx e2
    | gone => simp [renRS]
    | live x => cases x <;> simp [renRS]
def hid1 (T : Tbl) (a b : Nat) : List (Nat × Nat) := match T a with
  | .live (.nest _ xss _) => (List.range xss.length).map fun i => (hid a i, hid b i)
  | _ => []
def hids (T : Tbl) : List (Nat × Nat) → List (Nat × Nat)
  | [] => []
  | (a, b) :: m => hid1 T a b ++ hids T m
theorem mem_hid1 {T : Tbl} {a b : Nat} {p : Nat × Nat} : p ∈ hid1 T a b ↔ ∃ (t : Ty) (xss : List (List t.den)) (o : Option Nat) (i : Nat), T a = .live (.nest t xss o) ∧ i < xss.length ∧ p = (hid a i, hid b i) := by
  unfold hid1
  split
  · rename_i t xss o h
    simp only [List.mem_map, List.mem_range]
    constructor
    · rintro ⟨i, hi, rfl⟩; exact ⟨t, xss, o, i, h, hi, rfl⟩
    · rintro ⟨t', xss', o', i, h', hi, rfl⟩
      rw [h] at h'; cases h'
      exact ⟨i, hi, rfl⟩
  · rename_i h
    simp only [List.not_mem_nil, false_iff]
    rintro ⟨t, xss, o, i, h', _, _⟩
    exact h t xss o h'
theorem mem_hids {T : Tbl} {p : Nat × Nat} : ∀ {m : List (Nat × Nat)}, p ∈ hids T m ↔ ∃ a b, (a, b) ∈ m ∧ p ∈ hid1 T a b
  | [] => by simp [hids]
  | (a, b) :: m => by
    simp only [hids, List.mem_append, mem_hids (m := m), List.mem_cons, Prod.mk.injEq]
    constructor
    · rintro (h | ⟨c, d, h1, h2⟩)
      · exact ⟨a, b, .inl ⟨rfl, rfl⟩, h⟩
      · exact ⟨c, d, .inr h1, h2⟩
    · rintro ⟨c, d, (⟨rfl, rfl⟩ | h1), h2⟩
      · exact .inl h2
      · exact .inr ⟨c, d, h1, h2⟩
theorem hid1_nodup {T : Tbl} {a b : Nat} : ((hid1 T a b).map (·.1)).Nodup ∧ ((hid1 T a b).map (·.2)).Nodup := by
  unfold hid1
  split
  · simp only [List.map_map]
    constructor
    · refine List.pairwise_map.2 (List.nodup_range.imp fun hne => ?_)
      exact hid_lt hne
    · refine List.pairwise_map.2 (List.nodup_range.imp fun hne => ?_)
      exact hid_lt hne
  · simp
theorem hids_nodup {T : Tbl} : ∀ {m : List (Nat × Nat)}, (m.map (·.1)).Nodup → (m.map (·.2)).Nodup → (∀ p ∈ m, p.1 < hidB ∧ p.2 < hidB) → ((hids T m).map (·.1)).Nodup ∧ ((hids T m).map (·.2)).Nodup
  | [], _, _, _ => by simp [hids]
  | (a, b) :: m, h1, h2, h3 => by
    simp only [List.map_cons, List.nodup_cons] at h1 h2
    obtain ⟨i1, i2⟩ := hids_nodup (T := T) h1.2 h2.2 (fun p hp => h3 p (List.mem_cons_of_mem _ hp))
    obtain ⟨j1, j2⟩ := hid1_nodup (T := T) (a := a) (b := b)
    have hab := h3 (a, b) (List.mem_cons_self ..)
    simp only [hids, List.map_append, List.nodup_append]
    refine ⟨⟨j1, i1, ?_⟩, ⟨j2, i2, ?_⟩⟩
    · intro x hx y hy e
      subst e
      obtain ⟨p, hp, rfl⟩ := List.mem_map.1 hx
      obtain ⟨q, hq, e⟩ := List.mem_map.1 hy
      obtain ⟨t, xss, o, i, _, _, rfl⟩ := mem_hid1.1 hp
      obtain ⟨c, d, hcd, hq⟩ := mem_hids.1 hq
      obtain ⟨t', xss', o', i', _, _, rfl⟩ := mem_hid1.1 hq
      have := (hid_inj (h3 (c, d) (List.mem_cons_of_mem _ hcd)).1 hab.1 e).1
      subst this
      exact h1.1 (List.mem_map.2 ⟨_, hcd, rfl⟩)
    · intro x hx y hy e
      subst e
      obtain ⟨p, hp, rfl⟩ := List.mem_map.1 hx
      obtain ⟨q, hq, e⟩ := List.mem_map.1 hy
      obtain ⟨t, xss, o, i, _, _, rfl⟩ := mem_hid1.1 hp
      obtain ⟨c, d, hcd, hq⟩ := mem_hids.1 hq
      obtain ⟨t', xss', o', i', _, _, rfl⟩ := mem_hid1.1 hq
      have := (hid_inj (h3 (c, d) (List.mem_cons_of_mem _ hcd)).2 hab.2 e).1
      subst this
      exact h2.1 (List.mem_map.2 ⟨_, hcd, rfl⟩)
theorem fwd_append {m h : List (Nat × Nat)} {r : Nat} (hh : ∀ p ∈ h, p.1 ≠ r) : fwd (m ++ h) r = fwd m r := by
  induction m with
  | nil =>
    induction h with
    | nil => rfl
    | cons p h ih =>
      obtain ⟨a, b⟩ := p
      simp only [List.nil_append, fwd]
      rw [beq_ne (hh (a, b) (List.mem_cons_self ..))]
      exact ih fun q hq => hh q (List.mem_cons_of_mem _ hq)
  | cons p m ih =>
    obtain ⟨a, b⟩ := p
    simp only [List.cons_append, fwd, ih]
mutual
theorem ren_congr {m m' : List (Nat × Nat)} : (x : AV) → (∀ r ∈ idsOf x, fwd m' r = fwd m r) → ren m' x = ren m x
  | .own r, h => by simp only [ren, h r (by simp [idsOf])]
  | .bx r _, h => by simp only [ren, h r (by simp [idsOf])]
  | .el r _ _ _, h => by simp only [ren, h r (by simp [idsOf])]
  | .sub r _ _ _, h => by simp only [ren, h r (by simp [idsOf])]
  | .me r _, h => by simp only [ren, h r (by simp [idsOf])]
  | .agg cs, h => by simp only [ren]; rw [rens_congr cs (by simpa [idsOf] using h)]
  | .tup cs, h => by simp only [ren]; rw [rens_congr cs (by simpa [idsOf] using h)]
  | .clo _ cs, h => by simp only [ren]; rw [rens_congr cs (by simpa [idsOf] using h)]
  | .dead, _ => rfl
  | .val _, _ => rfl
  | .sp _, _ => rfl
  | .ns _ _, _ => rfl
  | .fn _, _ => rfl
theorem rens_congr {m m' : List (Nat × Nat)} : (l : List AV) → (∀ r ∈ idsOfs l, fwd m' r = fwd m r) → rens m' l = rens m l
  | [], _ => rfl
  | x :: l, h => by
    simp only [idsOfs, List.mem_append] at h
    simp only [rens]
    rw [ren_congr x (fun r hr => h r (.inl hr)), rens_congr l (fun r hr => h r (.inr hr))]
end
theorem renE_congr {m m' : List (Nat × Nat)} {e : Nat → AV} : ∀ (l : List Nat), (∀ s, ∀ r ∈ idsOf (e s), fwd m' r = fwd m r) → renE m' (pick l e) = renE m (pick l e)
  | [], _ => rfl
  | s :: l, h => by
    simp only [pick, renE]
    rw [ren_congr _ (h s), renE_congr l h]
theorem rename_sound_exp (h : RelX G σ lim st tmps w) {m : List (Nat × Nat)} (h1 : (m.map (·.1)).Nodup) (h2 : (m.map (·.2)).Nodup) (hlow : ∀ p ∈ m, p.1 < hidB ∧ p.2 < hidB) (hp : ∀ p ∈ G.pins, fwd m p.1 = some p.1) (live : List Nat) :
    ∃ σ', RelX G σ' lim ⟨envOf (renE m (pick live st.env)), tblOf (renT m st.tbl m)⟩ tmps w := by
  obtain ⟨hR, hL⟩ := h
  obtain ⟨n1, n2⟩ := hids_nodup (T := st.tbl) h1 h2 hlow
  have hge : ∀ p ∈ hids st.tbl m, hidB ≤ p.1 ∧ hidB ≤ p.2 := by
    intro p hp
    obtain ⟨a, b, _, hp⟩ := mem_hids.1 hp
    obtain ⟨_, _, _, i, _, _, rfl⟩ := mem_hid1.1 hp
    exact ⟨hid_ge _ _, hid_ge _ _⟩
  have hf : ∀ r, r < hidB → fwd (m ++ hids st.tbl m) r = fwd m r := by
    intro r hr
    refine fwd_append fun p hp => ?_
    have := (hge p hp).1
    omega
  have N1 : ((m ++ hids st.tbl m).map (·.1)).Nodup := by
    rw [List.map_append, List.nodup_append]
    refine ⟨h1, n1, fun x hx y hy e => ?_⟩
    subst e
    obtain ⟨p, hp, rfl⟩ := List.mem_map.1 hx
    obtain ⟨q, hq, e⟩ := List.mem_map.1 hy
    have := (hlow p hp).1
    have := (hge q hq).1
    omega
  have N2 : ((m ++ hids st.tbl m).map (·.2)).Nodup := by
    rw [List.map_append, List.nodup_append]
    refine ⟨h2, n2, fun x hx y hy e => ?_⟩
    subst e
    obtain ⟨p, hp, rfl⟩ := List.mem_map.1 hx
    obtain ⟨q, hq, e⟩ := List.mem_map.1 hy
    have := (hlow p hp).2
    have := (hge q hq).2
    omega
  obtain ⟨σ', hR'⟩ := rename_sound hR N1 N2 (fun p hpp => by rw [hf _ (hL.pins p hpp)]; exact hp p hpp) (fun r n t xss o hm hr i hi => by
    obtain ⟨hr1, hr2⟩ := exp_nest hr
    rcases List.mem_append.1 hm with hm | hm
    · exact List.mem_append_right _ (mem_hids.2 ⟨r, n, hm, mem_hid1.2 ⟨t, xss, o, i, hr2, hi, rfl⟩⟩)
    · have := (hge _ hm).1
      simp only at this; omega) live
  have hE : renE (m ++ hids st.tbl m) (pick live st.env) = renE m (pick live st.env) := renE_congr live fun s r hr => hf r (hL.env s r hr)
  have hren : ∀ r, renRS (m ++ hids st.tbl m) (st.tbl r) = renRS m (st.tbl r) := by
    intro r
    cases hx : st.tbl r with
    | live y =>
      cases y with
      | box cs => simp only [renRS]; rw [rens_congr cs fun q hq => hf q (hL.box r cs hx q hq)]
      | _ => rfl
    | _ => rfl
  have hT : tblOf (renT (m ++ hids st.tbl m) (exp st.tbl) (m ++ hids st.tbl m)) = exp (tblOf (renT m st.tbl m)) := by
    funext n
    obtain ⟨a1, a2⟩ := tblOf_renT (m := m ++ hids st.tbl m) (T := exp st.tbl) (n := n) N2
    rcases low_or_hid n with hl | ⟨b, i, hb, rfl⟩
    · rw [exp_low hl]
      obtain ⟨b1, b2⟩ := tblOf_renT (m := m) (T := st.tbl) (n := n) h2
      by_cases hex : ∃ a, (a, n) ∈ m
      · obtain ⟨a, ha⟩ := hex
        rw [a1 a (List.mem_append_left _ ha), b1 a ha, exp_low (hlow _ ha).1, hren]
      · rw [b2 fun a ha => hex ⟨a, ha⟩]
        refine a2 fun a ha => ?_
        rcases List.mem_append.1 ha with ha | ha
        · exact hex ⟨a, ha⟩
        · have := (hge _ ha).2
          simp only at this; omega
    · rw [exp_hid hb]
      obtain ⟨b1, b2⟩ := tblOf_renT (m := m) (T := st.tbl) (n := b) h2
      have hnone : ∀ a, (a, hid b i) ∉ m := fun a ha => by have := (hlow _ ha).2; have := hid_ge b i; simp only at *; omega
      by_cases hex : ∃ a, (a, b) ∈ m
      · obtain ⟨a, ha⟩ := hex
        have hal := (hlow _ ha).1
        simp only at hal
        rw [b1 a ha]
        by_cases hn : ∃ (t : Ty) (xss : List (List t.den)) (o : Option Nat), st.tbl a = .live (.nest t xss o) ∧ i < xss.length
        · obtain ⟨t, xss, o, hn, hi⟩ := hn
          rw [a1 (hid a i) (List.mem_append_right _ (mem_hids.2 ⟨a, b, ha, mem_hid1.2 ⟨t, xss, o, i, hn, hi, rfl⟩⟩)), exp_hid hal, hn]
          simp only [renRS, expI, List.getElem?_eq_getElem hi]
          by_cases ho : o = some i <;> simp [ho]
        · have e1 : expI i (renRS m (st.tbl a)) = .fresh := by
            cases hx : st.tbl a with
            | live y =>
              cases y with
              | nest t xss o =>
                have : ¬ i < xss.length := fun hi => hn ⟨t, xss, o, hx, hi⟩
                simp only [renRS, expI, List.getElem?_eq_none (by omega : xss.length ≤ i)]
              | _ => rfl
            | _ => rfl
          rw [e1]
          refine a2 fun c hc => ?_
          rcases List.mem_append.1 hc with hc | hc
          · exact hnone c hc
          · obtain ⟨a', b', hab, hc⟩ := mem_hids.1 hc
            obtain ⟨t, xss, o, j, hT', hj, e⟩ := mem_hid1.1 hc
            simp only [Prod.mk.injEq] at e
            obtain ⟨e2, e3⟩ := hid_inj hb (hlow _ hab).2 e.2
            simp only at e2
            subst e2 e3
            have := bwd_of h2 ha
            rw [bwd_of h2 hab] at this
            cases this
            exact hn ⟨t, xss, o, hT', hj⟩
      · rw [b2 fun a ha => hex ⟨a, ha⟩]
        refine a2 fun c hc => ?_
        rcases List.mem_append.1 hc with hc | hc
        · exact hnone c hc
        · obtain ⟨a', b', hab, hc⟩ := mem_hids.1 hc
          obtain ⟨t, xss, o, j, hT', hj, e⟩ := mem_hid1.1 hc
          simp only [Prod.mk.injEq] at e
          obtain ⟨e2, e3⟩ := hid_inj hb (hlow _ hab).2 e.2
          simp only at e2
          subst e2
          exact hex ⟨a', hab⟩
  simp only at hR'
  rw [hE, hT] at hR'
  refine ⟨σ', hR', ⟨fun s r hr => ?_, fun r cs hr q hq => ?_, hL.pins⟩⟩
  · rcases envOf_pick (m := m) (e := st.env) (s := s) live with e | e
    · simp only [e, idsOf] at hr; cases hr
    · simp only [e] at hr
      obtain ⟨q, _, hq⟩ := ren_ids _ r hr
      exact (hlow _ (fwd_mem hq)).2
  · simp only at hr
    obtain ⟨b1, b2⟩ := tblOf_renT (m := m) (T := st.tbl) (n := r) h2
    by_cases hex : ∃ a, (a, r) ∈ m
    · obtain ⟨a, ha⟩ := hex
      rw [b1 a ha] at hr
      cases hx : st.tbl a with
      | fresh => rw [hx] at hr; cases hr
      | gone => rw [hx] at hr; cases hr
      | live y =>
        rw [hx] at hr
        cases y with
        | arr => cases hr
        | nest => cases hr
        | box ds =>
          simp only [renRS] at hr
          cases hr
          obtain ⟨q', _, hq'⟩ := rens_ids _ q hq
          exact (hlow _ (fwd_mem hq')).2
    · rw [b2 fun a ha => hex ⟨a, ha⟩] at hr; cases hr
theorem norm_sound (h : RelX G σ lim st tmps w) {kp : List Nat} (hk : ∀ p ∈ G.pins, p.1 ∈ kp) {an : Ann} {st' : St} (hn : norm kp an st = some st') : ∃ σ' lim', RelX G σ' lim' st' tmps w := by
  simp only [norm] at hn
  generalize hm : number kp 8192 _ = m at hn
  cases hg : (nodupB (m.map (·.1)) && nodupB (m.map (·.2)) && kp.all (stays m) && (lows (m.map (·.1)) && lows (m.map (·.2)) && lowN (32768 + an.pro.length))) with
  | false => rw [hg] at hn; simp at hn
  | true =>
    rw [hg] at hn
    simp only [cond_true, Option.some.injEq] at hn
    subst hn
    simp only [Bool.and_eq_true, List.all_eq_true] at hg
    obtain ⟨⟨⟨g1, g2⟩, g3⟩, ⟨g4, g5⟩, g6⟩ := hg
    have g6 : 32768 + an.pro.length < hidB := by simpa [lowN, Nat.blt_eq] using g6
    obtain ⟨σ1, lim1, h1⟩ := promote_sound an.pro 32768 (by omega) h
    suffices hS : ∃ σ', RelX G σ' lim1 ⟨envOf (renE m (pick an.live (promote 32768 an.pro st).env)), tblOf (renT m (promote 32768 an.pro st).tbl m)⟩ tmps w by
      obtain ⟨σ2, h2⟩ := hS; exact ⟨σ2, lim1, h2⟩
    refine rename_sound_exp h1 (nodupB_spec g1) (nodupB_spec g2) (fun p hp => ⟨lows_spec g4 _ (List.mem_map.2 ⟨p, hp, rfl⟩), lows_spec g5 _ (List.mem_map.2 ⟨p, hp, rfl⟩)⟩) (fun p hp => ?_) an.live
    have := g3 p.1 (hk p hp)
    unfold stays at this
    split at this
    · rename_i n hn; rw [hn, beq_eq this]
    · cases this
end Go.Sh
