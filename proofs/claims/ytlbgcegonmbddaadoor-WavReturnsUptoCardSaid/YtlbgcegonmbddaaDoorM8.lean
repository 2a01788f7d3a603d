/-
  The machine, part 8: contracts; a call.
-/
import Derived.Test.YtlbgcegonmbddaaDoorM7
set_option linter.unusedSimpArgs false
set_option linter.unusedVariables false
namespace Go.Sh
open Go
variable {C : Ctx} {G : Glob} {σ : Sig} {w : World} {lim : Nat → Nat} {st : St} {tmps : Array Value}

/-- what was lent lies there again -/
def TL (w : World) (lim : Nat → Nat) : List Kd → List Value → List RV → List Nat → Prop
  | [], [], [], bs => bs = []
  | .box _ :: ks, v :: vs, x :: rs, bs => ∃ b1 b2, bs = b1 ++ b2 ∧ TT w lim x v b1 ∧ TL w lim ks vs rs b2
  | .view _ :: ks, _ :: vs, rs, bs => TL w lim ks vs rs bs
  | .own _ _ :: ks, _ :: vs, rs, bs => TL w lim ks vs rs bs
  | .agg _ :: ks, _ :: vs, rs, bs => TL w lim ks vs rs bs
  | .tup _ :: ks, _ :: vs, rs, bs => TL w lim ks vs rs bs
  | .fn _ :: ks, _ :: vs, rs, bs => TL w lim ks vs rs bs
  | .use _ :: ks, _ :: vs, rs, bs => TL w lim ks vs rs bs
  | .bld _ :: ks, v :: vs, x :: rs, bs => ∃ b1 b2, bs = b1 ++ b2 ∧ TT w lim x v b1 ∧ TL w lim ks vs rs b2
  | _, _, _, _ => False

/-- it has a body -/
def Enters (P : Program) (f : Nat) : Prop := ∃ fn, P.funcs[f]? = some fn ∧ (fn.name == "runtime.NumGoroutine") = false ∧ fn.body.isNone = false

/-- A CONTRACT -/
structure Ctr (P : Program) (k : Nat) (f : Nat) (cal : Callee) : Prop where
  enters : Enters P f
  calls : ∀ rvs x, cal.run k rvs = some x → ∀ (w : World) (lim : Nat → Nat) (vs : List Value) (bs : List Nat), (∀ b, w.heap.size ≤ b → lim b = 0) → TTs w lim rvs vs bs → bs.Nodup →
    (∀ b ∈ bs, b < w.heap.size) → Calls P f vs.toArray w fun e w' => ∃ v lim' b1 b2, e = .returned v ∧ Ext w lim w' lim' ∧ (∀ b, w'.heap.size ≤ b → lim' b = 0) ∧
      (w'.os = w.os ∧ w'.tape = w.tape ∧ w'.output = w.output) ∧ (∀ b, b < w.heap.size → b ∉ bs → w'.heap[b]? = w.heap[b]? ∧ lim' b = lim b) ∧
      TT w' lim' (cal.enc x).1 v b1 ∧ TL w' lim' cal.pk vs (cal.enc x).2 b2 ∧ (b1 ++ b2).Nodup ∧ ∀ b ∈ b1 ++ b2, b ∈ bs ∨ w.heap.size ≤ b

def lentIds : List Kd → List AV → List Nat
  | .box _ :: ks, .bx r 0 :: as => r :: lentIds ks as
  | .bld _ :: ks, .bx r 0 :: as => r :: lentIds ks as
  | _ :: ks, _ :: as => lentIds ks as
  | _, _ => []

theorem nofresh_append {u v : Ups} (h : ∀ r, look u r ≠ some .fresh) (k : ∀ r, look v r ≠ some .fresh) : ∀ r, look (u ++ v) r ≠ some .fresh := by
  intro r
  have h1 := h r
  clear h
  induction u with
  | nil => exact k r
  | cons p u ih =>
    obtain ⟨i, z⟩ := p
    rw [List.cons_append, look_cons]
    rw [look_cons] at h1
    split
    · rename_i e; simpa [e] using h1
    · rename_i e; simp only [e, if_false] at h1; exact ih h1

theorem giveBack_le : (ks : List Kd) → (as : List AV) → (rs : List RV) → (n : Nat) → {m : Nat} → {ups : Ups} → giveBack n ks as rs = some (ups, m) → n ≤ m
  | [], [], [], n, m, ups, h => by simp [giveBack] at h; omega
  | k :: ks, a :: as, rs, n, m, ups, h => by
    have rest : (∀ l, k ≠ .box l) → (∀ T, k ≠ .bld T) → n ≤ m := by
      intro hk hk2
      have e1 : giveBack n (k :: ks) (a :: as) rs = giveBack n ks as rs := by cases k <;> first | rfl | exact absurd rfl (hk _) | exact absurd rfl (hk2 _)
      rw [e1] at h
      exact giveBack_le ks as rs n h
    cases k with
    | box l =>
      cases a with
      | bx r kk =>
        cases kk with
        | succ kk => simp [giveBack] at h
        | zero =>
          cases rs with
          | nil => simp [giveBack] at h
          | cons x rs =>
            cases x with
            | box cs =>
              simp only [giveBack] at h
              cases hg : giveBack (puts n cs).2.2 ks as rs with
              | none => simp [hg] at h
              | some q =>
                obtain ⟨v', m'⟩ := q
                simp only [hg, Option.some.injEq, Prod.mk.injEq] at h
                have h1 := giveBack_le ks as rs _ hg
                have h2 := puts_le cs n
                omega
            | _ => simp [giveBack] at h
      | _ => simp [giveBack] at h
    | bld T =>
      cases a with
      | bx r kk =>
        cases kk with
        | succ kk => simp [giveBack] at h
        | zero =>
          cases rs with
          | nil => simp [giveBack] at h
          | cons x rs =>
            cases x with
            | bld q xs =>
              simp only [giveBack] at h
              cases hg : giveBack (n + 1) ks as rs with
              | none => simp [hg] at h
              | some q =>
                obtain ⟨v', m'⟩ := q
                simp only [hg, Option.some.injEq, Prod.mk.injEq] at h
                have h1 := giveBack_le ks as rs _ hg
                omega
            | _ => simp [giveBack] at h
      | _ => simp [giveBack] at h
    | _ => exact rest (by intro l; simp) (by intro T; simp)
  | [], _ :: _, rs, n, m, ups, h => by simp [giveBack] at h
  | [], [], _ :: _, n, m, ups, h => by simp [giveBack] at h
  | k :: _, [], rs, n, m, ups, h => by cases k <;> simp [giveBack] at h

/-- one box is given back -/
structure OneR (G : Glob) (σ : Sig) (lim : Nat → Nat) (st : St) (tmps : Array Value) (w : World) (n m r : Nat) (U : Ups) (bs : List Nat) (σ' : Sig) : Prop where
  rel : RelW G σ' lim ⟨st.env, st.tbl.put U⟩ tmps w
  old : ∀ s, st.tbl s ≠ .fresh → σ' s = σ s
  out : ∀ s, (s < n ∨ m ≤ s) → s ≠ r → (st.tbl.put U) s = st.tbl s
  nf : ∀ s, look U s ≠ some .fresh
  lv : ∀ s b, isLive (st.tbl.put U s) = true → blk (σ' s) = some b → (isLive (st.tbl s) = true ∧ blk (σ s) = some b) ∨ b ∈ bs
  le : n ≤ m

theorem give_box {cs : List RV} {n r : Nat} {v : Value} {bs : List Nat} (h : RelW G σ lim st tmps w) (ht : TT w lim (.box cs) v bs) (hgone : st.tbl r = .gone) (hvr : σ r = v)
    (hf : ∀ j, n ≤ j → j < (puts n cs).2.2 → st.tbl j = .fresh) (hb : FB G σ st bs) :
    ∃ σ', OneR G σ lim st tmps w n (puts n cs).2.2 r ((r, .live (.box (puts n cs).1)) :: (puts n cs).2.1) bs σ' := by
  simp only [TT] at ht
  obtain ⟨b, ws, U, bs1, rfl, g2, g3, g4, rfl⟩ := ht
  obtain ⟨hbn, hbm⟩ := hb
  rw [List.nodup_cons] at hbn
  have hle1 := puts_le cs n
  obtain ⟨σ1, hP, hA, hK⟩ := puts_sound cs n h g3 hf ⟨hbn.2, fun b' hb' => hbm b' (List.mem_cons_of_mem _ hb')⟩
  have hrn : r < n ∨ (puts n cs).2.2 ≤ r := by
    by_cases hlt : n ≤ r ∧ r < (puts n cs).2.2
    · have := hf r hlt.1 (by omega)
      rw [hgone] at this; cases this
    · omega
  have hr1 : (st.tbl.put (puts n cs).2.1) r = .gone := by simp [Tbl.put, hP.out r hrn, hgone]
  have hB := hP.rel.adopt (n := r) (v := .pointer (some ⟨b, 0, none⟩)) (.inr ⟨hr1, (hP.old r (by rw [hgone]; simp)).trans hvr⟩) (y := .box (puts n cs).1) hK (fun hσ => by
    simp only [RR]
    exact ⟨b, ws, U, by simp, g2, RAs.mono (Ext.refl _ _) hσ _ _ hK hA, g4⟩) (fun b' hb' => by
      simp [blk] at hb'; subst hb'
      refine ⟨(hbm b (List.mem_cons_self ..)).1, fun s hls hbr => ?_⟩
      rcases hP.lv s b hls hbr with ⟨h5, h6⟩ | h5
      · exact (hbm b (List.mem_cons_self ..)).2 s h5 h6
      · exact hbn.1 h5)
  refine ⟨_, ⟨by rw [put_cons]; exact hB, fun s hs => ?_, fun s hs hne => ?_, fun s => ?_, fun s b' hls hbr => ?_, hle1⟩⟩
  · by_cases e : s = r
    · subst e; simp [hvr]
    · simp [e]; exact hP.old s hs
  · rw [put_at, if_neg (Ne.symm hne)]
    simp [Tbl.put, hP.out s hs]
  · rw [look_cons]; split
    · simp
    · exact puts_nofresh cs n s
  · by_cases e : s = r
    · subst e; simp [blk] at hbr; subst hbr; exact .inr (List.mem_cons_self ..)
    · simp only [e, if_false] at hbr
      rw [put_at, if_neg (Ne.symm e)] at hls
      rcases hP.lv s b' hls hbr with h5 | h5
      · exact .inl h5
      · exact .inr (List.mem_cons_of_mem _ h5)

theorem put_two' {T : Tbl} {n r : Nat} {x x' y : RS} : ((T.put [(n, y)]).put [(r, x')]).put [(r, x)] = T.put [(r, x), (n, y)] := by
  funext s
  simp only [put_one, Tbl.put, look_cons]
  by_cases h1 : r = s
  · simp [h1]
  · by_cases h2 : n = s
    · simp [h1, h2, look]
    · simp [h1, h2, look]

theorem give_bld {n r : Nat} {U : TypeId} {xs : List Int} {v : Value} {bs : List Nat} (h : RelW G σ lim st tmps w) (ht : TT w lim (.bld U xs) v bs) (hgone : st.tbl r = .gone) (hvr : σ r = v)
    (hn : st.tbl n = .fresh) (hb : FB G σ st bs) :
    ∃ σ', OneR G σ lim st tmps w n (n + 1) r [(r, .live (.box [AV.me r U, .own n])), (n, .live (.arr (.int .u8) xs false))] bs σ' := by
  simp only [TT] at ht
  obtain ⟨b, x, y, bs1, rfl, h2, h3, h4, h5, rfl⟩ := ht
  obtain ⟨hbn, hbm⟩ := hb
  rw [List.nodup_cons] at hbn
  have hnr : n ≠ r := by intro e; subst e; rw [hgone] at hn; cases hn
  have hmem : ∀ b', blk y = some b' → b' ∈ bs1 := by
    intro b' hbv
    rcases h4.2 with ⟨_, rfl, rfl⟩ | ⟨c, off, cap, vs, T, fz, rfl, _, _, _, _, _, _, rfl⟩
    · simp [blk] at hbv
    · simp [blk] at hbv; subst hbv; simp
  have hval : RA (fun s => if s = n then y else σ s) w lim (.own n) y := by
    simp only [RA]
    rcases h4.2 with ⟨_, rfl, _⟩ | ⟨c, off, cap, vs, T, fz, rfl, _⟩
    · exact ⟨by simp, _, _, _, rfl⟩
    · exact ⟨by simp, _, _, _, rfl⟩
  have R1 := h.adopt (n := n) (v := y) (.inl hn) (y := .arr (.int .u8) xs false) (by intro s hs; cases hs) (fun hσ => by
    simp only [RR]
    refine ⟨h4.1, ?_⟩
    rcases h4.2 with ⟨e1, rfl, _⟩ | ⟨c, off, cap, vs, T, fz, rfl, e2, e3, e4, e5, e6, e7, _⟩
    · exact .inl ⟨e1, by simp⟩
    · exact .inr ⟨c, off, cap, vs, T, fz, by simp, e2, e3, e4, e5, e6, e7⟩) (fun b' hbv => hbm b' (List.mem_cons_of_mem _ (hmem b' hbv)))
  have hg1 : (st.tbl.put [(n, .live (.arr (.int .u8) xs false))]) r = .gone := by rw [put_one, if_neg hnr]; exact hgone
  have hk1 : Known (st.tbl.put [(n, .live (.arr (.int .u8) xs false))]) (idsOf (.own n)) := known_own (y := .arr (.int .u8) xs false) (by rw [put_at]; simp)
  have R2 := R1.adopt (n := r) (v := .pointer (some ⟨b, 0, none⟩)) (.inr ⟨hg1, by simp only [if_neg hnr.symm]; exact hvr⟩) (y := .box [.dead, .own n]) (by
      intro s hs
      simp only [resIds, idsOfs, idsOf, List.nil_append, List.append_nil] at hs
      exact hk1 s (by simpa [idsOf] using hs)) (fun hσ => by
    simp only [RR]
    refine ⟨b, #[x, y], U, by simp, h2, ?_, h5⟩
    simp only [RAs, and_true]
    exact ⟨by simp [RA], RA.mono (T := st.tbl.put [(n, .live (.arr (.int .u8) xs false))]) (Ext.refl _ _) hσ _ _ hk1 hval⟩) (fun b' hb' => by
      simp [blk] at hb'; subst hb'
      refine ⟨(hbm b (List.mem_cons_self ..)).1, fun s hl hbr => ?_⟩
      simp only at hl
      rw [put_one] at hl
      by_cases e : s = n
      · subst e; simp only [if_true] at hbr; exact hbn.1 (hmem b hbr)
      · simp only [e, if_false] at hbr
        rw [if_neg (Ne.symm e)] at hl
        exact (hbm b (List.mem_cons_self ..)).2 s hl hbr)
  simp only at R2
  have hr2 : ((st.tbl.put [(n, .live (.arr (.int .u8) xs false))]).put [(r, .live (.box [.dead, .own n]))]) r = .live (.box [.dead, .own n]) := by rw [put_one]; simp
  obtain ⟨q1, q2⟩ := R2.res r _ hr2
  have R3 := R2.reword (r := r) (y := .box [AV.me r U, .own n]) hr2 (by
      intro s hs
      simp only [resIds, idsOfs, List.append_nil, List.mem_append] at hs
      rcases hs with hs | hs
      · rw [me_ids s hs]; simp only; rw [hr2]; simp
      · exact q2 s (by simp only [resIds, idsOfs, idsOf, List.nil_append, List.append_nil] at hs ⊢; exact hs)) (by
      simp only [RR] at q1 ⊢
      obtain ⟨b', vs, T, e1, e2, e3, e4⟩ := q1
      have hbb : b' = b := by simp at e1; exact e1.symm
      subst hbb
      rw [h2] at e2
      obtain ⟨rfl, rfl⟩ : #[x, y] = vs ∧ U = T := by simpa using e2
      simp only [RAs, and_true] at e3
      refine ⟨b', #[x, y], U, by simp, h2, ?_, e4⟩
      simp only [RAs, and_true]
      exact ⟨me_ra h3 (by simp) (by simp [typeAt, h2]), e3.2⟩)
  simp only at R3
  rw [put_two'] at R3
  refine ⟨_, ⟨R3, fun s hs => ?_, fun s hs hne => ?_, fun s => ?_, fun s b' hl hbr => ?_, by omega⟩⟩
  · have e2 : s ≠ n := by intro e; subst e; exact hs hn
    by_cases e1 : s = r
    · subst e1; simp [hvr]
    · simp [e1, e2]
  · simp only [Tbl.put, look_cons]; rw [if_neg (fun e => hne e.symm), if_neg (fun e => by omega)]; rfl
  · rw [look_cons]; split
    · simp
    · rw [look_cons]; split <;> simp [look]
  · by_cases e1 : s = r
    · subst e1; simp [blk] at hbr; subst hbr; exact .inr (List.mem_cons_self ..)
    · by_cases e2 : s = n
      · subst e2; simp [e1] at hbr; exact .inr (List.mem_cons_of_mem _ (hmem b' hbr))
      · simp only [e1, e2, if_false] at hbr
        have : (st.tbl.put [(r, .live (.box [AV.me r U, .own n])), (n, .live (.arr (.int .u8) xs false))]) s = st.tbl s := by
          simp only [Tbl.put, look_cons]; rw [if_neg (fun e => e1 e.symm), if_neg (fun e => e2 e.symm)]; rfl
        rw [this] at hl
        exact .inl ⟨hl, hbr⟩

theorem giveBack_sound : (ks : List Kd) → (as : List AV) → (rs : List RV) → (n : Nat) → {m : Nat} → {ups : Ups} → {σ : Sig} → {st : St} → {vs : List Value} → {bs : List Nat} → giveBack n ks as rs = some (ups, m) →
    RelW G σ lim st tmps w → TL w lim ks vs rs bs → (∀ (i r : Nat) (v : Value), as[i]? = some (AV.bx r 0) → vs[i]? = some v → σ r = v ∧ st.tbl r ≠ .fresh) → (∀ r ∈ lentIds ks as, st.tbl r = .gone) → (lentIds ks as).Nodup → (∀ j, n ≤ j → j < m → st.tbl j = .fresh) → FB G σ st bs →
    ∃ σ', RelW G σ' lim ⟨st.env, st.tbl.put ups⟩ tmps w ∧ (∀ r, st.tbl r ≠ .fresh → σ' r = σ r) ∧ (∀ r, look ups r ≠ some .fresh) ∧ n ≤ m
  | [], [], [], n, m, ups, σ, st, vs, bs, hm, h, ht, hv, hl, hn, hf, hb => by
    simp [giveBack] at hm
    obtain ⟨rfl, rfl⟩ := hm
    exact ⟨σ, by rw [put_nil]; exact h, fun _ _ => rfl, by simp [look], Nat.le_refl _⟩
  | k :: ks, a :: as, rs, n, m, ups, σ, st, vs, bs, hm, h, ht, hv, hl, hn, hf, hb => by
    match vs, ht with
    | [], ht => cases k <;> simp [TL] at ht
    | v :: vs, ht =>
      have rest : ∀ (hk : ∀ l, k ≠ .box l) (hk2 : ∀ T, k ≠ .bld T), ∃ σ', RelW G σ' lim ⟨st.env, st.tbl.put ups⟩ tmps w ∧ (∀ r, st.tbl r ≠ .fresh → σ' r = σ r) ∧ (∀ r, look ups r ≠ some .fresh) ∧ n ≤ m := by
        intro hk hk2
        have e1 : giveBack n (k :: ks) (a :: as) rs = giveBack n ks as rs := by cases k <;> first | rfl | exact absurd rfl (hk _) | exact absurd rfl (hk2 _)
        have e2 : TL w lim ks vs rs bs := by cases k <;> first | exact ht | exact absurd rfl (hk _) | exact absurd rfl (hk2 _)
        have e3 : lentIds (k :: ks) (a :: as) = lentIds ks as := by cases k <;> first | rfl | exact absurd rfl (hk _) | exact absurd rfl (hk2 _)
        rw [e1] at hm
        rw [e3] at hl hn
        exact giveBack_sound ks as rs n hm h e2 (fun i r v h1 h2 => hv (i + 1) r v (by simpa using h1) (by simpa using h2)) hl hn hf hb
      -- one box, and the rest
      have more : ∀ (rs' : List RV) (r m1 m' : Nat) (U v' : Ups) (b1 b2 : List Nat) (σ1 : Sig), a = .bx r 0 → OneR G σ lim st tmps w n m1 r U b1 σ1 → giveBack m1 ks as rs' = some (v', m') → ups = v' ++ U → m = m' → bs = b1 ++ b2 →
          TL w lim ks vs rs' b2 → lentIds (k :: ks) (a :: as) = r :: lentIds ks as →
          ∃ σ', RelW G σ' lim ⟨st.env, st.tbl.put ups⟩ tmps w ∧ (∀ r, st.tbl r ≠ .fresh → σ' r = σ r) ∧ (∀ r, look ups r ≠ some .fresh) ∧ n ≤ m := by
        intro rs' r m1 m' U v' b1 b2 σ1 ha hO hg hups hmm hbs ht2 hids
        subst ha hups hmm hbs
        rw [hids] at hl hn
        simp only [List.nodup_cons, List.mem_cons] at hl hn
        obtain ⟨hbn, hbm⟩ := hb
        rw [List.nodup_append] at hbn
        have hgone : st.tbl r = .gone := hl r (.inl rfl)
        have hle2 : m1 ≤ m := giveBack_le ks as rs' _ hg
        have hle1 := hO.le
        have keep : ∀ s, st.tbl s ≠ .fresh → (st.tbl.put U) s ≠ .fresh := by
          intro s hs hfr
          simp only [Tbl.put] at hfr
          cases hls : look U s with
          | none => rw [hls] at hfr; exact hs hfr
          | some z => rw [hls] at hfr; simp only at hfr; subst hfr; exact hO.nf s hls
        obtain ⟨σ2, hQ, hold, hnf, hle⟩ := giveBack_sound ks as rs' m1 (st := ⟨st.env, st.tbl.put U⟩) hg hO.rel ht2
          (fun i s u h5 h6 => by
            obtain ⟨h7, h8⟩ := hv (i + 1) s u (by simpa using h5) (by simpa using h6)
            exact ⟨(hO.old s h8).trans h7, keep s h8⟩)
          (fun s hs => by
            have hsg := hl s (.inr hs)
            have hne : s ≠ r := fun e => hn.1 (e ▸ hs)
            have hso : s < n ∨ m1 ≤ s := by
              by_cases hlt : n ≤ s ∧ s < m1
              · have := hf s hlt.1 (by omega)
                rw [hsg] at this; cases this
              · omega
            simp only; rw [hO.out s hso hne]; exact hsg) hn.2
          (fun j h5 h6 => by
            have hj := hf j (by omega) h6
            have hne : j ≠ r := fun e => by subst e; rw [hgone] at hj; cases hj
            simp only; rw [hO.out j (.inr h5) hne]; exact hj)
          ⟨hbn.2.1, fun b' hb' => ⟨(hbm b' (List.mem_append_right _ hb')).1, fun s hls hbr => by
            rcases hO.lv s b' hls hbr with ⟨h5, h6⟩ | h5
            · exact (hbm b' (List.mem_append_right _ hb')).2 s h5 h6
            · exact hbn.2.2 b' h5 b' hb' rfl⟩⟩
        exact ⟨σ2, by rw [put_append]; exact hQ, fun s hs => (hold s (keep s hs)).trans (hO.old s hs), fun s => nofresh_append hnf hO.nf s, by omega⟩
      cases k with
      | box l =>
        cases a with
        | bx r kk =>
         cases kk with
         | succ kk => simp [giveBack] at hm
         | zero =>
          cases rs with
          | nil => simp [TL] at ht
          | cons x rs =>
           cases x with
           | box cs =>
            simp only [giveBack] at hm
            simp only [TL] at ht
            obtain ⟨b1, b2, hbs, h1, h2⟩ := ht
            cases hg : giveBack (puts n cs).2.2 ks as rs with
            | none => simp [hg] at hm
            | some q =>
              obtain ⟨v', m'⟩ := q
              simp only [hg, Option.some.injEq, Prod.mk.injEq] at hm
              have hmm := giveBack_le ks as rs _ hg
              obtain ⟨σ1, hO⟩ := give_box h h1 (hl r (by simp [lentIds])) (hv 0 r v rfl rfl).1 (fun j h5 h6 => hf j h5 (by omega)) ⟨(List.nodup_append.1 (hbs ▸ hb.1)).1, fun b' hb' => hb.2 b' (hbs ▸ List.mem_append_left _ hb')⟩
              exact more rs r _ m' _ v' b1 b2 σ1 rfl hO hg hm.1.symm hm.2.symm hbs h2 rfl
           | _ => simp [giveBack] at hm
        | _ => simp [giveBack] at hm
      | bld T =>
        cases a with
        | bx r kk =>
         cases kk with
         | succ kk => simp [giveBack] at hm
         | zero =>
          cases rs with
          | nil => simp [TL] at ht
          | cons x rs =>
           cases x with
           | bld mm xs =>
            simp only [giveBack] at hm
            simp only [TL] at ht
            obtain ⟨b1, b2, hbs, h1, h2⟩ := ht
            cases hg : giveBack (n + 1) ks as rs with
            | none => simp [hg] at hm
            | some q =>
              obtain ⟨v', m'⟩ := q
              simp only [hg, Option.some.injEq, Prod.mk.injEq] at hm
              have hmm := giveBack_le ks as rs _ hg
              obtain ⟨σ1, hO⟩ := give_bld h h1 (hl r (by simp [lentIds])) (hv 0 r v rfl rfl).1 (hf n (Nat.le_refl _) (by omega)) ⟨(List.nodup_append.1 (hbs ▸ hb.1)).1, fun b' hb' => hb.2 b' (hbs ▸ List.mem_append_left _ hb')⟩
              exact more rs r _ m' _ v' b1 b2 σ1 rfl hO hg hm.1.symm hm.2.symm hbs h2 rfl
           | _ => simp [giveBack] at hm
        | _ => simp [giveBack] at hm
      | _ => exact rest (by intro l; simp) (by intro T; simp)
  | [], _ :: _, rs, n, m, ups, σ, st, vs, bs, hm, h, ht, hv, hl, hn, hf, hb => by simp [giveBack] at hm
  | [], [], _ :: _, n, m, ups, σ, st, vs, bs, hm, h, ht, hv, hl, hn, hf, hb => by simp [giveBack] at hm
  | k :: _, [], rs, n, m, ups, σ, st, vs, bs, hm, h, ht, hv, hl, hn, hf, hb => by cases k <;> simp [giveBack] at hm

theorem freshes {α : Type} {tbl : Tbl} : {n m : Nat} → {k : M α} → {l l' : List Nat} → {x : α} → (freshAll n m k).run tbl l = some (x, l') → (∀ j, n ≤ j → j < n + m → tbl j = .fresh) ∧ ∃ l2, k.run tbl l2 = some (x, l')
  | n, 0, k, l, l', x, h => ⟨fun j h1 h2 => by omega, l, h⟩
  | n, m + 1, k, l, l', x, h => by
    simp only [freshAll, M.run] at h
    cases hf : tbl n with
    | fresh =>
      simp only [hf] at h
      obtain ⟨h1, h2⟩ := freshes (n := n + 1) (m := m) h
      refine ⟨fun j h3 h4 => ?_, h2⟩
      by_cases e : j = n
      · subst e; exact hf
      · exact h1 j (by omega) (by omega)
    | gone => simp [hf, M.run] at h
    | live y => simp [hf, M.run] at h

theorem takes_lent : (ks : List Kd) → (as : List AV) → {tbl : Tbl} → {l l' : List Nat} → {xs : List RV} → {u : Ups} → (takes ks as).run tbl l = some ((xs, u), l') → (∀ r ∈ lentIds ks as, r ∈ gones u) ∧ (lentIds ks as).Sublist (gones u)
  | [], [], tbl, l, l', xs, u, hm => by simp [lentIds]
  | k :: ks, a :: as, tbl, l, l', xs, u, hm => by
    simp only [takes] at hm
    obtain ⟨⟨x, u1⟩, l1, h1, h2⟩ := M.run_bind_some hm
    obtain ⟨⟨ys, u2⟩, l2, h3, h4⟩ := M.run_bind_some h2
    obtain ⟨h, _⟩ := M.run_ret h4
    cases h
    obtain ⟨i1, i2⟩ := takes_lent ks as h3
    rw [gones_append]
    have rest : lentIds (k :: ks) (a :: as) = lentIds ks as → (∀ r ∈ lentIds (k :: ks) (a :: as), r ∈ gones u1 ++ gones u2) ∧ (lentIds (k :: ks) (a :: as)).Sublist (gones u1 ++ gones u2) := by
      intro e
      rw [e]
      exact ⟨fun r hr => List.mem_append_right _ (i1 r hr), i2.trans (List.sublist_append_right _ _)⟩
    cases k with
    | box l =>
      cases a with
      | bx r kk =>
        cases kk with
        | succ kk => simp [take, M.run] at h1
        | zero =>
          have hr : r ∈ gones u1 := by
            simp only [take, M.run] at h1
            cases hr : tbl r with
            | fresh => simp [hr, M.run] at h1
            | gone => simp [hr, M.run] at h1
            | live y =>
              cases y with
              | arr => simp [hr, M.run] at h1
              | nest => simp [hr, M.run] at h1
              | box cs =>
                simp only [hr] at h1
                obtain ⟨⟨ys', u1'⟩, l1', h1', h2'⟩ := M.run_bind_some h1
                obtain ⟨h, _⟩ := M.run_ret h2'
                cases h
                simp [gones, isGone]
          simp only [lentIds]
          refine ⟨fun s hs => ?_, ?_⟩
          · cases hs with
            | head => exact List.mem_append_left _ hr
            | tail _ hs => exact List.mem_append_right _ (i1 s hs)
          · exact List.Sublist.append (l₁ := [r]) (List.singleton_sublist.2 hr) i2
      | _ => simp [take, M.run] at h1
    | bld T =>
      cases a with
      | bx r kk =>
        cases kk with
        | succ kk => simp [take, M.run] at h1
        | zero =>
          have hr : r ∈ gones u1 := by
            simp only [take, M.run] at h1
            cases hr : tbl r with
            | fresh => simp [hr, M.run] at h1
            | gone => simp [hr, M.run] at h1
            | live y =>
              cases y with
              | arr => simp [hr, M.run] at h1
              | nest => simp [hr, M.run] at h1
              | box cs =>
                match cs, hr with
                | [c0, c1], hr =>
                  simp only [hr] at h1
                  obtain ⟨hg, h1⟩ := M.run_guard h1
                  obtain ⟨⟨ys', u1'⟩, l1', h1', h2'⟩ := M.run_bind_some h1
                  obtain ⟨h, _⟩ := M.run_ret h2'
                  cases h
                  simp [gones, isGone]
                | [], hr => simp [hr, M.run] at h1
                | [_], hr => simp [hr, M.run] at h1
                | _ :: _ :: _ :: _, hr => simp [hr, M.run] at h1
          simp only [lentIds]
          refine ⟨fun s hs => ?_, ?_⟩
          · cases hs with
            | head => exact List.mem_append_left _ hr
            | tail _ hs => exact List.mem_append_right _ (i1 s hs)
          · exact List.Sublist.append (l₁ := [r]) (List.singleton_sublist.2 hr) i2
      | _ => simp [take, M.run] at h1
    | _ => exact rest rfl
  | [], _ :: _, tbl, l, l', xs, u, hm => by simp [takes, M.run] at hm
  | _ :: _, [], tbl, l, l', xs, u, hm => by simp [takes, M.run] at hm

theorem all2_idx {as : List AV} {vs : List Value} (h : RAs σ w lim as vs) {i r : Nat} {v : Value} (h1 : as[i]? = some (AV.bx r 0)) (h2 : vs[i]? = some v) : σ r = v := by
  obtain ⟨u, h3, h4⟩ := (RAs_all2.1 h).get h1
  rw [h2] at h3
  obtain rfl : v = u := by simpa using h3
  simp only [RA] at h4
  obtain ⟨b, e1, e2⟩ := h4
  rw [e1, e2]

/-- a call -/
theorem call_sound (hC : ∀ f cal, C.Φ f = some cal → Ctr C.P C.k f cal) (h : RelW G σ lim st tmps w) {base f : Nat} {args : List AV} {vs : List Value} {l l' : List Nat} {e : Eff}
    (hm : (actCall C base f args).run st.tbl l = some (e, l')) (ha : RAs σ w lim args vs) (hk : ∀ a ∈ args, Known st.tbl (idsOf a)) :
    Enters C.P f ∧ Calls C.P f vs.toArray w fun en w' => ∃ v σ' lim', en = .returned v ∧ RelW G σ' lim' ⟨st.env, st.tbl.put e.ups⟩ tmps w' ∧ RA σ' w' lim' e.val v ∧ Known (st.tbl.put e.ups) (idsOf e.val) := by
  unfold actCall at hm
  cases hcal : C.Φ f with
  | none => simp [hcal, M.run] at hm
  | some cal =>
    simp only [hcal] at hm
    have hctr := hC f cal hcal
    refine ⟨hctr.enters, ?_⟩
    obtain ⟨⟨rvs, u⟩, l1, h1, h2⟩ := M.run_bind_some hm
    obtain ⟨hok, h3⟩ := M.run_guard h2
    simp only at hok h3
    simp only [M.run] at h3
    cases hrun : cal.run C.k rvs with
    | none => simp [hrun] at h3
    | some x =>
      simp only [hrun, Option.bind_some] at h3
      cases hg : giveBack (put base (cal.enc x).1).2.2 cal.pk args (cal.enc x).2 with
      | none => simp [hg, M.run] at h3
      | some q =>
        obtain ⟨wu, m⟩ := q
        simp only [hg] at h3
        obtain ⟨hfr, l2, h4⟩ := freshes h3
        obtain ⟨rfl, _⟩ := M.run_ret h4
        obtain ⟨s1, k1⟩ := takes_spec (st := st) (σ := σ) (w := w) (lim := lim) cal.pk args h1
        obtain ⟨lim1, hR, hE, hS, hnd, hbl⟩ := h.takes s1 hok
        have hT := k1 vs ha (fun r y hy => (h.res r y hy).1) lim1 hE hS
        refine (hctr.calls rvs x hrun w lim1 vs _ hR.lz hT hnd (fun b hb => (hbl b hb).2.1)).mono ?_
        rintro en w' ⟨v, lim2, b1, b2, rfl, hE2, hlz2, hsame, hkeep, hT1, hT2, hnd2, hb2⟩
        -- the world behind the call
        have hW : RelW G σ lim2 ⟨st.env, (st.tbl.put u).put []⟩ tmps w' := RelW.noput (st := ⟨st.env, st.tbl.put u⟩) (ups := []) (v := .dead) (x := undef) hR (Upd.dead hE2 hlz2 hsame (fun _ _ => rfl)
          (fun r hl _ b hb => by
            have h5 : b ∉ blocks σ (gones u) := fun hm => (hbl b hm).2.2 r hl hb
            exact hkeep b (live_block hR hl hb) h5)
          (fun r y hl => by simp [look] at hl) (fun r _ y _ hl => by simp [look] at hl) (fun r y _ hl => by simp [look] at hl)
          (fun b hb hl => by
            have h5 : b ∉ blocks σ (gones u) := fun hm => by
              rcases (hbl b hm).1 with h6 | h6
              · omega
              · exact hl h6
            exact (hkeep b (Nat.lt_of_lt_of_le hb h.ext.size) h5).1)
          (fun b hb hl => by
            have h5 : b ∉ blocks σ (gones u) := fun hm => by
              rcases (hbl b hm).1 with h6 | h6
              · omega
              · exact hl h6
            exact (hkeep b (Nat.lt_of_lt_of_le hb h.ext.size) h5).2)
          (fun r => by simp [look]) (by simp [RA]) (by simp [idsOf, Known]))
        rw [put_nil] at hW
        have hfb : ∀ b ∈ b1 ++ b2, (G.w0.heap.size ≤ b ∨ b ∈ G.lent) ∧ ∀ r, isLive (st.tbl.put u r) = true → blk (σ r) ≠ some b := by
          intro b hb
          rcases hb2 b hb with h5 | h5
          · exact ⟨(hbl b h5).1, (hbl b h5).2.2⟩
          · refine ⟨.inl (Nat.le_trans h.ext.size h5), fun r hl hbr => ?_⟩
            have := live_block hR hl hbr
            omega
        rw [List.nodup_append] at hnd2
        have hle := put_le (cal.enc x).1 base
        have hle2 := giveBack_le _ _ _ _ hg
        have hfu : ∀ j, base ≤ j → j < m → (st.tbl.put u) j = .fresh := by
          intro j h5 h6
          have h7 := hfr j h5 (by omega)
          have : ∀ y, (j, y) ∉ u := by
            intro y hy
            rcases s1 _ hy with ⟨_, h8⟩ | ⟨t, xs, sh, _, h8⟩
            · simp only at h8; rw [h7] at h8; cases h8
            · simp only at h8; rw [h7] at h8; cases h8
          rw [put_out this]; exact h7
        obtain ⟨σ1, hP, hA, hK⟩ := put_sound (cal.enc x).1 base (st := ⟨st.env, st.tbl.put u⟩) hW hT1 (fun j h5 h6 => hfu j h5 (by omega)) ⟨hnd2.1, fun b hb => hfb b (List.mem_append_left _ hb)⟩
        obtain ⟨hl1, hl2⟩ := takes_lent cal.pk args h1
        have hgone : ∀ r ∈ gones u, (st.tbl.put u) r = .gone := by
          intro r hr
          obtain ⟨y, hy⟩ := mem_look (mem_gones.1 hr)
          have := okUps_gone hok (mem_gones.1 hr) y (look_mem hy)
          simp [Tbl.put, hy, this]
        have hputkeep : ∀ r, (st.tbl.put u) r ≠ .fresh → ((st.tbl.put u).put (put base (cal.enc x).1).2.1) r = (st.tbl.put u) r := by
          intro r hr
          have : r < base ∨ (put base (cal.enc x).1).2.2 ≤ r := by
            by_cases hlt : base ≤ r ∧ r < (put base (cal.enc x).1).2.2
            · exact absurd (hfu r hlt.1 (by omega)) hr
            · omega
          simp only [Tbl.put] at hr ⊢
          rw [hP.out r this]
        have hufresh : ∀ r, st.tbl r ≠ .fresh → (st.tbl.put u) r ≠ .fresh := by
          intro r hr hf
          simp only [Tbl.put] at hf
          cases hls : look u r with
          | none => rw [hls] at hf; exact hr hf
          | some z =>
            rw [hls] at hf; simp only at hf; subst hf
            rcases s1 _ (look_mem hls) with ⟨h8, _⟩ | ⟨t, xs, sh, h8, _⟩ <;> simp at h8
        obtain ⟨σ2, hQ, hold, hnf, hle3⟩ := giveBack_sound cal.pk args (cal.enc x).2 _ (st := ⟨st.env, (st.tbl.put u).put (put base (cal.enc x).1).2.1⟩) hg hP.rel hT2
          (fun i r v' h5 h6 => by
            have h7 : st.tbl r ≠ .fresh := hk _ (List.mem_of_getElem? h5) r (by simp [idsOf])
            have h8 := hufresh r h7
            exact ⟨(hP.old r h8).trans (all2_idx ha h5 h6), by simp only; rw [hputkeep r h8]; exact h8⟩)
          (fun r hr => by
            have h5 := hgone r (hl1 r hr)
            simp only; rw [hputkeep r (by rw [h5]; simp)]; exact h5)
          (hl2.nodup (okUps_nodup hok))
          (fun j h5 h6 => by
            have h7 := hfu j (by omega) h6
            simp only [Tbl.put] at h7 ⊢
            rw [hP.out j (.inr h5)]; exact h7)
          ⟨hnd2.2.1, fun b hb => ⟨(hfb b (List.mem_append_right _ hb)).1, fun r hls hbr => by
            rcases hP.lv r b hls hbr with ⟨h5, h6⟩ | h5
            · exact (hfb b (List.mem_append_right _ hb)).2 r h5 h6
            · exact hnd2.2.2 b h5 b hb rfl⟩⟩
        refine ⟨v, σ2, lim2, rfl, ?_, ?_, ?_⟩
        · rw [put_append, put_append]; exact hQ
        · exact RA.mono (T := (st.tbl.put u).put (put base (cal.enc x).1).2.1) (Ext.refl _ _) hold _ _ hK hA
        · rw [put_append, put_append]; exact hK.put hnf
/-- a row is marked as one that was made of a text -/
theorem mark_does {C : Ctx} {G : Glob} {σ : Sig} {w : World} {lim : Nat → Nat} {st : St} {tmps : Array Value} (h : RelW G σ lim st tmps w) {src el : TypeId} (hd : C.P.underlying src = some (.slice el)) (hb : byteT C.P el = true) {r : Nat} {t : Ty} {xs : List t.den} {sh : Bool}
    (hr : st.tbl r = .live (.arr t xs sh)) (hx : 1 ≤ xs.length) (hv : ∃ A l c, σ r = .slice A l c) : Does C G st tmps w (convert src src (σ r)) ⟨.own r, [(r, .live (.arr t xs sh))]⟩ := by
  obtain ⟨hR, hk⟩ := h.res r _ hr
  have hlr : isLive (st.tbl r) = true := by rw [hr]; rfl
  simp only [RR] at hR
  obtain ⟨hsz, hR⟩ := hR
  rcases hR with ⟨rfl, _⟩ | ⟨b, off, cap, vs, U, fz, h4, h5, h6, h7, h8, h9, h10⟩
  · simp at hx
  obtain ⟨hu8, _⟩ := byteT_spec hb
  have hrun : (convert src src (σ r)).run C.P w = .ok (σ r) (w.freeze ⟨b, vs.size, none⟩ 1) := by
    rw [h4]
    have hs : w.shape? b = some (U, vs.size) := by simp [World.shape?, h6]
    simp [convert, run_underlying hd, run_underlying hu8, markStringish, hs]
  obtain ⟨fz', hf1, hf2⟩ : ∃ fz', (w.freeze ⟨b, vs.size, none⟩ 1).heap = w.heap.modify b (fun _ => .cells vs U fz') ∧ Fit t U vs.size fz' := by
    refine ⟨(if fz.1 == fz.2 then (vs.size, vs.size + 1) else (min fz.1 vs.size, max fz.2 (vs.size + 1))), ?_, ?_, h8.kind, ?_⟩
    · unfold World.freeze
      rw [if_neg (by omega)]
      apply Array.ext_getElem?
      intro i
      simp only [Array.getElem?_modify]
      by_cases hi : b = i
      · subst hi
        simp only [if_true, h6, Option.map_some]
      · simp [hi]
    · intro o ho
      have hfree := h8.free o ho
      have hord := h8.ord
      by_cases he : fz.1 = fz.2
      · simp only [he, beq_self_eq_true, if_true]; omega
      · have hne : (fz.1 == fz.2) = false := by simpa using he
        have hall : vs.size ≤ fz.1 := by
          rcases Nat.lt_or_ge fz.1 vs.size with h' | h'
          · exact absurd ⟨Nat.le_refl _, by omega⟩ (h8.free fz.1 h')
          · exact h'
        simp only [hne, Bool.false_eq_true, if_false]; omega
    · have hord := h8.ord
      split <;> simp <;> omega
  have hold : ∀ k : Nat, k ≠ b → (w.freeze ⟨b, vs.size, none⟩ 1).heap[k]? = w.heap[k]? := by
    intro k hk
    rw [hf1, Array.getElem?_modify, if_neg (fun e => hk e.symm)]
  have hnew : (w.freeze ⟨b, vs.size, none⟩ 1).heap[b]? = some (.cells vs U fz') := by
    rw [hf1, Array.getElem?_modify, if_pos rfl, h6]; rfl
  have hsize : (w.freeze ⟨b, vs.size, none⟩ 1).heap.size = w.heap.size := by rw [hf1]; simp
  have hsame : (w.freeze ⟨b, vs.size, none⟩ 1).os = w.os ∧ (w.freeze ⟨b, vs.size, none⟩ 1).tape = w.tape ∧ (w.freeze ⟨b, vs.size, none⟩ 1).output = w.output := by
    unfold World.freeze
    rw [if_neg (by omega)]
    exact ⟨rfl, rfl, rfl⟩
  generalize w.freeze ⟨b, vs.size, none⟩ 1 = w' at *
  have hE : Ext w lim w' lim := ⟨by omega, fun b' o _ => by
    by_cases e : b' = b
    · subst e; simp [World.cell?, hnew, h6]
    · simp [World.cell?, hold b' e], fun _ _ ho => ho, fun b' T' hT => by
    by_cases e : b' = b
    · subst e
      simp only [typeAt, h6] at hT
      simpa [typeAt, hnew] using hT
    · simpa [typeAt, hold b' e] using hT⟩
  have hbk : blk (σ r) = some b := by rw [h4]; rfl
  have hRel : RelW G σ lim ⟨st.env, st.tbl.put [(r, .live (.arr t xs sh))]⟩ tmps w' := by
    refine h.noput (v := .dead) (x := undef) (Upd.dead hE ?_ hsame (fun _ _ => rfl) ?_ ?_ ?_ ?_ ?_ (fun _ _ _ => rfl) ?_ (by simp [RA]) (by simp [idsOf, Known]))
    · intro b' hb'; exact h.lz b' (by omega)
    · intro r' hl hn b' hb'
      rw [look_cons] at hn
      have hne : r' ≠ r := by intro e; simp [e] at hn
      have : b' ≠ b := by intro e; subst e; exact hne (h.inj r' r b' hl hlr hb' hbk)
      exact ⟨hold b' this, rfl⟩
    · intro r' z hl
      rw [look_cons] at hl
      split at hl
      · rename_i e; subst e
        simp at hl; subst hl
        refine ⟨?_, hk.put (by intro r''; rw [look_cons]; split <;> simp [look])⟩
        simp only [RR]
        exact ⟨hsz, .inr ⟨b, off, cap, vs, U, fz', h4, h5, hnew, h7, hf2, fun i hi => (h9 i hi).mono hE, h10⟩⟩
      · simp [look] at hl
    · intro r1 r2 z b' hl hl2 hb1 hb2
      rw [look_cons] at hl
      split at hl
      · rename_i e; subst e
        rw [put_one] at hl2
        split at hl2
        · rename_i e; exact e.symm
        · exact h.inj r2 r b' hl2 hlr hb2 hb1
      · simp [look] at hl
    · intro r1 z b' hl hb'
      rw [look_cons] at hl
      split at hl
      · rename_i e; subst e; exact h.own r b' hlr hb'
      · simp [look] at hl
    · intro b' hb' hl
      have : b' ≠ b := by
        intro e; subst e
        rcases h.own r b' hlr hbk with h1 | h1
        · omega
        · exact hl h1
      exact hold b' this
    · intro r'; rw [look_cons]; split <;> simp [look]
  obtain ⟨A, l, c, hvv⟩ := hv
  exact ⟨_, w', σ, lim, hrun, hRel, own_done hvv rfl, known_own (y := .arr t xs sh) (by rw [put_one, if_pos rfl])⟩
end Go.Sh
