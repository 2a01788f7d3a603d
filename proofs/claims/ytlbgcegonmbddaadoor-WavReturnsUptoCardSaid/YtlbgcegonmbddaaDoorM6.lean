/-
  The machine, part 6: slicing, storing, appending.
-/
import Derived.Test.YtlbgcegonmbddaaDoorM5
set_option linter.unusedSimpArgs false
set_option linter.unusedVariables false
namespace Go.Sh
open Go
variable {C : Ctx} {G : Glob} {σ : Sig} {w : World} {lim : Nat → Nat} {st : St} {tmps : Array Value}

theorem boundA_spec {o : Option AV} {d : Int} {k : Int → M Eff} {tbl : Tbl} {l l' : List Nat} {e : Eff} (hm : (boundA o d k).run tbl l = some (e, l')) :
    (o = none ∧ (k d).run tbl l = some (e, l')) ∨ ∃ kk n, o = some (.val (.v (.int kk n))) ∧ (k n).run tbl l = some (e, l') := by
  unfold boundA at hm
  split at hm
  · exact .inl ⟨rfl, hm⟩
  · exact .inr ⟨_, _, rfl, hm⟩
  · exact (M.run_fail hm).elim

/-- an operand that may be there -/
def OpRA (σ : Sig) (w : World) (lim : Nat → Nat) : Option AV → Option Value → Prop
  | none, none => True
  | some a, some v => RA σ w lim a v
  | _, _ => False

theorem run_bound {P : Program} {kk : IntKind} {n : Int} {y : Nat} {code : BoundsCode} (h0 : 0 ≤ n) (h1 : n ≤ y) (w : World) : (Instr.sliceBound (.int kk n) y code).run P w = .ok n.toNat w := by
  simp [Instr.sliceBound, asIntOf, h0, h1]

theorem run_bounds {P : Program} {s : Bool} {len cap : Nat} {lo hi : Option AV} {vlo vhi : Option Value} {l h : Int} (hlo : OpRA σ w lim lo vlo) (hhi : OpRA σ w lim hi vhi)
    (el : lo = none ∧ l = 0 ∨ ∃ kk, lo = some (.val (.v (.int kk l)))) (eh : hi = none ∧ h = len ∨ ∃ kk, hi = some (.val (.v (.int kk h)))) (h0 : 0 ≤ l) (h1 : l ≤ h) (h2 : h ≤ len) (h3 : len ≤ cap) (w : World) :
    (Instr.sliceBounds s len cap vlo vhi none).run P w = .ok (l.toNat, h.toNat, cap) w := by
  have e1 : (vlo = none ∧ l = 0) ∨ ∃ kk, vlo = some (.int kk l) := by
    rcases el with ⟨rfl, e⟩ | ⟨kk, rfl⟩
    · cases vlo with
      | none => exact .inl ⟨rfl, e⟩
      | some v => exact hlo.elim
    · cases vlo with
      | none => exact hlo.elim
      | some v => simp only [OpRA, RA, RP] at hlo; subst hlo; exact .inr ⟨kk, rfl⟩
  have e2 : (vhi = none ∧ h = len) ∨ ∃ kk, vhi = some (.int kk h) := by
    rcases eh with ⟨rfl, e⟩ | ⟨kk, rfl⟩
    · cases vhi with
      | none => exact .inl ⟨rfl, e⟩
      | some v => exact hhi.elim
    · cases vhi with
      | none => exact hhi.elim
      | some v => simp only [OpRA, RA, RP] at hhi; subst hhi; exact .inr ⟨kk, rfl⟩
  have hh : h ≤ cap := by omega
  have hlh : l ≤ (h.toNat : Int) := by omega
  rcases e1 with ⟨rfl, rfl⟩ | ⟨kl, rfl⟩ <;> rcases e2 with ⟨rfl, rfl⟩ | ⟨kh, rfl⟩ <;> simp [Instr.sliceBounds]
  · rw [run_bound (by omega) hh]; simp
  · rw [run_bound h0 (by omega)]; simp
  · rw [run_bound (by omega) hh]; simp only [Result.andThen_ok]; rw [run_bound h0 hlh]; simp

/-- a part of a slice -/
theorem rt_cut {t : Ty} {xs : List t.den} {A : Option Addr} {cap : Nat} (h6 : xs = [] ∨ ∃ b off, A = some ⟨b, off, none⟩ ∧ ∀ i (h : i < xs.length), ∃ c, Rt w lim t xs[i] c ∧
        ∀ j v, c[j]? = some v → w.cell? ⟨b, off + i * t.size + j, none⟩ = some v ∧ off + i * t.size + j < lim b) (h5 : xs.length ≤ cap) {l h : Nat} (h1 : l ≤ h) (h2 : h ≤ xs.length) {sz : Nat} (hs : sz = t.size) :
    Rt w lim (.sl t) ((xs.take h).drop l) [.slice (if cap = l then A else A.map (·.add (l * sz))) (h - l) (cap - l)] := by
  subst hs
  simp only [Rt]
  refine ⟨_, _, _, rfl, by simp; omega, by omega, ?_⟩
  by_cases he : l = h
  · left; subst he; simp
  · right
    rcases h6 with h6 | ⟨b, off, rfl, h6⟩
    · subst h6; simp at h2; omega
    · refine ⟨b, off + l * t.size, by rw [if_neg (by omega)]; simp [add_none], fun i hi => ?_⟩
      have hi' : l + i < h := by simp at hi; omega
      obtain ⟨c, hc, hcell⟩ := h6 (l + i) (by omega)
      refine ⟨c, by simpa [List.getElem_drop, List.getElem_take] using hc, fun j v hj => ?_⟩
      have := hcell j v hj
      rw [show off + l * t.size + i * t.size + j = off + (l + i) * t.size + j by rw [Nat.add_mul]; omega]
      exact this

theorem slice_run {P : Program} {T el : TypeId} {d : TypeDesc} (hu : P.underlying T = some (.slice el)) (hd : P.underlying el = some d) {A : Option Addr} {n cap l h : Nat} {vlo vhi : Option Value} {w : World}
    (hb : (Instr.sliceBounds true n cap vlo vhi none).run P w = .ok (l, h, cap) w) :
    (Instr.sliceAt T (.slice A n cap) vlo vhi none).run P w = .ok (.slice (if cap = l then A else A.map (·.add (l * P.cellsOf el))) (h - l) (cap - l)) w := by
  simp only [Instr.sliceAt, Sem.run_bind, run_underlying hu, Result.andThen_ok, Instr.slice, hb, run_sizeOf hd, Sem.run_pure]

theorem slice_does (h : RelW G σ lim st tmps w) {T : TypeId} {x : AV} {v : Value} {lo hi : Option AV} {vlo vhi : Option Value} {l l' : List Nat} {e : Eff}
    (hm : (actSlice C T x lo hi).run st.tbl l = some (e, l')) (ha : RA σ w lim x v) (hlo : OpRA σ w lim lo vlo) (hhi : OpRA σ w lim hi vhi) :
    Does C G st tmps w (Instr.sliceAt T v vlo vhi none) e := by
  unfold actSlice at hm
  split at hm
  · rename_i hu
    split at hm
    · rename_i s
      simp only [RA, RP] at ha; subst ha
      rcases boundA_spec hm with ⟨rfl, hm2⟩ | ⟨kh, hn, rfl, hm2⟩ <;> rcases boundA_spec hm2 with ⟨rfl, hm3⟩ | ⟨kl, ln, rfl, hm3⟩
      all_goals
        obtain ⟨hc, hm4⟩ := M.run_need hm3
        obtain ⟨h0, h1, h2⟩ := of_decide_eq_true hc
        obtain ⟨rfl, _⟩ := M.run_ret hm4
        refine Does.quiet h ⟨_, ?_, plain_ra, known_nil, rfl⟩
        simp only [Instr.sliceAt, Sem.run_bind, run_underlying hu, Result.andThen_ok, Instr.slice, Option.isSome_none, Bool.false_eq_true, if_false]
        rw [run_bounds (s := false) hlo hhi (by first | exact .inl ⟨rfl, rfl⟩ | exact .inr ⟨_, rfl⟩) (by first | exact .inl ⟨rfl, rfl⟩ | exact .inr ⟨_, rfl⟩) h0 h1 h2 (Nat.le_refl _)]
        simp
    · exact (M.run_fail hm).elim
  · rename_i el hu
    cases he : elemT C.P T with
    | none => simp [he, M.run] at hm
    | some q =>
      obtain ⟨ee, t⟩ := q
      simp only [he] at hm
      obtain ⟨⟨p, u⟩, l1, h1, h2⟩ := M.run_bind_some hm
      simp only at h2
      cases hp : PV.asSl t p with
      | none => simp [hp, M.run] at h2
      | some xs =>
        simp only [hp] at h2
        obtain ⟨s1, k1⟩ := toPV_spec (σ := σ) h1
        obtain ⟨lim1, hR, hE, hsh⟩ := RelW.shows u h s1
        have hrt := rt_asSl hp (k1 w lim v ha lim1 hE hsh)
        obtain ⟨hue, ht, hs⟩ := elemT_spec he
        obtain ⟨d, hd⟩ := tyOf_underlying ht
        rcases boundA_spec h2 with ⟨rfl, hm2⟩ | ⟨kh, hn, rfl, hm2⟩ <;> rcases boundA_spec hm2 with ⟨rfl, hm3⟩ | ⟨kl, ln, rfl, hm3⟩
        all_goals
          obtain ⟨hc, hm4⟩ := M.run_need hm3
          obtain ⟨h0, h1, h3⟩ := of_decide_eq_true hc
          obtain ⟨rfl, _⟩ := M.run_ret hm4
          simp only [Rt] at hrt
          obtain ⟨A, len, cap, hv, h4, h5, h6⟩ := hrt
          obtain rfl : v = .slice A len cap := by simpa using hv
          subst h4
          have hb := run_bounds (P := C.P) (s := true) (len := xs.length) (cap := cap) hlo hhi (by first | exact .inl ⟨rfl, rfl⟩ | exact .inr ⟨_, rfl⟩) (by first | exact .inl ⟨rfl, rfl⟩ | exact .inr ⟨_, rfl⟩) h0 h1 h3 h5 w
          refine ⟨_, w, σ, lim1, slice_run hue hd hb, hR, ?_, known_nil⟩
          simp only [RA, RP]
          exact rt_cut h6 h5 (by omega) (by omega) hs
  · exact (M.run_fail hm).elim

/-- writing cells that are not frozen -/
theorem run_storeCells {P : Program} (g o : Nat) (t : TypeId) (fz : Nat × Nat) : ∀ (vs : List Value) (i : Nat) (cur : Array Value) (w : World), w.heap[g]? = some (.cells cur t fz) → o + i + vs.length ≤ cur.size →
    (∀ x, x < cur.size → ¬ (fz.1 ≤ x ∧ x < fz.2)) → (∀ v ∈ vs, v.oneCell' = true) →
    (storeCells ⟨g, o, none⟩ vs i).run P w = .ok () (w.setRow g (cur.toList.take (o + i) ++ vs ++ cur.toList.drop (o + i + vs.length)).toArray)
  | [], i, cur, w, hg, _, _, _ => by
    simp only [storeCells, List.append_nil, List.length_nil, Nat.add_zero, List.take_append_drop, Array.toArray_toList]
    rw [setRow_self w g cur t fz hg]
    rfl
  | v :: rest, i, cur, w, hg, hl, hf, h1 => by
    have hi : o + i < cur.size := by simp at hl; omega
    have hadd : (⟨g, o, none⟩ : Addr).add i = ⟨g, o + i, none⟩ := add_none g o i
    have hcell : w.cell? ⟨g, o + i, none⟩ = some cur[o + i] := by simp [World.cell?, hg, hi]
    have hfro : w.frozen? ⟨g, o + i, none⟩ = false := by
      have := hf (o + i) hi
      simp only [World.frozen?, hg]
      simp
      intro h2
      have h3 : ¬ (o + i < fz.2) := fun h3 => this ⟨h2, h3⟩
      omega
    have hst : (store ((⟨g, o, none⟩ : Addr).add i) v).run P w = .ok () (w.setRow g (cur.setIfInBounds (o + i) v)) := by
      rw [hadd, run_store P w _ v _ (h1 v (by simp)), hcell]
      simp [hfro, setCell_eq_setRow w g (o + i) cur t fz v hg]
    have ih := run_storeCells (P := P) g o t fz rest (i + 1) (cur.setIfInBounds (o + i) v) (w.setRow g (cur.setIfInBounds (o + i) v)) (setRow_heap w g cur _ t _ hg) (by simp at hl ⊢; omega)
      (fun x hx => hf x (by simpa using hx)) (fun x hx => h1 x (by simp [hx]))
    simp only [storeCells, Sem.run_bind, hst, Result.andThen_ok, ih, setRow_setRow]
    congr 2
    apply Array.ext'
    simp only [Array.toList_setIfInBounds]
    apply List.ext_getElem?
    intro j
    simp only [List.getElem?_append, List.getElem?_take, List.getElem?_drop, List.length_take, List.length_append, List.length_set, Array.length_toList, List.length_cons, List.getElem?_set, List.getElem?_cons]
    repeat' split
    all_goals first | rfl | omega | (congr 1; omega)

/-- a block that a live name holds is written above what stays -/
theorem RelW.write (h : RelW G σ lim st tmps w) {r : Nat} {x y : Res} (hr : st.tbl r = .live x) {b : Nat} (hb : blk (σ r) = some b) {vs cs : Array Value} {T : TypeId} {fz : Nat × Nat}
    (hg : w.heap[b]? = some (.cells vs T fz)) (hsame : ∀ o, o < lim b → cs[o]? = vs[o]?) (hk : Known st.tbl (resIds r y))
    (hy : Ext w lim (w.setRow b cs) lim → RR σ (w.setRow b cs) lim r y) :
    RelW G σ lim ⟨st.env, st.tbl.put [(r, .live y)]⟩ tmps (w.setRow b cs) ∧ Ext w lim (w.setRow b cs) lim := by
  have hlr : isLive (st.tbl r) = true := by rw [hr]; rfl
  have hE : Ext w lim (w.setRow b cs) lim := ⟨by simp, fun b' o ho => by
    by_cases e : b' = b
    · subst e
      rw [cell_setRow_same w b' o vs cs T fz hg, hsame o ho]
      simp [World.cell?, hg]
    · exact cell_setRow_other w b cs _ e, fun _ _ ho => ho, fun b' T' hT => by
    by_cases e : b' = b
    · subst e
      simp only [typeAt, hg] at hT
      simpa [typeAt, setRow_heap w b' vs cs T fz hg] using hT
    · simpa [typeAt, setRow_other w b b' cs e] using hT⟩
  refine ⟨h.noput (v := .dead) (x := undef) (Upd.dead hE ?_ ⟨rfl, rfl, rfl⟩ (fun _ _ => rfl) ?_ ?_ ?_ ?_ ?_ (fun _ _ _ => rfl) ?_ (by simp [RA]) (by simp [idsOf, Known])), hE⟩
  · intro b' hb'; exact h.lz b' (by simpa using hb')
  · intro r' hl hn b' hb'
    rw [look_cons] at hn
    have hne : r' ≠ r := by intro e; simp [e] at hn
    have : b' ≠ b := by intro e; subst e; exact hne (h.inj r' r b' hl hlr hb' hb)
    exact ⟨setRow_other w b b' cs this, rfl⟩
  · intro r' z hl
    rw [look_cons] at hl
    split at hl
    · rename_i e; subst e
      simp at hl; subst hl
      exact ⟨hy hE, hk.put (by intro r''; rw [look_cons]; split <;> simp [look])⟩
    · simp [look] at hl
  · intro r1 r2 z b' hl hl2 hb1 hb2
    rw [look_cons] at hl
    split at hl
    · rename_i e; subst e
      rw [put_one] at hl2
      split at hl2
      · rename_i e; exact e.symm
      · exact h.inj r2 r b' hl2 hlr hb2 hb1
    · simp [look] at hl
  · intro r1 z b' hl hb'
    rw [look_cons] at hl
    split at hl
    · rename_i e; subst e; exact h.own r b' hlr hb'
    · simp [look] at hl
  · intro b' hb' hl
    have : b' ≠ b := by
      intro e; subst e
      rcases h.own r b' hlr hb with h1 | h1
      · omega
      · exact hl h1
    exact setRow_other w b b' cs this
  · intro r'; rw [look_cons]; split <;> simp [look]

theorem ones_of {ws : List AV} {vs : List Value} (h : ws.all oneCellA = true) (hv : RAs σ w lim ws vs) : ∀ v ∈ vs, v.oneCell' = true := by
  induction ws generalizing vs with
  | nil => match vs, hv with | [], _ => simp
  | cons a ws ih =>
    match vs, hv with
    | v :: vs, hv =>
      simp only [List.all_cons, Bool.and_eq_true] at h
      simp only [RAs] at hv
      intro u hu
      cases hu with
      | tail _ hu => exact ih h.2 hv.2 u hu
      | head =>
        have h1 := h.1
        have h2 := hv.1
        cases a with
        | val p =>
          cases p with
          | v x =>
            simp only [RA, RP] at h2; subst h2
            cases v <;> first | rfl | (simp [oneCellA] at h1)
          | sl t xs => simp only [RA, RP] at h2; exact rt_sl_one h2
        | own r => simp only [RA] at h2; obtain ⟨_, A, l, c, rfl⟩ := h2; rfl
        | bx r k => simp only [RA] at h2; obtain ⟨b, _, rfl⟩ := h2; rfl
        | el r t i k => simp only [RA] at h2; obtain ⟨b, off, len, cap, _, rfl⟩ := h2; rfl
        | sp ps => simp only [RA] at h2; obtain ⟨b, off, rfl, _⟩ := h2; rfl
        | fn f => simp only [RA] at h2; subst h2; rfl
        | me r T => simp only [RA] at h2; obtain ⟨p, rfl, _⟩ := h2; rfl
        | agg l => simp [oneCellA] at h1
        | tup l => simp [oneCellA] at h1
        | dead => simp [oneCellA] at h1

theorem all2_setAt {α β : Type} {R : α → β → Prop} {l : List α} {m : List β} {a : List α} {b : List β} (k : Nat) (h : All2 R l m) (k' : All2 R a b) : All2 R (setAt l k a) (setAt m k b) := by
  unfold setAt
  have := k'.length
  rw [this]
  exact All2.append (All2.append (All2.take _ h) k') (All2.drop _ h)

/-- what storing comes to -/
def DoesU (C : Ctx) (G : Glob) (st : St) (tmps : Array Value) (w : World) (s : Sem Unit) (e : Eff) : Prop :=
  ∃ w' σ' lim', s.run C.P w = .ok () w' ∧ RelW G σ' lim' ⟨st.env, st.tbl.put e.ups⟩ tmps w' ∧ e.val = .tup []

theorem store_does (h : RelW G σ lim st tmps w) {T : TypeId} {a x : AV} {va vx : Value} {l l' : List Nat} {e : Eff} (hm : (actStore C T a x).run st.tbl l = some (e, l'))
    (ha : RA σ w lim a va) (hx : RA σ w lim x vx) (kx : Known st.tbl (idsOf x)) (hT : ∃ d, C.P.underlying T = some d) : DoesU C G st tmps w (Instr.storeAt T va vx) e := by
  unfold actStore at hm
  obtain ⟨d, hT⟩ := hT
  cases hc : x.cells? with
  | none => simp [hc, M.run] at hm
  | some ws =>
    simp only [hc] at hm
    obtain ⟨hg, hm1⟩ := M.run_guard hm
    simp only [Bool.and_eq_true] at hg
    have hlen := beq_eq hg.1
    obtain ⟨vs, h1, h2, _⟩ := cells_spec hc hx
    have hvl := (RAs_all2.1 h2).length
    have hone := ones_of hg.2 h2
    have run : ∀ (b o : Nat) (cur : Array Value) (U : TypeId) (fz : Nat × Nat), w.heap[b]? = some (.cells cur U fz) → (∀ x, x < cur.size → ¬ (fz.1 ≤ x ∧ x < fz.2)) → o + vs.length ≤ cur.size →
        (Instr.storeAt T (.pointer (some ⟨b, o, none⟩)) vx).run C.P w = .ok () (w.setRow b (cur.toList.take o ++ vs ++ cur.toList.drop (o + vs.length)).toArray) := by
      intro b o cur U fz hb hfz hfit
      have := run_storeCells (P := C.P) b o U fz vs 0 cur w hb (by simpa using hfit) hfz hone
      simp only [Nat.add_zero] at this
      simp only [Instr.storeAt, Instr.sureAddr, Sem.run_bind, Sem.run_pure, Result.andThen_ok, storeVar, run_sizeOf hT, h1]
      rw [if_neg (by simp [← hlen, hvl])]
      exact this
    split at hm1
    · rename_i r k
      simp only [M.run] at hm1
      cases hr : st.tbl r with
      | fresh => simp [hr, M.run] at hm1
      | gone => simp [hr, M.run] at hm1
      | live y =>
        cases y with
        | arr => simp [hr, M.run] at hm1
        | nest => simp [hr, M.run] at hm1
        | box cs =>
          simp only [hr] at hm1
          obtain ⟨hle, hm2⟩ := M.run_guard hm1
          have hle := Nat.le_of_ble_eq_true hle
          obtain ⟨rfl, _⟩ := M.run_ret hm2
          obtain ⟨hR, hK⟩ := h.res r _ hr
          obtain ⟨b, cur, U, h3, rfl, h5, h6, h7⟩ := box_cells ha hR
          have hcl := (RAs_all2.1 h6).length
          have hrun := run b k cur U (0, 0) h5 (fun o _ => okfz o) (by have hcz : cs.length = cur.size := (by rw [hcl]; simp); omega)
          obtain ⟨hW, hE⟩ := h.write hr (y := .box (setAt cs k ws)) (by rw [h3]; rfl) (cs := (cur.toList.take k ++ vs ++ cur.toList.drop (k + vs.length)).toArray) h5 (fun o ho => by omega)
            (by
              intro r' hr'
              obtain ⟨a', ha', hr'⟩ := mem_idsOfs hr'
              simp only [setAt, List.append_assoc, List.mem_append] at ha'
              rcases ha' with ha' | ha' | ha'
              · exact (hK.mem (List.mem_of_mem_take ha')) r' hr'
              · exact ((cells_known hc kx).mem ha') r' hr'
              · exact (hK.mem (List.mem_of_mem_drop ha')) r' hr')
            (fun hE => by
              simp only [RR]
              refine ⟨b, _, U, h3, setRow_heap w b cur _ U _ h5, ?_, h7⟩
              have := all2_setAt k (RAs_all2.1 h6) (RAs_all2.1 h2)
              have h8 := RAs.mono (T := st.tbl) hE (fun _ _ => rfl) _ _ (by
                intro r' hr'
                obtain ⟨a', ha', hr'⟩ := mem_idsOfs hr'
                simp only [setAt, List.append_assoc, List.mem_append] at ha'
                rcases ha' with ha' | ha' | ha'
                · exact (hK.mem (List.mem_of_mem_take ha')) r' hr'
                · exact ((cells_known hc kx).mem ha') r' hr'
                · exact (hK.mem (List.mem_of_mem_drop ha')) r' hr') (RAs_all2.2 this)
              simpa [setAt] using h8)
          exact ⟨_, _, _, hrun, hW, rfl⟩
    · rename_i r t i k
      simp only [M.run] at hm1
      cases hr : st.tbl r with
      | fresh => simp [hr, M.run] at hm1
      | gone => simp [hr, M.run] at hm1
      | live y =>
        cases y with
        | box => simp [hr, M.run] at hm1
        | nest => simp [hr, M.run] at hm1
        | arr t' xs sh =>
          cases sh with
          | true => simp [hr, M.run] at hm1
          | false =>
            simp only [hr] at hm1
            split at hm1
            · rename_i ht
              subst ht
              obtain ⟨⟨ps, u⟩, l1, h3, h4⟩ := M.run_bind_some hm1
              simp only at h4
              obtain ⟨hi, h5⟩ := M.run_need h4
              have hi := of_decide_eq_true hi
              obtain ⟨hg2, h6⟩ := M.run_guard h5
              simp only [Bool.and_eq_true] at hg2
              have hle := Nat.le_of_ble_eq_true hg2.1
              have hxi : xs.getD i t'.dflt = xs[i] := by simp [List.getD, List.getElem?_eq_getElem hi]
              cases ho : ofAll t' (setAt (cellsOf t' (xs.getD i t'.dflt)) k ps) with
              | none => simp only [ho] at h6; exact (M.run_fail h6).elim
              | some y =>
                simp only [ho] at h6
                obtain ⟨rfl, _⟩ := M.run_ret h6
                rw [hxi] at ho
                obtain ⟨s1, k1⟩ := toPVs_spec (σ := σ) h3
                obtain ⟨lim1, hR, hE, hsh⟩ := RelW.shows u h s1
                have hps := k1 w lim _ h2 lim1 hE hsh
                have hru : look u r = none := by
                  cases hl : look u r with
                  | none => rfl
                  | some z =>
                    have := List.all_eq_true.1 hg2.2 _ (look_mem hl)
                    simp [beq_self] at this
                have hr1 : (st.tbl.put u) r = .live (.arr t' xs false) := by simp [Tbl.put, hru, hr]
                obtain ⟨hRR, _⟩ := hR.res r _ hr1
                simp only [RR] at hRR
                simp only [RA] at ha
                obtain ⟨b, off, len, cap, e1, rfl⟩ := ha
                rcases hRR.2 with ⟨h8, h9⟩ | ⟨b', off', cap', cur, U, fz, g1, g2, g3, g4, g5, g6, g7⟩
                · rw [h9] at e1; simp at e1
                · rw [g1] at e1
                  obtain ⟨⟨rfl, rfl⟩, rfl, rfl⟩ : (b' = b ∧ off' = off) ∧ xs.length = len ∧ cap' = cap := by simpa using e1
                  have him : (i + 1) * t'.size ≤ xs.length * t'.size := Nat.mul_le_mul_right _ hi
                  have hxm : xs.length * t'.size ≤ cap' * t'.size := Nat.mul_le_mul_right _ g2
                  rw [Nat.add_mul, Nat.one_mul] at him
                  have hrun := run b' (off' + i * t'.size + k) cur U fz g3 g5.free (by omega)
                  simp at g7
                  have hold := g6 i hi
                  have holdl := Rt.length hold
                  have hnew : Rt w lim1 t' y (setAt ((cur.toList.drop (off' + i * t'.size)).take t'.size) k vs) := rt_ofAll ho (all2_setAt k (all2_cellsOf hold) hps)
                  have hcl : cur.toList.length = cur.size := by simp
                  have hpart : (((cur.toList.take (off' + i * t'.size + k) ++ vs ++ cur.toList.drop (off' + i * t'.size + k + vs.length)).drop (off' + i * t'.size)).take t'.size) = setAt ((cur.toList.drop (off' + i * t'.size)).take t'.size) k vs := by
                    unfold setAt
                    apply List.ext_getElem?
                    intro j
                    simp only [List.getElem?_append, List.getElem?_take, List.getElem?_drop, List.length_take, List.length_append, List.length_drop]
                    repeat' split
                    all_goals first | rfl | omega | (congr 1; omega)
                  have hother : ∀ j, j < xs.length → j ≠ i → (((cur.toList.take (off' + i * t'.size + k) ++ vs ++ cur.toList.drop (off' + i * t'.size + k + vs.length)).drop (off' + j * t'.size)).take t'.size) = ((cur.toList.drop (off' + j * t'.size)).take t'.size) := by
                    intro j hj hji
                    have hsep : (j + 1) * t'.size ≤ i * t'.size ∨ (i + 1) * t'.size ≤ j * t'.size := by
                      rcases Nat.lt_or_gt_of_ne hji with h' | h'
                      · exact .inl (Nat.mul_le_mul_right _ h')
                      · exact .inr (Nat.mul_le_mul_right _ h')
                    rw [Nat.add_mul, Nat.one_mul, Nat.add_mul, Nat.one_mul] at hsep
                    apply List.ext_getElem?
                    intro m
                    simp only [List.getElem?_append, List.getElem?_take, List.getElem?_drop, List.length_take, List.length_append, List.length_drop]
                    repeat' split
                    all_goals first | rfl | omega | (congr 1; omega)
                  obtain ⟨hW, hE2⟩ := hR.write (st := ⟨st.env, st.tbl.put u⟩) hr1 (y := .arr t' (xs.set i y) false) (b := b') (by rw [g1]; rfl)
                    (cs := (cur.toList.take (off' + i * t'.size + k) ++ vs ++ cur.toList.drop (off' + i * t'.size + k + vs.length)).toArray) g3 (fun o ho => by omega) (by intro r' hr'; cases hr')
                    (fun hE2 => by
                      simp only [RR]
                      refine ⟨hRR.1, .inr ⟨b', off', cap', _, U, fz, by rw [List.length_set]; exact g1, by rw [List.length_set]; exact g2, setRow_heap w b' cur _ U fz g3, by simp; omega, ⟨fun o ho => g5.free o (by simp at ho; omega), g5.kind, g5.ord⟩, fun j hj => ?_, by simp; exact g7⟩⟩
                      simp only [List.length_set] at hj
                      by_cases hji : j = i
                      · subst hji
                        simp only [List.getElem_set_self]
                        rw [hpart]
                        exact hnew.mono hE2
                      · simp only [List.getElem_set_ne (Ne.symm hji)]
                        rw [hother j hj hji]
                        exact (g6 j hj).mono hE2)
                  exact ⟨_, _, _, hrun, by rw [put_cons]; exact hW, rfl⟩
            · simp [M.run] at hm1
    · exact (M.run_fail hm1).elim

/-- one name goes -/
theorem RelW.gone (h : RelW G σ lim st tmps w) {r : Nat} (hr : st.tbl r ≠ .fresh) : RelW G σ lim ⟨st.env, st.tbl.put [(r, .gone)]⟩ tmps w := by
  have hn : ∀ r', look [(r, RS.gone)] r' ≠ some .fresh := by intro r'; rw [look_cons]; split <;> simp [look]
  have hl' : ∀ r' y, look [(r, RS.gone)] r' = some (.live y) → False := by
    intro r' y; rw [look_cons]; split <;> simp [look]
  exact h.noput (v := .dead) (x := undef) (Upd.dead (Ext.refl _ _) h.lz ⟨rfl, rfl, rfl⟩ (fun _ _ => rfl) (fun _ _ _ _ _ => ⟨rfl, rfl⟩) (fun r' y hl => (hl' r' y hl).elim) (fun r' _ y _ hl => (hl' r' y hl).elim)
    (fun r' y _ hl => (hl' r' y hl).elim) (fun _ _ _ => rfl) (fun _ _ _ => rfl) hn (by simp [RA]) (by simp [idsOf, Known]))

set_option maxHeartbeats 1000000 in
/-- appending what is told by its length and its cells -/
theorem app_room {P : Program} {T U e : TypeId} {dU : TypeDesc} {i : TypeInfo} (ht : P.underlying T = some (.slice e)) (hU : P.underlying U = some dU) (hz : dU = .string ∨ ∃ e', dU = .slice e')
    (hi : P.info? e = some i) {x : Value} {n : Nat} {news : List Value} {w : World} (hlen : (Builtin.lenOf x).run P w = .ok n w) (hfc : (Builtin.firstCells i.size n x).run P w = .ok news.toArray w)
    {b off sLen sCap : Nat} {cur : Array Value} {V : TypeId} {fz : Nat × Nat} (hg : w.heap[b]? = some (.cells cur V fz)) (hfz : ∀ o, o < cur.size → ¬ (fz.1 ≤ o ∧ o < fz.2)) (hroom : sLen + n ≤ sCap)
    (hfit : off + sLen * i.size + news.length ≤ cur.size) (h1 : ∀ v ∈ news, v.oneCell' = true) (ty : TypeId) :
    (Builtin.append_ #[T, U] ty #[.slice (some ⟨b, off, none⟩) sLen sCap, x]).run P w = .ok (.slice (some ⟨b, off, none⟩) (sLen + n) sCap)
      (w.setRow b (cur.toList.take (off + sLen * i.size) ++ news ++ cur.toList.drop (off + sLen * i.size + news.length)).toArray) := by
  have hst := run_storeCells (P := P) b (off + sLen * i.size) V fz news 0 cur w hg (by simpa using hfit) hfz h1
  simp only [Nat.add_zero] at hst
  rcases hz with rfl | ⟨e', rfl⟩
  all_goals simp [Builtin.append_, run_underlying ht, run_underlying hU, sizeOf, typeInfo, hi, hlen, hroom, hfc, add_none, hst]

set_option maxHeartbeats 1000000 in
theorem app_none {P : Program} {T U e : TypeId} {dU : TypeDesc} {i : TypeInfo} (ht : P.underlying T = some (.slice e)) (hU : P.underlying U = some dU) (hz : dU = .string ∨ ∃ e', dU = .slice e')
    (hi : P.info? e = some i) {x : Value} {w : World} (hlen : (Builtin.lenOf x).run P w = .ok 0 w) (hfc : (Builtin.firstCells i.size 0 x).run P w = .ok #[] w) (ty : TypeId) :
    (Builtin.append_ #[T, U] ty #[.slice none 0 0, x]).run P w = .ok (.slice none 0 0) w := by
  rcases hz with rfl | ⟨e', rfl⟩
  all_goals simp [Builtin.append_, run_underlying ht, run_underlying hU, sizeOf, typeInfo, hi, hlen, hfc]

set_option maxHeartbeats 1000000 in
theorem app_grow {P : Program} {T U e : TypeId} {dU : TypeDesc} {i : TypeInfo} {z : Value} (ht : P.underlying T = some (.slice e)) (hU : P.underlying U = some dU) (hz : dU = .string ∨ ∃ e', dU = .slice e')
    (hi : P.info? e = some i) (hzero : i.zero = some z) {x : Value} {n : Nat} {news olds : List Value} {w : World} (hlen : (Builtin.lenOf x).run P w = .ok n w) (hfc : (Builtin.firstCells i.size n x).run P w.drew = .ok news.toArray w.drew)
    {A : Option Addr} {sLen sCap : Nat} (hold : (Builtin.firstCells i.size sLen (.slice A sLen sCap)).run P w.drew = .ok olds.toArray w.drew) (hgr : sCap < sLen + n) (h63 : sLen + n < 4294967296)
    (h48 : Builtin.nextslicecap (sLen + n) sCap * i.bytes ≤ 281474976710656) (ty : TypeId) :
    (Builtin.append_ #[T, U] ty #[.slice A sLen sCap, x]).run P w = .ok (.slice (some ⟨w.heap.size, 0, none⟩) (sLen + n) (grownCap w (sLen + n) sCap e))
      (w.drew.alloc (.cells (olds.toArray ++ news.toArray ++ Builtin.zeroCells z.cells (grownCap w (sLen + n) sCap e - (sLen + n))) e)) := by
  have hn : ¬ (sLen + n ≤ sCap) := by omega
  have h63' : ¬ (9223372036854775807 < ((sLen : Int) + (n : Int))) := by omega
  have h48' : ¬ (281474976710656 < Builtin.nextslicecap (sLen + n) sCap * i.bytes) := by omega
  rcases hz with rfl | ⟨e', rfl⟩
  all_goals
    simp [Builtin.append_, run_underlying ht, run_underlying hU, sizeOf, typeInfo, zeroValue, hi, hzero, hlen, hn, h63', h48', Question.forced, hfc, hold, newRow, grownCap]
    congr 2
    apply Array.ext'
    simp [List.append_assoc]

set_option maxHeartbeats 1000000 in
/-- appending noughts -/
theorem zapp_room {P : Program} {T U e : TypeId} {k : IntKind} {i : TypeInfo} {z : Value} (ht : P.underlying T = some (.slice e)) (hU : P.underlying U = some (.int k))
    (hi : P.info? e = some i) (hzero : i.zero = some z) {n : Nat} {w : World} (hn : n < 4294967296) (hby : i.bytes ≤ 65536)
    {b off sLen sCap : Nat} {cur : Array Value} {V : TypeId} {fz : Nat × Nat} (hg : w.heap[b]? = some (.cells cur V fz)) (hfz : ∀ o, o < cur.size → ¬ (fz.1 ≤ o ∧ o < fz.2)) (hroom : sLen + n ≤ sCap)
    {news : List Value} (hnews : news.toArray = if n * i.size = 0 then #[] else Builtin.zeroCells z.cells n)
    (hfit : off + sLen * i.size + news.length ≤ cur.size) (h1 : ∀ v ∈ news, v.oneCell' = true) (ty : TypeId) :
    (Builtin.append_ #[T, U] ty #[.slice (some ⟨b, off, none⟩) sLen sCap, .int .i64 n]).run P w = .ok (.slice (some ⟨b, off, none⟩) (sLen + n) sCap)
      (w.setRow b (cur.toList.take (off + sLen * i.size) ++ news ++ cur.toList.drop (off + sLen * i.size + news.length)).toArray) := by
  have hst := run_storeCells (P := P) b (off + sLen * i.size) V fz news 0 cur w hg (by simpa using hfit) hfz h1
  simp only [Nat.add_zero] at hst
  have w1 : IntKind.i64.wrap (n : Int) = n := wrap_small (by omega) (by omega)
  have hbig : ¬ (281474976710656 < (n : Int) * (i.bytes : Int)) := by
    have h3 : n * i.bytes ≤ 4294967295 * 65536 := Nat.mul_le_mul (by omega) hby
    have : ((n * i.bytes : Nat) : Int) ≤ 281474976710656 := by omega
    rw [Int.natCast_mul] at this
    omega
  have hn0 : ¬ ((n : Int) < 0) := by omega
  by_cases h0 : n * i.size = 0
  · rw [if_pos h0] at hnews
    have : news = [] := by simpa using hnews
    subst this
    simp [Builtin.append_, run_underlying ht, run_underlying hU, sizeOf, typeInfo, zeroValue, hi, hzero, asInt, asIntOf, w1, hn0, hbig, hroom, h0, add_none, storeCells]
    have hr := setRow_self w b cur V fz hg
    simp [hr]
  · rw [if_neg h0] at hnews
    have hnews' : (Builtin.zeroCells z.cells n).toList = news := by rw [← hnews]
    simp [Builtin.append_, run_underlying ht, run_underlying hU, sizeOf, typeInfo, zeroValue, hi, hzero, asInt, asIntOf, w1, hn0, hbig, hroom, h0, add_none, hnews', hst]

set_option maxHeartbeats 1000000 in
theorem zapp_none {P : Program} {T U e : TypeId} {k : IntKind} {i : TypeInfo} {z : Value} (ht : P.underlying T = some (.slice e)) (hU : P.underlying U = some (.int k))
    (hi : P.info? e = some i) (hzero : i.zero = some z) {w : World} (ty : TypeId) :
    (Builtin.append_ #[T, U] ty #[.slice none 0 0, .int .i64 0]).run P w = .ok (.slice none 0 0) w := by
  have w1 : IntKind.i64.wrap (0 : Int) = 0 := wrap_small (by omega) (by omega)
  simp [Builtin.append_, run_underlying ht, run_underlying hU, sizeOf, typeInfo, zeroValue, hi, hzero, asInt, asIntOf, w1]

set_option maxHeartbeats 1000000 in
theorem zapp_grow {P : Program} {T U e : TypeId} {k : IntKind} {i : TypeInfo} {z : Value} (ht : P.underlying T = some (.slice e)) (hU : P.underlying U = some (.int k))
    (hi : P.info? e = some i) (hzero : i.zero = some z) {n : Nat} {olds news : List Value} {w : World} (hn : n < 4294967296) (hby : i.bytes ≤ 65536) (hs0 : 0 < i.size)
    {A : Option Addr} {sLen sCap : Nat} (hold : (Builtin.firstCells i.size sLen (.slice A sLen sCap)).run P w.drew = .ok olds.toArray w.drew) (hgr : sCap < sLen + n) (h63 : sLen + n < 4294967296)
    (h48 : Builtin.nextslicecap (sLen + n) sCap * i.bytes ≤ 281474976710656) (hnews : news.toArray = Builtin.zeroCells z.cells n) (ty : TypeId) :
    (Builtin.append_ #[T, U] ty #[.slice A sLen sCap, .int .i64 n]).run P w = .ok (.slice (some ⟨w.heap.size, 0, none⟩) (sLen + n) (grownCap w (sLen + n) sCap e))
      (w.drew.alloc (.cells (olds.toArray ++ news.toArray ++ Builtin.zeroCells z.cells (grownCap w (sLen + n) sCap e - (sLen + n))) e)) := by
  have hroom : ¬ (sLen + n ≤ sCap) := by omega
  have h63' : ¬ (9223372036854775807 < ((sLen : Int) + (n : Int))) := by omega
  have h48' : ¬ (281474976710656 < Builtin.nextslicecap (sLen + n) sCap * i.bytes) := by omega
  have w1 : IntKind.i64.wrap (n : Int) = n := wrap_small (by omega) (by omega)
  have hbig : ¬ (281474976710656 < (n : Int) * (i.bytes : Int)) := by
    have h3 : n * i.bytes ≤ 4294967295 * 65536 := Nat.mul_le_mul (by omega) hby
    have : ((n * i.bytes : Nat) : Int) ≤ 281474976710656 := by omega
    rw [Int.natCast_mul] at this
    omega
  have hn0 : ¬ ((n : Int) < 0) := by omega
  by_cases h0 : n * i.size = 0
  · have hnz : n = 0 := by
      rcases Nat.mul_eq_zero.1 h0 with h | h
      · exact h
      · omega
    subst hnz
    have : news = [] := by
      have : news.toArray = #[] := by rw [hnews]; simp [Builtin.zeroCells]
      simpa using this
    subst this
    simp [Builtin.append_, run_underlying ht, run_underlying hU, sizeOf, typeInfo, zeroValue, hi, hzero, asInt, asIntOf, hbig, Question.forced, hold, newRow, grownCap]
    have w0 : IntKind.i64.wrap (0 : Int) = 0 := wrap_small (by omega) (by omega)
    have hc : ¬ (sLen ≤ sCap) := by omega
    have h6 : ¬ (9223372036854775807 < (sLen : Int)) := by omega
    have h7 : ¬ (281474976710656 < Builtin.nextslicecap sLen sCap * i.bytes) := by simpa using h48'
    simp [w0, hc, h6, h7, hold]
  · simp [Builtin.append_, run_underlying ht, run_underlying hU, sizeOf, typeInfo, zeroValue, hi, hzero, asInt, asIntOf, w1, hn0, hbig, hroom, h0, h63', h48', Question.forced, hold, newRow, grownCap]
    congr 2
    rw [← hnews]
    apply Array.ext'
    simp [List.append_assoc]

/-- a new name for a block that a live name held, written above what stays -/
theorem RelW.takeover (h : RelW G σ lim st tmps w) {r n : Nat} {x y : Res} (hr : st.tbl r = .live x) (hn : st.tbl n = .fresh) {b : Nat} (hb : blk (σ r) = some b) {vs cs : Array Value} {T : TypeId} {fz : Nat × Nat}
    (hg : w.heap[b]? = some (.cells vs T fz)) (hsame : ∀ o, o < lim b → cs[o]? = vs[o]?) (hk : Known st.tbl (resIds n y)) {v : Value} (hv : blk v = some b)
    (hy : Ext w lim (w.setRow b cs) lim → RR (fun s => if s = n then v else σ s) (w.setRow b cs) lim n y) :
    RelW G (fun s => if s = n then v else σ s) lim ⟨st.env, st.tbl.put [(n, .live y), (r, .gone)]⟩ tmps (w.setRow b cs) := by
  have hlr : isLive (st.tbl r) = true := by rw [hr]; rfl
  have hnr : n ≠ r := by intro e; subst e; rw [hr] at hn; cases hn
  have hE : Ext w lim (w.setRow b cs) lim := ⟨by simp, fun b' o ho => by
    by_cases e : b' = b
    · subst e
      rw [cell_setRow_same w b' o vs cs T fz hg, hsame o ho]
      simp [World.cell?, hg]
    · exact cell_setRow_other w b cs _ e, fun _ _ ho => ho, fun b' T' hT => by
    by_cases e : b' = b
    · subst e
      simp only [typeAt, hg] at hT
      simpa [typeAt, setRow_heap w b' vs cs T fz hg] using hT
    · simpa [typeAt, setRow_other w b b' cs e] using hT⟩
  have hσ : ∀ s, st.tbl s ≠ .fresh → (if s = n then v else σ s) = σ s := by
    intro s hs; rw [if_neg]; intro e; subst e; exact hs hn
  have hnf : ∀ s, look [(n, RS.live y), (r, RS.gone)] s ≠ some .fresh := by intro s; rw [look_cons, look_cons]; repeat' split <;> simp [look]
  have hl : ∀ s z, look [(n, RS.live y), (r, RS.gone)] s = some (.live z) → s = n ∧ z = y := by
    intro s z hs
    rw [look_cons, look_cons] at hs
    split at hs
    · rename_i e; subst e; simp at hs; exact ⟨rfl, hs.symm⟩
    · split at hs <;> simp [look] at hs
  refine h.noput (v := .dead) (x := undef) (Upd.dead hE ?_ ⟨rfl, rfl, rfl⟩ hσ ?_ ?_ ?_ ?_ ?_ (fun _ _ _ => rfl) hnf (by simp [RA]) (by simp [idsOf, Known]))
  · intro b' hb'; exact h.lz b' (by simpa using hb')
  · intro r' hl' hno b' hb'
    have hne : r' ≠ r := by
      intro e; subst e
      rw [look_cons, look_cons] at hno
      simp [hnr] at hno
    have : b' ≠ b := by intro e; subst e; exact hne (h.inj r' r b' hl' hlr hb' hb)
    exact ⟨setRow_other w b b' cs this, rfl⟩
  · intro s z hs
    obtain ⟨rfl, rfl⟩ := hl s z hs
    exact ⟨hy hE, hk.put hnf⟩
  · intro r1 r2 z b' hs hl2 hb1 hb2
    obtain ⟨rfl, rfl⟩ := hl r1 z hs
    simp [hv] at hb1; subst hb1
    rw [put_at, put_one] at hl2
    split at hl2
    · rename_i e; exact e.symm
    · rename_i hne
      split at hl2
      · simp [isLive] at hl2
      · rename_i hne2
        have hne' : ¬ r2 = r1 := fun e => hne e.symm
        simp only [hne', if_false] at hb2
        exact absurd (h.inj r2 r b hl2 hlr hb2 hb) (fun e => hne2 e.symm)
  · intro s z b' hs hb'
    obtain ⟨rfl, rfl⟩ := hl s z hs
    simp [hv] at hb'; subst hb'
    exact h.own r b hlr hb
  · intro b' hb' hl'
    have : b' ≠ b := by
      intro e; subst e
      rcases h.own r b' hlr hb with h1 | h1
      · omega
      · exact hl' h1
    exact setRow_other w b b' cs this

/-- a name for the nil slice -/
theorem RelW.nilname (h : RelW G σ lim st tmps w) {n : Nat} (hn : st.tbl n = .fresh) (t : Ty) (ht : 0 < t.size) (sh : Bool) :
    RelW G (fun s => if s = n then .slice none 0 0 else σ s) lim ⟨st.env, st.tbl.put [(n, .live (.arr t [] sh))]⟩ tmps w := by
  have hσ : ∀ s, st.tbl s ≠ .fresh → (if s = n then Value.slice none 0 0 else σ s) = σ s := by
    intro s hs; rw [if_neg]; intro e; subst e; exact hs hn
  have hnf : ∀ s, look [(n, RS.live (.arr t [] sh))] s ≠ some .fresh := by intro s; rw [look_cons]; split <;> simp [look]
  have hl : ∀ s z, look [(n, RS.live (.arr t [] sh))] s = some (.live z) → s = n ∧ z = .arr t [] sh := by
    intro s z hs
    rw [look_cons] at hs
    split at hs
    · rename_i e; subst e; simp at hs; exact ⟨rfl, hs.symm⟩
    · simp [look] at hs
  refine h.noput (v := .dead) (x := undef) (Upd.dead (Ext.refl _ _) h.lz ⟨rfl, rfl, rfl⟩ hσ (fun _ _ _ _ _ => ⟨rfl, rfl⟩) ?_ ?_ ?_ (fun _ _ _ => rfl) (fun _ _ _ => rfl) hnf (by simp [RA]) (by simp [idsOf, Known]))
  · intro s z hs
    obtain ⟨rfl, rfl⟩ := hl s z hs
    exact ⟨by simp only [RR]; exact ⟨ht, .inl ⟨trivial, by simp⟩⟩, by intro r hr; cases hr⟩
  · intro r1 r2 z b' hs hl2 hb1 hb2
    obtain ⟨rfl, rfl⟩ := hl r1 z hs
    simp [blk] at hb1
  · intro s z b' hs hb'
    obtain ⟨rfl, rfl⟩ := hl s z hs
    simp [blk] at hb'

theorem rt_ones : {t : Ty} → {x : t.den} → {cs : List Value} → Rt w lim t x cs → ∀ v ∈ cs, v.oneCell' = true
  | .bool, _, _, h => by simp only [Rt] at h; subst h; simp [Value.oneCell']
  | .int _, _, _, h => by simp only [Rt] at h; subst h; simp [Value.oneCell']
  | .fl _, _, _, h => by simp only [Rt] at h; subst h; simp [Value.oneCell']
  | .cx _, _, _, h => by simp only [Rt] at h; subst h; simp [Value.oneCell']
  | .str, _, _, h => by simp only [Rt] at h; subst h; simp [Value.oneCell']
  | .raw, _, _, h => by simp only [Rt] at h; obtain ⟨rfl, h⟩ := h; simpa using h
  | .sl _, _, _, h => by simp only [Rt] at h; obtain ⟨A, len, cap, rfl, _⟩ := h; simp [Value.oneCell']
  | .unit, _, _, h => by simp only [Rt] at h; subst h; simp
  | .pair a b, _, _, h => by
    simp only [Rt] at h; obtain ⟨c, d, rfl, h1, h2⟩ := h
    intro v hv
    rcases List.mem_append.1 hv with hv | hv
    · exact rt_ones h1 v hv
    · exact rt_ones h2 v hv

theorem flat_ones {t : Ty} : {xs : List t.den} → {css : List (List Value)} → All2 (Rt w lim t) xs css → ∀ v ∈ css.flatten, v.oneCell' = true
  | [], [], _ => by simp
  | _ :: _, c :: css, h => by
    intro v hv
    rw [List.flatten_cons] at hv
    rcases List.mem_append.1 hv with hv | hv
    · exact rt_ones h.1 v hv
    · exact flat_ones h.2 v hv
  | [], _ :: _, h => h.elim
  | _ :: _, [], h => h.elim

theorem all2_app {α β : Type} {R : α → β → Prop} {a b : List α} {c d : List β} (h : All2 R a c) (k : All2 R b d) : All2 R (a ++ b) (c ++ d) := All2.append h k

/-- what append is given -/
inductive More (C : Ctx) (w : World) (lim : Nat → Nat) (t : Ty) (z : t.den) (U : TypeId) (v : Value) (ys : List t.den) (css : List (List Value)) : Prop
  | cells (dU : TypeDesc) (hU : C.P.underlying U = some dU) (hz : dU = .string ∨ ∃ e', dU = .slice e') (hx : All2 (Rt w lim t) ys css)
      (hlen : (Builtin.lenOf v).run C.P w = .ok ys.length w) (hfc : (Builtin.firstCells t.size ys.length v).run C.P w = .ok css.flatten.toArray w) (hfd : (Builtin.firstCells t.size ys.length v).run C.P w.drew = .ok css.flatten.toArray w.drew)
  | noughts (k : IntKind) (hU : C.P.underlying U = some (.int k)) (n : Nat) (hv : v = .int .i64 n) (hn : n < 2147483648) (hy : ys = List.replicate n z)

theorem more_spec {t : Ty} {z : t.den} {U : TypeId} {x : AV} {vx : Value} {k : List t.den → M Eff} {tbl : Tbl} {l l' : List Nat} {e : Eff} (hm : (actMore C t z U x k).run tbl l = some (e, l'))
    (hx : RA σ w lim x vx) (hres : ∀ r y, tbl r = .live y → RR σ w lim r y ∧ Known tbl (resIds r y)) :
    ∃ ys css l2, (k ys).run tbl l2 = some (e, l') ∧ More C w lim t z U vx ys css := by
  unfold actMore at hm
  split at hm
  · rename_i hU
    split at hm
    · rename_i s
      simp only [RA, RP] at hx; subst hx
      split at hm
      · rename_i ht
        subst ht
        have hn : (numsOf s).length = s.size := by simp [numsOf]
        have hfc : ∀ w' : World, (Builtin.firstCells (Ty.int .u8).size (numsOf s).length (.string s)).run C.P w' = .ok ((numsOf s).map fun n => [Value.int .u8 n]).flatten.toArray w' := by
          intro w'
          rw [flat_nums, hn]
          simp only [Builtin.firstCells, Sem.run_pure]
          congr 1
          apply Array.ext'
          have : (s.extract 0 s.size).data = s.data := by
            simp
          simp [this, numsOf]
        exact ⟨numsOf s, (numsOf s).map fun n => [Value.int .u8 n], l, hm, .cells _ hU (.inl rfl) (rt_nums s) (by simp [Builtin.lenOf, hn]) (hfc w) (hfc w.drew)⟩
      · simp [M.run] at hm
    · exact (M.run_fail hm).elim
  · rename_i kk hU
    split at hm
    · rename_i n
      simp only [RA, RP] at hx; subst hx
      obtain ⟨hn, hm2⟩ := M.run_need hm
      obtain ⟨h0, h1⟩ := lim31_spec hn
      exact ⟨_, [], l, hm2, .noughts kk hU n.toNat (by rw [Int.toNat_of_nonneg h0]) (by omega) rfl⟩
    · exact (M.run_fail hm).elim
  · rename_i el hU
    obtain ⟨ys, l1, h1, h2⟩ := M.run_bind_some hm
    obtain ⟨A, cap, rfl, hc, css, h3, h4⟩ := row_cells (readSl_sound h1 hx hres)
    have hfl := flatten_length h3
    have hfc : ∀ w' : World, w'.heap = w.heap → (Builtin.firstCells t.size ys.length (.slice A ys.length cap)).run C.P w' = .ok css.flatten.toArray w' := by
      intro w' hw
      have hcell : ∀ a, w'.cell? a = w.cell? a := fun a => by simp [World.cell?, hw]
      rcases h4 with h4 | ⟨b, off, rfl, h4⟩
      · subst h4
        have : css = [] := by match css, h3 with | [], _ => rfl
        subst this
        cases A with
        | none => simp [Builtin.firstCells]
        | some a => simp [Builtin.firstCells, loadCells, loadCellsFrom]
      · exact run_firstCells_some w' t.size ys.length _ _ _ css.flatten hfl (fun j u hj => by rw [add_none, hcell]; exact h4 j u hj)
    exact ⟨ys, css, l1, h2, .cells _ hU (.inr ⟨el, rfl⟩) h3 (by simp [Builtin.lenOf]) (hfc w rfl) (hfc w.drew rfl)⟩
  · exact (M.run_fail hm).elim

theorem zeroCells_list (z : Value) (n : Nat) (h : 0 < z.cells.size) : (Builtin.zeroCells z.cells n).toList = (List.replicate n z.cells.toList).flatten := by
  have := zeroRow z.cells.toList (by simpa using h) n
  simp only [Array.length_toList, Array.toArray_toList] at this
  rw [← this]
  simp [Builtin.zeroCells]

theorem old_cells {b off : Nat} {vs : Array Value} {V : TypeId} {fz : Nat × Nat} (hg : w.heap[b]? = some (.cells vs V fz)) {t : Ty} {xs : List t.den} {cap : Nat}
    (hfit : off + xs.length * t.size ≤ vs.size) (w' : World) (hw : w'.heap = w.heap) (P : Program) :
    (Builtin.firstCells t.size xs.length (.slice (some ⟨b, off, none⟩) xs.length cap)).run P w' = .ok ((vs.toList.drop off).take (xs.length * t.size)).toArray w' := by
  refine run_firstCells_some w' t.size xs.length _ _ _ _ (by simp; omega) (fun j u hj => ?_)
  rw [add_none]
  have hcell : w'.cell? ⟨b, off + j, none⟩ = w.cell? ⟨b, off + j, none⟩ := by simp [World.cell?, hw]
  rw [hcell, cell_of hg]
  rw [List.getElem?_take, List.getElem?_drop] at hj
  split at hj
  · exact hj
  · simp at hj

theorem parts_all2 {t : Ty} : ∀ (xs : List t.den) (l : List Value), l.length = xs.length * t.size → (∀ i (h : i < xs.length), Rt w lim t xs[i] ((l.drop (i * t.size)).take t.size)) →
    ∃ css : List (List Value), All2 (Rt w lim t) xs css ∧ css.flatten = l
  | [], l, hl, _ => ⟨[], trivial, by have : l = [] := List.eq_nil_of_length_eq_zero (by simpa using hl); simp [this]⟩
  | x :: xs, l, hl, h => by
    rw [List.length_cons, Nat.add_mul, Nat.one_mul] at hl
    obtain ⟨css, h1, h2⟩ := parts_all2 xs (l.drop t.size) (by simp; omega) (fun i hi => by
      have := h (i + 1) (by simpa using hi)
      rw [Nat.add_mul, Nat.one_mul, Nat.add_comm (i * t.size), ← List.drop_drop] at this
      simpa using this)
    refine ⟨l.take t.size :: css, ⟨by have := h 0 (by simp); simpa using this, h1⟩, ?_⟩
    rw [List.flatten_cons, h2, List.take_append_drop]

/-- behind a growth -/
theorem grown_does (h : RelW G σ lim st tmps w) {n : Nat} (hn : st.tbl n = .fresh) {t : Ty} (ht : 0 < t.size) {xs ys : List t.den} {css1 css2 : List (List Value)} (h1 : All2 (Rt w lim t) xs css1) (h2 : All2 (Rt w lim t) ys css2)
    {e : TypeId} {z : Array Value} {cap m : Nat} (hz : z.size = t.size) (hc : xs.length + ys.length ≤ cap) (hm : m = cap - (xs.length + ys.length)) (hk : okB e t = true) (sh : Bool) {olds news : List Value} (e1 : css1.flatten = olds) (e2 : css2.flatten = news) :
    RelW G (fun r => if r = n then .slice (some ⟨w.heap.size, 0, none⟩) (xs ++ ys).length cap else σ r) lim ⟨st.env, st.tbl.put [(n, .live (.arr t (xs ++ ys) sh))]⟩ tmps
      (w.drew.alloc (.cells (olds.toArray ++ news.toArray ++ Builtin.zeroCells z m) e)) := by
  subst e1; subst e2; subst hm
  have hl1 := flatten_length h1
  have hl2 := flatten_length h2
  have hsz : (Builtin.zeroCells z (cap - (xs.length + ys.length))).size = (cap - (xs.length + ys.length)) * t.size := by rw [size_zeroCells, hz]
  have hmul : cap * t.size = xs.length * t.size + ys.length * t.size + (cap - (xs.length + ys.length)) * t.size := by
    rw [← Nat.add_mul, ← Nat.add_mul]; congr 1; omega
  exact (arr_new h hn (w' := w.drew.alloc (.cells (css1.flatten.toArray ++ css2.flatten.toArray ++ Builtin.zeroCells z (cap - (xs.length + ys.length))) e)) (T := e) (fz := (0, 0)) (cap := cap) (xs := xs ++ ys) sh
    (by simp) (fun k hk => heap_alloc_old w.drew _ k hk) (heap_alloc_new w.drew _) ⟨rfl, rfl, rfl⟩ ht (by simpa using hc)
    (by simp only [Array.size_append, List.size_toArray, hsz, hl1, hl2]; omega) ⟨fun o _ => okfz o, hk, Nat.le_refl _⟩ (All2.append h1 h2)
    (rest := (Builtin.zeroCells z (cap - (xs.length + ys.length))).toList) (by simp)).1

theorem drop_pre {α : Type} (p q : List α) (k : Nat) : (p ++ q).drop (p.length + k) = q.drop k := by rw [← List.drop_drop, List.drop_left]

/-- behind an append that had room -/
theorem roomy_does (h : RelW G σ lim st tmps w) {r n : Nat} {t : Ty} {xs ys : List t.den} {sh : Bool} (hr : st.tbl r = .live (.arr t xs sh)) (hn : st.tbl n = .fresh)
    {b off cap : Nat} {vs : Array Value} {U : TypeId} {fz : Nat × Nat} (e1 : σ r = .slice (some ⟨b, off, none⟩) xs.length cap) (e3 : w.heap[b]? = some (.cells vs U fz)) (e4 : off + cap * t.size ≤ vs.size)
    (e5 : Fit t U vs.size fz) (e6 : ∀ i (h : i < xs.length), Rt w lim t xs[i] ((vs.toList.drop (off + i * t.size)).take t.size)) (e7 : bif sh then lim b ≤ off + xs.length * t.size else lim b = 0)
    (ht : 0 < t.size) {css2 : List (List Value)} (h2 : All2 (Rt w lim t) ys css2) (hroom : xs.length + ys.length ≤ cap) {news : List Value} (hnews : css2.flatten = news) :
    RelW G (fun s => if s = n then .slice (some ⟨b, off, none⟩) (xs ++ ys).length cap else σ s) lim ⟨st.env, st.tbl.put [(n, .live (.arr t (xs ++ ys) sh)), (r, .gone)]⟩ tmps
      (w.setRow b (vs.toList.take (off + xs.length * t.size) ++ news ++ vs.toList.drop (off + xs.length * t.size + news.length)).toArray) := by
  have hl2 := flatten_length h2
  rw [hnews] at hl2
  have hle : lim b ≤ off + xs.length * t.size := by cases sh <;> simp at e7 <;> omega
  have hmul : (xs.length + ys.length) * t.size ≤ cap * t.size := Nat.mul_le_mul_right _ hroom
  rw [Nat.add_mul] at hmul
  have hvl : vs.toList.length = vs.size := by simp
  have hns : (vs.toList.take (off + xs.length * t.size) ++ news ++ vs.toList.drop (off + xs.length * t.size + news.length)).toArray.size = vs.size := by
    simp only [List.size_toArray, List.length_append, List.length_take, List.length_drop, hvl]; omega
  refine h.takeover hr hn (by rw [e1]; rfl) e3 (fun o ho => ?_) (by intro r' hr'; cases hr') rfl (fun hE => ?_)
  · simp only [List.getElem?_toArray, List.append_assoc]
    rw [List.getElem?_append_left (by simp; omega), List.getElem?_take, if_pos (by omega)]
    simp
  · simp only [RR]
    refine ⟨ht, .inr ⟨b, off, cap, _, U, fz, by simp, by simpa using hroom, setRow_heap w b vs _ U fz e3, by rw [hns]; exact e4, ⟨fun o ho => e5.free o (by rw [hns] at ho; exact ho), e5.kind, e5.ord⟩, fun i hi => ?_, ?_⟩⟩
    · by_cases hix : i < xs.length
      · rw [List.getElem_append_left hix]
        have him : (i + 1) * t.size ≤ xs.length * t.size := Nat.mul_le_mul_right _ hix
        rw [Nat.add_mul, Nat.one_mul] at him
        have : (((vs.toList.take (off + xs.length * t.size) ++ news ++ vs.toList.drop (off + xs.length * t.size + news.length)).drop (off + i * t.size)).take t.size) = ((vs.toList.drop (off + i * t.size)).take t.size) := by
          apply List.ext_getElem?
          intro m
          simp only [List.getElem?_append, List.getElem?_take, List.getElem?_drop, List.length_take, List.length_append, List.length_drop]
          repeat' split
          all_goals first | rfl | omega | (congr 1; omega)
        simp only [List.toList_toArray, this]
        exact (e6 i hix).mono hE
      · have hiy : i - xs.length < ys.length := by simp at hi; omega
        rw [List.getElem_append_right (by omega)]
        have hpre : (vs.toList.take (off + xs.length * t.size)).length = off + xs.length * t.size := by simp; omega
        have hidx : off + i * t.size = (vs.toList.take (off + xs.length * t.size)).length + (i - xs.length) * t.size := by
          rw [hpre, Nat.add_assoc, ← Nat.add_mul]; congr 2; omega
        have hlist : (((vs.toList.take (off + xs.length * t.size) ++ news ++ vs.toList.drop (off + xs.length * t.size + news.length)).drop (off + i * t.size)).take t.size) =
            (((css2.flatten ++ vs.toList.drop (off + xs.length * t.size + news.length)).drop ((i - xs.length) * t.size)).take t.size) := by
          rw [List.append_assoc, hidx, drop_pre, hnews]
        simp only [List.toList_toArray, hlist]
        exact (flat_at h2 _ hiy).mono hE
    · cases sh
      · simpa using e7
      · simp; simp at e7; have : ys.length * t.size ≥ 0 := Nat.zero_le _; rw [Nat.add_mul]; omega

/-- appending to the nil slice -/
theorem nil_append (h : RelW G σ lim st tmps w) {base : Nat} (hf : st.tbl base = .fresh) {t : Ty} (g2 : 1 ≤ t.size) {T U ee ty : TypeId} (gk : okB ee t = true) (hu : C.P.underlying T = some (.slice ee)) {i : TypeInfo} (hi : C.P.info? ee = some i)
    {zv : Value} (hzv : i.zero = some zv) (his : i.size = t.size) (hzcs : zv.cells.size = t.size) (hby : i.bytes ≤ 65536) (hbig : ∀ a b : Nat, a < b → b < 2147483648 → Builtin.nextslicecap b a * i.bytes ≤ 281474976710656)
    {z : t.den} {zs : List Value} (hrz : Rt w lim t z zs) (hzrow : ∀ n, (Builtin.zeroCells zv.cells n).toList = (List.replicate n zs).flatten) {vx : Value} {ys : List t.den} {css : List (List Value)}
    (hmore : More C w lim t z U vx ys css) (hn : ys.length < 2147483648) (sh : Bool) :
    Does C G st tmps w (Builtin.append_ #[T, U] ty #[.slice none 0 0, vx]) ⟨.own base, (base, .live (.arr t ([] ++ ys) sh)) :: []⟩ := by
  have stay : ys = [] → (Builtin.append_ #[T, U] ty #[.slice none 0 0, vx]).run C.P w = .ok (.slice none 0 0) w → Does C G st tmps w (Builtin.append_ #[T, U] ty #[.slice none 0 0, vx]) ⟨.own base, (base, .live (.arr t ([] ++ ys) sh)) :: []⟩ := by
    intro hy hr
    subst hy
    exact ⟨_, _, _, _, hr, h.nilname hf t g2 sh, own_done (len := 0) (cap := 0) rfl (by simp), known_own (y := .arr t [] sh) (by rw [put_at]; simp)⟩
  have grow : ∀ (css2 : List (List Value)) (news : List Value), All2 (Rt w lim t) ys css2 → css2.flatten = news →
      (Builtin.append_ #[T, U] ty #[.slice none 0 0, vx]).run C.P w = .ok (.slice (some ⟨w.heap.size, 0, none⟩) (0 + ys.length) (grownCap w (0 + ys.length) 0 ee))
      (w.drew.alloc (.cells (([] : List Value).toArray ++ news.toArray ++ Builtin.zeroCells zv.cells (grownCap w (0 + ys.length) 0 ee - (0 + ys.length))) ee)) →
      Does C G st tmps w (Builtin.append_ #[T, U] ty #[.slice none 0 0, vx]) ⟨.own base, (base, .live (.arr t ([] ++ ys) sh)) :: []⟩ := by
    intro css2 news h2 e2 hr
    have hge := grownCap_ge w (0 + ys.length) 0 ee
    have := grown_does h hf g2 (xs := []) (css1 := []) (olds := []) trivial h2 (e := ee) hzcs (cap := grownCap w (0 + ys.length) 0 ee) (m := grownCap w (0 + ys.length) 0 ee - (0 + ys.length)) (by simpa using hge) (by simp) gk sh rfl e2
    exact ⟨_, _, _, _, hr, this, own_done rfl (by simp), known_own (y := .arr t ([] ++ ys) sh) (by rw [put_at]; simp)⟩
  cases hmore with
  | cells dU hU hz hx hlen hfc hfd =>
    by_cases h0 : ys.length = 0
    · have hy : ys = [] := List.eq_nil_of_length_eq_zero h0
      subst hy
      have : css = [] := by match css, hx with | [], _ => rfl
      subst this
      exact stay rfl (app_none hu hU hz hi hlen (by rw [his]; exact hfc) ty)
    · refine grow css _ hx rfl ?_
      exact app_grow hu hU hz hi hzv hlen (by rw [his]; exact hfd) (A := none) (olds := []) (by simp [Builtin.firstCells]) (by omega) (by omega) (hbig _ _ (by omega) (by omega)) ty
  | noughts k hU n hv hnn hy =>
    subst hv
    have hyl : ys.length = n := by rw [hy]; simp
    by_cases h0 : n = 0
    · subst h0
      exact stay (by rw [hy]; rfl) (zapp_none hu hU hi hzv ty)
    · refine grow (List.replicate n zs) _ (by rw [hy]; exact all2_replicate hrz n) rfl ?_
      rw [hyl]
      exact zapp_grow hu hU hi hzv (by omega) hby (by omega) (A := none) (olds := []) (by simp [Builtin.firstCells]) (by omega) (by omega) (hbig _ _ (by omega) (by omega)) (by rw [← hzrow]) ty

theorem part_len {vs : Array Value} {off n : Nat} (h : off + n ≤ vs.size) : ((vs.toList.drop off).take n).length = n := by
  have hvz : vs.toList.length = vs.size := by simp
  rw [List.length_take, List.length_drop, hvz]; omega

set_option maxHeartbeats 2000000 in
theorem append_does (h : RelW G σ lim st tmps w) {base : Nat} {ats : Array TypeId} {ty : TypeId} {s x : AV} {vs vx : Value} {l l' : List Nat} {e : Eff}
    (hm : (actAppend C base ats s x).run st.tbl l = some (e, l')) (hs : RA σ w lim s vs) (hx : RA σ w lim x vx) : Does C G st tmps w (Builtin.append_ ats ty #[vs, vx]) e := by
  unfold actAppend at hm
  split at hm
  · rename_i T U hat
    obtain rfl : ats = #[T, U] := by apply Array.ext'; simpa using hat
    cases he : elemT C.P T with
    | none => simp [he, M.run] at hm
    | some q =>
      obtain ⟨ee, t⟩ := q
      simp only [he] at hm
      obtain ⟨hg, hm1⟩ := M.run_guard hm
      clear hm
      simp only [Bool.and_eq_true] at hg
      have g1 := Nat.le_of_ble_eq_true hg.1
      have gk := (posB_spec hg.2).2
      have g2 := (posB_spec hg.2).1
      cases hz : zeroCells C.P ee with
      | none => simp [hz, M.run] at hm1
      | some zs =>
        simp only [hz] at hm1
        cases ho : ofAll t (zs.map .v) with
        | none => simp [ho, M.run] at hm1
        | some z =>
          simp only [ho] at hm1
          obtain ⟨i, hi, his, hib⟩ := elem_info he
          obtain ⟨hu, ht, hsz⟩ := elemT_spec he
          have hrz := rt_zero (w := w) (lim := lim) ho
          have hzl := Rt.length hrz
          obtain ⟨zv, hzv, hzc⟩ : ∃ zv, i.zero = some zv ∧ zv.cells.toList = zs := by
            unfold zeroCells at hz
            simp only [hi] at hz
            cases hzz : i.zero with
            | none => simp [hzz] at hz
            | some zv => simp [hzz] at hz; exact ⟨zv, rfl, hz⟩
          have hzcs : zv.cells.size = t.size := by rw [← hzl, ← hzc]; simp
          have hby : i.bytes ≤ 65536 := by rw [← hib]; exact g1
          have hbig : ∀ a b : Nat, a < b → b < 2147483648 → Builtin.nextslicecap b a * i.bytes ≤ 281474976710656 := fun a b h1 h2 =>
            growslice_fits h1 (by have : b * i.bytes ≤ 2147483647 * 65536 := Nat.mul_le_mul (by omega) hby
                                  omega)
          have hzrow : ∀ n, (Builtin.zeroCells zv.cells n).toList = (List.replicate n zs).flatten := fun n => by rw [zeroCells_list zv n (by omega), hzc]
          split at hm1
          · rename_i r
            simp only [M.run] at hm1
            cases hr : st.tbl r with
            | fresh => simp [hr, M.run] at hm1
            | gone => simp [hr, M.run] at hm1
            | live y =>
              cases y with
              | box => simp [hr, M.run] at hm1
              | nest => simp [hr, M.run] at hm1
              | arr t' xs sh =>
                simp only [hr] at hm1
                split at hm1
                · rename_i htt
                  subst htt
                  obtain ⟨ys, css, l2, hk, hmore⟩ := more_spec hm1 hx h.res
                  simp only [actGo] at hk
                  obtain ⟨hn, hk2⟩ := M.run_need hk
                  have hn := of_decide_eq_true hn
                  obtain ⟨hf, l3, hk3⟩ := fresh1 hk2
                  obtain ⟨rfl, _⟩ := M.run_ret hk3
                  simp only [RA] at hs; obtain ⟨rfl, _⟩ := hs
                  have hnr : base ≠ r := by intro e; subst e; rw [hr] at hf; cases hf
                  have hG := h.gone (r := r) (by rw [hr]; simp)
                  have hfG : (st.tbl.put [(r, .gone)]) base = .fresh := by rw [put_one, if_neg (Ne.symm hnr)]; exact hf
                  have hRR := (h.res r _ hr).1
                  simp only [RR] at hRR
                  rcases hRR.2 with ⟨h8, h9⟩ | ⟨b, off, cap, vs, V, fz, e1, e2, e3, e4, e5, e6, e7⟩
                  · subst h8
                    rw [h9]
                    obtain ⟨x', w', s', m', r1, r2, r3, r4⟩ := nil_append (C := C) (ty := ty) hG hfG g2 gk hu hi hzv his hzcs hby hbig hrz hzrow hmore (by simpa using hn) sh
                    exact ⟨x', w', s', m', r1, by rw [put_cons]; exact r2, r3, by rw [put_cons]; exact r4⟩
                  · rw [e1]
                    have hxm : xs.length * t'.size ≤ cap * t'.size := Nat.mul_le_mul_right _ e2
                    have hfitx : off + xs.length * t'.size ≤ vs.size := Nat.le_trans (Nat.add_le_add_left hxm off) e4
                    have his' := his
                    have hzcs' := hzcs
                    obtain ⟨css1, c1, c2⟩ := parts_all2 (w := w) (lim := lim) (t := t') xs ((vs.toList.drop off).take (xs.length * t'.size)) (part_len hfitx) (fun j hj => by
                      have him : (j + 1) * t'.size ≤ xs.length * t'.size := Nat.mul_le_mul_right _ hj
                      rw [Nat.add_mul, Nat.one_mul] at him
                      have := e6 j hj
                      have e : ((((vs.toList.drop off).take (xs.length * t'.size)).drop (j * t'.size)).take t'.size) = ((vs.toList.drop (off + j * t'.size)).take t'.size) := by
                        apply List.ext_getElem?
                        intro m
                        simp only [List.getElem?_take, List.getElem?_drop]
                        repeat' split
                        all_goals first | rfl | omega | (congr 1; omega)
                      rw [e]; exact this)
                    have hold := old_cells e3 (t := t') (xs := xs) (cap := cap) (by omega) w.drew rfl C.P
                    by_cases hroom : xs.length + ys.length ≤ cap
                    · have fin : ∀ (css2 : List (List Value)) (news : List Value), All2 (Rt w lim t') ys css2 → css2.flatten = news →
                          (Builtin.append_ #[T, U] ty #[.slice (some ⟨b, off, none⟩) xs.length cap, vx]).run C.P w = .ok (.slice (some ⟨b, off, none⟩) (xs.length + ys.length) cap)
                            (w.setRow b (vs.toList.take (off + xs.length * t'.size) ++ news ++ vs.toList.drop (off + xs.length * t'.size + news.length)).toArray) →
                          Does C G st tmps w (Builtin.append_ #[T, U] ty #[.slice (some ⟨b, off, none⟩) xs.length cap, vx]) ⟨.own base, (base, .live (.arr t' (xs ++ ys) sh)) :: [(r, .gone)]⟩ := by
                        intro css2 news k1 k2 k3
                        have := roomy_does h hr hf e1 e3 e4 e5 e6 e7 g2 k1 hroom k2
                        exact ⟨_, _, _, _, k3, this, own_done rfl (by simp), known_own (y := .arr t' (xs ++ ys) sh) (by rw [put_at]; simp)⟩
                      have hmulr : (xs.length + ys.length) * t'.size ≤ cap * t'.size := Nat.mul_le_mul_right _ hroom
                      rw [Nat.add_mul] at hmulr
                      cases hmore with
                      | cells dU hU hzz hxx hlen hfc hfd =>
                        have hfl := flatten_length hxx
                        refine fin css _ hxx rfl ?_
                        have := app_room (off := off) (sLen := xs.length) (sCap := cap) hu hU hzz hi hlen (by rw [his']; exact hfc) e3 e5.free hroom (by rw [his', hfl]; omega) (flat_ones hxx) ty
                        rw [show i.size = t'.size from his'] at this
                        exact this
                      | noughts k hU n hv hnn hy =>
                        subst hv
                        have hyl : ys.length = n := by rw [hy]; simp
                        have hxx : All2 (Rt w lim t') ys (List.replicate n zs) := by rw [hy]; exact all2_replicate hrz n
                        have hfl := flatten_length hxx
                        refine fin (List.replicate n zs) _ hxx rfl ?_
                        have := zapp_room (z := zv) (n := n) (off := off) (sLen := xs.length) (sCap := cap) hu hU hi hzv (by omega) hby e3 e5.free (by rw [← hyl]; exact hroom) (news := (List.replicate n zs).flatten)
                          (by
                            rw [his']
                            by_cases h0 : n * t'.size = 0
                            · rw [if_pos h0]
                              have : (List.replicate n zs).flatten.length = 0 := by rw [hfl, hyl, h0]
                              rw [List.eq_nil_of_length_eq_zero this]
                            · rw [if_neg h0, ← hzrow]) (by rw [his', hfl]; omega) (flat_ones hxx) ty
                        rw [his', ← hyl] at this
                        rw [← hyl]
                        exact this
                    · have fin : ∀ (css2 : List (List Value)) (news : List Value), All2 (Rt w lim t') ys css2 → css2.flatten = news →
                          (Builtin.append_ #[T, U] ty #[.slice (some ⟨b, off, none⟩) xs.length cap, vx]).run C.P w = .ok (.slice (some ⟨w.heap.size, 0, none⟩) (xs.length + ys.length) (grownCap w (xs.length + ys.length) cap ee))
                            (w.drew.alloc (.cells (((vs.toList.drop off).take (xs.length * t'.size)).toArray ++ news.toArray ++ Builtin.zeroCells zv.cells (grownCap w (xs.length + ys.length) cap ee - (xs.length + ys.length))) ee)) →
                          Does C G st tmps w (Builtin.append_ #[T, U] ty #[.slice (some ⟨b, off, none⟩) xs.length cap, vx]) ⟨.own base, (base, .live (.arr t' (xs ++ ys) sh)) :: [(r, .gone)]⟩ := by
                        intro css2 news k1 k2 k3
                        have hge := grownCap_ge w (xs.length + ys.length) cap ee
                        have := grown_does hG (st := ⟨st.env, st.tbl.put [(r, .gone)]⟩) hfG g2 c1 k1 (e := ee) hzcs' (cap := grownCap w (xs.length + ys.length) cap ee) hge rfl gk sh c2 k2
                        exact ⟨_, _, _, _, k3, by rw [put_cons]; exact this, own_done rfl (by simp), known_own (y := .arr t' (xs ++ ys) sh) (by rw [put_at]; simp)⟩
                      cases hmore with
                      | cells dU hU hzz hxx hlen hfc hfd =>
                        refine fin css _ hxx rfl ?_
                        exact app_grow hu hU hzz hi hzv hlen (by rw [his']; exact hfd) (by rw [his']; exact hold) (by omega) (by omega) (hbig _ _ (by omega) (by omega)) ty
                      | noughts k hU n hv hnn hy =>
                        subst hv
                        have hyl : ys.length = n := by rw [hy]; simp
                        refine fin (List.replicate n zs) _ (by rw [hy]; exact all2_replicate hrz n) rfl ?_
                        rw [hyl]
                        exact zapp_grow hu hU hi hzv (by omega) hby (by omega) (by rw [his']; exact hold) (by omega) (by omega) (hbig _ _ (by omega) (by omega)) (by rw [← hzrow]) ty
                · simp [M.run] at hm1
          · rename_i v
            obtain ⟨hnil, hm2⟩ := M.run_guard hm1
            have := isNil_eq hnil
            subst this
            simp only [RA, RP] at hs; subst hs
            obtain ⟨ys, css, l2, hk, hmore⟩ := more_spec hm2 hx h.res
            simp only [actGo] at hk
            obtain ⟨hn, hk2⟩ := M.run_need hk
            have hn := of_decide_eq_true hn
            obtain ⟨hf, l3, hk3⟩ := fresh1 hk2
            obtain ⟨rfl, _⟩ := M.run_ret hk3
            exact nil_append (C := C) (ty := ty) h hf g2 gk hu hi hzv his hzcs hby hbig hrz hzrow hmore (by simpa using hn) false
          · exact (M.run_fail hm1).elim
  · exact (M.run_fail hm).elim
end Go.Sh
