/-
  The machine, part 21: rows of slices of one's own: made, taken from, put into, shown.
-/
import Derived.Test.YtlbgcegonmbddaaDoorM20
set_option linter.unusedSimpArgs false
set_option linter.unusedVariables false
namespace Go.Sh
open Go
variable {C : Ctx} {G : Glob} {σ : Sig} {w : World} {lim : Nat → Nat} {env : Nat → AV} {tmps : Array Value}

namespace M
variable {α : Type}
theorem run_more {T : Tbl} (m : M α) : ∀ {l l' : List Nat} {x : α}, m.run T l = some (x, l') → ∀ r ∈ l, r ∈ l' := by
  induction m with
  | ret a => intro l l' x h; simp [run] at h; obtain ⟨_, rfl⟩ := h; exact fun _ h => h
  | fail => intro l l' x h; simp [run] at h
  | get r k ih => intro l l' x h s hs; exact ih _ h s (by simp [hs])
  | need b k ih => intro l l' x h; cases b <;> simp [run] at h; exact ih h
  | br b k ih => intro l l' x h; cases b <;> simp [run] at h <;> exact ih _ h
  | opt o k ih => intro l l' x h; cases o <;> simp [run] at h; exact ih _ h
theorem run_local {T T' : Tbl} (m : M α) : ∀ {l l' : List Nat} {x : α}, m.run T l = some (x, l') → (∀ r ∈ l', T' r = T r) → m.run T' l = some (x, l') := by
  induction m with
  | ret a => intro l l' x h _; exact h
  | fail => intro l l' x h; simp [run] at h
  | get r k ih =>
    intro l l' x h hT
    have hr : T' r = T r := hT r (run_more (k (T r)) (l := r :: l) h r (by simp))
    simp only [run, hr] at h ⊢
    exact ih _ h hT
  | need b k ih => intro l l' x h hT; cases b <;> simp [run] at h ⊢; exact ih h hT
  | br b k ih => intro l l' x h hT; cases b <;> simp [run] at h ⊢ <;> exact ih _ h hT
  | opt o k ih => intro l l' x h hT; cases o <;> simp [run] at h ⊢; exact ih _ h hT
end M

theorem lows_spec {l : List Nat} (h : lows l = true) : ∀ r ∈ l, r < hidB := by
  intro r hr
  simp only [lows, List.all_eq_true] at h
  have := h r hr
  simpa [lowN, Nat.blt_eq] using this
theorem run_exp {α : Type} {T : Tbl} {m : M α} {l l' : List Nat} {x : α} (h : m.run T l = some (x, l')) (hl : lows l' = true) : m.run (exp T) l = some (x, l') :=
  M.run_local m h fun r hr => exp_low (lows_spec hl r hr)
structure OkEff (sp : Bool) (e : Eff) (l : List Nat) : Prop where
  log : lows l = true
  val : ∀ r ∈ idsOf e.val, r < hidB
  ups : ∀ p ∈ e.ups, p.1 < hidB
  box : ∀ p ∈ e.ups, ∀ cs, p.2 = .live (.box cs) → ∀ q ∈ idsOfs cs, q < hidB
  non : sp = false → ∀ p ∈ e.ups, noNest p.2 = true
theorem okEff_spec {sp : Bool} {e : Eff} {l : List Nat} (h : okEff sp e l = true) : OkEff sp e l := by
  simp only [okEff, Bool.and_eq_true, List.all_eq_true] at h
  obtain ⟨⟨h1, h2⟩, h3⟩ := h
  exact
    { log := h1
      val := lows_spec h2
      ups := fun p hp => by have := (h3 p hp).1.1; simpa [lowN, Nat.blt_eq] using this
      box := fun p hp cs hc => by have := (h3 p hp).1.2; rw [hc] at this; exact lows_spec this
      non := fun hs p hp => by have := (h3 p hp).2; rw [hs] at this; simpa using this }
theorem setO_at (e : Nat → AV) (d : Option Nat) (v : AV) (s : Nat) : setO e d v s = v ∨ setO e d v s = e s := by
  cases d with
  | none => exact .inr rfl
  | some d =>
    simp only [setO, setE]
    cases Nat.beq s d
    · exact .inr rfl
    · exact .inl rfl
theorem Low.after {st : St} {sp : Bool} {e : Eff} {l : List Nat} {d : Option Nat} (h : Low G st) (k : OkEff sp e l) : Low G ⟨setO st.env d e.val, st.tbl.put e.ups⟩ where
  env s r hr := by
    rcases setO_at st.env d e.val s with h1 | h1
    · simp only [h1] at hr; exact k.val r hr
    · simp only [h1] at hr; exact h.env s r hr
  box r cs hr := by
    simp only [Tbl.put] at hr
    cases hl : look e.ups r with
    | none => rw [hl] at hr; exact h.box r cs hr
    | some z => rw [hl] at hr; simp only at hr; exact k.box _ (look_mem hl) cs hr
  pins := h.pins
theorem Low.set {st : St} (h : Low G st) {d : Option Nat} {v : AV} (hv : ∀ r ∈ idsOf v, r < hidB) : Low G ⟨setO st.env d v, st.tbl⟩ where
  env s r hr := by
    rcases setO_at st.env d v s with h1 | h1
    · simp only [h1] at hr; exact hv r hr
    · simp only [h1] at hr; exact h.env s r hr
  box := h.box
  pins := h.pins

/-! a row is made -/
def hidT (base : Nat) (t : Ty) : Nat → Tbl → Tbl
  | 0, A => A
  | L + 1, A => (hidT base t L A).put [(hid base L, .live (.arr t [] true))]
theorem hid_lt {b i j : Nat} (h : i ≠ j) : hid b i ≠ hid b j := by
  unfold hid
  intro e
  have := hidB_pos
  have h1 : (i + 1) * hidB = (j + 1) * hidB := by omega
  have := Nat.eq_of_mul_eq_mul_right hidB_pos h1
  omega
theorem hidT_out {base : Nat} {t : Ty} {A : Tbl} {n : Nat} : ∀ L, (∀ j, j < L → n ≠ hid base j) → hidT base t L A n = A n
  | 0, _ => rfl
  | L + 1, h => by
    simp only [hidT]
    rw [put_one, if_neg (Ne.symm (h L (by omega)))]
    exact hidT_out L fun j hj => h j (by omega)
theorem hidT_in {base : Nat} {t : Ty} {A : Tbl} : ∀ L j, j < L → hidT base t L A (hid base j) = .live (.arr t [] true)
  | 0, j, h => by omega
  | L + 1, j, h => by
    simp only [hidT]
    rw [put_one]
    by_cases e : L = j
    · subst e; simp
    · rw [if_neg (hid_lt e)]; exact hidT_in L j (by omega)

theorem RelW.hides {A : Tbl} {base : Nat} {t : Ty} (ht : 0 < t.size) (hA : ∀ j, A (hid base j) = .fresh) : ∀ L, RelW G σ lim ⟨env, A⟩ tmps w →
    ∃ σ', RelW G σ' lim ⟨env, hidT base t L A⟩ tmps w ∧ (∀ j, j < L → σ' (hid base j) = .slice none 0 0) ∧ (∀ n, (∀ j, j < L → n ≠ hid base j) → σ' n = σ n)
  | 0, h => ⟨σ, h, by omega, fun _ _ => rfl⟩
  | L + 1, h => by
    obtain ⟨σ1, h1, h2, h3⟩ := RelW.hides ht hA L h
    have := h1.nilname (n := hid base L) (by simp only; rw [hidT_out L fun j hj => hid_lt (by omega)]; exact hA L) t ht true
    refine ⟨_, this, fun j hj => ?_, fun n hn => ?_⟩
    · by_cases e : j = L
      · subst e; simp
      · rw [if_neg (hid_lt e)]; exact h2 j (by omega)
    · rw [if_neg (hn L (by omega))]; exact h3 n fun j hj => hn j (by omega)

def DoesX (C : Ctx) (G : Glob) (env : Nat → AV) (T : Tbl) (tmps : Array Value) (w : World) (s : Sem Value) (e : Eff) : Prop :=
  ∃ x w' σ' lim', s.run C.P w = .ok x w' ∧ RelW G σ' lim' ⟨env, exp (T.put e.ups)⟩ tmps w' ∧ RA σ' w' lim' e.val x ∧ Known (exp (T.put e.ups)) (idsOf e.val)

theorem nestMake_does {T : Tbl} (h : RelW G σ lim ⟨env, exp T⟩ tmps w) (hL : Low G ⟨env, T⟩) {base : Nat} {U : TypeId} {a b : AV} {vl vc : Value} {l l' : List Nat} {e : Eff}
    (hm : (nestMake C base U a b).run T l = some (e, l')) (hups : ∀ p ∈ e.ups, p.1 < hidB) (ha : RA σ w lim a vl) (hb : RA σ w lim b vc) : DoesX C G env T tmps w (Instr.makeSlice U vl vc) e := by
  unfold nestMake at hm
  split at hm
  · rename_i ll cc
    simp only [RA, RP] at ha hb; subst ha; subst hb
    split at hm
    · rename_i ee t he
      obtain ⟨hg, hm1⟩ := M.run_guard hm
      simp only [Bool.and_eq_true] at hg
      have g1 := Nat.le_of_ble_eq_true hg.1.1
      have gk := (posB_spec hg.1.2).2
      have g2 := Nat.le_of_ble_eq_true hg.2
      split at hm1
      · rename_i hz
        obtain ⟨hn, hm2⟩ := M.run_need hm1
        obtain ⟨h0, h1, h2⟩ := of_decide_eq_true hn
        obtain ⟨hf, l2, hm3⟩ := fresh1 hm2
        obtain ⟨rfl, _⟩ := M.run_ret hm3
        have hbl : base < hidB := hups (base, _) (List.mem_cons_self ..)
        obtain ⟨i, hi, his, hib⟩ := elem_info he
        obtain ⟨hu, ht, hs⟩ := elemT_spec he
        obtain ⟨zv, hz1, hz2⟩ := zero_run hz w
        obtain ⟨L, rfl⟩ := Int.eq_ofNat_of_zero_le h0
        obtain ⟨N, rfl⟩ := Int.eq_ofNat_of_zero_le (show 0 ≤ cc by omega)
        have hLN : L ≤ N := by omega
        have hsz : (Ty.sl t).size = 1 := rfl
        have hzs : zv.cells.size = 1 := by rw [← Array.length_toList, hz2]; rfl
        have hcell : ∀ x, zv.cells[x % zv.cells.size]! = Value.slice none 0 0 := by
          intro x
          rw [hzs, Nat.mod_one]
          have : zv.cells.toList[0]? = some (Value.slice none 0 0) := by rw [hz2]; rfl
          rw [Array.getElem?_toList] at this
          rw [getElem!_def, this]
        have hA : ∀ j, exp T (hid base j) = .fresh := by intro j; rw [exp_hid hbl, hf]; rfl
        obtain ⟨σ1, hH, hσ1, hσ2⟩ := RelW.hides (t := t) g2 hA L h
        have hbh : ∀ j, j < L → base ≠ hid base j := fun j _ => by have := hid_ge base j; omega
        have tb : hidT base t L (exp T) base = .fresh := by rw [hidT_out L hbh, exp_low hbl]; exact hf
        obtain ⟨hN, hE⟩ := hH.newblk (w' := w.alloc (.cells ((Array.range (N * i.size)).map (fun x => zv.cells[x % zv.cells.size]!)) ee)) (by simp) (fun k hk => heap_alloc_old w _ k hk) ⟨rfl, rfl, rfl⟩ tb
          (y := .nest t (List.replicate L []) none) (x := .slice (some ⟨w.heap.size, 0, none⟩) L N) rfl (fun hE hσ => by
            simp only [RR, List.length_replicate, if_true]
            refine ⟨g2, w.heap.size, 0, N, _, ee, (0, 0), rfl, hLN, heap_alloc_new w _, by simp [hsz, his], ⟨fun o _ => okfz o, gk, Nat.le_refl _⟩, fun j hj _ => ?_, h.lz _ (Nat.le_refl _)⟩
            rw [if_neg (Ne.symm (hbh j hj)), hσ1 j hj]
            simp only [Array.toList_map, Array.toList_range, List.getElem?_map, Nat.zero_add, his, hsz, Nat.mul_one, hcell]
            rw [List.getElem?_range (by omega)]; rfl) (fun n hn => by
            obtain ⟨j, hj, _, rfl⟩ := mem_nestIds.1 hn
            rw [List.length_replicate] at hj
            simp only; rw [hidT_in L j hj]; simp)
        have hT : (hidT base t L (exp T)).put [(base, .live (.nest t (List.replicate L []) none))] = exp (T.put [(base, .live (.nest t (List.replicate L []) none))]) := by
          funext n
          rw [put_one]
          rcases low_or_hid n with hl | ⟨q, j, hq, rfl⟩
          · rw [exp_low hl, put_one, hidT_out L (fun j _ => by have := hid_ge base j; omega), exp_low hl]
          · have g1 := hid_ge q j
            rw [if_neg (by omega), exp_hid hq, put_one]
            by_cases e : base = q
            · subst e
              rw [if_pos rfl]
              by_cases hj : j < L
              · rw [hidT_in L j hj]; simp [expI, List.getElem?_replicate, hj]
              · rw [hidT_out L (fun k hk => hid_lt (by omega)), hA j]; simp [expI, List.getElem?_replicate, hj]
            · rw [if_neg e, hidT_out L (fun k hk e' => e (hid_inj hbl hq e'.symm).1), exp_hid hq]
        refine ⟨.slice (some ⟨w.heap.size, 0, none⟩) L N, _, _, _, ?_, by simp only [Int.toNat_natCast]; rw [← hT]; exact hN, own_done rfl (by simp), fun r hr => by simp [idsOf] at hr; subst hr; rw [exp_low hbl, put_one]; simp⟩
        have hmul : (i.bytes : Int) * (N : Int) ≤ 281474976710656 := by
          rw [← hib]
          have h3 : C.P.bytesOf ee * N ≤ 65536 * 4294967295 := Nat.mul_le_mul g1 (by omega)
          have : ((C.P.bytesOf ee * N : Nat) : Int) ≤ 281474976710656 := by omega
          simpa using this
        have w1 : IntKind.i64.wrap (L : Int) = L := wrap_small (by omega) (by omega)
        have w2 : IntKind.i64.wrap (N : Int) = N := wrap_small (by omega) (by omega)
        have hc0 : ¬ ((N : Int) < 0) := by omega
        have hl0 : ¬ ((L : Int) < 0) := by omega
        have hlc : ¬ ((N : Int) < (L : Int)) := by omega
        have hbig : ¬ (281474976710656 < (i.bytes : Int) * (N : Int)) := by omega
        simp only [Instr.makeSlice, Sem.run_bind, run_underlying hu, Result.andThen_ok, asInt, asIntOf, Sem.run_pure, typeInfo, run_program, hi, w1, w2]
        simp only [Int.reducePow, decide_eq_true_eq, Bool.or_eq_true, hc0, hl0, hlc, hbig, gt_iff_lt, or_self, decide_false, Bool.false_eq_true, if_false, Sem.run_bind, run_askRoom, Result.andThen_ok, sizeOf, typeInfo, run_program, hi, Sem.run_pure, Int.toNat_natCast, Sem.run_ite, hz1]
        by_cases hN0 : N * i.size = 0
        · have hr0 : ∀ f : Nat → Value, Array.map f (Array.range 0) = #[] := fun f => by simp
          rw [if_pos hN0, hN0]
          simp only [hr0, Result.andThen_ok]
          simp [newRow]
        · simp [hN0, newRow]
      · simp [M.run] at hm1
    · simp [M.run] at hm
  · simp [M.run] at hm

/-! a row is shown -/
theorem put_kept {T : Tbl} {u : Ups} (h : ∀ p ∈ u, T p.1 = p.2) : T.put u = T := by
  funext n
  simp only [Tbl.put]
  cases hl : look u n with
  | none => rfl
  | some z => exact (h _ (look_mem hl)).symm

theorem RelW.melt {T : Tbl} (h : RelW G σ lim ⟨env, exp T⟩ tmps w) (hL : Low G ⟨env, T⟩) {r : Nat} {t : Ty} {xss : List (List t.den)} (hrl : r < hidB) (hr : T r = .live (.nest t xss none)) :
    ∃ lim', RelX G σ lim' ⟨env, T.put [(r, .live (.arr (.sl t) xss false))]⟩ tmps w := by
  have er : exp T r = .live (.nest t xss none) := by rw [exp_low hrl]; exact hr
  let U : Ups := (List.finRange xss.length).map fun (j : Fin xss.length) => (hid r j.val, RS.live (.arr t xss[j.val] true))
  have hU : ∀ p ∈ U, ∃ (j : Nat) (hj : j < xss.length), p = (hid r j, RS.live (.arr t xss[j] true)) := by
    intro p hp
    obtain ⟨j, _, rfl⟩ := List.mem_map.1 hp
    exact ⟨j, j.2, rfl⟩
  obtain ⟨lim1, h1, hE, h2⟩ := RelW.shows U h (fun p hp => by
    obtain ⟨j, hj, rfl⟩ := hU p hp
    exact ⟨t, xss[j], true, rfl, exp_at er hj (by simp)⟩)
  have hsame : (exp T).put U = exp T := put_kept fun p hp => by
    obtain ⟨j, hj, rfl⟩ := hU p hp
    exact exp_at er hj (by simp)
  simp only at h1
  rw [hsame] at h1
  obtain ⟨hR, hK⟩ := h1.res r _ er
  have h3 := h1.reword (r := r) er (y := .arr (.sl t) xss false) (by intro q hq; cases hq) (by
    simp only [RR] at hR ⊢
    obtain ⟨h0, b, off, cap, vs, V, fz, s1, s2, s3, s4, s5, s6, s7⟩ := hR
    refine ⟨by simp [Ty.size], .inr ⟨b, off, cap, vs, V, fz, s1, s2, s3, s4, s5, fun i hi => ?_, s7⟩⟩
    have hq : (hid r i, RS.live (.arr t xss[i] true)) ∈ U := List.mem_map.2 ⟨⟨i, hi⟩, List.mem_finRange _, rfl⟩
    have h4 := h2 _ _ _ hq
    simp only [RP] at h4
    have h5 := s6 i hi (by simp)
    have h6 : (vs.toList.drop (off + i * (Ty.sl t).size)).take (Ty.sl t).size = [σ (hid r i)] := by
      rw [show (Ty.sl t).size = 1 from rfl, Nat.mul_one]
      obtain ⟨h7, h8⟩ := List.getElem?_eq_some_iff.1 h5
      rw [List.drop_eq_getElem_cons h7, h8]; rfl
    rw [h6]; exact h4)
  refine ⟨lim1, RelX.of_put h3 (fun p hp => ?_) ⟨hL.env, fun q cs hq => ?_, hL.pins⟩⟩
  · simp only [List.mem_singleton] at hp; subst hp; exact ⟨hrl, rfl⟩
  · simp only at hq
    rw [put_one] at hq
    split at hq
    · cases hq
    · exact hL.box q cs hq
end Go.Sh
