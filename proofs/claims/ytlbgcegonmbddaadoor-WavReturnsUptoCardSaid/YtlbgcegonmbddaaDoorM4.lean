/-
  The machine, part 4: each operation of the world beside the machine's: what only reads.
-/
import Derived.Test.YtlbgcegonmbddaaDoorM3
import Derived.Laws.StructEq
import Derived.Laws.CopyRow
import Derived.Laws.Append
import Derived.Laws.AppendOwn
import Derived.Laws.BytesString
import Derived.Lib.ConvBytes
namespace Go.Sh
open Go

theorem add_none (b o j : Nat) : (⟨b, o, none⟩ : Addr).add j = ⟨b, o + j, none⟩ := by
  unfold Addr.add; split <;> simp_all
theorem underlying_info {P : Program} {t : TypeId} {d : TypeDesc} (h : P.underlying t = some d) : ∃ i, P.info? t = some i := by
  unfold Program.underlying at h
  cases hi : P.info? t with
  | none => simp [hi] at h
  | some i => exact ⟨i, rfl⟩
theorem run_sizeOf {P : Program} {t : TypeId} {d : TypeDesc} (h : P.underlying t = some d) (w : World) : (sizeOf t).run P w = .ok (P.cellsOf t) w := by
  obtain ⟨i, hi⟩ := underlying_info h
  simp [sizeOf, typeInfo, hi, Program.cellsOf]
theorem run_isAgg {P : Program} {t : TypeId} {d : TypeDesc} (h : P.underlying t = some d) (w : World) : (isAgg t).run P w = .ok (aggD d) w := by
  unfold isAgg
  rw [Sem.run_bind, run_underlying h w]
  cases d <;> simp [aggD]
theorem run_loadVar_agg {P : Program} {T : TypeId} {d : TypeDesc} (h : P.underlying T = some d) (ha : aggD d = true) {w : World} {b off : Nat} {cs : List Value}
    (hl : cs.length = P.cellsOf T) (hc : ∀ j v, cs[j]? = some v → w.cell? ⟨b, off + j, none⟩ = some v) : (loadVar T ⟨b, off, none⟩).run P w = .ok (.agg cs.toArray) w := by
  have := run_loadCells_list (P := P) w ⟨b, off, none⟩ cs (fun j v hj => by rw [add_none]; exact hc j v hj)
  rw [hl] at this
  simp [loadVar, run_isAgg h, ha, run_sizeOf h, this]
theorem run_loadVar_one {P : Program} {T : TypeId} {d : TypeDesc} (h : P.underlying T = some d) (ha : aggD d = false) {w : World} {b off : Nat} {v : Value}
    (hc : w.cell? ⟨b, off, none⟩ = some v) : (loadVar T ⟨b, off, none⟩).run P w = .ok v w := by
  simp [loadVar, run_isAgg h, ha, hc]

theorem idsOfs_mem {cs : List AV} {a : AV} (h : a ∈ cs) {r : Nat} (hr : r ∈ idsOf a) : r ∈ idsOfs cs := by
  induction cs with
  | nil => cases h
  | cons x l ih =>
    simp only [idsOfs, List.mem_append]
    cases h with
    | head => exact .inl hr
    | tail _ h => exact .inr (ih h)
theorem mem_idsOfs {cs : List AV} {r : Nat} (h : r ∈ idsOfs cs) : ∃ a ∈ cs, r ∈ idsOf a := by
  induction cs with
  | nil => simp [idsOfs] at h
  | cons x l ih =>
    simp only [idsOfs, List.mem_append] at h
    rcases h with h | h
    · exact ⟨x, List.mem_cons_self .., h⟩
    · obtain ⟨a, ha, hr⟩ := ih h; exact ⟨a, List.mem_cons_of_mem _ ha, hr⟩
theorem Known.sub {T : Tbl} {cs ds : List AV} (h : ∀ a ∈ ds, a ∈ cs) (k : Known T (idsOfs cs)) : Known T (idsOfs ds) := by
  intro r hr
  obtain ⟨a, ha, hr⟩ := mem_idsOfs hr
  exact k r (idsOfs_mem (h a ha) hr)
theorem Known.mem {T : Tbl} {cs : List AV} (k : Known T (idsOfs cs)) {a : AV} (h : a ∈ cs) : Known T (idsOf a) := fun r hr => k r (idsOfs_mem h hr)
theorem idsOfs_vals (ps : List PV) : idsOfs (ps.map .val) = [] := by
  induction ps with
  | nil => rfl
  | cons p l ih => simp [idsOfs, idsOf, ih]

section
variable {C : Ctx} {σ : Sig} {w : World} {lim : Nat → Nat} {tbl : Tbl}

theorem all2_of_cells {cs : List AV} {b off : Nat} (h : ∀ j a, cs[j]? = some a → ∃ v, w.cell? ⟨b, off + j, none⟩ = some v ∧ RA σ w lim a v) :
    ∃ vs, RAs σ w lim cs vs ∧ ∀ j v, vs[j]? = some v → w.cell? ⟨b, off + j, none⟩ = some v := by
  induction cs generalizing off with
  | nil => exact ⟨[], by simp [RAs], by simp⟩
  | cons a l ih =>
    obtain ⟨v, h1, h2⟩ := h 0 a rfl
    obtain ⟨vs, h3, h4⟩ := ih (off := off + 1) (fun j x hx => by
      have := h (j + 1) x (by simpa using hx)
      rw [show off + 1 + j = off + (j + 1) by omega]; exact this)
    refine ⟨v :: vs, by simp [RAs, h2, h3], fun j u hu => ?_⟩
    cases j with
    | zero => simp at hu; subst hu; exact h1
    | succ j => rw [show off + (j + 1) = off + 1 + j by omega]; exact h4 j u (by simpa using hu)

theorem cut_sound {T : TypeId} {cs : List AV} {l l' : List Nat} {e : Eff} (hm : (cut C T cs).run tbl l = some (e, l')) {b off : Nat}
    (hc : ∀ j a, cs[j]? = some a → ∃ v, w.cell? ⟨b, off + j, none⟩ = some v ∧ RA σ w lim a v) (hk : Known tbl (idsOfs cs)) :
    ∃ x, (loadVar T ⟨b, off, none⟩).run C.P w = .ok x w ∧ RA σ w lim e.val x ∧ Known tbl (idsOf e.val) ∧ e.ups = [] := by
  unfold cut at hm
  cases hd : C.P.underlying T with
  | none => simp [hd, M.run] at hm
  | some d =>
    simp only [hd] at hm
    cases ha : aggD d with
    | true =>
      simp only [ha, cond_true] at hm
      · obtain ⟨hl, hm⟩ := M.run_guard hm
        obtain ⟨rfl, _⟩ := M.run_ret hm
        have hl' := beq_eq hl
        obtain ⟨vs, h1, h2⟩ := all2_of_cells (σ := σ) (lim := lim) (cs := cs.take (C.P.cellsOf T)) (b := b) (off := off) (fun j a ha => hc j a (by
          rw [List.getElem?_take] at ha; split at ha <;> simp_all))
        have h3 := (RAs_all2.1 h1).length
        refine ⟨_, run_loadVar_agg hd ha (by rw [← h3, hl']) h2, by simp only [RA]; exact ⟨vs, rfl, h1⟩, ?_, rfl⟩
        simp only [idsOf]
        exact hk.sub fun a ha => List.mem_of_mem_take ha
    | false =>
      simp only [ha, cond_false] at hm
      cases cs with
      | nil => simp [M.run] at hm
      | cons a l2 =>
        simp only at hm
        obtain ⟨rfl, _⟩ := M.run_ret hm
        obtain ⟨v, h1, h2⟩ := hc 0 a rfl
        exact ⟨v, run_loadVar_one hd ha (by simpa using h1), h2, hk.mem (List.mem_cons_self ..), rfl⟩


theorem RA_val_all {ps : List PV} {v : Value} (h : RA σ w lim (.sp ps) v) : ∃ b off, v = .pointer (some ⟨b, off, none⟩) ∧
    ∀ j a, (ps.map AV.val)[j]? = some a → ∃ c, w.cell? ⟨b, off + j, none⟩ = some c ∧ RA σ w lim a c := by
  simp only [RA] at h
  obtain ⟨b, off, hv, h⟩ := h
  refine ⟨b, off, hv, fun j a ha => ?_⟩
  rw [List.getElem?_map] at ha
  cases hp : ps[j]? with
  | none => simp [hp] at ha
  | some p =>
    simp [hp] at ha; subst ha
    obtain ⟨c, h1, _, h3⟩ := h j p hp
    exact ⟨c, h1, by simpa [RA] using h3⟩

theorem box_cells {r k : Nat} {cs : List AV} {v : Value} (ha : RA σ w lim (.bx r k) v) (hr : RR σ w lim r (.box cs)) :
    ∃ b vs T, σ r = .pointer (some ⟨b, 0, none⟩) ∧ v = .pointer (some ⟨b, k, none⟩) ∧ w.heap[b]? = some (.cells vs T (0, 0)) ∧ RAs σ w lim cs vs.toList ∧ lim b = 0 := by
  simp only [RA] at ha
  simp only [RR] at hr
  obtain ⟨b, h1, h2⟩ := ha
  obtain ⟨b', vs, T, h3, h4, h5, h6⟩ := hr
  rw [h1] at h3
  obtain rfl : b = b' := by simpa using h3
  exact ⟨b, vs, T, h1, h2, h4, h5, h6⟩

theorem cell_of {b : Nat} {vs : Array Value} {T : TypeId} {fz : Nat × Nat} (h : w.heap[b]? = some (.cells vs T fz)) (o : Nat) : w.cell? ⟨b, o, none⟩ = vs.toList[o]? := by
  simp [World.cell?, h]

theorem load_sound {T : TypeId} {a : AV} {v : Value} {l l' : List Nat} {e : Eff} (hm : (actLoad C T a).run tbl l = some (e, l')) (ha : RA σ w lim a v)
    (hres : ∀ r x, tbl r = .live x → RR σ w lim r x ∧ Known tbl (resIds r x)) :
    ∃ x, (Instr.loadAt T v).run C.P w = .ok x w ∧ RA σ w lim e.val x ∧ Known tbl (idsOf e.val) ∧ e.ups = [] := by
  unfold actLoad at hm
  split at hm
  · rename_i r k
    simp only [M.run] at hm
    cases hr : tbl r with
    | fresh => simp [hr, M.run] at hm
    | gone => simp [hr, M.run] at hm
    | live y =>
      cases y with
      | arr => simp [hr, M.run] at hm
      | nest => simp [hr, M.run] at hm
      | box cs =>
        simp only [hr] at hm
        obtain ⟨h1, h2⟩ := hres r _ hr
        obtain ⟨b, vs, U, _, rfl, h4, h5, _⟩ := box_cells ha h1
        have := cut_sound (σ := σ) (lim := lim) hm (b := b) (off := k) (fun j a hj => by
          rw [List.getElem?_drop] at hj
          obtain ⟨c, hc, hr⟩ := (RAs_all2.1 h5).get hj
          exact ⟨c, by rw [cell_of h4]; exact hc, hr⟩) (h2.sub fun a ha => List.mem_of_mem_drop ha)
        simpa [Instr.loadAt, Instr.sureAddr] using this
  · rename_i ps
    obtain ⟨b, off, rfl, h⟩ := RA_val_all ha
    have := cut_sound (σ := σ) (lim := lim) hm (b := b) (off := off) h (by intro r hr; rw [idsOfs_vals] at hr; cases hr)
    simpa [Instr.loadAt, Instr.sureAddr] using this
  · rename_i r t i k
    simp only [M.run] at hm
    cases hr : tbl r with
    | fresh => simp [hr, M.run] at hm
    | gone => simp [hr, M.run] at hm
    | live y =>
      cases y with
      | box => simp [hr, M.run] at hm
      | nest => simp [hr, M.run] at hm
      | arr t' xs sh =>
        simp only [hr] at hm
        split at hm
        · rename_i ht
          subst ht
          obtain ⟨hi, hm⟩ := M.run_need hm
          have hi := of_decide_eq_true hi
          obtain ⟨h1, _⟩ := hres r _ hr
          simp only [RR] at h1
          simp only [RA] at ha
          obtain ⟨b, off, len, cap, h3, rfl⟩ := ha
          rcases h1.2 with ⟨h4, h5⟩ | ⟨b', off', cap', vs, U, fz, h4, h5, h6, h7, h8, h9, h10⟩
          · rw [h5] at h3; simp at h3
          · rw [h4] at h3
            obtain ⟨⟨rfl, rfl⟩, rfl, rfl⟩ : (b' = b ∧ off' = off) ∧ xs.length = len ∧ cap' = cap := by simpa using h3
            have hx := h9 i hi
            have hlen := Rt.length hx
            have hall := all2_cellsOf hx
            have hxi : xs.getD i t'.dflt = xs[i] := by simp [List.getD, List.getElem?_eq_getElem hi]
            replace hm : M.run tbl (cut C T (((cellsOf t' xs[i]).drop k).map .val)) (r :: l) = some (e, l') := by rw [← hxi]; exact hm
            have := cut_sound (σ := σ) (lim := lim) hm (b := b') (off := off' + i * t'.size + k) (fun j a hj => by
              rw [List.getElem?_map, List.getElem?_drop] at hj
              cases hp : (cellsOf t' xs[i])[k + j]? with
              | none => simp [hp] at hj
              | some p =>
                simp [hp] at hj; subst hj
                obtain ⟨c, hc, hr⟩ := hall.get hp
                refine ⟨c, ?_, by simpa [RA] using hr⟩
                rw [cell_of h6]
                rw [List.getElem?_take, List.getElem?_drop] at hc
                split at hc
                · rw [show off' + i * t'.size + k + j = off' + i * t'.size + (k + j) by omega]; exact hc
                · simp at hc) (by intro r hr; rw [idsOfs_vals] at hr; cases hr)
            simpa [Instr.loadAt, Instr.sureAddr] using this
        · simp [M.run] at hm
  · simp [M.run] at hm


theorem semPure_run {α : Type} {P : Program} {s : Sem α} {a : α} (h : semPure P s = some a) (w : World) : s.run P w = .ok a w := by
  induction s generalizing w with
  | pure x => simp [semPure] at h; subst h; rfl
  | program k ih => exact ih P h w
  | _ => simp [semPure] at h

theorem nilCheck_sound {a : AV} {v : Value} {l l' : List Nat} {e : Eff} (hm : (actNilCheck a).run tbl l = some (e, l')) (ha : RA σ w lim a v) :
    (∃ p, v = .pointer (some p)) ∧ e.val = a ∧ e.ups = [] := by
  unfold actNilCheck at hm
  split at hm
  · obtain ⟨rfl, _⟩ := M.run_ret hm
    simp only [RA] at ha; obtain ⟨b, _, rfl⟩ := ha; exact ⟨⟨_, rfl⟩, rfl, rfl⟩
  · obtain ⟨rfl, _⟩ := M.run_ret hm
    simp only [RA] at ha; obtain ⟨b, off, len, cap, _, rfl⟩ := ha; exact ⟨⟨_, rfl⟩, rfl, rfl⟩
  · obtain ⟨rfl, _⟩ := M.run_ret hm
    simp only [RA] at ha; obtain ⟨b, off, rfl, _⟩ := ha; exact ⟨⟨_, rfl⟩, rfl, rfl⟩
  · exact (M.run_fail hm).elim

theorem fieldAddr_sound {T : TypeId} {f : Nat} {a : AV} {v : Value} {l l' : List Nat} {e : Eff} (hm : (actFieldAddr C T f a).run tbl l = some (e, l')) (ha : RA σ w lim a v) (hk : Known tbl (idsOf a)) :
    ∃ x, (Instr.fieldAt T v f).run C.P w = .ok x w ∧ RA σ w lim e.val x ∧ Known tbl (idsOf e.val) ∧ e.ups = [] := by
  unfold actFieldAddr fieldsT at hm
  cases hu : C.P.underlying T with
  | none => simp [hu, M.run] at hm
  | some d =>
    cases d with
    | struct fs =>
      simp only [hu] at hm
      cases hf : fs[f]? with
      | none => simp [hf, M.run] at hm
      | some fd =>
        simp only [hf] at hm
        cases hz : Nat.beq (C.P.cellsOf fd.type) 0 with
        | true => simp [hz, M.run] at hm
        | false =>
          simp only [hz, cond_false] at hm
          have hz' : C.P.cellsOf fd.type ≠ 0 := fun h => by rw [h] at hz; simp at hz
          obtain ⟨i, hi⟩ : ∃ i, C.P.info? fd.type = some i := by
            cases h : C.P.info? fd.type with
            | none => simp [Program.cellsOf, h] at hz'
            | some i => exact ⟨i, rfl⟩
          have hsz : i.size ≠ 0 := by simpa [Program.cellsOf, hi] using hz'
          have run : ∀ b o, (Instr.fieldAt T (.pointer (some ⟨b, o, none⟩)) f).run C.P w = .ok (.pointer (some ⟨b, o + fd.offset, none⟩)) w := by
            intro b o
            simp [Instr.fieldAt, run_underlying hu, hf, Instr.sureAddr, fieldPlace, sizeOf, typeInfo, hi, hsz, add_none]
          split at hm
          · obtain ⟨rfl, _⟩ := M.run_ret hm
            simp only [RA] at ha; obtain ⟨b, h1, rfl⟩ := ha
            exact ⟨_, run _ _, by simp only [RA]; exact ⟨b, h1, rfl⟩, by simpa [idsOf] using hk, rfl⟩
          · obtain ⟨rfl, _⟩ := M.run_ret hm
            simp only [RA] at ha; obtain ⟨b, off, len, cap, h1, rfl⟩ := ha
            exact ⟨_, run _ _, by simp only [RA]; exact ⟨b, off, len, cap, h1, by simp [Nat.add_assoc]⟩, by simpa [idsOf] using hk, rfl⟩
          · obtain ⟨rfl, _⟩ := M.run_ret hm
            simp only [RA] at ha; obtain ⟨b, off, rfl, h1⟩ := ha
            refine ⟨_, run _ _, by
              simp only [RA]
              refine ⟨b, off + fd.offset, rfl, fun j p hp => ?_⟩
              rw [List.getElem?_drop] at hp
              have := h1 _ p hp
              rw [show off + fd.offset + j = off + (fd.offset + j) by omega]; exact this, by intro r hr; simp [idsOf] at hr, rfl⟩
          · exact (M.run_fail hm).elim
    | _ => simp [hu, M.run] at hm

theorem elemT_spec {P : Program} {T e : TypeId} {t : Ty} (h : elemT P T = some (e, t)) : P.underlying T = some (.slice e) ∧ tyOf P depth e = some t ∧ P.cellsOf e = t.size := by
  unfold elemT at h
  split at h
  · rename_i e' hu
    cases ht : tyOf P depth e' with
    | none => simp [ht] at h
    | some ty =>
      simp only [ht] at h
      cases hb : Nat.beq (P.cellsOf e') ty.size with
      | false => simp [hb] at h
      | true => simp [hb] at h; obtain ⟨rfl, rfl⟩ := h; exact ⟨hu, ht, beq_eq hb⟩
  · simp at h
theorem tyOf_underlying {P : Program} {n : Nat} {e : TypeId} {t : Ty} (h : tyOf P n e = some t) : ∃ d, P.underlying e = some d := by
  cases n with
  | zero => simp [tyOf] at h
  | succ n =>
    simp only [tyOf] at h
    cases hu : P.underlying e with
    | none => simp [hu] at h
    | some d => exact ⟨d, rfl⟩

theorem run_indexAt {P : Program} {T e : TypeId} {t : Ty} (he : elemT P T = some (e, t)) {b off len cap : Nat} {k : IntKind} {i : Int} (h0 : 0 ≤ i) (h1 : i < len) (w : World) :
    (Instr.indexAt T (.slice (some ⟨b, off, none⟩) len cap) (.int k i)).run P w = .ok (.pointer (some ⟨b, off + i.toNat * t.size, none⟩)) w := by
  obtain ⟨hu, ht, hs⟩ := elemT_spec he
  obtain ⟨d, hd⟩ := tyOf_underlying ht
  simp [Instr.indexAt, asIntOf, run_underlying hu, h0, h1, run_sizeOf hd, add_none, hs]

theorem indexAddr_sound {T : TypeId} {a i : AV} {v vi : Value} {l l' : List Nat} {e : Eff} (hm : (actIndexAddr C T a i).run tbl l = some (e, l')) (ha : RA σ w lim a v) (hi : RA σ w lim i vi)
    (hk : Known tbl (idsOf a)) (hres : ∀ r x, tbl r = .live x → RR σ w lim r x ∧ Known tbl (resIds r x)) :
    ∃ x, (Instr.indexAt T v vi).run C.P w = .ok x w ∧ RA σ w lim e.val x ∧ Known tbl (idsOf e.val) ∧ e.ups = [] := by
  unfold actIndexAddr at hm
  split at hm
  · rename_i kk n
    simp only [RA, RP] at hi; subst hi
    cases he : elemT C.P T with
    | none => simp [he, M.run] at hm
    | some p =>
      obtain ⟨ee, t⟩ := p
      simp only [he] at hm
      split at hm
      · rename_i r
        simp only [M.run] at hm
        cases hr : tbl r with
        | fresh => simp [hr, M.run] at hm
        | gone => simp [hr, M.run] at hm
        | live y =>
          cases y with
          | box => simp [hr, M.run] at hm
          | nest t' xss o =>
            simp only [hr] at hm
            split at hm
            · rename_i ht
              subst ht
              obtain ⟨hn, hm⟩ := M.run_need hm
              obtain ⟨h0, h1⟩ := of_decide_eq_true hn
              obtain ⟨rfl, _⟩ := M.run_ret hm
              obtain ⟨h2, _⟩ := hres r _ hr
              simp only [RR] at h2
              simp only [RA] at ha; obtain ⟨rfl, _⟩ := ha
              obtain ⟨_, b', off', cap', vs, U, fz, h4, _⟩ := h2
              refine ⟨_, by rw [h4]; exact run_indexAt he h0 h1 w, ?_, by intro q hq; simp [idsOf] at hq; subst hq; rw [hr]; simp, rfl⟩
              simp only [RA]
              exact ⟨b', off', _, _, h4, by simp [Ty.size]⟩
            · simp [M.run] at hm
          | arr t' xs sh =>
            simp only [hr] at hm
            split at hm
            · rename_i ht
              subst ht
              obtain ⟨hn, hm⟩ := M.run_need hm
              obtain ⟨h0, h1⟩ := of_decide_eq_true hn
              obtain ⟨rfl, _⟩ := M.run_ret hm
              obtain ⟨h2, _⟩ := hres r _ hr
              simp only [RR] at h2
              simp only [RA] at ha; obtain ⟨rfl, _⟩ := ha
              rcases h2.2 with ⟨h4, h5⟩ | ⟨b', off', cap', vs, U, fz, h4, h5, h6, h7, h8, h9, h10⟩
              · subst h4; simp at h1; omega
              · rw [h4]
                refine ⟨_, run_indexAt he h0 (by exact_mod_cast h1) w, ?_, by simpa [idsOf] using hk, rfl⟩
                simp only [RA]
                exact ⟨b', off', _, _, h4, rfl⟩
            · simp [M.run] at hm
      · rename_i t' xs
        split at hm
        · rename_i ht
          subst ht
          obtain ⟨hn, hm⟩ := M.run_need hm
          obtain ⟨h0, h1⟩ := of_decide_eq_true hn
          obtain ⟨rfl, _⟩ := M.run_ret hm
          simp only [RA, RP, Rt] at ha
          obtain ⟨A, len, cap, hv, h2, h3, h4⟩ := ha
          obtain rfl : v = .slice A len cap := by simpa using hv
          rcases h4 with h4 | ⟨b, off, rfl, h4⟩
          · subst h4; simp at h1; omega
          · have hlt : n.toNat < xs.length := by omega
            refine ⟨_, run_indexAt he h0 (by rw [← h2]; exact_mod_cast h1) w, ?_, by intro r hr; simp [idsOf] at hr, rfl⟩
            have hx : (xs.getD n.toNat t'.dflt) = xs[n.toNat] := by simp [List.getD, List.getElem?_eq_getElem hlt]
            show RA σ w lim (.sp (cellsOf t' (xs.getD n.toNat t'.dflt))) _
            rw [hx]
            simp only [RA]
            refine ⟨b, off + n.toNat * t'.size, rfl, fun j p hp => ?_⟩
            obtain ⟨c, hc, hcell⟩ := h4 n.toNat hlt
            obtain ⟨u, hu, hr⟩ := (all2_cellsOf hc).get hp
            obtain ⟨h5, h6⟩ := hcell j u hu
            exact ⟨u, h5, h6, hr⟩
        · simp [M.run] at hm
      · simp [M.run] at hm
  · simp [M.run] at hm


theorem bytes_get {s : ByteArray} {i : Nat} (h : i < s.size) : s[i]? = some (s.data.toList.getD i 0) := by
  have h' : i < s.data.toList.length := by simpa using h
  have h2 : i < s.data.size := h
  simp [List.getD, getElem?_pos, h]
  rfl

theorem index_sound {T : TypeId} {a i : AV} {v vi : Value} {l l' : List Nat} {e : Eff} (hm : (actIndex C T a i).run tbl l = some (e, l')) (ha : RA σ w lim a v) (hi : RA σ w lim i vi) :
    ∃ x, (Instr.index T v vi).run C.P w = .ok x w ∧ RA σ w lim e.val x ∧ Known tbl (idsOf e.val) ∧ e.ups = [] := by
  unfold actIndex at hm
  split at hm
  · rename_i s k n
    simp only [RA, RP] at ha hi; subst ha; subst hi
    split at hm
    · rename_i hu
      obtain ⟨hn, hm⟩ := M.run_need hm
      obtain ⟨h0, h1⟩ := of_decide_eq_true hn
      obtain ⟨rfl, _⟩ := M.run_ret hm
      have hlt : n.toNat < s.size := by omega
      refine ⟨.int .u8 (bt s n), ?_, by simp only [RA, RP], by intro r hr; simp [idsOf] at hr, rfl⟩
      simp [Instr.index, asIntOf, run_underlying hu, h0, bytes_get hlt, bt]
    · simp [M.run] at hm
  · simp [M.run] at hm

theorem extract_sound {i : Nat} {a : AV} {v : Value} {l l' : List Nat} {e : Eff} (hm : (actExtract i a).run tbl l = some (e, l')) (ha : RA σ w lim a v) (hk : Known tbl (idsOf a)) :
    ∃ x, (Instr.extract v i).run C.P w = .ok x w ∧ RA σ w lim e.val x ∧ Known tbl (idsOf e.val) ∧ e.ups = [] := by
  unfold actExtract at hm
  split at hm
  · rename_i vs
    cases hv : vs[i]? with
    | none => simp [hv, M.run] at hm
    | some a =>
      simp only [hv] at hm
      obtain ⟨rfl, _⟩ := M.run_ret hm
      simp only [RA] at ha
      obtain ⟨xs, rfl, h⟩ := ha
      obtain ⟨c, hc, hr⟩ := (RAs_all2.1 h).get hv
      exact ⟨c, by simp [Instr.extract, hc], hr, by simp only [idsOf] at hk; exact hk.mem (List.mem_of_getElem? hv), rfl⟩
  · simp [M.run] at hm

theorem pick_sound {c a b : AV} {vc va vb : Value} {l l' : List Nat} {e : Eff} (hm : (actPick c a b).run tbl l = some (e, l')) (hc : RA σ w lim c vc) (ha : RA σ w lim a va) (hb : RA σ w lim b vb)
    (ka : Known tbl (idsOf a)) (kb : Known tbl (idsOf b)) :
    ∃ t x, vc = .bool t ∧ x = (if t then va else vb) ∧ RA σ w lim e.val x ∧ Known tbl (idsOf e.val) ∧ e.ups = [] := by
  unfold actPick at hm
  split at hm
  · rename_i t
    simp only [RA, RP] at hc; subst hc
    simp only [M.run] at hm
    obtain ⟨rfl, _⟩ : _ ∧ _ := by simpa using hm
    cases t
    · exact ⟨false, vb, rfl, rfl, hb, kb, rfl⟩
    · exact ⟨true, va, rfl, rfl, ha, ka, rfl⟩
  · simp [M.run] at hm

theorem plain_ra {v : Value} : RA σ w lim (.val (.v v)) v := by simp only [RA, RP]
theorem known_nil {T : Tbl} : Known T [] := by intro r hr; cases hr

theorem eqGuard_plain {P : Program} {op : BinOp} {T : TypeId} {x y : Operand} {a b : Value} (h : plain a = true) (w : World) : (eqGuard op T x y a b).run P w = .ok () w := by
  cases op <;> first | rfl | (cases a <;> first | (simp [plain] at h; done) | rfl)

theorem pure_sound {s : Sem Value} {l l' : List Nat} {e : Eff} (hm : (actPure C s).run tbl l = some (e, l')) :
    ∃ v, s.run C.P w = .ok v w ∧ RA σ w lim e.val v ∧ Known tbl (idsOf e.val) ∧ e.ups = [] := by
  unfold actPure at hm
  cases hs : semPure C.P s with
  | none => simp [hs, M.run] at hm
  | some v =>
    simp only [hs] at hm
    obtain ⟨_, hm⟩ := M.run_guard hm
    obtain ⟨rfl, _⟩ := M.run_ret hm
    exact ⟨v, semPure_run hs w, plain_ra, known_nil, rfl⟩

theorem asInts_cases {x y : Value} {f : IntKind → Int → IntKind → Int → M Eff} {g : M Eff} {l l' : List Nat} {e : Eff} (hm : (asInts x y f g).run tbl l = some (e, l')) :
    (∃ k a k' b, x = .int k a ∧ y = .int k' b ∧ (f k a k' b).run tbl l = some (e, l')) ∨ g.run tbl l = some (e, l') := by
  unfold asInts at hm
  split at hm
  · split at hm
    · exact .inl ⟨_, _, _, _, rfl, rfl, hm⟩
    · exact .inr hm
  · exact .inr hm
theorem asStrs_cases {x y : Value} {f : ByteArray → ByteArray → M Eff} {g : M Eff} {l l' : List Nat} {e : Eff} (hm : (asStrs x y f g).run tbl l = some (e, l')) :
    (∃ a b, x = .string a ∧ y = .string b ∧ (f a b).run tbl l = some (e, l')) ∨ g.run tbl l = some (e, l') := by
  unfold asStrs at hm
  split at hm
  · split at hm
    · exact .inl ⟨_, _, rfl, rfl, hm⟩
    · exact .inr hm
  · exact .inr hm

theorem bin_sound {op : BinOp} {T : TypeId} {x y : Value} {xo yo : Operand} {l l' : List Nat} {e : Eff} (hm : (actBin C op T x y).run tbl l = some (e, l')) :
    ∃ v, (do eqGuard op T xo yo x y; binOp op T x y : Sem Value).run C.P w = .ok v w ∧ RA σ w lim e.val v ∧ Known tbl (idsOf e.val) ∧ e.ups = [] := by
  unfold actBin at hm
  obtain ⟨hp, hm⟩ := M.run_guard hm
  simp only [Bool.and_eq_true] at hp
  obtain ⟨hp1, hp2⟩ := hp
  simp only [Sem.run_bind, eqGuard_plain hp1, Result.andThen_ok]
  have gen : ∀ {s : Sem Value}, (actPure C s).run tbl l = some (e, l') → ∃ v, s.run C.P w = .ok v w ∧ RA σ w lim e.val v ∧ Known tbl (idsOf e.val) ∧ e.ups = [] := fun h => pure_sound h
  cases op with
  | quo =>
    rcases asInts_cases hm with ⟨k, a, k', b, rfl, rfl, h2⟩ | hm
    · obtain ⟨hk, h3⟩ := M.run_guard h2
      obtain rfl := of_decide_eq_true hk
      obtain ⟨hn, h4⟩ := M.run_need h3
      have hn := of_decide_eq_true hn
      obtain ⟨rfl, _⟩ := M.run_ret h4
      exact ⟨_, by simp [binOp, Op.intDiv, hn], plain_ra, known_nil, rfl⟩
    · exact gen hm
  | rem =>
    rcases asInts_cases hm with ⟨k, a, k', b, rfl, rfl, h2⟩ | hm
    · obtain ⟨hk, h3⟩ := M.run_guard h2
      obtain rfl := of_decide_eq_true hk
      obtain ⟨hn, h4⟩ := M.run_need h3
      have hn := of_decide_eq_true hn
      obtain ⟨rfl, _⟩ := M.run_ret h4
      exact ⟨_, by simp [binOp, Op.intDiv, hn], plain_ra, known_nil, rfl⟩
    · exact (M.run_fail hm).elim
  | shl =>
    rcases asInts_cases hm with ⟨k, a, k', b, rfl, rfl, hm⟩ | hm
    · obtain ⟨hn, hm⟩ := M.run_need hm
      have hn := of_decide_eq_true hn
      obtain ⟨rfl, _⟩ := M.run_ret hm
      exact ⟨_, by simp only [binOp, Op.shift]; rw [if_neg (show ¬ b < (0 : Int) from by omega)]; rfl, plain_ra, known_nil, rfl⟩
    · exact (M.run_fail hm).elim
  | shr =>
    rcases asInts_cases hm with ⟨k, a, k', b, rfl, rfl, hm⟩ | hm
    · obtain ⟨hn, hm⟩ := M.run_need hm
      have hn := of_decide_eq_true hn
      obtain ⟨rfl, _⟩ := M.run_ret hm
      exact ⟨_, by simp only [binOp, Op.shift]; rw [if_neg (show ¬ b < (0 : Int) from by omega)]; rfl, plain_ra, known_nil, rfl⟩
    · exact (M.run_fail hm).elim
  | add =>
    rcases asStrs_cases hm with ⟨a, b, rfl, rfl, hm⟩ | hm
    · obtain ⟨hn, hm⟩ := M.run_need hm
      have hn := of_decide_eq_true hn
      obtain ⟨rfl, _⟩ := M.run_ret hm
      refine ⟨_, ?_, plain_ra, known_nil, rfl⟩
      have : ¬ (((a.size + b.size : Nat) : Int) > IntKind.i64.max) := by
        have : IntKind.i64.max = 9223372036854775807 := by decide
        omega
      simp only [binOp, Op.stringOp]
      rw [if_neg this]; rfl
    · exact gen hm
  | _ => exact gen hm

theorem ptr_eq {P : Program} {T el : TypeId} (hu : P.underlying T = some (.pointer el)) {a : Addr} (d : Nat) (w : World) :
    (Op.equalIn (d + 1) T (.pointer (some a)) (.pointer none)).run P w = .ok false w := by
  simp [Op.equalIn, run_underlying hu]

/-- a value's cells, as the program hands them over -/
def Vt (w : World) (lim : Nat → Nat) (t : Ty) (x : t.den) (v : Value) : Prop := ∃ cs, Rt w lim t x cs ∧ ((t.isAgg = true ∧ v = .agg cs.toArray) ∨ (t.isAgg = false ∧ cs = [v]))

theorem eqT_desc {P : Program} {n : Nat} {T : TypeId} {t : Ty} (h : eqT P n T t = true) : ∃ d, P.underlying T = some d ∧ aggD d = t.isAgg := by
  cases n with
  | zero => simp [eqT] at h
  | succ n =>
    unfold eqT at h
    split at h
    · rename_i hu; refine ⟨_, hu, ?_⟩; cases t <;> simp at h <;> rfl
    · rename_i hu; refine ⟨_, hu, ?_⟩; cases t <;> simp at h <;> rfl
    · rename_i hu; refine ⟨_, hu, ?_⟩; cases t <;> simp at h <;> rfl
    · rename_i hu; refine ⟨_, hu, ?_⟩; simp only [Bool.and_eq_true] at h; rw [h.1.1.1]; rfl
    · cases h

theorem run_part {P : Program} {T : TypeId} {t : Ty} {d : TypeDesc} (hu : P.underlying T = some d) (hd : aggD d = t.isAgg) (hc : P.cellsOf T = t.size) {off : Nat} {xs : Array Value} {x : t.den} (hr : Rt w lim t x ((xs.toList.drop off).take t.size)) (hs : t.isAgg = false → t.size = 1) :
    ∃ v, (part T xs off).run P w = .ok v w ∧ Vt w lim t x v := by
  cases ha : t.isAgg with
  | true =>
    refine ⟨.agg (xs.extract off (off + t.size)), by simp [part, run_isAgg hu, hd, ha, run_sizeOf hu, hc], ⟨_, hr, .inl ⟨ha, ?_⟩⟩⟩
    congr 1
    apply Array.toList_inj.1
    simp [List.extract_eq_take_drop]
  | false =>
    have h1 := hs ha
    have hl := Rt.length hr
    rw [h1] at hl hr
    match hcs : (xs.toList.drop off).take 1, hl with
    | [v], _ =>
      rw [hcs] at hr
      have hv : xs[off]? = some v := by
        have : ((xs.toList.drop off).take 1)[0]? = some v := by rw [hcs]; rfl
        simpa [List.getElem?_take, List.getElem?_drop] using this
      exact ⟨v, by simp [part, run_isAgg hu, hd, ha, hv], ⟨_, hr, .inr ⟨ha, rfl⟩⟩⟩

theorem eqFields_sound {P : Program} {n dd : Nat} (ih : ∀ (T : TypeId) (t : Ty) (x y : t.den) (v v' : Value), eqT P n T t = true → Vt w lim t x v → Vt w lim t y v' → (Op.equalIn dd T v v').run P w = .ok (t.eqb x y) w) {xs ys : Array Value} :
    ∀ (l : List Field) (t : Ty) (off : Nat) (x y : t.den), eqF P (eqT P n) off l t = true → Rt w lim t x (xs.toList.drop off) → Rt w lim t y (ys.toList.drop off) →
      (Op.eqFields dd xs ys l).run P w = .ok (t.eqb x y) w
  | [], t, off, x, y, h, hx, hy => by
    match t, h with
    | .unit, h => rfl
  | f :: l, t, off, x, y, h, hx, hy => by
    match t, h with
    | .pair a b, h =>
      simp only [eqF, Bool.and_eq_true] at h
      obtain ⟨⟨⟨⟨h1, h0⟩, h2⟩, h3⟩, h4⟩ := h
      have hn : f.name ≠ "_" := by simpa using h0
      obtain ⟨d, hu, hd⟩ := eqT_desc h2
      have hs : a.isAgg = false → a.size = 1 := by intro h; cases a <;> first | rfl | (simp [Ty.isAgg] at h)
      simp only [Rt] at hx hy
      obtain ⟨c, d1, e1, e2, e3⟩ := hx
      obtain ⟨c', d1', e1', e2', e3'⟩ := hy
      have l1 := Rt.length e2
      have l2 := Rt.length e2'
      have q1 : (xs.toList.drop off).take a.size = c := by rw [e1, ← l1, List.take_left]
      have q2 : (ys.toList.drop off).take a.size = c' := by rw [e1', ← l2, List.take_left]
      have q3 : xs.toList.drop (off + a.size) = d1 := by rw [← List.drop_drop, e1, ← l1, List.drop_left]
      have q4 : ys.toList.drop (off + a.size) = d1' := by rw [← List.drop_drop, e1', ← l2, List.drop_left]
      obtain ⟨v, r1, r2⟩ := run_part (w := w) (lim := lim) hu hd (beq_eq h3) (off := off) (xs := xs) (x := x.1) (by rw [q1]; exact e2) hs
      obtain ⟨v', r1', r2'⟩ := run_part (w := w) (lim := lim) hu hd (beq_eq h3) (off := off) (xs := ys) (x := y.1) (by rw [q2]; exact e2') hs
      have r3 := ih f.type a x.1 y.1 v v' h2 r2 r2'
      have r4 := eqFields_sound ih l b (off + a.size) x.2 y.2 h4 (by rw [q3]; exact e3) (by rw [q4]; exact e3')
      skip
      simp only [Op.eqFields, hn, ne_eq, not_false_eq_true, if_true, Sem.run_bind, beq_eq h1, r1, r1', r3, Result.andThen_ok, Ty.eqb]
      cases a.eqb x.1 y.1 with
      | true => simpa using r4
      | false => simp

theorem eq_sound {P : Program} : ∀ (n d : Nat) (T : TypeId) (t : Ty) (x y : t.den) (v v' : Value), eqT P n T t = true → Vt w lim t x v → Vt w lim t y v' → (Op.equalIn (d + n) T v v').run P w = .ok (t.eqb x y) w
  | 0, _, _, _, _, _, _, _, h, _, _ => by simp [eqT] at h
  | n + 1, d, T, t, x, y, v, v', h, hx, hy => by
    obtain ⟨cs, hx1, hx2⟩ := hx
    obtain ⟨cs', hy1, hy2⟩ := hy
    unfold eqT at h
    split at h
    · rename_i hu
      cases t <;> simp at h
      simp only [Rt] at hx1 hy1
      subst hx1; subst hy1
      simp only [Ty.isAgg, Bool.false_eq_true, false_and, true_and, false_or, List.cons.injEq, and_true] at hx2 hy2
      subst hx2; subst hy2
      exact run_equalIn_bool w (d + n) T _ _ hu
    · rename_i k hu
      cases t <;> simp at h
      subst h
      simp only [Rt] at hx1 hy1
      subst hx1; subst hy1
      simp only [Ty.isAgg, Bool.false_eq_true, false_and, true_and, false_or, List.cons.injEq, and_true] at hx2 hy2
      subst hx2; subst hy2
      have := run_equalIn_int w (d + n) T k k x y hu
      rw [show d + (n + 1) = (d + n) + 1 from rfl, this]
      simp only [Ty.eqb]
      rfl
    · rename_i hu
      cases t <;> simp at h
      simp only [Rt] at hx1 hy1
      subst hx1; subst hy1
      simp only [Ty.isAgg, Bool.false_eq_true, false_and, true_and, false_or, List.cons.injEq, and_true] at hx2 hy2
      subst hx2; subst hy2
      have := run_equalIn_string w (d + n) T x y hu
      rw [show d + (n + 1) = (d + n) + 1 from rfl, this, ← beq_toListBytes]
      simp only [Ty.eqb]
      congr 1
      rw [Bool.eq_iff_iff]
      simp only [decide_eq_true_eq]
      rw [beq_toListBytes, ByteArray.toList_eq, ByteArray.toList_eq]
      simp only [beq_iff_eq]
      constructor
      · intro e; exact ByteArray.ext (Array.toList_inj.1 e)
      · intro e; rw [e]
    · rename_i fs hu
      simp only [Bool.and_eq_true, Bool.not_eq_true'] at h
      obtain ⟨⟨⟨ha, hst⟩, hsz⟩, hF⟩ := h
      rcases hx2 with ⟨_, rfl⟩ | ⟨hb, _⟩
      · rcases hy2 with ⟨_, rfl⟩ | ⟨hb, _⟩
        · have hf : P.underlying T = some (.struct (P.fieldsOf T)) := by simp [Program.fieldsOf, hu]
          have he : (P.fieldsOf T) = fs := by simp [Program.fieldsOf, hu]
          rw [show d + (n + 1) = (d + n) + 1 from rfl, run_equalIn_struct w (d + n) T _ _ hf hst, he]
          exact eqFields_sound (fun T t x y v v' => eq_sound n d T t x y v v') fs.toList t 0 x y hF (by simpa using hx1) (by simpa using hy1)
        · rw [ha] at hb; cases hb
      · rw [ha] at hb; cases hb
    · cases h

theorem pvs_ra : ∀ {cs : List AV} {ps : List PV} {vs : List Value}, pvs cs = some ps → RAs σ w lim cs vs → All2 (RP w lim) ps vs
  | [], ps, vs, h, hr => by
    simp only [pvs, Option.some.injEq] at h; subst h
    cases vs with
    | nil => trivial
    | cons => simp [RAs] at hr
  | c :: cs, ps, vs, h, hr => by
    cases c with
    | val p =>
      simp only [pvs] at h
      split at h
      · rename_i ps' hp
        cases h
        match vs, hr with
        | v :: vs, hr =>
          simp only [RAs, RA] at hr
          exact ⟨hr.1, pvs_ra hp hr.2⟩
      · cases h
    | _ => simp [pvs] at h

theorem eqs_sound {T : TypeId} {cs ds : List AV} {xs ys : List Value} {neg : Bool} {l l' : List Nat} {e : Eff} (hm : (actEqs C T cs ds neg).run tbl l = some (e, l')) (ha : RAs σ w lim cs xs) (hb : RAs σ w lim ds ys) :
    C.P.eqGuardType C.P.depth T = false ∧ ∃ b, (Op.equalIn 10000 T (.agg xs.toArray) (.agg ys.toArray)).run C.P w = .ok b w ∧ e = ⟨.val (.v (.bool (bif neg then !b else b))), []⟩ := by
  unfold actEqs at hm
  split at hm
  · rename_i t ht
    obtain ⟨hg, hm⟩ := M.run_guard hm
    simp only [Bool.and_eq_true, Bool.not_eq_true'] at hg
    obtain ⟨⟨h1, h2⟩, h3⟩ := hg
    split at hm
    · rename_i ps qs hps hqs
      split at hm
      · rename_i x y hx hy
        obtain ⟨rfl, _⟩ := M.run_ret hm
        have k1 := rt_ofAll hx (pvs_ra hps ha)
        have k2 := rt_ofAll hy (pvs_ra hqs hb)
        exact ⟨h3, _, eq_sound depth 9988 T t x y _ _ h2 ⟨_, k1, .inl ⟨h1, rfl⟩⟩ ⟨_, k2, .inl ⟨h1, rfl⟩⟩, rfl⟩
      · exact (M.run_fail hm).elim
    · exact (M.run_fail hm).elim
  · exact (M.run_fail hm).elim

theorem bin2_sound {op : BinOp} {T : TypeId} {a b : AV} {x y : Value} {xo yo : Operand} {l l' : List Nat} {e : Eff} (hm : (actBin2 C op T a b).run tbl l = some (e, l'))
    (ha : RA σ w lim a x) (hb : RA σ w lim b y) :
    ∃ v, (do eqGuard op T xo yo x y; binOp op T x y : Sem Value).run C.P w = .ok v w ∧ RA σ w lim e.val v ∧ Known tbl (idsOf e.val) ∧ e.ups = [] := by
  unfold actBin2 at hm
  split at hm
  · rename_i cs ds
    simp only [RA] at ha hb
    obtain ⟨xs, rfl, ha⟩ := ha
    obtain ⟨ys, rfl, hb⟩ := hb
    split at hm
    · obtain ⟨hg, b, h1, rfl⟩ := eqs_sound hm ha hb
      exact ⟨.bool b, by simp [run_eqGuard_agg, hg, run_eql_struct, h1], plain_ra, known_nil, rfl⟩
    · obtain ⟨hg, b, h1, rfl⟩ := eqs_sound hm ha hb
      exact ⟨.bool (!b), by simp [run_eqGuard_agg, hg, run_neq_struct, h1], plain_ra, known_nil, rfl⟩
    · exact (M.run_fail hm).elim
  · simp only [RA, RP] at ha hb; subst ha; subst hb
    exact bin_sound hm
  · rename_i r k y'
    simp only [RA, RP] at ha hb; subst hb
    obtain ⟨bb, _, rfl⟩ := ha
    obtain ⟨hn, hm2⟩ := M.run_guard hm
    clear hm
    simp only [Bool.and_eq_true] at hn
    obtain ⟨h1, h2⟩ := hn
    have hy : y = .pointer none := by unfold isNilPtr at h1; split at h1 <;> simp_all
    clear h1
    subst hy
    cases hu : C.P.underlying T with
    | none => simp [hu] at h2
    | some d =>
      cases d with
      | pointer el =>
        have hq : ∀ w, (Op.equal T (.pointer (some ⟨bb, k, none⟩)) (.pointer none)).run C.P w = .ok false w := fun w => ptr_eq hu 9999 w
        cases op with
        | eql =>
          obtain ⟨rfl, _⟩ := M.run_ret hm2
          exact ⟨.bool false, by simp [eqGuard, binOp, hq], plain_ra, known_nil, rfl⟩
        | neq =>
          obtain ⟨rfl, _⟩ := M.run_ret hm2
          exact ⟨.bool true, by simp [eqGuard, binOp, hq], plain_ra, known_nil, rfl⟩
        | _ => exact (M.run_fail hm2).elim
      | _ => simp [hu] at h2
  · simp [M.run] at hm

theorem un_sound {op : UnOp} {a : AV} {x : Value} {l l' : List Nat} {e : Eff} (hm : (actUn C op a).run tbl l = some (e, l')) (ha : RA σ w lim a x) :
    ∃ v, (Op.unary op x).run C.P w = .ok v w ∧ RA σ w lim e.val v ∧ Known tbl (idsOf e.val) ∧ e.ups = [] := by
  unfold actUn at hm
  split at hm
  · simp only [RA, RP] at ha; subst ha
    split at hm
    · rename_i v hs
      obtain ⟨_, hm⟩ := M.run_guard hm
      obtain ⟨rfl, _⟩ := M.run_ret hm
      exact ⟨v, semPure_run hs w, plain_ra, known_nil, rfl⟩
    · simp [M.run] at hm
  · simp [M.run] at hm

/-- a slice that is read, as its cells lie -/
def Row (w : World) (lim : Nat → Nat) (t : Ty) (xs : List t.den) (v : Value) : Prop :=
  ∃ A cap, v = .slice A xs.length cap ∧ xs.length ≤ cap ∧ (xs = [] ∨ ∃ b off, A = some ⟨b, off, none⟩ ∧ ∀ i (h : i < xs.length), ∃ c, Rt w lim t xs[i] c ∧
    ∀ j u, c[j]? = some u → w.cell? ⟨b, off + i * t.size + j, none⟩ = some u)

theorem row_of_rt {t : Ty} {xs : List t.den} {v : Value} (h : Rt w lim (.sl t) xs [v]) : Row w lim t xs v := by
  simp only [Rt] at h
  obtain ⟨A, len, cap, hv, h2, h3, h4⟩ := h
  obtain rfl : v = .slice A len cap := by simpa using hv
  refine ⟨A, cap, by rw [h2], by rw [h2]; exact h3, ?_⟩
  rcases h4 with h4 | ⟨b, off, hA, h4⟩
  · exact .inl h4
  · refine .inr ⟨b, off, hA, fun i hi => ?_⟩
    obtain ⟨c, h5, h6⟩ := h4 i hi
    exact ⟨c, h5, fun j u hj => (h6 j u hj).1⟩

theorem row_of_arr {r : Nat} {t : Ty} {xs : List t.den} {sh : Bool} (h : RR σ w lim r (.arr t xs sh)) : Row w lim t xs (σ r) := by
  simp only [RR] at h
  rcases h.2 with ⟨h4, h5⟩ | ⟨b, off, cap, vs, U, fz, h4, h5, h6, h7, h8, h9, h10⟩
  · subst h4; exact ⟨none, 0, h5, Nat.le_refl _, .inl rfl⟩
  · refine ⟨_, cap, h4, h5, .inr ⟨b, off, rfl, fun i hi => ⟨_, h9 i hi, fun j u hj => ?_⟩⟩⟩
    rw [cell_of h6]
    rw [List.getElem?_take, List.getElem?_drop] at hj
    split at hj
    · exact hj
    · simp at hj

theorem readSl_sound {t : Ty} {a : AV} {v : Value} {l l' : List Nat} {xs : List t.den} (hm : (readSl t a).run tbl l = some (xs, l')) (ha : RA σ w lim a v)
    (hres : ∀ r x, tbl r = .live x → RR σ w lim r x ∧ Known tbl (resIds r x)) : Row w lim t xs v := by
  unfold readSl at hm
  split at hm
  · rename_i r
    simp only [M.run] at hm
    cases hr : tbl r with
    | fresh => simp [hr, M.run] at hm
    | gone => simp [hr, M.run] at hm
    | live y =>
      cases y with
      | box => simp [hr, M.run] at hm
      | nest => simp [hr, M.run] at hm
      | arr t' ys sh =>
        simp only [hr] at hm
        split at hm
        · rename_i ht
          subst ht
          obtain ⟨rfl, _⟩ := M.run_ret hm
          simp only [RA] at ha; obtain ⟨rfl, _⟩ := ha
          exact row_of_arr (hres r _ hr).1
        · simp [M.run] at hm
  · have := M.run_ofOpt hm
    simp only [RA] at ha
    exact row_of_rt (rt_asSl this ha)
  · simp [M.run] at hm

/-- all cells of a row -/
theorem row_cells {t : Ty} {xs : List t.den} {v : Value} (h : Row w lim t xs v) : ∃ A cap, v = .slice A xs.length cap ∧ xs.length ≤ cap ∧
    ∃ css : List (List Value), All2 (Rt w lim t) xs css ∧ (xs = [] ∨ ∃ b off, A = some ⟨b, off, none⟩ ∧ ∀ j u, css.flatten[j]? = some u → w.cell? ⟨b, off + j, none⟩ = some u) := by
  obtain ⟨A, cap, hv, hc, h⟩ := h
  refine ⟨A, cap, hv, hc, ?_⟩
  rcases h with h | ⟨b, off, hA, h⟩
  · subst h; exact ⟨[], trivial, .inl rfl⟩
  · suffices H : ∀ (xs : List t.den) (off : Nat), (∀ i (h : i < xs.length), ∃ c, Rt w lim t xs[i] c ∧ ∀ j u, c[j]? = some u → w.cell? ⟨b, off + i * t.size + j, none⟩ = some u) →
        ∃ css : List (List Value), All2 (Rt w lim t) xs css ∧ ∀ j u, css.flatten[j]? = some u → w.cell? ⟨b, off + j, none⟩ = some u by
      obtain ⟨css, h1, h2⟩ := H xs off h
      exact ⟨css, h1, .inr ⟨b, off, hA, h2⟩⟩
    intro xs
    induction xs with
    | nil => intro off _; exact ⟨[], trivial, by simp⟩
    | cons x xs ih =>
      intro off h
      obtain ⟨c, h1, h2⟩ := h 0 (by simp)
      obtain ⟨css, h3, h4⟩ := ih (off + t.size) (fun i hi => by
        obtain ⟨c, h5, h6⟩ := h (i + 1) (by simpa using hi)
        refine ⟨c, by simpa using h5, fun j u hj => ?_⟩
        have := h6 j u hj
        rw [show off + (i + 1) * t.size + j = off + t.size + i * t.size + j by rw [Nat.add_mul]; omega] at this
        exact this)
      refine ⟨c :: css, ⟨h1, h3⟩, fun j u hj => ?_⟩
      have hl := Rt.length h1
      rw [List.flatten_cons] at hj
      by_cases hjc : j < c.length
      · rw [List.getElem?_append_left hjc] at hj
        have := h2 j u hj
        simpa using this
      · rw [List.getElem?_append_right (by omega)] at hj
        have := h4 _ u hj
        rw [show off + j = off + t.size + (j - c.length) by omega]; exact this

theorem flatten_length {t : Ty} {xs : List t.den} {css : List (List Value)} (h : All2 (Rt w lim t) xs css) : css.flatten.length = xs.length * t.size := by
  induction xs generalizing css with
  | nil => match css, h with | [], _ => simp
  | cons x xs ih => match css, h with
    | c :: css, h => simp [ih h.2, Rt.length h.1, Nat.add_mul]; omega

theorem rt_ints {k : IntKind} {xs : List Int} {css : List (List Value)} (h : All2 (Rt w lim (.int k)) xs css) : css.flatten = xs.map (Value.int k) := by
  induction xs generalizing css with
  | nil => match css, h with | [], _ => rfl
  | cons x xs ih => match css, h with
    | c :: css, h =>
      have h1 := h.1
      simp only [Rt] at h1; subst h1
      simp [ih h.2]

theorem bytes_fold (l : List Int) (acc : ByteArray) : (l.foldl (fun r n => r.push (UInt8.ofNat n.toNat)) acc) = ⟨acc.data ++ (l.map fun n => UInt8.ofNat n.toNat).toArray⟩ := by
  induction l generalizing acc with
  | nil => simp
  | cons a l ih => rw [List.foldl_cons, ih]; apply ByteArray.ext; simp [ByteArray.push]

theorem byteT_spec {P : Program} {e : TypeId} (h : byteT P e = true) : P.underlying e = some (.int .u8) ∧ P.cellsOf e = 1 := by
  unfold byteT at h
  split at h
  · rename_i hu; exact ⟨hu, beq_eq h⟩
  · cases h

theorem toString_sound {src dst e : TypeId} {v : Value} {xs : List Int} (hs : C.P.underlying src = some (.slice e)) (hd : C.P.underlying dst = some .string) (hb : byteT C.P e = true)
    (hr : Row w lim (.int .u8) xs v) : (convert src dst v).run C.P w = .ok (.string (bytesOf xs)) w := by
  obtain ⟨hu, _⟩ := byteT_spec hb
  obtain ⟨A, cap, rfl, hc, css, h1, h2⟩ := row_cells hr
  rw [run_convert_bytes_string w src dst e A _ _ hs hu hd]
  rcases h2 with h2 | ⟨b, off, rfl, h2⟩
  · subst h2
    cases A with
    | none => simp [Conv.bytesToString, bytesOf]; rfl
    | some a =>
      rw [run_bytesToString w a _ _ [] (by simp [loadCells, loadCellsFrom])]
      rfl
  · have hl := flatten_length h1
    rw [rt_ints h1] at h2 hl
    have := run_loadCells_list (P := C.P) w ⟨b, off, none⟩ (xs.map (Value.int .u8)) (fun j v hj => by rw [add_none]; exact h2 j v hj)
    rw [List.length_map] at this
    rw [run_bytesToString w _ _ _ xs this, bytes_fold]
    congr 2
    apply ByteArray.ext
    simp [bytesOf]

/-- converting where nothing is written -/
theorem convert_sound {base : Nat} {src dst : TypeId} {a : AV} {v : Value} {l l' : List Nat} {e : Eff} (hm : (actConvert C base src dst a).run tbl l = some (e, l')) (ha : RA σ w lim a v)
    (hres : ∀ r x, tbl r = .live x → RR σ w lim r x ∧ Known tbl (resIds r x)) :
    (∃ x, (convert src dst v).run C.P w = .ok x w ∧ RA σ w lim e.val x ∧ Known tbl (idsOf e.val) ∧ e.ups = []) ∨
    (∃ el s, C.P.underlying src = some .string ∧ C.P.underlying dst = some (.slice el) ∧ byteT C.P el = true ∧ Nat.beq el u8Id = true ∧ v = .string s ∧ s.size < 1099511627776 ∧ tbl base = .fresh ∧
      e = ⟨.own base, [(base, .live (.arr (.int .u8) (numsOf s) false))]⟩) ∨
    (∃ r t xs sh el el', src = dst ∧ C.P.underlying src = some (.slice el') ∧ C.P.underlying dst = some (.slice el) ∧ byteT C.P el = true ∧ v = σ r ∧ (∃ A l c, v = .slice A l c) ∧ tbl r = .live (.arr t xs sh) ∧ 1 ≤ xs.length ∧
      e = ⟨.own r, [(r, .live (.arr t xs sh))]⟩) := by
  unfold actConvert at hm
  split at hm
  · rename_i el' el hs hd
    split at hm
    · rename_i r
      obtain ⟨hb, hm⟩ := M.run_guard hm
      simp only [Bool.and_eq_true] at hb
      simp only [M.run] at hm
      split at hm
      · rename_i t xs sh hr
        obtain ⟨hx, hm⟩ := M.run_guard hm
        obtain ⟨rfl, _⟩ := M.run_ret hm
        simp only [RA] at ha
        exact .inr (.inr ⟨r, t, xs, sh, el, el', beq_eq hb.1, hs, hd, hb.2, ha.1, ha.2, hr, Nat.le_of_ble_eq_true hx, rfl⟩)
      · simp [M.run] at hm
    · simp [M.run] at hm
  · rename_i el hs hd
    obtain ⟨hb, hm⟩ := M.run_guard hm
    obtain ⟨xs, l1, h1, h2⟩ := M.run_bind_some hm
    obtain ⟨rfl, _⟩ := M.run_ret h2
    exact .inl ⟨_, toString_sound hs hd hb (readSl_sound h1 ha hres), plain_ra, known_nil, rfl⟩
  · rename_i el hs hd
    split at hm
    · rename_i s
      simp only [RA, RP] at ha; subst ha
      obtain ⟨hb, hm⟩ := M.run_guard hm
      simp only [Bool.and_eq_true] at hb
      obtain ⟨hn, hm⟩ := M.run_need hm
      have hn := of_decide_eq_true hn
      simp only [freshAll, M.run] at hm
      cases hf : tbl base with
      | fresh =>
        simp only [hf, M.run] at hm
        obtain ⟨rfl, _⟩ : _ ∧ _ := by simpa using hm
        exact .inr (.inl ⟨el, s, hs, hd, hb.1, hb.2, rfl, hn, rfl, rfl⟩)
      | gone => simp [hf, M.run] at hm
      | live y => simp [hf, M.run] at hm
    · simp [M.run] at hm
  · split at hm
    · simp only [RA, RP] at ha; subst ha
      split at hm
      · rename_i v hs
        obtain ⟨_, hm⟩ := M.run_guard hm
        obtain ⟨rfl, _⟩ := M.run_ret hm
        exact .inl ⟨v, semPure_run hs w, plain_ra, known_nil, rfl⟩
      · simp [M.run] at hm
    · simp [M.run] at hm
  · simp [M.run] at hm

theorem len_sound {base : Nat} {ats : Array TypeId} {ty : TypeId} {a : AV} {v : Value} {l l' : List Nat} {e : Eff} (hm : (actBuiltin C base .len ats [a]).run tbl l = some (e, l')) (ha : RA σ w lim a v)
    (hres : ∀ r x, tbl r = .live x → RR σ w lim r x ∧ Known tbl (resIds r x)) :
    ∃ x, (Builtin.len_ ats ty #[v]).run C.P w = .ok x w ∧ RA σ w lim e.val x ∧ Known tbl (idsOf e.val) ∧ e.ups = [] := by
  simp only [actBuiltin] at hm
  split at hm
  · rename_i T hT
    split at hm
    · rename_i s hu
      simp only [RA, RP] at ha; subst ha
      obtain ⟨rfl, _⟩ := M.run_ret hm
      exact ⟨_, by simp [Builtin.len_, hT, run_underlying hu, goInt], plain_ra, known_nil, rfl⟩
    · rename_i r hu
      simp only [M.run] at hm
      cases hr : tbl r with
      | fresh => simp [hr, M.run] at hm
      | gone => simp [hr, M.run] at hm
      | live y =>
        cases y with
        | box => simp [hr, M.run] at hm
        | nest t' xss o =>
          simp only [hr] at hm
          obtain ⟨rfl, _⟩ := M.run_ret hm
          simp only [RA] at ha; obtain ⟨rfl, _⟩ := ha
          have h2 := (hres r _ hr).1
          simp only [RR] at h2
          obtain ⟨_, b', off', cap', vs, U, fz, h4, _⟩ := h2
          rw [h4]
          exact ⟨_, by simp [Builtin.len_, hT, run_underlying hu, goInt], plain_ra, known_nil, rfl⟩
        | arr t' xs sh =>
          simp only [hr] at hm
          obtain ⟨rfl, _⟩ := M.run_ret hm
          simp only [RA] at ha; obtain ⟨rfl, _⟩ := ha
          obtain ⟨A, cap, hv, _⟩ := row_of_arr (hres r _ hr).1
          rw [hv]
          exact ⟨_, by simp [Builtin.len_, hT, run_underlying hu, goInt], plain_ra, known_nil, rfl⟩
    · rename_i t' xs hu
      obtain ⟨rfl, _⟩ := M.run_ret hm
      simp only [RA, RP] at ha
      obtain ⟨A, cap, hv, _⟩ := row_of_rt ha
      subst hv
      exact ⟨_, by simp [Builtin.len_, hT, run_underlying hu, goInt], plain_ra, known_nil, rfl⟩
    · rename_i x hu
      obtain ⟨hb, hm⟩ := M.run_guard hm
      obtain ⟨rfl, _⟩ := M.run_ret hm
      simp only [RA, RP] at ha; subst ha
      have := isNil_eq hb; subst this
      exact ⟨_, by simp [Builtin.len_, hT, run_underlying hu, goInt], plain_ra, known_nil, rfl⟩
    · simp [M.run] at hm
  · simp [M.run] at hm

theorem cells_one {v : Value} (h : v.oneCell' = true) : v.cells = #[v] := by
  cases v <;> first | rfl | (simp [Value.oneCell'] at h)

theorem rt_sl_one {t : Ty} {xs : List t.den} {v : Value} (h : Rt w lim (.sl t) xs [v]) : v.oneCell' = true := by
  simp only [Rt] at h; obtain ⟨A, len, cap, hv, _⟩ := h
  obtain rfl : v = .slice A len cap := by simpa using hv
  rfl

/-- the cells of a value -/
theorem cells_spec {a : AV} {v : Value} {cs : List AV} (hcs : a.cells? = some cs) (hv : RA σ w lim a v) : ∃ ws : List Value, v.cells = ws.toArray ∧ RAs σ w lim cs ws ∧ ((∀ l, a ≠ .agg l) → ws = [v] ∧ cs = [a] ∧ v.oneCell' = true) := by
  have one : v.oneCell' = true → cs = [a] → ∃ ws : List Value, v.cells = ws.toArray ∧ RAs σ w lim cs ws ∧ ((∀ l, a ≠ .agg l) → ws = [v] ∧ cs = [a] ∧ v.oneCell' = true) := by
    intro h1 h2
    subst h2
    exact ⟨[v], by rw [cells_one h1], by simp [RAs, hv], fun _ => ⟨rfl, rfl, h1⟩⟩
  cases a with
  | agg l =>
    simp [AV.cells?] at hcs; subst hcs
    simp only [RA] at hv; obtain ⟨ws, rfl, hw⟩ := hv
    exact ⟨ws, rfl, hw, fun h => absurd rfl (h l)⟩
  | dead => simp [AV.cells?] at hcs
  | tup => simp [AV.cells?] at hcs
  | val p =>
    cases p with
    | v x =>
      simp only [AV.cells?] at hcs
      cases hx : x.oneCell' with
      | false => simp [hx] at hcs
      | true =>
        simp [hx] at hcs
        simp only [RA, RP] at hv
        exact one (by rw [hv]; exact hx) hcs.symm
    | sl t xs =>
      simp [AV.cells?] at hcs
      simp only [RA, RP] at hv
      exact one (rt_sl_one hv) hcs.symm
  | own r => simp [AV.cells?] at hcs; simp only [RA] at hv; obtain ⟨_, A, l, c, rfl⟩ := hv; exact one rfl hcs.symm
  | bx r k => simp [AV.cells?] at hcs; simp only [RA] at hv; obtain ⟨b, _, rfl⟩ := hv; exact one rfl hcs.symm
  | el r t i k => simp [AV.cells?] at hcs; simp only [RA] at hv; obtain ⟨b, off, len, cap, _, rfl⟩ := hv; exact one rfl hcs.symm
  | sp ps => simp [AV.cells?] at hcs; simp only [RA] at hv; obtain ⟨b, off, rfl, _⟩ := hv; exact one rfl hcs.symm
  | fn f => simp [AV.cells?] at hcs; simp only [RA] at hv; subst hv; exact one rfl hcs.symm
  | me r T => simp [AV.cells?] at hcs; simp only [RA] at hv; obtain ⟨p, rfl, _⟩ := hv; exact one rfl hcs.symm

theorem foldl_put (l : List Value) : ∀ (n : Nat) (cs : Array Value) (off : Nat), off + n + l.length ≤ cs.size →
    (l.zipIdx n).foldl (fun cs (c, j) => cs.setIfInBounds (off + j) c) cs = (cs.toList.take (off + n) ++ l ++ cs.toList.drop (off + n + l.length)).toArray := by
  induction l with
  | nil => intro n cs off _; simp
  | cons x l ih =>
    intro n cs off h
    simp only [List.length_cons] at h
    simp only [List.zipIdx_cons, List.foldl_cons]
    rw [ih (n + 1) _ off (by simp; omega)]
    apply Array.ext'
    simp only [Array.toList_setIfInBounds]
    apply List.ext_getElem?
    intro i
    simp only [List.getElem?_append, List.getElem?_take, List.getElem?_drop, List.length_take, List.length_append, List.length_set, Array.length_toList, List.length_cons, List.getElem?_set, List.getElem?_cons]
    repeat' split
    all_goals first | rfl | omega | (congr 1; omega)

theorem fillA_sound {place : Nat → Option (Nat × Nat)} : ∀ (ps : List (Nat × AV)) (qs : List (Nat × Value)) (cells : List AV) (vs : List Value) {out : List AV},
    fillA place cells ps = some out → All2 (fun p q => p.1 = q.1 ∧ RA σ w lim p.2 q.2) ps qs → RAs σ w lim cells vs →
    ∃ us : List Value, Instr.fill place vs.toArray qs = some us.toArray ∧ RAs σ w lim out us
  | [], [], cells, vs, out, h, _, hc => by
    simp [fillA] at h; subst h
    exact ⟨vs, by simp [Instr.fill], hc⟩
  | (i, a) :: ps, (j, v) :: qs, cells, vs, out, h, hk, hc => by
    obtain ⟨⟨rfl, hv⟩, hk⟩ := hk
    simp only [fillA] at h
    cases hp : place i with
    | none => simp [hp] at h
    | some q =>
      obtain ⟨off, size⟩ := q
      cases hcs : a.cells? with
      | none => simp [hp, hcs] at h
      | some cs =>
        simp only [hp, hcs] at h
        cases hb : (Nat.beq cs.length size && Nat.ble (off + size) cells.length) with
        | false => simp [hb] at h
        | true =>
          simp only [hb, cond_true] at h
          simp only [Bool.and_eq_true] at hb
          have h1 := beq_eq hb.1
          have h2 : off + size ≤ cells.length := Nat.le_of_ble_eq_true hb.2
          obtain ⟨ws, hw1, hw2, _⟩ := cells_spec hcs hv
          have hl := (RAs_all2.1 hw2).length
          have hlc := (RAs_all2.1 hc).length
          have hnew : RAs σ w lim (cells.take off ++ cs ++ cells.drop (off + size)) (vs.take off ++ ws ++ vs.drop (off + size)) :=
            RAs_all2.2 (All2.append (All2.append (All2.take off (RAs_all2.1 hc)) (RAs_all2.1 hw2)) (All2.drop _ (RAs_all2.1 hc)))
          obtain ⟨us, h3, h4⟩ := fillA_sound ps qs _ _ h hk hnew
          refine ⟨us, ?_, h4⟩
          simp only [Instr.fill, hp, hw1]
          rw [if_neg (by simp; omega)]
          rw [← h3]
          congr 1
          have := foldl_put ws 0 vs.toArray off (by simp; omega)
          simp only [Nat.add_zero] at this
          rw [show off + size = off + ws.length by omega]
          rw [← this]
          simp [Array.zipIdx, List.mapIdx_eq_zipIdx_map]
  | [], _ :: _, _, _, _, _, h, _ => h.elim
  | _ :: _, [], _, _, _, _, h, _ => h.elim


/-- the zero cells, as they are -/
theorem ras_vals (l : List Value) : RAs σ w lim (l.map fun v => .val (.v v)) l := by
  induction l with
  | nil => simp [RAs]
  | cons v l ih => simp [RAs, ih, RA, RP]
theorem ids_vals (l : List Value) : idsOfs (l.map fun v => AV.val (.v v)) = [] := by
  induction l with
  | nil => rfl
  | cons v l ih => simp [idsOfs, idsOf, ih]

theorem zero_run {P : Program} {T : TypeId} {zs : List Value} (h : zeroCells P T = some zs) (w : World) : ∃ z, (zeroValue T).run P w = .ok z w ∧ z.cells.toList = zs := by
  unfold zeroCells at h
  cases hi : P.info? T with
  | none => simp [hi] at h
  | some i =>
    simp only [hi] at h
    cases hz : i.zero with
    | none => simp [hz] at h
    | some z => simp [hz] at h; exact ⟨z, by simp [zeroValue, typeInfo, hi, hz], h⟩

theorem fillA_known {T : Tbl} {place : Nat → Option (Nat × Nat)} : ∀ (ps : List (Nat × AV)) (cells : List AV) {out : List AV}, fillA place cells ps = some out →
    Known T (idsOfs cells) → (∀ p ∈ ps, Known T (idsOf p.2)) → Known T (idsOfs out)
  | [], cells, out, h, k, _ => by simp [fillA] at h; subst h; exact k
  | (i, a) :: ps, cells, out, h, k, kp => by
    simp only [fillA] at h
    cases hp : place i with
    | none => simp [hp] at h
    | some q =>
      obtain ⟨off, size⟩ := q
      cases hcs : a.cells? with
      | none => simp [hp, hcs] at h
      | some cs =>
        simp only [hp, hcs] at h
        cases hb : (Nat.beq cs.length size && Nat.ble (off + size) cells.length) with
        | false => simp [hb] at h
        | true =>
          simp only [hb, cond_true] at h
          refine fillA_known ps _ h ?_ (fun p hp => kp p (List.mem_cons_of_mem _ hp))
          have kc : Known T (idsOfs cs) := by
            have ka := kp (i, a) (List.mem_cons_self ..)
            simp only at ka
            unfold AV.cells? at hcs
            split at hcs
            · simp at hcs; subst hcs; simpa [idsOf] using ka
            · simp at hcs
            · simp at hcs
            · rename_i x
              cases hx : x.oneCell' with
              | false => simp [hx] at hcs
              | true => simp [hx] at hcs; subst hcs; intro r hr; simp [idsOfs, idsOf] at hr
            · simp at hcs; subst hcs; intro r hr; simp [idsOfs] at hr; exact ka r hr
          intro r hr
          obtain ⟨x, hx, hr⟩ := mem_idsOfs hr
          simp only [List.append_assoc, List.mem_append] at hx
          rcases hx with hx | hx | hx
          · exact (k.mem (List.mem_of_mem_take hx)) r hr
          · exact (kc.mem hx) r hr
          · exact (k.mem (List.mem_of_mem_drop hx)) r hr

theorem run_places {P : Program} : ∀ (fs : List Field) (w : World), (∀ f ∈ fs, ∃ i, P.info? f.type = some i) →
    (fs.mapM fun f => do pure (f.offset, ← sizeOf f.type) : Sem (List (Nat × Nat))).run P w = .ok (fs.map fun f => (f.offset, P.cellsOf f.type)) w
  | [], w, _ => by simp
  | f :: fs, w, h => by
    obtain ⟨i, hi⟩ := h f (by simp)
    have ih := run_places fs w (fun g hg => h g (by simp [hg]))
    simp only [List.mapM_cons, Sem.run_bind, sizeOf, typeInfo, run_program, Result.andThen_ok, hi, Sem.run_pure, List.map_cons]
    simp only [sizeOf, typeInfo] at ih
    rw [ih]
    simp [Program.cellsOf, hi]
end
end Go.Sh
