/-
  The machine, part 17: a builder's string.
-/
import Derived.Test.YtlbgcegonmbddaaDoorM16
import Derived.Shelf.Strings.Builder1
set_option linter.unusedSimpArgs false
set_option linter.unusedVariables false
namespace Go.Proofs
open Go Go.Shelf Go.RowKit
variable {P : Program} {ρ : Ren}

theorem liesAt_off {e : TypeId} (hc : P.cellsOf e = 1) (count off n : Nat) (hn : off + n ≤ count) : liesAt P P.depth e count off e n = true := by
  have hd : P.depth = (2 * (P.types.size + Made.depth) + 1) + 1 := rfl
  rw [hd]
  simp only [liesAt, Bool.or_eq_true]
  left
  rw [hd]
  simp [rowAt, hc, hn, sameLayout, Nat.mod_one]

theorem run_unsafeString_off (w : World) (pt it ty e : TypeId) (hp : P.underlying pt = some (.pointer e)) (hc : P.cellsOf e = 1) (g off cells : Nat) (hsh : w.shape? g = some (e, cells)) (l : List UInt8) (h0 : l ≠ []) (hn : off + l.length ≤ cells) (h63 : l.length ≤ 9223372036854775807)
    (hcell : ∀ j x, l[j]? = some x → w.cell? ((⟨g, off, none⟩ : Addr).add j) = some (.int .u8 x.toNat)) :
    (Builtin.unsafeString_ #[pt, it] ty #[.pointer (some ⟨g, off, none⟩), .int .i64 l.length]).run P w = .ok (.string ⟨l.toArray⟩) (w.freeze ⟨g, off, none⟩ l.length) := by
  have hl : l.length ≠ 0 := by simpa using h0
  have hlb := Lib.run_loadBytes (P := P) w l ⟨g, off, none⟩ .empty hcell
  have hlies := liesAt_off (P := P) hc (cells / P.cellsOf e) off l.length (by rw [hc]; simpa using hn)
  have h63' : ¬ (9223372036854775807 : Int) < (l.length : Int) := by omega
  have hdef : Builtin.unsafeString_ #[pt, it] ty #[.pointer (some ⟨g, off, none⟩), .int .i64 l.length] =
      (do
        let n ← asInt (.int .i64 l.length)
        if n < 0 then runtimePanic (.error "unsafe.String: len out of range")
        if n > IntKind.i64.max then unsupported (.unsafePointer "String: a length above the largest int")
        if n = 0 then pure (.string .empty)
        else if ← variablesAt ⟨g, off, none⟩ (← elemOf pt) n.toNat then do
          let s ← loadBytes ⟨g, off, none⟩ .empty n.toNat
          freeze ⟨g, off, none⟩ n.toNat
          pure (.string s)
        else unsupported (.unsafePointer "String: not so many bytes at ptr")) := rfl
  rw [hdef]
  have hmax : IntKind.i64.max = 9223372036854775807 := rfl
  have hneg : ¬ (l.length : Int) < 0 := by omega
  simp [asInt, asIntOf, hmax, h63', hneg, hl, variablesAt, hsh, elemOf, run_underlying hp, hlies, hlb]

set_option maxHeartbeats 2000000 in
set_option maxRecDepth 100000 in
theorem string_walk (L : Lays.n169 P ρ) (X : Builder.Extra P ρ) (b : Nat) (p y q : Value) (n : Nat) (s : ByteArray) (w w1 : World) (c1 : w.drew.cell? ⟨b, 1, none⟩ = some y)
    (hlen : (∃ A cap, y = .slice A n cap))
    (c2 : w1.cell? ⟨b, 1, none⟩ = some y)
    (hSD : (Builtin.unsafeSliceData_ #[(ρ.t 37)] (ρ.t 127) #[y]).run P w.drew = .ok q w1) (hw1 : w1 = w.drew)
    (w2 : World) (hUS : (Builtin.unsafeString_ #[(ρ.t 127), (ρ.t 3)] (ρ.t 9) #[q, .int .i64 n]).run P w1 = .ok (.string s) w2) :
    Calls P (ρ.f 169) #[.pointer (some ⟨b, 0, none⟩)] w fun e w' => e = .returned (.string s) ∧ w' = w2 := by
  obtain ⟨A, cap, rfl⟩ := hlen
  subst hw1
  have mixed := L.mixed
  have t72 := L.t72; have a72 := L.a72; have z72 := L.z72; have v72 := L.v72; have u72 := run_underlying L.t72
  have t70 := L.t70; have a70 := L.a70; have z70 := L.z70; have v70 := L.v70; have u70 := run_underlying L.t70
  have t37 := L.t37; have a37 := L.a37; have z37 := L.z37; have v37 := L.v37; have u37 := run_underlying L.t37
  have t127 := L.t127; have a127 := L.a127; have z127 := L.z127; have v127 := L.v127; have u127 := run_underlying L.t127
  have t3 := L.t3; have a3 := L.a3; have z3 := L.z3; have v3 := L.v3; have u3 := run_underlying L.t3
  have t9 := L.t9; have a9 := L.a9; have z9 := L.z9; have v9 := L.v9; have u9 := run_underlying L.t9
  have t5 := X.t5; have a5 := X.a5; have z5 := X.z5; have v5 := X.v5; have u5 := run_underlying X.t5
  go_enter L.f169, Body.n169_ntmps ρ
  go_wp2
  go_region_o
  all_goals (go_wp2; go_ret; exact ⟨rfl, rfl⟩)

set_option maxHeartbeats 2000000 in
set_option maxRecDepth 100000 in
theorem string_walk0 (L : Lays.n169 P ρ) (X : Builder.Extra P ρ) (b g off : Nat) (p : Value) (cur : Array Value) (fz : Nat × Nat) (w : World) (hbk : w.heap[b]? = some (.cells #[p, .slice (some ⟨g, off, none⟩) 0 0] (ρ.t 72) (0, 0)))
    (hg : w.heap[g]? = some (.cells cur (ρ.t 5) fz)) :
    Calls P (ρ.f 169) #[.pointer (some ⟨b, 0, none⟩)] w fun e w' => e = .returned (.string ⟨#[]⟩) ∧ Below w.heap.size w w' := by
  have hUS := Any.unsafeString_none L X
  have hlt : b < w.heap.size := by
    rcases Nat.lt_or_ge b w.heap.size with h' | h'
    · exact h'
    · simp [Array.getElem?_eq_none h'] at hbk
  have c1 : w.drew.cell? ⟨b, 1, none⟩ = some (.slice (some ⟨g, off, none⟩) 0 0) := by
    have : w.drew.heap[b]? = some (.cells #[p, .slice (some ⟨g, off, none⟩) 0 0] (ρ.t 72) (0, 0)) := hbk
    rw [Lib.cell_of_heap this]; rfl
  have hSD : (Builtin.unsafeSliceData_ #[(ρ.t 37)] (ρ.t 127) #[.slice (some ⟨g, off, none⟩) 0 0]).run P w.drew = .ok (.pointer (some ⟨w.drew.heap.size, 0, none⟩)) (w.drew.alloc (.view ⟨g, off, none⟩ (ρ.t 5))) :=
    Lib.run_unsafeSliceData_zero w.drew _ _ (ρ.t 5) L.t127 ⟨g, off, none⟩ 0 ((ρ.t 5), cur.size) (by have hg' : w.drew.heap[g]? = some (.cells cur (ρ.t 5) fz) := hg; simp [World.shape?, hg'])
  have c2 : (w.drew.alloc (.view ⟨g, off, none⟩ (ρ.t 5))).cell? ⟨b, 1, none⟩ = some (.slice (some ⟨g, off, none⟩) 0 0) := by
    have : (w.drew.alloc (.view ⟨g, off, none⟩ (ρ.t 5))).heap[b]? = _ := (Lib.alloc_old w.drew _ b hlt).trans hbk
    rw [Lib.cell_of_heap this]; rfl
  have c3 : (w.alloc (.view ⟨g, off, none⟩ (ρ.t 5))).drew.cell? ⟨b, 1, none⟩ = some (.slice (some ⟨g, off, none⟩) 0 0) := c2
  have c0 : w.cell? ⟨b, 1, none⟩ = some (.slice (some ⟨g, off, none⟩) 0 0) := c1
  have mixed := L.mixed
  have t72 := L.t72; have a72 := L.a72; have z72 := L.z72; have v72 := L.v72; have u72 := run_underlying L.t72
  have t70 := L.t70; have a70 := L.a70; have z70 := L.z70; have v70 := L.v70; have u70 := run_underlying L.t70
  have t37 := L.t37; have a37 := L.a37; have z37 := L.z37; have v37 := L.v37; have u37 := run_underlying L.t37
  have t127 := L.t127; have a127 := L.a127; have z127 := L.z127; have v127 := L.v127; have u127 := run_underlying L.t127
  have t3 := L.t3; have a3 := L.a3; have z3 := L.z3; have v3 := L.v3; have u3 := run_underlying L.t3
  have t9 := L.t9; have a9 := L.a9; have z9 := L.z9; have v9 := L.v9; have u9 := run_underlying L.t9
  have t5 := X.t5; have a5 := X.a5; have z5 := X.z5; have v5 := X.v5; have u5 := run_underlying X.t5
  go_enter L.f169, Body.n169_ntmps ρ
  go_wp2
  go_region_o
  all_goals (go_wp2; go_ret; exact ⟨rfl, (Below.drew (Below.refl _ w)).alloc (Nat.le_refl _) _⟩)
end Go.Proofs
namespace Go.Sh
open Go Go.RowKit

/-- what a builder's String answers -/
def strF (x : List Int × Unit) : Option (ByteArray × Unit) := bif decide (x.1.length < 1099511627776) && x.1.all (fun n => decide (0 ≤ n ∧ n < 256)) then some (bytesOf x.1, ()) else none
theorem strF_some {x : List Int × Unit} {y : ByteArray × Unit} (h : strF x = some y) : (∀ n ∈ x.1, 0 ≤ n ∧ n < 256) ∧ x.1.length < 1099511627776 ∧ y = (bytesOf x.1, ()) := by
  unfold strF at h
  cases hb : (decide (x.1.length < 1099511627776) && x.1.all (fun n => decide (0 ≤ n ∧ n < 256))) with
  | false => rw [hb] at h; cases h
  | true =>
    rw [hb] at h
    rw [Bool.and_eq_true] at hb
    exact ⟨fun n hn => of_decide_eq_true (List.all_eq_true.1 hb.2 n hn), of_decide_eq_true hb.1, (Option.some.inj h).symm⟩

theorem string_ctr {P : Program} {ρ : Shelf.Ren} (L : Go.Proofs.Lays.n169 P ρ) (X : Go.Proofs.Builder.Extra P ρ) (h5 : ρ.t 5 = u8Id) {k f : Nat} {fn : Func} (hf : ρ.f 169 = f) (hfn : P.funcs[f]? = some fn) (hname : (fn.name == "runtime.NumGoroutine") = false) (hbody : fn.body.isNone = false) :
    Ctr P k f (mk [.use (ρ.t 72)] (.view .str) fun _ x => strF x) where
  enters := ⟨fn, hfn, hname, hbody⟩
  calls := by
    intro rvs x hx w lim vs bs hlz hT0 hnd hbs
    simp only [mk] at hx
    obtain ⟨y, hy1, hy2⟩ := Option.bind_eq_some_iff.1 hx
    have hrv := decs_encs [.use (ρ.t 72)] rvs y hy1
    obtain ⟨xs, u⟩ := y
    subst hrv
    obtain ⟨hby, hlen0, hx2⟩ := strF_some hy2
    subst hx2
    simp only at hby hlen0
    show Calls P f vs.toArray w (Owes w lim vs bs [.use (ρ.t 72)] (.view .str (bytesOf xs), []))
    simp only [encs, enc] at hT0
    match vs, hT0 with
    | [v], hT0 =>
      simp only [TTs] at hT0
      obtain ⟨b1, b2, rfl, hT, rfl⟩ := hT0
      simp only [TT] at hT
      obtain ⟨b, p, q, bs1, rfl, h2, h3, h4, h5', rfl⟩ := hT
      simp only [List.append_nil] at hnd hbs ⊢
      rw [List.nodup_cons] at hnd
      have done : ∀ w' : World, Ext w lim w' lim → w.heap.size ≤ w'.heap.size → (w'.os = w.os ∧ w'.tape = w.tape ∧ w'.output = w.output) → (∀ b', b' < w.heap.size → b' ∉ b :: bs1 → w'.heap[b']? = w.heap[b']?) →
          Owes w lim [.pointer (some ⟨b, 0, none⟩)] (b :: bs1) [.use (ρ.t 72)] (.view .str (bytesOf xs), []) (.returned (.string (bytesOf xs))) w' := by
        intro w' hE g1 g2 g3
        refine ⟨_, lim, [], [], rfl, hE, fun b' hb' => hlz b' (by omega), g2, fun b' hb' hn => ⟨g3 b' hb' hn, rfl⟩, ?_, ?_, by simp, by simp⟩
        · simp only [TT]; exact ⟨⟨_, rfl, .inr ⟨rfl, rfl⟩⟩, trivial⟩
        · simp [TL]
      subst hf
      have c1 : w.drew.cell? ⟨b, 1, none⟩ = some q := by
        have : w.drew.heap[b]? = some (.cells #[p, q] (ρ.t 72) (0, 0)) := h2
        rw [Lib.cell_of_heap this]; rfl
      have hsame : ∀ w' : World, w'.heap.size = w.heap.size → (∀ k : Nat, w'.heap[k]? = w.heap[k]?) → Ext w lim w' lim := fun w' e1 e2 =>
        ⟨by omega, fun b' o _ => by unfold World.cell?; simp only [e2 b'], fun _ _ h => h, fun b' T hT => by unfold typeAt at hT ⊢; rw [e2 b']; exact hT⟩
      rcases h4.2 with ⟨rfl, rfl, rfl⟩ | ⟨g, off, cap, cur, T, fz, rfl, g2, g3, g4, g5, g6, g7, rfl⟩
      · refine (Go.Proofs.string_walk L X b p (.slice none 0 0) (.pointer none) 0 .empty w w.drew c1 ⟨none, 0, rfl⟩ c1 (Lib.run_unsafeSliceData_nil w.drew _ _ _ _) rfl _ (Lib.run_unsafeString_none w.drew _ _ _ none)).mono ?_
        rintro e w' ⟨rfl, rfl⟩
        exact done _ (hsame _ rfl fun _ => rfl) (Nat.le_refl _) ⟨rfl, rfl, rfl⟩ (fun _ _ _ => rfl)
      · have hT5 : T = ρ.t 5 := by rw [h5]; exact beq_eq g5.kind
        subst hT5
        have hgs : w.drew.heap[g]? = some (.cells cur (ρ.t 5) fz) := g3
        simp only [Ty.size, Nat.mul_one] at g4 g6
        cases xs with
        | nil =>
          by_cases hc0 : cap = 0
          · subst hc0
            refine (Go.Proofs.string_walk0 L X b g off p cur fz w h2 g3).mono ?_
            rintro e w' ⟨rfl, hB⟩
            exact done _ ⟨hB.size, fun b' o ho => by
                have hb' : b' < w.heap.size := by
                  rcases Nat.lt_or_ge b' w.heap.size with h' | h'
                  · exact h'
                  · have := hlz b' h'; omega
                simp [World.cell?, hB.block b' hb'], fun _ _ h => h, fun b' T hT => by
                have hb' : b' < w.heap.size := by
                  rcases Nat.lt_or_ge b' w.heap.size with h' | h'
                  · exact h'
                  · simp [typeAt, Array.getElem?_eq_none h'] at hT
                simpa [typeAt, hB.block b' hb'] using hT⟩ hB.size ⟨hB.os, hB.tape, hB.output⟩ (fun b' hb' _ => hB.block b' hb')
          · refine (Go.Proofs.string_walk L X b p (.slice (some ⟨g, off, none⟩) 0 cap) (.pointer (some ⟨g, off, none⟩)) 0 .empty w w.drew c1 ⟨_, _, rfl⟩ c1 (Lib.run_unsafeSliceData_row w.drew _ _ _ _ _ hc0) rfl _ (Lib.run_unsafeString_none w.drew _ _ _ _)).mono ?_
            rintro e w' ⟨rfl, rfl⟩
            exact done _ (hsame _ rfl fun _ => rfl) (Nat.le_refl _) ⟨rfl, rfl, rfl⟩ (fun _ _ _ => rfl)
        | cons n0 xs =>
          generalize hl : (n0 :: xs) = l at *
          have hl0 : l ≠ [] := by rw [← hl]; simp
          have hlen : (l.map fun n => UInt8.ofNat n.toNat).length = l.length := by simp
          have hrun := Go.Proofs.run_unsafeString_off (P := P) w.drew (ρ.t 127) (ρ.t 3) (ρ.t 9) (ρ.t 5) L.t127 X.cellsByte g off cur.size (by simp [World.shape?, hgs]) (l.map fun n => UInt8.ofNat n.toNat) (by simpa using hl0) (by rw [hlen]; omega)
            (by rw [hlen]; omega) (fun j x hj => by
              simp only [List.getElem?_map, Option.map_eq_some_iff] at hj
              obtain ⟨n, hn, rfl⟩ := hj
              have hjl : j < l.length := (List.getElem?_eq_some_iff.1 hn).1
              have h1 := g6 j hjl
              simp only [Rt] at h1
              have h2' : l[j] = n := (List.getElem?_eq_some_iff.1 hn).2
              have h3' : cur.toList[off + j]? = some (.int .u8 n) := by
                have : ((cur.toList.drop (off + j)).take 1)[0]? = some (.int .u8 l[j]) := by rw [h1]; rfl
                rw [h2'] at this
                simpa [List.getElem?_take, List.getElem?_drop] using this
              have hbn := hby n (by rw [← h2']; exact List.getElem_mem _)
              have hnn : ((UInt8.ofNat n.toNat).toNat : Int) = n := by
                have : n.toNat < 256 := by omega
                rw [UInt8.toNat_ofNat_of_lt' this]
                omega
              rw [hnn]
              have ha : (⟨g, off, none⟩ : Addr).add j = ⟨g, off + j, none⟩ := by
                unfold Addr.add
                split
                · rename_i h; subst h; rfl
                · rfl
              rw [ha, Lib.cell_of_heap hgs]
              simpa using h3')
          rw [hlen] at hrun
          refine (Go.Proofs.string_walk L X b p (.slice (some ⟨g, off, none⟩) l.length cap) (.pointer (some ⟨g, off, none⟩)) l.length (bytesOf l) w w.drew c1 ⟨_, _, rfl⟩ c1
            (Lib.run_unsafeSliceData_row w.drew _ _ _ _ _ (by have := List.length_pos_iff.2 hl0; omega)) rfl _ hrun).mono ?_
          rintro e w' ⟨rfl, rfl⟩
          have hne : l.length ≠ 0 := by simpa using hl0
          have hfz : ∃ fz', (w.drew.freeze ⟨g, off, none⟩ l.length).heap = w.heap.modify g (fun _ => .cells cur (ρ.t 5) fz') := by
            refine ⟨(if fz.1 == fz.2 then (off, off + l.length) else (min fz.1 off, max fz.2 (off + l.length))), ?_⟩
            unfold World.freeze
            rw [if_neg hne]
            apply Array.ext_getElem?
            intro i
            simp only [World.drew, Array.getElem?_modify]
            by_cases hi : g = i
            · subst hi
              simp only [if_true, g3, Option.map_some]
            · simp [hi]
          obtain ⟨fz', hfz⟩ := hfz
          have hold : ∀ k, k ≠ g → (w.drew.freeze ⟨g, off, none⟩ l.length).heap[k]? = w.heap[k]? := by
            intro k hk
            rw [hfz, Array.getElem?_modify, if_neg (fun e => hk e.symm)]
          have hnew : (w.drew.freeze ⟨g, off, none⟩ l.length).heap[g]? = some (.cells cur (ρ.t 5) fz') := by
            rw [hfz, Array.getElem?_modify, if_pos rfl, g3]; rfl
          have hsz : (w.drew.freeze ⟨g, off, none⟩ l.length).heap.size = w.heap.size := by rw [hfz]; simp
          refine done _ ⟨by omega, fun b' o ho => ?_, fun _ _ h => h, fun b' T hT => ?_⟩ (by omega) ?_ (fun b' hb' hn => hold b' (fun e => hn (by simp [e])))
          · by_cases e : b' = g
            · subst e; simp [World.cell?, hnew, g3]
            · simp [World.cell?, hold b' e]
          · by_cases e : b' = g
            · subst e
              simp only [typeAt, g3] at hT
              simpa [typeAt, hnew] using hT
            · simpa [typeAt, hold b' e] using hT
          · unfold World.freeze
            rw [if_neg hne]
            exact ⟨rfl, rfl, rfl⟩
end Go.Sh
