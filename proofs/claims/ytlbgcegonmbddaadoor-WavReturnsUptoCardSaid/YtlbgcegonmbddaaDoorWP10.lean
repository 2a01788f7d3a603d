/-
  Plain words of wav: tags in a file.
-/
import Derived.Test.YtlbgcegonmbddaaDoorWP9
set_option linter.unusedSimpArgs false
set_option linter.unusedVariables false
namespace Go.Sh
open Go Go.Proofs

theorem tagsL_cons (t : ByteArray) (l : List ByteArray) : tagsL (t :: l) = tagB t ++ tagsL l := rfl
theorem tagB_eq {t : ByteArray} (h : t.size < 256) : tagB t = (t.size : Int) :: numsOf t := by
  unfold tagB
  rw [wu8 (by simp only [Int.ofNat_eq_natCast]; omega)]; rfl
theorem tagV_size {t : ByteArray} (h : tagV t = true) : 3 ≤ t.size ∧ t.size ≤ 12 := by
  unfold tagV at h
  rw [Bool.and_eq_true, Bool.and_eq_true] at h
  exact ⟨Nat.le_of_ble_eq_true h.1, Nat.le_of_ble_eq_true h.2.1⟩

/-- what the loop over tags ends with -/
theorem f57_end (k : Nat) (v0 : List Int) (x : List Int) (bad : Bool) (acc : List ByteArray) (v1 : Bool) : 
    (bif v1 then some (acc, (v0, true, ()), ()) else bif Int.ofNat acc.length == (0 : Int) then some (acc, (v0, true, ()), ()) else some (acc, (v0, decide ((8 : Int) < Int.ofNat acc.length), ()), ())) = some (acc, (v0, !(!v1 && (!acc.isEmpty && decide (acc.length ≤ 8))), ()), ()) := by
  cases v1 with
  | true => rfl
  | false =>
    simp only [cond_false]
    rw [int_beq]
    cases acc with
    | nil => rfl
    | cons a l =>
      rw [cneg (by simp only [Int.ofNat_eq_natCast, List.length_cons]; omega)]
      by_cases h : (a :: l).length ≤ 8
      · rw [decide_eq_false (by simp only [Int.ofNat_eq_natCast]; omega), decide_eq_true h]; rfl
      · rw [decide_eq_true (by simp only [Int.ofNat_eq_natCast]; omega), decide_eq_false h]; rfl

theorem f57_1 {k : Nat} (hk : 16777216 ≤ k) (v0 : List Int) : ∀ (m : Nat) (x : List Int) (acc : List ByteArray), x.length < m → Byt x → acc.length + x.length ≤ 1073741824 →
    ∃ tags bad', iter (fun L1 => f57_raw1 k L1) m (v0, false, x, false, acc) = some (tags, (v0, bad', ()), ()) ∧
      (bad' = false → ∃ new, tags = acc ++ new ∧ x = tagsL new ∧ (∀ t ∈ new, tagV t = true) ∧ tags ≠ [] ∧ tags.length ≤ 8) ∧
      (∀ new, x = tagsL new → (∀ t ∈ new, tagV t = true) → acc ++ new ≠ [] → (acc ++ new).length ≤ 8 → bad' = false ∧ tags = acc ++ new)
  | 0, x, acc, hm, _, _ => by omega
  | m + 1, x, acc, hm, hB, hl => by
    rw [iter_succ]
    simp only [f57_raw1]
    rw [show (!false) = true from rfl]
    simp only [cond_true]
    cases x with
    | nil =>
      rw [cneg (by simp), f57_end k v0 [] false acc false]
      refine ⟨_, _, rfl, fun hbad => ⟨[], by simp, rfl, by simp, ?_, ?_⟩, fun new hx ht hne h8 => ?_⟩
      · rintro rfl; simp at hbad
      · simp only [Bool.not_false, Bool.true_and, Bool.not_eq_false', Bool.and_eq_true, decide_eq_true_eq] at hbad
        exact hbad.2
      · have : new = [] := by
          cases new with
          | nil => rfl
          | cons t l => rw [tagsL_cons] at hx; simp [tagB] at hx
        subst this
        rw [List.append_nil] at hne h8 ⊢
        refine ⟨?_, rfl⟩
        rw [decide_eq_true h8]
        cases acc with
        | nil => exact absurd rfl hne
        | cons => rfl
    | cons y x =>
      have hy := hB y (by simp)
      have hBx : Byt x := fun z hz => hB z (by simp [hz])
      simp only [List.length_cons] at hm hl
      rw [cpos (by simp only [Int.ofNat_eq_natCast, List.length_cons]; omega)]
      rw [show (OfNat.ofNat (1 : Nat) : Int) = Int.ofNat 1 from rfl, f38_ok hk (y :: x) false 1 (by simp) (by omega) (by simp; omega) hB, Option.bind_some]
      have hv : numL (List.take 1 (y :: x)) = y := by simp [numL]
      simp only [hv, List.drop_succ_cons, List.drop_zero]
      obtain ⟨n, rfl⟩ : ∃ n : Nat, y = (n : Int) := ⟨y.toNat, by omega⟩
      by_cases hn : n ≤ x.length
      · rw [show ((n : Int)) = Int.ofNat n from rfl, f58_ok k x false n hn (by omega), Option.bind_some]
        simp only [cond_false]
        have ht : (ByteArray.mk (List.map (fun n => UInt8.ofNat n.toNat) (List.take n x)).toArray) = bytesOf (x.take n) := rfl
        rw [ht, f51_spec k _ (by rw [bytesOf_size, List.length_take]; omega), Option.bind_some, cpos (by simp only [List.length_singleton]; omega)]
        have hsz : (bytesOf (x.take n)).size = n := by rw [bytesOf_size, List.length_take]; omega
        have htb : tagB (bytesOf (x.take n)) ++ x.drop n = (n : Int) :: x := by
          rw [tagB_eq (by omega), hsz, numsOf_bytesOf' (byt_take hBx n), List.cons_append, List.take_append_drop]
        cases hV : tagV (bytesOf (x.take n)) with
        | true =>
          obtain ⟨tags, bad', h1, h2, h3⟩ := f57_1 hk v0 m (x.drop n) (acc ++ [bytesOf (x.take n)]) (by rw [List.length_drop]; omega) (byt_drop hBx n) (by simp; omega)
          refine ⟨tags, bad', h1, fun hbad => ?_, fun new hx htv hne h8 => ?_⟩
          · obtain ⟨new, q1, q2, q3, q4, q5⟩ := h2 hbad
            refine ⟨bytesOf (x.take n) :: new, by rw [q1]; simp, ?_, ?_, q4, q5⟩
            · rw [tagsL_cons, ← q2, htb]; rfl
            · intro t ht
              rcases List.mem_cons.1 ht with rfl | ht
              · exact hV
              · exact q3 t ht
          · cases new with
            | nil => simp [tagsL] at hx
            | cons t l =>
              have htt := htv t (by simp)
              have hts := tagV_size htt
              rw [tagsL_cons, tagB_eq (by omega), List.cons_append] at hx
              obtain ⟨hn1, hx⟩ := List.cons.inj hx
              have hnt : n = t.size := by simp only [Int.ofNat_eq_natCast] at hn1; omega
              have htl : (numsOf t).length = t.size := numsOf_len' t
              have g1 : x.take n = numsOf t := by rw [hx, hnt, ← htl, List.take_left]
              have g2 : x.drop n = tagsL l := by rw [hx, hnt, ← htl, List.drop_left]
              have g3 : bytesOf (x.take n) = t := by rw [g1, bytesOf_numsOf']
              have := h3 l g2 (fun t ht => htv t (by simp [ht])) (by simp) (by rw [g3]; simpa using h8)
              rw [g3] at this
              simpa using this
        | false =>
          obtain ⟨m', rfl⟩ : ∃ m', m = m' + 1 := ⟨m - 1, by omega⟩
          rw [iter_succ]
          simp only [f57_raw1]
          rw [show (!false) = true from rfl, show (!true) = false from rfl]
          simp only [cond_true, cond_false]
          refine ⟨_, _, rfl, by simp, fun new hx htv hne h8 => ?_⟩
          exfalso
          cases new with
          | nil => simp [tagsL] at hx
          | cons t l =>
            have htt := htv t (by simp)
            have hts := tagV_size htt
            rw [tagsL_cons, tagB_eq (by omega), List.cons_append] at hx
            obtain ⟨hn1, hx⟩ := List.cons.inj hx
            have hnt : n = t.size := by simp only [Int.ofNat_eq_natCast] at hn1; omega
            have htl : (numsOf t).length = t.size := numsOf_len' t
            have g1 : x.take n = numsOf t := by rw [hx, hnt, ← htl, List.take_left]
            have g3 : bytesOf (x.take n) = t := by rw [g1, bytesOf_numsOf']
            rw [g3, htt] at hV
            cases hV
      · rw [f58_bad k x false (n : Int) (by omega), Option.bind_some]
        simp only [cond_true]
        rw [cpos (by simp only [List.length_singleton]; omega)]
        obtain ⟨m', rfl⟩ : ∃ m', m = m' + 1 := ⟨m - 1, by omega⟩
        rw [iter_succ]
        simp only [f57_raw1]
        rw [show (!true) = false from rfl]
        simp only [cond_true, cond_false]
        refine ⟨_, _, rfl, by simp, fun new hx htv hne h8 => ?_⟩
        exfalso
        cases new with
        | nil => simp [tagsL] at hx
        | cons t l =>
          have htt := htv t (by simp)
          have hts := tagV_size htt
          rw [tagsL_cons, tagB_eq (by omega), List.cons_append] at hx
          obtain ⟨hn1, hx⟩ := List.cons.inj hx
          have := congrArg List.length hx
          rw [List.length_append, numsOf_len'] at this
          omega
end Go.Sh
