import Derived.Test.YtfljgkbgnfbhlaaP10
set_option linter.unusedSimpArgs false
namespace Go.Sh
open Go Go.Proofs

theorem bytesOf_size (l : List Int) : (bytesOf l).size = l.length := by
  show (List.map (fun n : Int => UInt8.ofNat n.toNat) l).toArray.size = l.length
  simp
theorem page_len {n : Nd} (h : nodeSz n ≤ 256) : (bytesOf (pageInts n)).size = 256 := by
  rw [bytesOf_size, pageInts, List.length_append, body_len, List.length_replicate]; omega

theorem f8_ok (k : Nat) (l0 : List Cell) (at_ : Int) (hk : 256 < k) (hb : l0.length ≤ 1048576) : f8_F k (l0, at_, ()) = some (true, ()) := by
  unfold f8_F
  simp only [f8_raw0]
  rw [f9_ok k hk]
  simp only [Option.bind_some, Bool.not_true, cond_false]
  have hcut : decide ((0 : Int) ≤ (0 : Int) ∧ ((0 : Int) ≤ if (40 : Int) < Int.ofNat l0.length then (40 : Int) else Int.ofNat l0.length) ∧ (if (40 : Int) < Int.ofNat l0.length then (40 : Int) else Int.ofNat l0.length) ≤ Int.ofNat l0.length) = true :=
    decide_eq_true (by split <;> simp only [Int.ofNat_eq_natCast] at * <;> omega)
  rw [hcut]
  simp only [cond_true]
  generalize hl : List.drop (0 : Nat) (List.take (if (40 : Int) < Int.ofNat l0.length then (40 : Int) else Int.ofNat l0.length).toNat l0) = l
  have hlen : l.length ≤ 1048576 := by rw [← hl]; simp; omega
  rw [f22_ok k _ hk]
  simp only [Option.bind_some, cnot]
  cases hr : rightB (false, 0, l, ()) with
  | false => rfl
  | true =>
    simp only [cond_true]
    have hl255 := right_len hr
    have hsz := right_sz hr
    simp only at hl255 hsz
    by_cases h2 : l.length < 2
    · rw [cpos (by simp only [Int.ofNat_eq_natCast]; omega)]
    · have e0 : IntKind.i64.wrap (Int.ofNat l.length - 1) = (l.length : Int) - 1 := w64 (by simp only [Int.ofNat_eq_natCast]; omega)
      have e1 : IntKind.u64.wrap ((l.length : Int) - 1) = (l.length : Int) - 1 := by rw [IntKind.wrap_u64]; omega
      have hu : 0 ≤ IntKind.u64.wrap at_ := by rw [IntKind.wrap_u64]; omega
      have hK : ∃ K : Nat, IntKind.i64.wrap ((1 : Int) + IntKind.i64.wrap ((IntKind.u64.wrap at_).tmod (IntKind.u64.wrap (IntKind.i64.wrap (Int.ofNat l.length - (1 : Int)))))) = Int.ofNat K ∧ 1 ≤ K ∧ K < l.length := by
        rw [e0, e1, Int.tmod_eq_emod_of_nonneg hu]
        have h3 := Int.emod_nonneg (IntKind.u64.wrap at_) (show (l.length : Int) - 1 ≠ 0 by omega)
        have h4 := Int.emod_lt_of_pos (IntKind.u64.wrap at_) (show (0 : Int) < (l.length : Int) - 1 by omega)
        generalize IntKind.u64.wrap at_ % ((l.length : Int) - 1) = q at *
        rw [w64 (n := q) (by omega), w64 (by omega)]
        exact ⟨(1 + q).toNat, by simp only [Int.ofNat_eq_natCast]; omega, by omega, by omega⟩
      obtain ⟨K, hK, hK1, hK2⟩ := hK
      rw [hK, e0, e1]
      rw [cneg (by simp only [Int.ofNat_eq_natCast]; omega), cpos (by omega), cpos (by simp only [Int.ofNat_eq_natCast]; omega), cpos (by simp only [Int.ofNat_eq_natCast]; omega)]
      rw [show (Int.ofNat K).toNat = K from rfl, show (Int.ofNat l.length).toNat = l.length from rfl, List.take_length, List.drop_zero]
      rw [f12_ok k _ (by simp only [List.length_take]; omega)]
      simp only [Option.bind_some]
      rw [cpos (by simp only [Int.ofNat_eq_natCast]; omega), f12_ok k _ (by simp only [List.length_drop]; omega)]
      simp only [Option.bind_some]
      rw [f16_ok k hk]
      have hm : mergeB (false, 0, l.take K, ()) (l.getD K (ByteArray.mk #[], ByteArray.mk #[], ())).1 (false, 0, l.drop K, ()) = ((false, 0, l, ()), 0, ()) := by
        unfold mergeB
        have r1 : rightB (false, 0, l.take K, ()) = true := right_take hr K
        have r2 : rightB (false, 0, l.drop K, ()) = true := right_drop hr rfl K
        simp only [decide_true, cond_true, r1, r2, Bool.and_self, cond_false, List.append_nil, List.take_append_drop, hr]
      rw [hm]
      simp only [Option.bind_some]
      rw [f20_ok k hk]
      simp only [Option.bind_some]
      have hs0 : (splitB (false, 0, l, ())).2.2.2.1 = 0 := by
        unfold splitB
        rw [hr]
        simp only [cond_true]
        rw [cneg (by simp only [topOf, cond_false]; omega)]
        rfl
      obtain ⟨i, hh, hres⟩ := split_halved hr hs0
      have htop := hh.top
      have hone := hh.one
      simp only [topOf, cond_false] at htop
      have hil : i < l.length := by omega
      have hms := merge_split hr i hil
      rw [int_bne, cneg (by simp), int_bne, cneg (by rw [hs0]; simp), f18_ok]
      simp only [Option.bind_some]
      rw [f17_ok k _ _ (by simp only; omega) (by simp only; omega)]
      simp only [Option.bind_some, decide_true, Bool.not_true, cond_false]
      rw [hres]
      have hx : (splitRes (false, 0, l, ()) i).1 = (false, 0, l.take i, ()) := rfl
      have hy : (splitRes (false, 0, l, ()) i).2.2.1 = (false, 0, l.drop i, ()) := rfl
      have hkk : (splitRes (false, 0, l, ()) i).2.1 = l[i].1 := by show (l.getD i dflt).1 = _; rw [getD_of hil]
      rw [hx, hy, hkk] at hms
      rw [hx, hy, hkk]
      rw [cpos (by simp only [Int.ofNat_eq_natCast, List.length_drop]; omega)]
      have hd0 : (l.drop i).getD 0 (ByteArray.mk #[], ByteArray.mk #[], ()) = l[i] := by
        rw [List.drop_eq_getElem_cons hil]; rfl
      rw [hd0, ba_beq, decide_eq_true rfl]
      simp only [Bool.not_true, cond_false]
      rw [f16_ok k hk, hms]
      simp only [Option.bind_some]
      rw [int_bne, cneg (by simp), f18_ok]
      simp only [Option.bind_some]
      rw [f17_ok k _ _ (by simp only; omega) (by simp only; omega)]
      simp only [Option.bind_some, decide_true, Bool.not_true, cond_false]
      rw [f19_ok k (false, 0, l, ()) (by simp only; omega) (by simp only; omega)]
      simp only [Option.bind_some]
      have hns : nodeSz (false, 0, l, ()) = 2 + allSz l := rfl
      by_cases h256 : 256 < nodeSz (false, 0, l, ())
      · rw [cpos (by omega)]
        by_cases h340 : nodeSz (false, 0, l, ()) ≤ 340
        · rw [cpos (by omega)]
          obtain ⟨_, _, q3⟩ := halves_leaf hr hh (by omega)
          obtain ⟨q4, q5⟩ := q3 (by omega)
          have r1 : rightB (false, 0, l.take i, ()) = true := right_take hr i
          have r2 : rightB (false, 0, l.drop i, ()) = true := right_drop hr rfl i
          have n1 : nodeSz (false, 0, l.take i, ()) ≤ 256 := q4
          have n2 : nodeSz (false, 0, l.drop i, ()) ≤ 256 := q5
          have t1 := allSz_take_le l i
          have t2 := allSz_drop_le l i
          rw [f23_ok k hk _ (by simp only; omega) (by simp only [List.length_take]; omega), f23_ok k hk _ (by simp only; omega) (by simp only [List.length_drop]; omega)]
          have b1 : encB (false, 0, l.take i, ()) = (bytesOf (pageInts (false, 0, l.take i, ())), 0, ()) := by
            unfold encB; rw [r1, decide_eq_false (by omega)]; rfl
          have b2 : encB (false, 0, l.drop i, ()) = (bytesOf (pageInts (false, 0, l.drop i, ())), 0, ()) := by
            unfold encB; rw [r2, decide_eq_false (by omega)]; rfl
          rw [b1, b2]
          simp only [Option.bind_some, page_len n1, page_len n2]
          rfl
        · rw [cneg (by omega)]
          rfl
      · rw [cneg (by omega)]
        rfl

theorem shares_plain : ∀ x : Kd.dens (viewKs [.sl pairT, .int .i64]), okAll [.sl pairT, .int .i64] x → bulkAll [.sl pairT, .int .i64] x ≤ 1048576 → ∃ k u, f8_F k x = some (true, u) := by
  rintro ⟨l, c, u⟩ _ hb
  have hb : (((show List Cell from l).map (Ty.bulk pairT)).sum + 1) + (Ty.bulk (.int .i64) c + 0) ≤ 1048576 := hb
  have e := bulk_cells l
  have h1 : allSz l + 1 + (Ty.bulk (.int .i64) c + 0) ≤ 1048576 := by rw [← e]; exact hb
  have := len_le_allSz l
  have h2 : (show List Cell from l).length ≤ 1048576 := by show List.length (α := Cell) l ≤ _; omega
  exact ⟨257, (), f8_ok 257 l c (by omega) h2⟩
end Go.Sh
