import Derived.Test.YtfljgkbgnfbhlaaP7
set_option linter.unusedSimpArgs false
namespace Go.Sh
open Go Go.Proofs

theorem splitFrom_spec (l : List Cell) (top : Nat) : ∀ (d i : Nat), i ≤ top → top - i ≤ d →
    i ≤ splitFrom l top d i ∧ splitFrom l top d i ≤ top ∧ (i < splitFrom l top d i → 2 * allSz (l.take (splitFrom l top d i - 1)) < allSz l) ∧
      (splitFrom l top d i = top ∨ allSz l ≤ 2 * allSz (l.take (splitFrom l top d i)))
  | 0, i, h, hd => by
    simp only [splitFrom]
    exact ⟨Nat.le_refl _, h, fun h => absurd h (Nat.lt_irrefl _), .inl (by omega)⟩
  | d + 1, i, h, hd => by
    simp only [splitFrom]
    split
    · rename_i hc
      obtain ⟨h1, h2, h3, h4⟩ := splitFrom_spec l top d (i + 1) (by omega) (by omega)
      refine ⟨by omega, h2, fun _ => ?_, h4⟩
      by_cases he : splitFrom l top d (i + 1) = i + 1
      · rw [he]; exact hc.2
      · exact h3 (by omega)
    · rename_i hc
      refine ⟨Nat.le_refl _, h, fun h => absurd h (Nat.lt_irrefl _), ?_⟩
      by_cases h1 : i < top
      · exact .inr (by omega)
      · exact .inl (by omega)

theorem cellSz_br {c : Cell} (h : cellOk true c = true) : cellSz c ≤ 38 := by
  have := cellOk_key h
  have := cellOk_val4 h
  unfold cellSz; omega
theorem allSz_split (l : List Cell) (i : Nat) : allSz l = allSz (l.take i) + allSz (l.drop i) := by
  conv => lhs; rw [← List.take_append_drop i l, allSz_append]

/-- what is known of a node's halves -/
structure Halved (n : Nd) (i : Nat) : Prop where
  one : 1 ≤ i
  top : (i : Int) ≤ topOf n
  low : 1 < i → 2 * allSz (n.2.2.1.take (i - 1)) < allSz n.2.2.1
  high : (i : Int) = topOf n ∨ allSz n.2.2.1 ≤ 2 * allSz (n.2.2.1.take i)

theorem split_halved {n : Nd} (hr : rightB n = true) (he : (splitB n).2.2.2.1 = 0) : ∃ i, Halved n i ∧ splitB n = splitRes n i := by
  unfold splitB at he ⊢
  rw [hr] at he ⊢
  simp only [cond_true] at he ⊢
  by_cases h1 : topOf n < 1
  · rw [cpos h1] at he; simp at he
  · rw [cneg h1]
    have hle : topOf n ≤ n.2.2.1.length := by unfold topOf; cases n.1 <;> simp <;> omega
    obtain ⟨g1, g2, g3, g4⟩ := splitFrom_spec n.2.2.1 (topOf n).toNat n.2.2.1.length 1 (by omega) (by omega)
    refine ⟨_, ⟨g1, by omega, g3, ?_⟩, rfl⟩
    rcases g4 with g4 | g4
    · exact .inl (by omega)
    · exact .inr g4

theorem halves_leaf {f : Int} {l : List Cell} {i : Nat} (hr : rightB (false, f, l, ()) = true) (h : Halved (false, f, l, ()) i) (hs : 256 < 2 + allSz l) :
    48 ≤ 2 + allSz (l.take i) ∧ 48 ≤ 2 + allSz (l.drop i) ∧ (2 + allSz l ≤ 340 → 2 + allSz (l.take i) ≤ 256 ∧ 2 + allSz (l.drop i) ≤ 256) := by
  obtain ⟨h1, h2, h3, h4⟩ := h
  simp only [topOf, cond_false] at h2 h3 h4
  have hmem : ∀ c ∈ l, cellSz c ≤ 82 := fun c hc => cellSz_le (chain_mem (right_chain hr) c hc)
  have e1 := allSz_split l i
  have hi : i - 1 < l.length := by omega
  have e2 := allSz_take_succ hi
  rw [show i - 1 + 1 = i by omega] at e2
  have e3 := hmem _ (List.getElem_mem hi)
  have hi2 : i < l.length := by omega
  have e4 := allSz_take_succ hi2
  have e5 := hmem _ (List.getElem_mem hi2)
  by_cases ht : allSz l ≤ 2 * allSz (l.take i)
  · by_cases hi1 : 1 < i
    · have := h3 hi1; omega
    · have : i = 1 := by omega
      subst this
      simp [allSz_nil] at e2
      have e9 := hmem _ (List.getElem_mem (show 0 < l.length by omega))
      omega
  · have e6 : i + 1 = l.length := by omega
    rw [e6, List.take_length] at e4
    omega

theorem halves_branch {f : Int} {l : List Cell} {i : Nat} (hr : rightB (true, f, l, ()) = true) (h : Halved (true, f, l, ()) i) (hs : 256 < 6 + allSz l) :
    56 ≤ 6 + allSz (l.take i) ∧ 56 ≤ 6 + allSz (l.drop (i + 1)) ∧ (6 + allSz l ≤ 340 → 6 + allSz (l.take i) ≤ 256 ∧ 6 + allSz (l.drop (i + 1)) ≤ 256) := by
  obtain ⟨h1, h2, h3, h4⟩ := h
  simp only [topOf, cond_true] at h2 h3 h4
  have hmem : ∀ c ∈ l, cellSz c ≤ 38 := fun c hc => cellSz_br (chain_mem (right_chain hr) c hc)
  have e1 := allSz_split l (i + 1)
  have hi : i - 1 < l.length := by omega
  have e2 := allSz_take_succ hi
  rw [show i - 1 + 1 = i by omega] at e2
  have e3 := hmem _ (List.getElem_mem hi)
  have hi2 : i < l.length := by omega
  have e4 := allSz_take_succ hi2
  have e5 := hmem _ (List.getElem_mem hi2)
  have hi3 : i + 1 < l.length := by omega
  have e6 := allSz_take_succ hi3
  have e7 := hmem _ (List.getElem_mem hi3)
  by_cases ht : allSz l ≤ 2 * allSz (l.take i)
  · by_cases hi1 : 1 < i
    · have := h3 hi1; omega
    · have : i = 1 := by omega
      subst this
      simp [allSz_nil] at e2
      have e9 := hmem _ (List.getElem_mem (show 0 < l.length by omega))
      omega
  · have e8 : i + 1 + 1 = l.length := by omega
    rw [e8, List.take_length] at e6
    omega

theorem splitB_len (n : Nd) : (splitB n).1.2.2.1.length ≤ n.2.2.1.length ∧ (splitB n).2.2.1.2.2.1.length ≤ n.2.2.1.length ∧ allSz (splitB n).1.2.2.1 ≤ allSz n.2.2.1 ∧ allSz (splitB n).2.2.1.2.2.1 ≤ allSz n.2.2.1 := by
  unfold splitB
  cases rightB n with
  | false => simp [allSz_nil]
  | true =>
    simp only [cond_true]
    by_cases h1 : topOf n < 1
    · rw [cpos h1]; simp [allSz_nil]
    · rw [cneg h1]
      generalize splitFrom n.2.2.1 (topOf n).toNat n.2.2.1.length 1 = i
      unfold splitRes
      refine ⟨by simp; omega, ?_, allSz_take_le _ _, ?_⟩
      · cases n.1 <;> simp
      · cases n.1
        · exact allSz_drop_le _ _
        · exact allSz_drop_le _ _

theorem f5_ok (k : Nat) (n : Nd) (hk : 256 < k) (hn : n.2.2.1.length < k) (hb : allSz n.2.2.1 ≤ 1048576) : f5_F k (n, ()) = some (true, ()) := by
  obtain ⟨b, f, l, u⟩ := n
  have hsl := splitB_len (b, f, l, ())
  have hll := len_le_allSz l
  simp only at hn hb hll
  unfold f5_F
  simp only [f5_raw0]
  rw [f9_ok k hk]
  simp only [Option.bind_some, Bool.not_true, cond_false]
  rw [f12_ok k _ (by simp only; omega)]
  simp only [Option.bind_some]
  rw [f19_ok k (b, f, l, ()) hn (by simp only; omega), f20_ok k hk]
  simp only [Option.bind_some]
  by_cases he : (splitB (b, f, l, ())).2.2.2.1 = 0
  · by_cases hs : (nodeSz (b, f, l, ()) : Int) ≤ 256
    · rw [int_bne, cneg (by simp [he]), cpos hs]
    · rw [int_bne, cneg (by simp [he]), cneg hs]
      simp only at hsl
      have g1 := f19_ok k ((splitB (b, f, l, ())).1.1, (splitB (b, f, l, ())).1.2.1, (splitB (b, f, l, ())).1.2.2.1, ()) (by simp only; omega) (by simp only; omega)
      have g2 := f19_ok k ((splitB (b, f, l, ())).2.2.1.1, (splitB (b, f, l, ())).2.2.1.2.1, (splitB (b, f, l, ())).2.2.1.2.2.1, ()) (by simp only; omega) (by simp only; omega)
      rw [g1, g2]
      simp only [Option.bind_some]
      have hr : rightB (b, f, l, ()) = true := by
        cases h : rightB (b, f, l, ()) with
        | true => rfl
        | false => unfold splitB at he; rw [h] at he; simp at he
      obtain ⟨i, hh, hres⟩ := split_halved hr he
      rw [hres]
      cases b with
      | false =>
        have hsz : nodeSz (false, f, l, ()) = 2 + allSz l := rfl
        obtain ⟨q1, q2, q3⟩ := halves_leaf hr hh (by omega)
        simp only [splitRes, cond_false, nodeSz, headSz, Bool.false_eq_true, if_false]
        rw [cpos (by omega), cpos (by omega)]
        by_cases h3 : (340 : Int) < ((2 + allSz l : Nat) : Int)
        · rw [cpos h3]
        · obtain ⟨q4, q5⟩ := q3 (by omega)
          rw [cneg h3, cpos (by omega), decide_eq_true (by omega)]
      | true =>
        have hsz : nodeSz (true, f, l, ()) = 6 + allSz l := rfl
        obtain ⟨q1, q2, q3⟩ := halves_branch hr hh (by omega)
        simp only [splitRes, cond_true, nodeSz, headSz, if_true]
        rw [cpos (by omega), cpos (by omega)]
        by_cases h3 : (340 : Int) < ((6 + allSz l : Nat) : Int)
        · rw [cpos h3]
        · obtain ⟨q4, q5⟩ := q3 (by omega)
          rw [cneg h3, cpos (by omega), decide_eq_true (by omega)]
  · rw [int_bne, cpos he]

theorem halves_plain : ∀ x : Kd.dens (viewKs [nodeT]), okAll [nodeT] x → bulkAll [nodeT] x ≤ 1048576 → ∃ k u, f5_F k x = some (true, u) := by
  rintro ⟨n, u⟩ _ hb
  have hb : Ty.bulk nodeT n + 0 ≤ 1048576 := hb
  have := node_small (n := n) (by omega)
  exact ⟨1048577, (), f5_ok 1048577 n (by omega) (by omega) (by omega)⟩
end Go.Sh
