/-
  Plain words of wav: what is a file; look.
-/
import Derived.Test.YtlbgcegonmbddaaDoorWP10
set_option linter.unusedSimpArgs false
set_option linter.unusedVariables false
namespace Go.Sh
open Go Go.Proofs

theorem take_len {α : Type} {a b : List α} {n : Nat} (h : a.length = n) : (a ++ b).take n = a := by subst h; exact List.take_left
theorem drop_len {α : Type} {a b : List α} {n : Nat} (h : a.length = n) : (a ++ b).drop n = b := by subst h; exact List.drop_left
theorem f65_spec (k : Nat) (b : List Int) (hB : Byt b) : f65_F k (b, mTags, ()) = some (decide (b.take 4 = mTags), ()) := by
  have hf : f65_F k (b, mTags, ()) = f65_raw0 k (b, mTags, ()) := rfl
  rw [hf]
  simp only [f65_raw0]
  have l4 : mTags.length = 4 := rfl
  rw [l4]
  by_cases h : 4 ≤ b.length
  · rw [cpos (by simp only [Int.ofNat_eq_natCast]; omega), cpos (by simp only [Int.ofNat_eq_natCast]; omega)]
    show ((f39_F k (List.drop 0 (List.take 4 b), mTags, ())).bind fun y => some (y.1, ())) = _
    rw [List.drop_zero]
    show some ((bytesOf (b.take 4)).toList == (bytesOf mTags).toList, ()) = _
    rw [ba_beq]
    congr 3
    exact propext ⟨fun e => bytesOf_inj (byt_take hB 4) (by intro x hx; simp [mTags] at hx; omega) e, fun e => by rw [e]⟩
  · rw [cneg (by simp only [Int.ofNat_eq_natCast]; omega), decide_eq_false]
    intro e
    have := congrArg List.length e
    rw [List.length_take, l4] at this
    omega

def Tagv (tags : List ByteArray) : Prop := tags.length ≤ 8 ∧ ∀ t ∈ tags, tagV t = true
theorem Tagv.len {tags : List ByteArray} (h : Tagv tags) : (tagsL tags).length ≤ 104 := by
  have := tagsL_len tags (fun t ht => (tagV_size (h.2 t ht)).2)
  have := h.1
  omega

theorem f57_x {k : Nat} (hk : 16777216 ≤ k) (b : List Int) (hb : b.length ≤ 1048576) (hB : Byt b) :
    ∃ tags b' bad', f57_F k ((b, false, ()), ()) = some (tags, (b', bad', ()), ()) ∧ Byt b' ∧ b'.length ≤ b.length ∧
      (bad' = false → Tagv tags ∧ (b' = [] ∨ b = tagsPartL tags ++ b')) ∧
      (∀ tags0 rest, b = tagsPartL tags0 ++ rest → (tags0 = [] → rest.take 4 = mData) → Tagv tags0 → bad' = false ∧ tags = tags0 ∧ b' = rest) := by
  have hf : f57_F k ((b, false, ()), ()) = f57_raw0 k (f57_L1 k) ((b, false, ()), ()) := rfl
  rw [hf]
  simp only [f57_raw0]
  have l4 : mTags.length = 4 := rfl
  rw [show [(116 : Int), (97 : Int), (103 : Int), (115 : Int)] = mTags from rfl, f65_spec k b hB, Option.bind_some, cnot]
  have e0 : (ByteArray.mk #[OfNat.ofNat (116 : Nat), OfNat.ofNat (97 : Nat), OfNat.ofNat (103 : Nat), OfNat.ofNat (115 : Nat)]) = bytesOf mTags := rfl
  have o4 : (OfNat.ofNat (4 : Nat) : Int) = Int.ofNat 4 := rfl
  have o0 : (OfNat.ofNat (0 : Nat) : Int) = 0 := rfl
  rw [e0, o4, o0]
  have tagsne : ∀ (tags0 : List ByteArray) (rest : List Int), tags0 ≠ [] → b = tagsPartL tags0 ++ rest → b.take 4 = mTags ∧ b.drop 4 = low ((tagsL tags0).length : Int) 4 ++ (tagsL tags0 ++ (padL (tagsL tags0) ++ rest)) := by
    intro tags0 rest hne he
    have : b = mTags ++ (low ((tagsL tags0).length : Int) 4 ++ (tagsL tags0 ++ (padL (tagsL tags0) ++ rest))) := by
      rw [he]; unfold tagsPartL; rw [if_neg hne]; simp [partL]
    rw [this]
    exact ⟨by rw [← l4, List.take_left], by rw [← l4, List.drop_left]⟩
  by_cases hp : b.take 4 = mTags
  · rw [cpos hp]
    obtain ⟨b1, d1, h1, B1, l1, t1, u1⟩ := f54_x k b mTags false l4 (by intro x hx; simp [mTags] at hx; omega) (by decide) (by omega) hB
    rw [h1, Option.bind_some]
    have e1 := u1 rfl hp
    obtain ⟨_, _, s1⟩ := t1 e1
    subst e1 s1
    simp only
    obtain ⟨n, b2, d2, h2, B2, l2, n2, t2, u2⟩ := f38_x hk (b.drop 4) false 4 (by omega) (by omega) B1
    rw [h2, Option.bind_some]
    simp only
    obtain ⟨x, b3, d3, h3, Bx, B3, l3, lx, t3, u3⟩ := f58_x k b2 d2 n n2 (by omega) B2
    rw [h3, Option.bind_some]
    simp only
    -- what a good beginning gives
    have back : ∀ tags0 rest, b = tagsPartL tags0 ++ rest → (tags0 = [] → rest.take 4 = mData) → Tagv tags0 → tags0 ≠ [] ∧ d3 = false ∧ x = tagsL tags0 ∧ b3 = padL (tagsL tags0) ++ rest ∧ n = (tagsL tags0).length := by
      intro tags0 rest he hr ht
      have hne : tags0 ≠ [] := by
        intro e
        have h1 := hr e
        rw [e] at he
        have : b = rest := he
        rw [this, h1] at hp
        exact absurd hp (by decide)
      obtain ⟨_, hd⟩ := tagsne tags0 rest hne he
      have hl := ht.len
      have w4 : (2 : Int) ^ (8 * 4) = 4294967296 := rfl
      have hlow : (low ((tagsL tags0).length : Int) 4).length = 4 := low_len _ _
      have e2 := u2 rfl (by rw [hd, List.length_append, hlow]; omega)
      obtain ⟨_, _, v2, s2⟩ := t2 e2
      have hn : n = (tagsL tags0).length := by
        rw [v2, hd, take_len hlow]
        exact numL_low 4 _ (by omega) (by omega)
      have hb2 : b2 = tagsL tags0 ++ (padL (tagsL tags0) ++ rest) := by
        rw [s2, hd, drop_len hlow]
      have e3 := u3 e2 (by rw [hn, hb2, List.length_append]; omega)
      obtain ⟨_, _, v3, s3⟩ := t3 e3
      rw [hn, hb2, Int.toNat_natCast, List.take_left] at v3
      rw [hn, hb2, Int.toNat_natCast, List.drop_left] at s3
      exact ⟨hne, e3, v3, s3, hn⟩
    cases hd3 : d3 with
    | true =>
      rw [f55_bad, Option.bind_some]
      simp only
      obtain ⟨k', hk'⟩ : ∃ k', k = k' + 1 := ⟨k - 1, by omega⟩
      have hend : f57_L1 k (b3, true, x, false, []) = some ([], (b3, true, ()), ()) := by
        show iter (fun L1 => f57_raw1 k L1) k (b3, true, x, false, []) = _
        conv => lhs; rw [hk']
        rw [iter_succ]
        rfl
      rw [hend]
      refine ⟨_, _, _, rfl, B3, by rw [List.length_drop] at l2; omega, by simp, fun tags0 rest he hr ht => ?_⟩
      have := (back tags0 rest he hr ht).2.1
      rw [hd3] at this
      cases this
    | false =>
      rw [hd3] at h3 t3 u3
      obtain ⟨hd2, hn2, hx2, hb3⟩ := t3 rfl
      obtain ⟨_, hn4, hv2, hs2⟩ := t2 hd2
      have hlow := take_low B1 hn4 hv2.symm
      obtain ⟨nn, rfl⟩ : ∃ nn : Nat, n = (nn : Int) := ⟨n.toNat, by omega⟩
      rw [Int.toNat_natCast] at hx2 hb3
      have hxl : x.length = nn := by rw [hx2, List.length_take]; omega
      have etm : Int.tmod (nn : Int) 2 = Int.ofNat (nn % 2) := rfl
      rw [etm]
      -- the nought behind
      have want : ∃ b4 d4, f55_F k ((b3, false, ()), 0, Int.ofNat (nn % 2), ()) = some ((), (b4, d4, ()), ()) ∧ Byt b4 ∧ b4.length ≤ b3.length ∧ (d4 = false → b4 = [] ∨ b3 = List.replicate (nn % 2) 0 ++ b4) ∧ (∀ rest, b3 = List.replicate (nn % 2) 0 ++ rest → d4 = false ∧ b4 = rest) := by
        by_cases hle : nn % 2 ≤ b3.length
        · obtain ⟨b4, d4, h4, B4, l4', t4, u4⟩ := f55_x hk b3 false 0 (nn % 2) (by omega) (.inl hle) (by omega) B3
          refine ⟨b4, d4, h4, B4, l4', fun e => ?_, fun rest hr => ?_⟩
          · obtain ⟨_, _, hv, hd⟩ := t4 e
            right
            have := take_low B3 hle hv
            have hz : low 0 (nn % 2) = List.replicate (nn % 2) 0 := by
              rcases Nat.mod_two_eq_zero_or_one nn with h | h <;> rw [h] <;> rfl
            rw [hd, ← hz, ← this, List.take_append_drop]
          · have hlen : (List.replicate (nn % 2) (0 : Int)).length = nn % 2 := by simp
            have e4 := u4 rfl hle (by rw [hr, take_len hlen, numL_zero])
            obtain ⟨_, _, _, hd⟩ := t4 e4
            refine ⟨e4, ?_⟩
            rw [hd, hr, drop_len hlen]
        · have h1 : nn % 2 = 1 := by omega
          have h0 : b3 = [] := List.length_eq_zero_iff.1 (by omega)
          rw [h1, h0]
          refine ⟨[], false, ?_, byt_nil, by simp, fun _ => .inl rfl, fun rest hr => ?_⟩
          · have hf : f55_F k (([], false, ()), 0, Int.ofNat 1, ()) = (f38_F k (([], false, ()), Int.ofNat 1, ())).bind fun y => some ((), (y.2.1.1, y.1 != 0, ()), ()) := rfl
            rw [hf, f38_bad hk [] false 1 (by simp) (by omega), Option.bind_some]
            rfl
          · simp at hr
      obtain ⟨b4, d4, h4, B4, l4', t4, u4⟩ := want
      rw [h4, Option.bind_some]
      simp only
      cases hd4 : d4 with
      | true =>
        obtain ⟨k', hk'⟩ : ∃ k', k = k' + 1 := ⟨k - 1, by omega⟩
        have hend : f57_L1 k (b4, true, x, false, []) = some ([], (b4, true, ()), ()) := by
          show iter (fun L1 => f57_raw1 k L1) k (b4, true, x, false, []) = _
          conv => lhs; rw [hk']
          rw [iter_succ]
          rfl
        rw [hend]
        refine ⟨_, _, _, rfl, B4, by rw [List.length_drop] at l2; omega, by simp, fun tags0 rest he hr ht => ?_⟩
        obtain ⟨hne, _, hx0, hb0, hn0⟩ := back tags0 rest he hr ht
        have := (u4 rest (by rw [hb0]; unfold padL; rw [show nn % 2 = (tagsL tags0).length % 2 by omega])).1
        rw [hd4] at this; cases this
      | false =>
        rw [List.length_drop] at l2
        obtain ⟨tags, bad', g1, g2, g3⟩ := f57_1 hk b4 k x [] (by omega) Bx (by simp; omega)
        rw [show f57_L1 k (b4, false, x, false, []) = iter (fun L1 => f57_raw1 k L1) k (b4, false, x, false, []) from rfl, g1]
        refine ⟨_, _, _, rfl, B4, by omega, fun hbad => ?_, fun tags0 rest he hr ht => ?_⟩
        · obtain ⟨new, q1, q2, q3, q4, q5⟩ := g2 hbad
          rw [List.nil_append] at q1
          subst q1
          refine ⟨⟨q5, q3⟩, ?_⟩
          rcases t4 hd4 with h | h
          · exact .inl h
          · right
            unfold tagsPartL
            rw [if_neg q4]
            have hb4 : b = mTags ++ (low (nn : Int) 4 ++ (x ++ (List.replicate (nn % 2) 0 ++ b4))) := by
              rw [← h]
              conv => lhs; rw [← List.take_append_drop 4 b, hp, ← List.take_append_drop 4 (b.drop 4), hlow, ← hs2, ← List.take_append_drop nn b2, ← hx2, ← hb3]
            rw [hb4]
            simp only [partL, padL, ← q2, hxl, List.append_assoc]
        · obtain ⟨hne, _, hx0, hb0, hn0⟩ := back tags0 rest he hr ht
          have hw := u4 rest (by rw [hb0]; unfold padL; rw [show nn % 2 = (tagsL tags0).length % 2 by omega])
          have := g3 tags0 hx0 ht.2 (by simpa using hne) (by simpa using ht.1)
          exact ⟨this.1, by simpa using this.2, hw.2⟩
  · rw [cneg hp]
    refine ⟨_, _, _, rfl, hB, Nat.le_refl _, fun _ => ⟨⟨by simp, by simp⟩, .inr rfl⟩, fun tags0 rest he hr ht => ?_⟩
    by_cases hne : tags0 = []
    · subst hne
      exact ⟨rfl, rfl, he⟩
    · exact absurd (tagsne tags0 rest hne he).1 hp
end Go.Sh
