/-
  Plain words of wav: the file, as the chapter has it.
-/
import Derived.Test.YtlbgcegonmbddaaDoorWP5
set_option linter.unusedSimpArgs false
set_option linter.unusedVariables false
namespace Go.Sh
open Go Go.Proofs

theorem f47_spec (k : Nat) (l : List Int) (h : l.length ≤ 268435456) : f47_F k (bytesOf l, ()) = some (bytesOf (l ++ padL l), ()) := by
  show f47_raw0 k (bytesOf l, ()) = _
  simp only [f47_raw0, bytesOf_size, padL]
  have e : (Int.ofNat l.length).tmod 2 = Int.ofNat (l.length % 2) := rfl
  rw [e, int_bne]
  rcases Nat.mod_two_eq_zero_or_one l.length with h2 | h2
  · rw [h2, cneg (by simp)]; simp
  · rw [h2, cpos (by simp), cpos (by omega)]
    rw [← bytesOf_append]
    rfl

theorem f27_1 {k : Nat} (hk : 16777216 ≤ k) (tags : List ByteArray) (data b : List Int) (ht : tags.length ≤ 1048576) (htl : (tagsL tags).length ≤ 16777216) (hd : data.length ≤ 67108864) (hb : b.length ≤ 1048576) :
    f27_L1 k (0, tags, bytesOf [], bytesOf b, bytesOf data) = some (bytesOf (mRiff ++ low ((b ++ partL mTags (tagsL tags) ++ partL mData data).length : Int) 4 ++ (b ++ partL mTags (tagsL tags) ++ partL mData data)), ()) := by
  have o4 : (OfNat.ofNat (4 : Nat) : Int) = Int.ofNat 4 := rfl
  have o1 : (OfNat.ofNat (1 : Nat) : Int) = Int.ofNat 1 := rfl
  have e0 : (ByteArray.mk #[OfNat.ofNat (116 : Nat), OfNat.ofNat (97 : Nat), OfNat.ofNat (103 : Nat), OfNat.ofNat (115 : Nat)]) = bytesOf mTags := rfl
  have e2 : (ByteArray.mk #[OfNat.ofNat (100 : Nat), OfNat.ofNat (97 : Nat), OfNat.ofNat (116 : Nat), OfNat.ofNat (97 : Nat)]) = bytesOf mData := rfl
  have e3 : (ByteArray.mk #[OfNat.ofNat (82 : Nat), OfNat.ofNat (73 : Nat), OfNat.ofNat (70 : Nat), OfNat.ofNat (70 : Nat)]) = bytesOf mRiff := rfl
  have l0 : mTags.length = 4 := rfl
  have l2 : mData.length = 4 := rfl
  have l3 : mRiff.length = 4 := rfl
  have key := iter_list_inv (step := fun L1 => f27_raw1 k L1) (A := List Int) (fun i a => (Int.ofNat i, tags, bytesOf a, bytesOf b, bytesOf data)) tags (fun l a => some (bytesOf (mRiff ++ low ((b ++ partL mTags (a ++ tagsL l) ++ partL mData data).length : Int) 4 ++ (b ++ partL mTags (a ++ tagsL l) ++ partL mData data)), ()))
    (fun i a => a ++ tagsL (tags.drop i) = tagsL tags)
    (fun L a ha => by
      simp only [f27_raw1]
      rw [cneg (nltR _)]
      have hal : a.length ≤ 16777216 := by
        rw [List.drop_length] at ha
        simp [tagsL] at ha
        rw [ha]; exact htl
      have hmod : a.length % 2 ≤ 1 := by omega
      have hmod2 : data.length % 2 ≤ 1 := by omega
      rw [e0, e2, e3]
      simp only [o4, bytesOf_size, bytesOf_append]
      rw [cpos (by omega), f46_spec hk _ 4 (by omega), Option.bind_some]
      simp only [bytesOf_size, bytesOf_append]
      rw [cpos (by simp [low_len]; omega), f47_spec k a (by omega), Option.bind_some]
      simp only [bytesOf_size, bytesOf_append]
      rw [cpos (by simp [low_len, padL_len]; omega), cpos (by simp [low_len, padL_len]; omega), f46_spec hk _ 4 (by omega), Option.bind_some]
      simp only [bytesOf_size, bytesOf_append]
      rw [cpos (by simp [low_len, padL_len]; omega), f47_spec k data (by omega), Option.bind_some]
      simp only [bytesOf_size, bytesOf_append]
      rw [cpos (by simp [low_len, padL_len]; omega), f46_spec hk _ 4 (by omega), Option.bind_some]
      simp only [bytesOf_size, bytesOf_append]
      rw [cpos (by simp [low_len]), cpos (by simp [low_len, padL_len]; omega)]
      simp [tagsL, partL])
    (fun L i hi a ha hL => by
      simp only [f27_raw1]
      have hal : a.length + (tagB tags[i]).length ≤ 16777216 := by
        have h2 : tagsL (tags.drop i) = tagB tags[i] ++ tagsL (tags.drop (i + 1)) := by rw [List.drop_eq_getElem_cons hi]; rfl
        rw [h2] at ha
        rw [← ha, List.length_append, List.length_append] at htl
        omega
      have htb : (tagB tags[i]).length = 1 + tags[i].size := by simp [tagB, numsOf_len']; omega
      rw [cpos (ltR hi), cpos (inR hi), getD_at hi, o1, f46_spec hk _ 1 (by omega), Option.bind_some]
      simp only [bytesOf_size, bytesOf_append]
      rw [cpos (by rw [low_len]; omega), cpos (inR hi)]
      rw [cpos (by simp [low_len]; omega), show IntKind.i64.wrap (Int.ofNat i + Int.ofNat 1) = Int.ofNat (i + 1) from wnext hi (by omega)]
      have h1 : low (Int.ofNat tags[i].size) 1 = [IntKind.u8.wrap (Int.ofNat tags[i].size)] := by
        simp [low, byteN]
      have h4 : bytesOf (a ++ low (Int.ofNat tags[i].size) 1) ++ tags[i] = bytesOf (a ++ tagB tags[i]) := by
        conv => lhs; rw [← bytesOf_numsOf' tags[i]]
        rw [bytesOf_append, bytesOf_numsOf', h1]
        simp [tagB]
      rw [h4, hL _ (by
        have h2 : tagsL (tags.drop i) = tagB tags[i] ++ tagsL (tags.drop (i + 1)) := by rw [List.drop_eq_getElem_cons hi]; rfl
        rw [← ha, h2, List.append_assoc])]
      have h3 : tagsL (tags[i] :: tags.drop (i + 1)) = tagB tags[i] ++ tagsL (tags.drop (i + 1)) := rfl
      rw [h3, List.append_assoc a]) k 0 [] (by simp) (by omega) (by omega)
  rw [List.drop_zero] at key
  exact key

theorem f27_spec {k : Nat} (hk : 16777216 ≤ k) {c d r : Int} (hs : shapeB c d r = true) (tags : List ByteArray) (data : List Int) (ht : tags.length ≤ 1048576) (htl : (tagsL tags).length ≤ 16777216) (hdl : data.length ≤ 67108864) :
    f27_F k ((c, d, r, ()), tags, bytesOf data, ()) = some (bytesOf (fileL c d r tags data), ()) := by
  have hs' := of_decide_eq_true hs
  have hc : 1 ≤ c ∧ c ≤ 2 := ⟨hs'.1, hs'.2.1⟩
  have hd : 4 ≤ d ∧ d ≤ 24 := ⟨hs'.2.2.1, hs'.2.2.2.1⟩
  have hbl := block_ok hc hd
  have hr : 1 ≤ r * (c * wideI d) ∧ r * (c * wideI d) ≤ 655350 * 6 := by
    constructor
    · have := Int.mul_le_mul (a := 1) (b := 1) (c := r) (d := c * wideI d) hs'.2.2.2.2.1 hbl.1 (by omega) (by omega)
      omega
    · exact Int.mul_le_mul hs'.2.2.2.2.2 hbl.2 (by omega) (by omega)
  have hrc : 0 ≤ r * c ∧ r * c ≤ 655350 * 2 := ⟨Int.mul_nonneg (by omega) (by omega), Int.mul_le_mul hs'.2.2.2.2.2 hc.2 (by omega) (by omega)⟩
  show f27_raw0 k (f27_L1 k) ((c, d, r, ()), tags, bytesOf data, ()) = _
  simp only [f27_raw0]
  have o1 : (OfNat.ofNat (1 : Nat) : Int) = 1 := rfl
  have o2 : (OfNat.ofNat (2 : Nat) : Int) = Int.ofNat 2 := rfl
  have o4 : (OfNat.ofNat (4 : Nat) : Int) = Int.ofNat 4 := rfl
  have o16 : (OfNat.ofNat (16 : Nat) : Int) = 16 := rfl
  have e0 : (ByteArray.mk #[OfNat.ofNat (87 : Nat), OfNat.ofNat (65 : Nat), OfNat.ofNat (86 : Nat), OfNat.ofNat (69 : Nat), OfNat.ofNat (102 : Nat), OfNat.ofNat (109 : Nat), OfNat.ofNat (116 : Nat), OfNat.ofNat (32 : Nat)]) = bytesOf (mWave ++ mFmt) := rfl
  have e2 : (ByteArray.mk #[OfNat.ofNat (100 : Nat), OfNat.ofNat (97 : Nat), OfNat.ofNat (116 : Nat), OfNat.ofNat (97 : Nat)]) = bytesOf mData := rfl
  have e3 : (ByteArray.mk #[OfNat.ofNat (82 : Nat), OfNat.ofNat (73 : Nat), OfNat.ofNat (70 : Nat), OfNat.ofNat (70 : Nat)]) = bytesOf mRiff := rfl
  have e4 : (ByteArray.mk #[]) = bytesOf [] := rfl
  have l1 : mWave.length = 4 := rfl
  have l0 : mFmt.length = 4 := rfl
  have l2 : mData.length = 4 := rfl
  have l3 : mRiff.length = 4 := rfl
  rw [f36_spec k hd, Option.bind_some, e0, e2, e3, e4, o2, o4, o1, o16]
  have hm1 : IntKind.i64.wrap (IntKind.i64.wrap (r * c) * wideI d) = r * (c * wideI d) := by
    rw [w64 (n := r * c) (by omega), Int.mul_assoc, w64 (by omega)]
  have hm2 : IntKind.i64.wrap (c * wideI d) = c * wideI d := w64 (by omega)
  simp only [hm1, hm2]
  rw [f46_spec hk _ 4 (by omega), Option.bind_some]
  simp only [bytesOf_size, bytesOf_append]
  rw [cpos (by simp [low_len]), f46_spec hk _ 2 (by omega), Option.bind_some]
  simp only [bytesOf_size, bytesOf_append]
  rw [cpos (by simp [low_len, l1, l0]), f46_spec hk _ 2 (by omega), Option.bind_some]
  simp only [bytesOf_size, bytesOf_append]
  rw [cpos (by simp [low_len, l1, l0]), f46_spec hk _ 4 (by omega), Option.bind_some]
  simp only [bytesOf_size, bytesOf_append]
  rw [cpos (by simp [low_len, l1, l0]), f46_spec hk _ 4 (by omega), Option.bind_some]
  simp only [bytesOf_size, bytesOf_append]
  rw [cpos (by simp [low_len, l1, l0]), f46_spec hk _ 2 (by omega), Option.bind_some]
  simp only [bytesOf_size, bytesOf_append]
  rw [cpos (by simp [low_len, l1, l0]), f46_spec hk _ 2 (by omega), Option.bind_some]
  simp only [bytesOf_size, bytesOf_append]
  rw [cpos (by simp [low_len, l1, l0])]
  have hhead : mWave ++ mFmt ++ low 16 4 ++ low 1 2 ++ low c 2 ++ low r 4 ++ low (r * (c * wideI d)) 4 ++ low (c * wideI d) 2 ++ low d 2 = mWave ++ partL mFmt (formL c d r) := by
    have hp : partL mFmt (formL c d r) = mFmt ++ low 16 4 ++ formL c d r := by
      unfold partL padL
      rw [formL_len]
      simp
    rw [hp]
    simp [formL]
  rw [hhead]
  have hw : (mWave ++ partL mFmt (formL c d r)).length = 28 := by simp [partL_len, formL_len, mFmt, mWave]
  have hmod2 : data.length % 2 ≤ 1 := by omega
  generalize hX : mWave ++ partL mFmt (formL c d r) = X at hw ⊢
  cases tags with
  | nil =>
    rw [cneg (by simp)]
    rw [hw, cpos (by omega), f46_spec hk _ 4 (by omega), Option.bind_some]
    simp only [bytesOf_size, bytesOf_append]
    rw [cpos (by rw [List.length_append, hw, low_len, l2]; omega), f47_spec k data (by omega), Option.bind_some]
    simp only [bytesOf_size, bytesOf_append]
    rw [cpos (by rw [List.length_append, List.length_append, List.length_append, hw, low_len, l2, padL_len]; omega), f46_spec hk _ 4 (by omega), Option.bind_some]
    simp only [bytesOf_size, bytesOf_append]
    rw [cpos (by simp [low_len]), cpos (by rw [List.length_append, List.length_append, List.length_append, List.length_append, List.length_append, hw, low_len, low_len, l2, l3, padL_len]; omega)]
    have hp2 : partL mData data = mData ++ low (data.length : Int) 4 ++ data ++ padL data := rfl
    simp [fileL, bodyL, tagsPartL, hX, hp2]
  | cons t tags =>
    rw [cpos (by simp only [Int.ofNat_eq_natCast, List.length_cons]; omega)]
    have := f27_1 hk (t :: tags) data X ht htl hdl (by rw [hw]; omega)
    rw [this]
    simp only [fileL, bodyL, tagsPartL, hX]
    simp
end Go.Sh
