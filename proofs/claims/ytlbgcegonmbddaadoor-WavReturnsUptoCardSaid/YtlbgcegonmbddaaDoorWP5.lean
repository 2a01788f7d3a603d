/-
  Plain words of wav: the file.
-/
import Derived.Test.YtlbgcegonmbddaaDoorWP4
set_option linter.unusedSimpArgs false
set_option linter.unusedVariables false
namespace Go.Sh
open Go Go.Proofs

theorem bytesOf_append (a b : List Int) : bytesOf a ++ bytesOf b = bytesOf (a ++ b) := by
  apply ba_ext
  simp [bytesOf]
theorem bytesOf_size (a : List Int) : (bytesOf a).size = a.length := by
  rw [← toList_len]; simp [bytesOf]
theorem numsOf_len' (s : ByteArray) : (numsOf s).length = s.size := by rw [← toList_len]; simp [numsOf]
theorem bytesOf_numsOf' (s : ByteArray) : bytesOf (numsOf s) = s := by
  apply ba_ext
  show (List.map (fun n : Int => UInt8.ofNat n.toNat) (numsOf s)).toArray.toList = s.data.toList
  unfold numsOf
  rw [List.toList_toArray, List.map_map]
  conv => rhs; rw [← List.map_id s.data.toList]
  apply List.map_congr_left
  intro b _
  simp

def wideI (d : Int) : Int := (d + 7).tdiv 8
def padL (body : List Int) : List Int := List.replicate (body.length % 2) 0
def partL (mark body : List Int) : List Int := mark ++ low (body.length : Int) 4 ++ body ++ padL body
def formL (c d r : Int) : List Int := low 1 2 ++ low c 2 ++ low r 4 ++ low (r * (c * wideI d)) 4 ++ low (c * wideI d) 2 ++ low d 2
def tagB (t : ByteArray) : List Int := IntKind.u8.wrap (Int.ofNat t.size) :: numsOf t
def tagsL (tags : List ByteArray) : List Int := tags.flatMap tagB
def mFmt : List Int := [102, 109, 116, 32]
def mTags : List Int := [116, 97, 103, 115]
def mData : List Int := [100, 97, 116, 97]
def mWave : List Int := [87, 65, 86, 69]
def mRiff : List Int := [82, 73, 70, 70]
def tagsPartL (tags : List ByteArray) : List Int := if tags = [] then [] else partL mTags (tagsL tags)
def bodyL (c d r : Int) (tags : List ByteArray) (data : List Int) : List Int := mWave ++ partL mFmt (formL c d r) ++ tagsPartL tags ++ partL mData data
def fileL (c d r : Int) (tags : List ByteArray) (data : List Int) : List Int := mRiff ++ low ((bodyL c d r tags data).length : Int) 4 ++ bodyL c d r tags data

theorem formL_len (c d r : Int) : (formL c d r).length = 16 := by simp [formL, low_len]
theorem padL_len (b : List Int) : (padL b).length = b.length % 2 := by simp [padL]
theorem partL_len (m b : List Int) : (partL m b).length = m.length + 4 + b.length + b.length % 2 := by simp [partL, low_len, padL_len]; omega
theorem tagsPartL_len (tags : List ByteArray) : (tagsPartL tags).length ≤ 9 + (tagsL tags).length := by
  unfold tagsPartL
  split
  · simp
  · rw [partL_len]; simp [mTags]; omega
theorem bodyL_len (c d r : Int) (tags : List ByteArray) (data : List Int) : (bodyL c d r tags data).length = 36 + (tagsPartL tags).length + data.length + data.length % 2 := by
  simp [bodyL, partL_len, formL_len, mWave, mFmt, mData]; omega

theorem wide_ok {d : Int} (h : 4 ≤ d ∧ d ≤ 24) : 1 ≤ wideI d ∧ wideI d ≤ 3 ∧ 8 * wideI d - 8 < d ∧ d ≤ 8 * wideI d := by
  unfold wideI
  rw [Int.tdiv_eq_ediv_of_nonneg (by omega)]
  omega
theorem f30_spec (k : Nat) {c d r : Int} (h : 4 ≤ d ∧ d ≤ 24) : f30_F k ((c, d, r, ()), ()) = some (wideI d, ()) := by
  show f30_raw0 k ((c, d, r, ()), ()) = _
  simp only [f30_raw0]
  have e : IntKind.i64.wrap (d + 7) = d + 7 := w64 (by omega)
  have := wide_ok h
  unfold wideI at this ⊢
  rw [e, w64 (by omega)]
theorem f36_spec (k : Nat) {d : Int} (h : 4 ≤ d ∧ d ≤ 24) : f36_F k (d, ()) = some (wideI d, ()) := by
  show f36_raw0 k (d, ()) = _
  simp only [f36_raw0]
  have e : IntKind.i64.wrap (d + 7) = d + 7 := w64 (by omega)
  have := wide_ok h
  unfold wideI at this ⊢
  rw [e, w64 (by omega)]
theorem block_ok {c d : Int} (hc : 1 ≤ c ∧ c ≤ 2) (h : 4 ≤ d ∧ d ≤ 24) : 1 ≤ c * wideI d ∧ c * wideI d ≤ 6 := by
  have := wide_ok h
  rcases (show c = 1 ∨ c = 2 by omega) with rfl | rfl <;> omega
theorem f37_spec (k : Nat) {c d r : Int} (hc : 1 ≤ c ∧ c ≤ 2) (h : 4 ≤ d ∧ d ≤ 24) : f37_F k ((c, d, r, ()), ()) = some (c * wideI d, ()) := by
  show f37_raw0 k ((c, d, r, ()), ()) = _
  simp only [f37_raw0]
  rw [f30_spec k h, Option.bind_some]
  have := block_ok hc h
  simp only
  rw [w64 (by omega)]

theorem f53_spec {k : Nat} (hk : 16777216 ≤ k) (b : List Int) (m : ByteArray) (body : List Int) (hm : m.size ≤ 4) (hb : b.length ≤ 268435456) (hbody : body.length ≤ 268435456) :
    f53_F k (b, m, body, ()) = some (b ++ partL (numsOf m) body, ()) := by
  show f53_raw0 k (b, m, body, ()) = _
  simp only [f53_raw0]
  have e1 : List.map (fun b => Int.ofNat b.toNat) m.data.toList = numsOf m := rfl
  rw [e1]
  have hm' := numsOf_len' m
  rw [cpos (by omega)]
  have e2 := f31_spec hk (b ++ numsOf m) (Int.ofNat body.length) 4 (by omega) (by simp; omega)
  rw [show (OfNat.ofNat (4 : Nat) : Int) = Int.ofNat 4 from rfl, e2, Option.bind_some]
  simp only
  have e3 : (Int.ofNat body.length).tmod 2 = Int.ofNat (body.length % 2) := rfl
  rw [e3, cpos (by simp [low_len]; omega), lim31_mk (by simp only [Int.ofNat_eq_natCast]; omega) (by simp only [Int.ofNat_eq_natCast]; omega)]
  simp only [cond_true]
  rw [cpos (by simp [low_len]; omega)]
  have e4 : (Int.ofNat (body.length % 2)).toNat = body.length % 2 := rfl
  rw [e4]
  simp [partL, padL]

theorem f32_1 {k : Nat} (hk : 16777216 ≤ k) {c d r : Int} (tags : List ByteArray) (data b : List Int) (ht : tags.length ≤ 1048576) (htl : (tagsL tags).length ≤ 16777216) (hd : data.length ≤ 67108864) (hb : b.length ≤ 1048576) :
    f32_L1 k (Int.ofNat tags.length, 0, tags, [], b, c, d, r, tags, data) = some (mRiff ++ low ((b ++ partL mTags (tagsL tags) ++ partL mData data).length : Int) 4 ++ (b ++ partL mTags (tagsL tags) ++ partL mData data), ()) := by
  have key := iter_list_inv (step := fun L1 => f32_raw1 k L1) (A := List Int) (fun i a => (Int.ofNat tags.length, Int.ofNat i, tags, a, b, c, d, r, tags, data)) tags (fun l a => some (mRiff ++ low ((b ++ partL mTags (a ++ tagsL l) ++ partL mData data).length : Int) 4 ++ (b ++ partL mTags (a ++ tagsL l) ++ partL mData data), ()))
    (fun i a => a ++ tagsL (tags.drop i) = tagsL tags)
    (fun L a ha => by
      simp only [f32_raw1]
      rw [cneg (nltR _)]
      have hal : a.length ≤ 16777216 := by
        rw [List.drop_length] at ha
        simp [tagsL] at ha
        rw [ha]; exact htl
      have e1 : (ByteArray.mk #[OfNat.ofNat (116 : Nat), OfNat.ofNat (97 : Nat), OfNat.ofNat (103 : Nat), OfNat.ofNat (115 : Nat)]) = bytesOf mTags := rfl
      have e2 : (ByteArray.mk #[OfNat.ofNat (100 : Nat), OfNat.ofNat (97 : Nat), OfNat.ofNat (116 : Nat), OfNat.ofNat (97 : Nat)]) = bytesOf mData := rfl
      rw [e1, e2, f53_spec hk _ _ _ (by rw [bytesOf_size]; decide) (by omega) (by omega), Option.bind_some]
      have n1 : numsOf (bytesOf mTags) = mTags := rfl
      have n2 : numsOf (bytesOf mData) = mData := rfl
      have ml : mTags.length = 4 := rfl
      have ml2 : mData.length = 4 := rfl
      rw [n1]
      rw [f53_spec hk _ _ _ (by rw [bytesOf_size]; decide) (by simp [partL_len]; omega) (by omega), Option.bind_some, n2]
      simp only
      rw [show (OfNat.ofNat (4 : Nat) : Int) = Int.ofNat 4 from rfl, f31_spec hk _ _ 4 (by omega) (by simp), Option.bind_some]
      rw [cpos (by simp [low_len, partL_len]; omega)]
      simp [tagsL, mRiff])
    (fun L i hi a ha hL => by
      simp only [f32_raw1]
      have hal : a.length + (tagB tags[i]).length ≤ 16777216 := by
        have h2 : tagsL (tags.drop i) = tagB tags[i] ++ tagsL (tags.drop (i + 1)) := by rw [List.drop_eq_getElem_cons hi]; rfl
        rw [h2] at ha
        rw [← ha, List.length_append, List.length_append] at htl
        omega
      have htb : (tagB tags[i]).length = 1 + tags[i].size := by simp [tagB, numsOf_len']; omega
      rw [cpos (ltR hi), cpos (inR hi), getD_at hi]
      have e1 : List.map (fun b => Int.ofNat b.toNat) tags[i].data.toList = numsOf tags[i] := rfl
      rw [e1, cpos (by simp; omega), cpos (by simp [numsOf_len']; omega), wnext hi (by omega)]
      have e3 : a ++ [IntKind.u8.wrap (Int.ofNat tags[i].size)] ++ numsOf tags[i] = a ++ tagB tags[i] := by simp [tagB]
      rw [e3, hL _ (by
        have h2 : tagsL (tags.drop i) = tagB tags[i] ++ tagsL (tags.drop (i + 1)) := by rw [List.drop_eq_getElem_cons hi]; rfl
        rw [← ha, h2, List.append_assoc])]
      have h3 : tagsL (tags[i] :: tags.drop (i + 1)) = tagB tags[i] ++ tagsL (tags.drop (i + 1)) := rfl
      rw [h3, List.append_assoc a]) k 0 [] (by simp) (by omega) (by omega)
  rw [List.drop_zero] at key
  exact key

theorem f32_spec {k : Nat} (hk : 16777216 ≤ k) {c d r : Int} (hs : shapeB c d r = true) (tags : List ByteArray) (data : List Int) (ht : tags.length ≤ 1048576) (htl : (tagsL tags).length ≤ 16777216) (hdl : data.length ≤ 67108864) :
    f32_F k (((c, d, r, ()), tags, data, ()), ()) = some (fileL c d r tags data, ()) := by
  have hs' := of_decide_eq_true hs
  have hc : 1 ≤ c ∧ c ≤ 2 := ⟨hs'.1, hs'.2.1⟩
  have hd : 4 ≤ d ∧ d ≤ 24 := ⟨hs'.2.2.1, hs'.2.2.2.1⟩
  have hbl := block_ok hc hd
  have hr : 1 ≤ r * (c * wideI d) ∧ r * (c * wideI d) ≤ 655350 * 6 := by
    constructor
    · have := Int.mul_le_mul (a := 1) (b := 1) (c := r) (d := c * wideI d) hs'.2.2.2.2.1 hbl.1 (by omega) (by omega)
      omega
    · exact Int.mul_le_mul hs'.2.2.2.2.2 hbl.2 (by omega) (by omega)
  show f32_raw0 k (f32_L1 k) (((c, d, r, ()), tags, data, ()), ()) = _
  simp only [f32_raw0]
  have o1 : (OfNat.ofNat (1 : Nat) : Int) = 1 := rfl
  have o2 : (OfNat.ofNat (2 : Nat) : Int) = Int.ofNat 2 := rfl
  have o4 : (OfNat.ofNat (4 : Nat) : Int) = Int.ofNat 4 := rfl
  rw [o2, o4, o1]
  rw [f31_spec hk _ _ 2 (by omega) (by simp), Option.bind_some]
  simp only
  rw [f31_spec hk _ _ 2 (by omega) (by simp [low_len]), Option.bind_some]
  simp only
  rw [f31_spec hk _ _ 4 (by omega) (by simp [low_len]), Option.bind_some]
  simp only
  rw [f37_spec k hc hd, Option.bind_some]
  simp only
  rw [w64 (n := r * (c * wideI d)) (by omega)]
  rw [f31_spec hk _ _ 4 (by omega) (by simp [low_len]), Option.bind_some]
  simp only
  rw [Option.bind_some]
  rw [f31_spec hk _ _ 2 (by omega) (by simp [low_len]), Option.bind_some]
  simp only
  rw [f31_spec hk _ _ 2 (by omega) (by simp [low_len]), Option.bind_some]
  simp only
  have hform : [] ++ low 1 2 ++ low c 2 ++ low r 4 ++ low (r * (c * wideI d)) 4 ++ low (c * wideI d) 2 ++ low d 2 = formL c d r := by simp [formL]
  have e0 : (ByteArray.mk #[OfNat.ofNat (102 : Nat), OfNat.ofNat (109 : Nat), OfNat.ofNat (116 : Nat), OfNat.ofNat (32 : Nat)]) = bytesOf mFmt := rfl
  have e2 : (ByteArray.mk #[OfNat.ofNat (100 : Nat), OfNat.ofNat (97 : Nat), OfNat.ofNat (116 : Nat), OfNat.ofNat (97 : Nat)]) = bytesOf mData := rfl
  rw [hform, e0, e2]
  have n0 : numsOf (bytesOf mFmt) = mFmt := rfl
  have n2 : numsOf (bytesOf mData) = mData := rfl
  rw [f53_spec hk _ _ _ (by rw [bytesOf_size]; decide) (by simp) (by rw [formL_len]; omega), Option.bind_some, n0]
  simp only
  have hw : ([(87 : Int), (65 : Int), (86 : Int), (69 : Int)] ++ partL mFmt (formL c d r)).length = 28 := by simp [partL_len, formL_len, mFmt]
  cases tags with
  | nil =>
    rw [cneg (by simp)]
    rw [f53_spec hk _ _ _ (by rw [bytesOf_size]; decide) (by rw [hw]; omega) (by omega), Option.bind_some, n2]
    simp only
    rw [f31_spec hk _ _ 4 (by omega) (by simp), Option.bind_some]
    simp only
    have ml2 : mData.length = 4 := rfl
    rw [cpos (by rw [List.length_append, List.length_append, hw, partL_len, low_len, ml2]; simp; omega)]
    simp [fileL, bodyL, tagsPartL, mRiff, mWave]
  | cons t tags =>
    rw [cpos (by simp only [Int.ofNat_eq_natCast, List.length_cons]; omega)]
    have := f32_1 hk (c := c) (d := d) (r := r) (t :: tags) data ([(87 : Int), (65 : Int), (86 : Int), (69 : Int)] ++ partL mFmt (formL c d r)) ht htl hdl (by rw [hw]; omega)
    rw [this]
    simp [fileL, bodyL, tagsPartL, mRiff, mWave]
end Go.Sh
