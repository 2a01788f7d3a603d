/-
  Plain words of wav: Head's end.
-/
import Derived.Test.YtlbgcegonmbddaaDoorWP12
set_option linter.unusedSimpArgs false
set_option linter.unusedVariables false
namespace Go.Sh
open Go Go.Proofs

theorem extract_bytesOf (B : List Int) (a b : Nat) : (bytesOf B).extract a b = bytesOf ((B.take b).drop a) := by
  apply ba_ext
  rw [ByteArray.data_extract, Array.toList_extract, List.extract_eq_take_drop]
  show List.take (b - a) (List.drop a (List.map _ B)) = List.map _ ((B.take b).drop a)
  rw [List.drop_take, List.map_take, List.map_drop]
theorem getD_bytesOf {B : List Int} (hB : Byt B) {i : Nat} (hi : i < B.length) : Int.ofNat ((bytesOf B).data.toList.getD i (OfNat.ofNat (0 : Nat))).toNat = B[i] := by
  have hl : (bytesOf B).data.toList = B.map fun n => UInt8.ofNat n.toNat := rfl
  rw [hl, List.getD_eq_getElem?_getD, List.getElem?_map, List.getElem?_eq_getElem hi]
  simp only [Option.map_some, Option.getD_some]
  have := hB _ (List.getElem_mem hi)
  have e : (UInt8.ofNat B[i].toNat).toNat = B[i].toNat := UInt8.toNat_ofNat_of_lt' (show B[i].toNat < UInt8.size by have : UInt8.size = 256 := rfl; omega)
  rw [e]
  simp only [Int.ofNat_eq_natCast]
  omega

theorem f40_spec {k : Nat} (hk : 16777216 ≤ k) (l : List Int) (hl : l.length ≤ 4) (hB : Byt l) : f40_F k (bytesOf l, ()) = some (numL l, ()) := by
  have key : ∀ (m i : Nat), i ≤ l.length → i < m → iter (fun L1 => f40_raw1 k L1) m ((i : Int) - 1, numL (l.drop i), bytesOf l) = some (numL l, ()) := by
    intro m
    induction m with
    | zero => intro i _ h; omega
    | succ m ih =>
      intro i hi hm
      rw [iter_succ]
      simp only [f40_raw1, bytesOf_size]
      cases i with
      | zero =>
        rw [cneg (by omega), List.drop_zero]
      | succ i =>
        have e1 : ((i + 1 : Nat) : Int) - 1 = Int.ofNat i := by simp only [Int.ofNat_eq_natCast]; omega
        rw [e1, cpos (by simp only [Int.ofNat_eq_natCast]; omega), cpos (inR (by omega))]
        have e2 : (Int.ofNat i).toNat = i := rfl
        rw [e2, getD_bytesOf hB (by omega)]
        have hb := numL_bound (l.drop (i + 1)) (byt_drop hB _)
        have hb2 : (2 : Int) ^ (8 * (l.drop (i + 1)).length) ≤ 16777216 := by
          have : 2 ^ (8 * (l.drop (i + 1)).length) ≤ 2 ^ 24 := Nat.pow_le_pow_right (by omega) (by rw [List.length_drop]; omega)
          have e : ((2 ^ (8 * (l.drop (i + 1)).length) : Nat) : Int) = (2 : Int) ^ (8 * (l.drop (i + 1)).length) := by simp
          omega
        have hx := hB _ (List.getElem_mem (show i < l.length by omega))
        rw [w64 (n := Int.ofNat i - 1) (by simp only [Int.ofNat_eq_natCast]; omega), w64 (n := numL (l.drop (i + 1)) * 256) (by omega), w64 (n := l[i]) (by omega), w64 (by omega)]
        have e3 : numL (l.drop i) = numL (l.drop (i + 1)) * 256 + l[i] := by
          rw [List.drop_eq_getElem_cons (show i < l.length by omega)]
          simp only [numL]
          omega
        rw [← e3]
        exact ih i (by omega) (by omega)
  show f40_raw0 k (f40_L1 k) (bytesOf l, ()) = _
  simp only [f40_raw0, bytesOf_size]
  rw [w64 (by simp only [Int.ofNat_eq_natCast]; omega)]
  have := key k l.length (Nat.le_refl _) (by omega)
  rw [List.drop_length] at this
  exact this

abbrev HeadT : Type := ((Int × Int × Int × Unit) × List ByteArray × ByteArray × Bool × Unit) × Unit
def headErr : HeadT := (((0, 0, 0, ()), [], ByteArray.mk #[], false, ()), ())
def headOk (c d r : Int) (tags : List ByteArray) (D : List Int) : HeadT := (((c, d, r, ()), tags, bytesOf D, true, ()), ())

/-- the end of Head -/
def tailE (k : Nat) (s : ByteArray) (A4 A8 E c d r : Int) (tags : List ByteArray) : Option HeadT :=
  bif decide ((0 : Int) ≤ A4 ∧ A4 ≤ A8 ∧ A8 ≤ Int.ofNat s.size) then (f40_F k (s.extract A4.toNat A8.toNat, ())).bind fun y => bif decide (E < y.1) then some headErr else (f36_F k (d, ())).bind fun y_1 => bif decide ¬IntKind.i64.wrap (c * y_1.1) = (0 : Int) then bif Int.tmod y.1 (IntKind.i64.wrap (c * y_1.1)) != (0 : Int) then some headErr else (f36_F k (d, ())).bind fun y_2 => bif decide ¬IntKind.i64.wrap (c * y_2.1) = (0 : Int) then bif decide ((4096 : Int) < IntKind.i64.wrap (Int.tdiv y.1 (IntKind.i64.wrap (c * y_2.1)))) then some headErr else bif decide ((0 : Int) ≤ A8 ∧ A8 ≤ IntKind.i64.wrap (A8 + y.1) ∧ IntKind.i64.wrap (A8 + y.1) ≤ Int.ofNat s.size) then (f27_F k ((c, d, r, ()), tags, s.extract A8.toNat (IntKind.i64.wrap (A8 + y.1)).toNat, ())).bind fun y_3 => bif Int.ofNat (ByteArray.size y_3.1) != Int.ofNat s.size then some headErr else bif decide ((0 : Int) ≤ (0 : Int) ∧ (0 : Int) ≤ IntKind.i64.wrap (A8 + y.1) ∧ IntKind.i64.wrap (A8 + y.1) ≤ Int.ofNat (ByteArray.size y_3.1)) then bif decide ((0 : Int) ≤ (0 : Int) ∧ (0 : Int) ≤ IntKind.i64.wrap (A8 + y.1) ∧ IntKind.i64.wrap (A8 + y.1) ≤ Int.ofNat s.size) then bif !(ByteArray.extract y_3.1 (0 : Nat) (IntKind.i64.wrap (A8 + y.1)).toNat).toList == (s.extract (0 : Nat) (IntKind.i64.wrap (A8 + y.1)).toNat).toList then some headErr else some (((c, d, r, ()), tags, s.extract A8.toNat (IntKind.i64.wrap (A8 + y.1)).toNat, true, ()), ()) else none else none else none else none else none else none

theorem fileL_byt {c d r : Int} {tags : List ByteArray} {D : List Int} (hD : Byt D) : Byt (fileL c d r tags D) := by
  have hpad : ∀ l : List Int, Byt (padL l) := by
    intro l x hx
    simp only [padL, List.mem_replicate] at hx
    omega
  have hm : ∀ m : List Int, (∀ x ∈ m, 0 ≤ x ∧ x < 256) → Byt m := fun m h => h
  have hpart : ∀ m b : List Int, Byt m → Byt b → Byt (partL m b) := fun m b h1 h2 => ((h1.app (byt_low _ _)).app h2).app (hpad b)
  have hform : Byt (formL c d r) := (((((byt_low _ _).app (byt_low _ _)).app (byt_low _ _)).app (byt_low _ _)).app (byt_low _ _)).app (byt_low _ _)
  have htags : Byt (tagsPartL tags) := by
    unfold tagsPartL
    split
    · exact byt_nil
    · refine hpart _ _ (by intro x hx; simp [mTags] at hx; omega) (byt_flat fun t _ => ?_)
      intro x hx
      rcases List.mem_cons.1 hx with rfl | hx
      · exact byt_u8 _
      · exact byt_nums t x hx
  have hbody : Byt (bodyL c d r tags D) := (((show Byt mWave by intro x hx; simp [mWave] at hx; omega).app (hpart _ _ (by intro x hx; simp [mFmt] at hx; omega) hform)).app htags).app (hpart _ _ (by intro x hx; simp [mData] at hx; omega) hD)
  exact ((show Byt mRiff by intro x hx; simp [mRiff] at hx; omega).app (byt_low _ _)).app hbody

theorem tail_spec {k : Nat} (hk : 16777216 ≤ k) (B : List Int) (hb : B.length ≤ 1048576) (hB : Byt B) (A : Nat) (hA : A + 8 ≤ B.length) {c d r : Int} (hs : shapeB c d r = true) {tags : List ByteArray} (ht : Tagv tags) :
    (tailE k (bytesOf B) ((A + 4 : Nat) : Int) ((A + 8 : Nat) : Int) ((B.length : Int) - A - 8) c d r tags = some headErr ∧ (∀ D, ¬ ((D.length : Int) % (c * wideI d) = 0 ∧ (D.length : Int) / (c * wideI d) ≤ 4096 ∧ (B.drop (A + 4)).take 4 = low (D.length : Int) 4 ∧ (B.drop (A + 8)).take D.length = D ∧ (fileL c d r tags D).length = B.length ∧ A + 8 + D.length ≤ B.length ∧ (fileL c d r tags D).take (A + 8 + D.length) = B.take (A + 8 + D.length)))) ∨
    (∃ D, tailE k (bytesOf B) ((A + 4 : Nat) : Int) ((A + 8 : Nat) : Int) ((B.length : Int) - A - 8) c d r tags = some (headOk c d r tags D) ∧ ((D.length : Int) % (c * wideI d) = 0 ∧ (D.length : Int) / (c * wideI d) ≤ 4096 ∧ (B.drop (A + 4)).take 4 = low (D.length : Int) 4 ∧ (B.drop (A + 8)).take D.length = D ∧ (fileL c d r tags D).length = B.length ∧ A + 8 + D.length ≤ B.length ∧ (fileL c d r tags D).take (A + 8 + D.length) = B.take (A + 8 + D.length))) := by
  have hbl := shape_b hs
  have w4 : (2 : Int) ^ (8 * 4) = 4294967296 := rfl
  unfold tailE
  rw [bytesOf_size, cpos (by simp only [Int.ofNat_eq_natCast]; omega)]
  have e1 : (((A + 4 : Nat) : Int)).toNat = A + 4 := by omega
  have e2 : (((A + 8 : Nat) : Int)).toNat = A + 8 := by omega
  rw [e1, e2]
  have e3 : (B.take (A + 8)).drop (A + 4) = (B.drop (A + 4)).take 4 := by rw [List.drop_take]; congr 1; omega
  have hl4 : ((B.drop (A + 4)).take 4).length = 4 := by rw [List.length_take, List.length_drop]; omega
  rw [extract_bytesOf, e3, f40_spec hk _ (by omega) (byt_take (byt_drop hB _) _), Option.bind_some]
  simp only
  have hn := numL_bound _ (byt_take (byt_drop hB (A + 4)) 4)
  rw [hl4, w4] at hn
  obtain ⟨n, hn'⟩ : ∃ n : Nat, numL ((B.drop (A + 4)).take 4) = (n : Int) := ⟨(numL ((B.drop (A + 4)).take 4)).toNat, by omega⟩
  have hlow : (B.drop (A + 4)).take 4 = low (n : Int) 4 := by
    have := low_numL _ (byt_take (byt_drop hB (A + 4)) 4)
    rw [hl4, hn'] at this
    exact this.symm
  -- whatever D is: its length is n
  have lenD : ∀ D : List Int, (B.drop (A + 4)).take 4 = low (D.length : Int) 4 → A + 8 + D.length ≤ B.length → D.length = n := by
    intro D h hle
    rw [hlow] at h
    have := low_inj (s := 4) (n := (n : Int)) (m := (D.length : Int)) (by omega) (by omega) h
    omega
  rw [hn']
  rw [hn'] at hn
  by_cases hE : (B.length : Int) - A - 8 < n
  · rw [cpos hE]
    left
    refine ⟨rfl, fun D hD => ?_⟩
    have := lenD D hD.2.2.1 hD.2.2.2.2.2.1
    omega
  rw [cneg hE, f36_spec k (shape_d hs), Option.bind_some]
  simp only
  rw [w64 (n := c * wideI d) (by omega), cpos (show ¬ c * wideI d = 0 by omega), Int.tmod_eq_emod_of_nonneg hn.1, int_bne]
  by_cases hz : (n : Int) % (c * wideI d) = 0
  case neg =>
    rw [cpos hz]
    left
    refine ⟨rfl, fun D hD => ?_⟩
    have := lenD D hD.2.2.1 hD.2.2.2.2.2.1
    rw [this] at hD
    exact hz hD.1
  rw [cneg (fun h => h hz), Option.bind_some]
  simp only
  rw [w64 (n := c * wideI d) (by omega), cpos (show ¬ c * wideI d = 0 by omega), Int.tdiv_eq_ediv_of_nonneg hn.1]
  have hq0 : 0 ≤ (n : Int) / (c * wideI d) := Int.ediv_nonneg hn.1 (by omega)
  have hq1 : (n : Int) / (c * wideI d) ≤ n := Int.ediv_le_self _ hn.1
  rw [w64 (n := (n : Int) / (c * wideI d)) (by omega)]
  by_cases hc : 4096 < (n : Int) / (c * wideI d)
  · rw [cpos hc]
    left
    refine ⟨rfl, fun D hD => ?_⟩
    have := lenD D hD.2.2.1 hD.2.2.2.2.2.1
    rw [this] at hD
    omega
  rw [cneg hc]
  have e5 : IntKind.i64.wrap (((A + 8 : Nat) : Int) + (n : Int)) = ((A + 8 + n : Nat) : Int) := by rw [w64 (by omega)]; omega
  rw [e5, cpos (by simp only [Int.ofNat_eq_natCast]; omega)]
  have e6 : (((A + 8 + n : Nat) : Int)).toNat = A + 8 + n := by omega
  rw [e6, extract_bytesOf]
  have e7 : (B.take (A + 8 + n)).drop (A + 8) = (B.drop (A + 8)).take n := by rw [List.drop_take]; congr 1; omega
  rw [e7]
  generalize hD : (B.drop (A + 8)).take n = D
  have hDB : Byt D := by rw [← hD]; exact byt_take (byt_drop hB _) _
  have hDl : D.length = n := by rw [← hD, List.length_take, List.length_drop]; omega
  have htl := ht.len
  rw [f27_spec hk hs tags D (by have := ht.1; omega) (by omega) (by omega), Option.bind_some]
  simp only [bytesOf_size]
  rw [int_bne]
  have same : ∀ D' : List Int, (B.drop (A + 4)).take 4 = low (D'.length : Int) 4 → A + 8 + D'.length ≤ B.length → (B.drop (A + 8)).take D'.length = D' → D' = D := by
    intro D' h1 h2 h3
    have := lenD D' h1 h2
    rw [this] at h3
    rw [← h3, hD]
  by_cases hfl : (fileL c d r tags D).length = B.length
  case neg =>
    rw [cpos (by simp only [Int.ofNat_eq_natCast]; omega)]
    left
    refine ⟨rfl, fun D' hD' => ?_⟩
    have := same D' hD'.2.2.1 hD'.2.2.2.2.2.1 hD'.2.2.2.1
    rw [this] at hD'
    exact hfl hD'.2.2.2.2.1
  rw [cneg (by simp only [Int.ofNat_eq_natCast]; omega), cpos (by simp only [Int.ofNat_eq_natCast]; omega), cpos (by simp only [Int.ofNat_eq_natCast]; omega)]
  rw [extract_bytesOf, extract_bytesOf, List.drop_zero, List.drop_zero, ba_beq, cnot]
  by_cases heq : (fileL c d r tags D).take (A + 8 + n) = B.take (A + 8 + n)
  · rw [cpos (by rw [heq])]
    right
    refine ⟨D, rfl, ?_⟩
    rw [hDl]
    exact ⟨hz, by omega, hlow, hD, hfl, by omega, heq⟩
  · rw [cneg (fun h => heq (bytesOf_inj (byt_take (fileL_byt hDB) _) (byt_take hB _) h))]
    left
    refine ⟨rfl, fun D' hD' => ?_⟩
    have := same D' hD'.2.2.1 hD'.2.2.2.2.2.1 hD'.2.2.2.1
    rw [this, hDl] at hD'
    exact heq hD'.2.2.2.2.2.2
end Go.Sh
