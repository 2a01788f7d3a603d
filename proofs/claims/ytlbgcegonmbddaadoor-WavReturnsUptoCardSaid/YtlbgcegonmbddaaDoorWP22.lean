/-
  WavReads and WavReturns in plain words.
-/
import Derived.Test.YtlbgcegonmbddaaDoorWP21
set_option linter.unusedSimpArgs false
set_option linter.unusedVariables false
set_option linter.unusedSectionVars false
namespace Go.Sh
open Go

theorem f42_refl {k : Nat} (hk : 16777216 ≤ k) (a : List Int) (ha : a.length ≤ 1048576) : f42_F k (a, a, ()) = some (true, ()) := by
  show f42_raw0 k (f42_L1 k) (a, a, ()) = _
  simp only [f42_raw0]
  rw [int_bne, cneg (fun h => h rfl)]
  show iter (fun L1 => f42_raw1 k L1) k _ = _
  exact iter_list (step := fun L1 => f42_raw1 k L1) (A := Unit) (fun i _ => (Int.ofNat i, a, a)) a (fun _ _ => some (true, ()))
    (fun L _ => by simp only [f42_raw1]; rw [cneg (nltR _)])
    (fun L i hi _ hL => by
      simp only [f42_raw1]
      rw [cpos (ltR hi), cpos (inR hi), cpos (inR hi), int_bne, cneg (fun h => h rfl), wnext hi (by omega)]
      exact hL ()) k 0 () (by omega) (by omega)
theorem f25_refl {k : Nat} (hk : 16777216 ≤ k) (n : Int) (ch : List (List Int)) (h1 : ch.length ≤ 1048576) (h2 : ∀ c ∈ ch, c.length ≤ 1048576) : f25_F k ((n, ch, ()), (n, ch, ()), ()) = some (true, ()) := by
  show f25_raw0 k (f25_L1 k) ((n, ch, ()), (n, ch, ()), ()) = _
  simp only [f25_raw0]
  rw [int_bne, cneg (fun h => h rfl), int_bne, cneg (fun h => h rfl)]
  show iter (fun L1 => f25_raw1 k L1) k _ = _
  exact iter_list (step := fun L1 => f25_raw1 k L1) (A := Unit) (fun i _ => (Int.ofNat i, n, ch, n, ch)) ch (fun _ _ => some (true, ()))
    (fun L _ => by simp only [f25_raw1]; rw [cneg (nltR _)])
    (fun L i hi _ hL => by
      simp only [f25_raw1]
      rw [cpos (ltR hi), cpos (inR hi), cpos (inR hi), getD_at hi, f42_refl hk _ (h2 _ (List.getElem_mem _)), Option.bind_some]
      simp only [Bool.not_true, cond_false]
      rw [wnext hi (by omega)]
      exact hL ()) k 0 () (by omega) (by omega)
theorem f19_refl {k : Nat} (hk : 16777216 ≤ k) {c d r : Int} {tags : List ByteArray} {ch : List (List Int)} (hS : Small tags ch) : f19_F k (((c, d, r, ()), tags, ch, ()), ((c, d, r, ()), tags, ch, ()), ()) = some (true, ()) := by
  show f19_raw0 k (f19_L1 k) (((c, d, r, ()), tags, ch, ()), ((c, d, r, ()), tags, ch, ()), ()) = _
  simp only [f19_raw0]
  simp only [decide_true, Bool.and_self, Bool.not_true, cond_false]
  rw [int_bne, cneg (fun h => h rfl), f25_refl hk _ _ hS.cl hS.chan, Option.bind_some]
  simp only [Bool.not_true, cond_false]
  show iter (fun L1 => f19_raw1 k L1) k _ = _
  have htl := hS.tl
  exact iter_list (step := fun L1 => f19_raw1 k L1) (A := Unit) (fun i _ => (Int.ofNat i, c, d, r, tags, ch, c, d, r, tags, ch)) tags (fun _ _ => some (true, ()))
    (fun L _ => by simp only [f19_raw1]; rw [cneg (nltR _)])
    (fun L i hi _ hL => by
      simp only [f19_raw1]
      rw [cpos (ltR hi), cpos (inR hi), cpos (inR hi), ba_beq, cnot, cpos rfl, wnext hi (by omega)]
      exact hL ()) k 0 () (by omega) (by omega)

/-! with a byte more or less it is no file -/
theorem file_mark {B : List Int} {c d r : Int} {tags : List ByteArray} {D : List Int} (hI : IsFile B c d r tags D) : (B.drop 4).take 4 = low ((B.length : Int) - 8) 4 := by
  obtain ⟨e, he, h⟩ := hI.eq
  have h2 : B.drop 4 = low ((B.length : Int) - 8) 4 ++ (mWave ++ (partL mFmt (formL c d r) ++ (tagsPartL tags ++ (mData ++ (low (D.length : Int) 4 ++ (D ++ e)))))) := by
    have := congrArg (List.drop 4) h
    rwa [drop_len (show mRiff.length = 4 from rfl)] at this
  rw [h2, take_len (low_len _ _)]
theorem marks_meet {A B : List Int} {c d r c' d' r' : Int} {tags tags' : List ByteArray} {D D' : List Int} (hI : IsFile A c d r tags D) (hI' : IsFile B c' d' r' tags' D') (hA : A.length ≤ 1048576) (hB : B.length ≤ 1048576)
    (h : (A.drop 4).take 4 = (B.drop 4).take 4) : A.length = B.length := by
  rw [file_mark hI, file_mark hI'] at h
  have h1 := hI.walk.1
  have h2 := hI'.walk.1
  have e : (2 : Int) ^ (8 * 4) = 4294967296 := by decide
  have := low_inj (by rw [e]; omega) (by rw [e]; omega) h
  omega
theorem less_none {F : List Int} {c d r : Int} {tags : List ByteArray} {D : List Int} (hI : IsFile F c d r tags D) (hF : F.length ≤ 524288) : ∀ c' d' r' tags' D', ¬ IsFile (F.take (F.length - 1)) c' d' r' tags' D' := by
  intro c' d' r' tags' D' h
  have h1 := hI.walk.1
  have := marks_meet hI h (by omega) (by simp; omega) (by rw [List.drop_take, List.take_take, show min 4 (F.length - 1 - 4) = 4 by omega])
  simp at this
  omega
theorem more_none {F : List Int} {c d r : Int} {tags : List ByteArray} {D : List Int} (hI : IsFile F c d r tags D) (hF : F.length ≤ 524288) (x : Int) : ∀ c' d' r' tags' D', ¬ IsFile (F ++ [x]) c' d' r' tags' D' := by
  intro c' d' r' tags' D' h
  have h1 := hI.walk.1
  have := marks_meet hI h (by omega) (by simp; omega) (by rw [List.drop_append_of_le_length (by omega), List.take_append_of_le_length (by simp; omega)])
  simp at this

theorem chans_small {d : Int} {c : Int} {D : List Int} {n : Nat} {tags : List ByteArray} (hc : 1 ≤ c ∧ c ≤ 2) (hn : n ≤ 8192) (ht : Tagv tags) : Small tags (chans d c.toNat D n) := by
  have h8 := ht.1
  exact ⟨by omega, fun t h => by have := tagV_size (ht.2 t h); omega, by rw [chans_len]; omega, fun x hx => by have := chans_each d c.toNat D n x hx; omega⟩

/-- what Decode tells of any bytes -/
theorem decode_any {k : Nat} (hk : 16777216 ≤ k) {B : List Int} (hb : B.length ≤ 524288) (hB : Byt B) :
    (∃ c d r tags ch, Small tags ch ∧ chk c d r tags ch = 0 ∧ trackL c d r tags ch = B ∧ f18_F k (B, ()) = some ((((c, d, r, ()), tags, ch, ()), 0, ()), ()) ∧ f21_F k (bytesOf B, ()) = some ((((c, d, r, ()), tags, ch, ()), 0, ()), ())) ∨
      (f18_F k (B, ()) = some decNone ∧ f21_F k (bytesOf B, ()) = some decNone) := by
  by_cases hex : ∃ c d r tags D, IsFile B c d r tags D
  · obtain ⟨c, d, r, tags, D, hI⟩ := hex
    have h1 := f18_file hk hb hB hI
    have h2 := f21_file hk hb hB hI
    obtain ⟨_, _, hn3⟩ := allN_ok hI
    have hS := chans_small (d := d) (D := D) (shape_c hI.shape) hn3 hI.tv
    rw [h1, h2]
    unfold decE
    by_cases hc : chk c d r tags (chans d c.toNat D (allN c d D)) = 0
    · by_cases ht : trackL c d r tags (chans d c.toNat D (allN c d D)) = B
      · left
        rw [decide_eq_true hc, decide_eq_true ht]
        exact ⟨c, d, r, tags, _, hS, hc, ht, rfl, rfl⟩
      · right
        rw [decide_eq_false ht, Bool.and_false]
        exact ⟨rfl, rfl⟩
    · right
      rw [decide_eq_false hc, Bool.false_and]
      exact ⟨rfl, rfl⟩
  · right
    have hI : ∀ c d r tags D, ¬ IsFile B c d r tags D := fun c d r tags D h => hex ⟨c, d, r, tags, D, h⟩
    exact ⟨f18_none hk hb hB hI, f21_none hk hb hB hI⟩

theorem skims {k : Nat} (hk : 16777216 ≤ k) {B : List Int} (hb : B.length ≤ 524288) (hB : Byt B) : ∃ c d r n e, f14_F k (B, ()) = some (((c, d, r, ()), n, e, ()), ()) ∧ f22_F k (bytesOf B, ()) = some (((c, d, r, ()), n, e, ()), ()) := by
  by_cases hex : ∃ c d r tags D, IsFile B c d r tags D
  · obtain ⟨c, d, r, tags, D, hI⟩ := hex
    exact ⟨_, _, _, _, _, f14_file hk (by omega) hB hI, f22_file hk hb hB hI⟩
  · have hI : ∀ c d r tags D, ¬ IsFile B c d r tags D := fun c d r tags D h => hex ⟨c, d, r, tags, D, h⟩
    exact ⟨_, _, _, _, _, f14_none hk (by omega) hB hI, f22_none hk hb hB hI⟩

theorem f6_spec {k : Nat} (hk : 16777216 ≤ k) (B : List Int) (hB : Byt B) : f6_F k (B, ()) = some (true, ()) := by
  show f6_raw0 k (B, ()) = _
  simp only [f6_raw0]
  rw [f10_spec hk, Option.bind_some]
  simp only [Bool.not_true, cond_false]
  by_cases h5 : 5000 < B.length
  · rw [cpos (by simp only [Int.ofNat_eq_natCast]; omega)]; rfl
  rw [cneg (by simp only [Int.ofNat_eq_natCast]; omega)]
  rw [show (ByteArray.mk (List.map (fun n => UInt8.ofNat n.toNat) B).toArray) = bytesOf B from rfl]
  obtain ⟨c', d', r', n', e', h14, h22⟩ := skims hk (by omega : B.length ≤ 524288) hB
  have fin : ∀ {c d r e : Int} {tags : List ByteArray} {ch : List (List Int)}, Small tags ch → f18_F k (B, ()) = some ((((c, d, r, ()), tags, ch, ()), e, ()), ()) → f21_F k (bytesOf B, ()) = some ((((c, d, r, ()), tags, ch, ()), e, ()), ()) →
      ((f21_F k (bytesOf B, ())).bind fun y => (f18_F k (B, ())).bind fun y_1 => (f22_F k (bytesOf B, ())).bind fun y_2 => (f14_F k (B, ())).bind fun y_3 => bif y_1.1.2.1 == y.1.2.1 then (f20_F k (((y_1.1.1.1.1, y_1.1.1.1.2.1, y_1.1.1.1.2.2.1, ()), y_1.1.1.2.1, y_1.1.1.2.2.1, ()), ())).bind fun y_4 => (f19_F k (((y_4.1.1.1, y_4.1.1.2.1, y_4.1.1.2.2.1, ()), y_4.1.2.1, y_4.1.2.2.1, ()), ((y.1.1.1.1, y.1.1.1.2.1, y.1.1.1.2.2.1, ()), y.1.1.2.1, y.1.1.2.2.1, ()), ())).bind fun y => bif y.1 then bif decide (y_2.1.1.1 = y_3.1.1.1) && (decide (y_2.1.1.2.1 = y_3.1.1.2.1) && (decide (y_2.1.1.2.2.1 = y_3.1.1.2.2.1) && true)) then bif y_2.1.2.1 == y_3.1.2.1 then some (y_2.1.2.2.1 == y_3.1.2.2.1, ()) else some (false, ()) else some (false, ()) else some (false, ()) else some (false, ())) = some (true, ()) := by
    intro c d r e tags ch hS h18 h21
    rw [h21, Option.bind_some, h18, Option.bind_some, h22, Option.bind_some, h14, Option.bind_some]
    simp only
    rw [int_beq, cpos rfl]
    have h20 : f20_F k (((c, d, r, ()), tags, ch, ()), ()) = some (((c, d, r, ()), tags, ch, ()), ()) := rfl
    rw [h20, Option.bind_some]
    simp only
    rw [f19_refl hk hS, Option.bind_some]
    simp only [decide_true, Bool.and_self, cond_true]
    rw [int_beq, cpos rfl, int_beq, decide_eq_true rfl]
  rcases decode_any hk (by omega : B.length ≤ 524288) hB with ⟨c, d, r, tags, ch, hS, _, _, h18, h21⟩ | ⟨h18, h21⟩
  · exact fin hS h18 h21
  · exact fin (tags := []) (ch := []) ⟨by simp, by simp, by simp, by simp⟩ h18 h21

theorem f5_tail {k : Nat} (hk : 16777216 ≤ k) (B : List Int) (hB : Byt B) :
    (bif decide ((5000 : Int) < Int.ofNat B.length) then some (true, ()) else (f18_F k (B, ())).bind fun y => bif y.1.2.1 != (0 : Int) then bif y.1.2.1 == (2 : Int) then some (Int.ofNat (List.length y.1.1.2.2.1) == (0 : Int), ()) else some (false, ()) else (f12_F k (((y.1.1.1.1, y.1.1.1.2.1, y.1.1.1.2.2.1, ()), y.1.1.2.1, y.1.1.2.2.1, ()), ())).bind fun y => bif y.1.2.1 == (0 : Int) then some ((ByteArray.mk (List.map (fun n => UInt8.ofNat n.toNat) y.1.1).toArray).toList == (ByteArray.mk (List.map (fun n => UInt8.ofNat n.toNat) B).toArray).toList, ()) else some (false, ())) = some (true, ()) := by
  by_cases h5 : 5000 < B.length
  · rw [cpos (by simp only [Int.ofNat_eq_natCast]; omega)]
  rw [cneg (by simp only [Int.ofNat_eq_natCast]; omega)]
  rcases decode_any hk (by omega : B.length ≤ 524288) hB with ⟨c, d, r, tags, ch, hS, hc, ht, h18, _⟩ | ⟨h18, _⟩
  · rw [h18, Option.bind_some]
    simp only
    rw [int_bne, cneg (fun h => h rfl), f12_spec hk hS, Option.bind_some, cpos hc]
    simp only
    rw [int_beq, cpos rfl, ht]
    rw [ba_beq, decide_eq_true rfl]
  · rw [h18, Option.bind_some]
    rfl

theorem f5_spec {k : Nat} (hk : 16777216 ≤ k) {c d r : Int} {tags : List ByteArray} {ch : List (List Int)} (hS : Small tags ch) (B : List Int) (hB : Byt B) : f5_F k (((c, d, r, ()), tags, ch, ()), B, ()) = some (true, ()) := by
  show f5_raw0 k (((c, d, r, ()), tags, ch, ()), B, ()) = _
  simp only [f5_raw0]
  rw [f10_spec hk, Option.bind_some]
  simp only [Bool.not_true, cond_false]
  rw [f13_spec hk hS, Option.bind_some]
  simp only
  rw [f12_spec hk hS, Option.bind_some]
  by_cases hc : chk c d r tags ch = 0
  · rw [cpos hc]
    simp only
    rw [int_beq, cpos rfl]
    have hF := chk_zero.1 hc
    obtain ⟨hI, hcnt, hlen⟩ := hF.file
    have h44 := hI.walk.1
    have hw : IntKind.i64.wrap (Int.ofNat (trackL c d r tags ch).length - 1) = Int.ofNat ((trackL c d r tags ch).length - 1) := by
      rw [w64] <;> simp only [Int.ofNat_eq_natCast] <;> omega
    rw [decode_track hF hk, Option.bind_some, hw, cpos (by simp only [Int.ofNat_eq_natCast]; omega)]
    rw [show (Int.ofNat ((trackL c d r tags ch).length - 1)).toNat = (trackL c d r tags ch).length - 1 from rfl, List.drop_zero]
    rw [f18_none hk (by simp; omega) (byt_take trackL_byt _) (less_none hI (by omega)), Option.bind_some]
    rw [cpos (by omega), cpos (by simp; omega), List.nil_append]
    rw [f18_none hk (by simp; omega) (trackL_byt.app (by intro x hx; simp at hx; omega)) (more_none hI (by omega) 0), Option.bind_some]
    simp only
    rw [int_bne, cneg (fun h => h rfl)]
    have h20 : f20_F k (((c, d, r, ()), tags, ch, ()), ()) = some (((c, d, r, ()), tags, ch, ()), ()) := rfl
    rw [h20, Option.bind_some]
    simp only
    rw [f19_refl hk hS, Option.bind_some]
    simp only [Bool.not_true, cond_false]
    have hd2 : decNone.1.2.1 = 2 := rfl
    rw [hd2, int_bne, cneg (fun h => h rfl)]
    exact f5_tail hk B hB
  · rw [cneg hc]
    simp only
    rw [int_beq, cneg hc]
    exact f5_tail hk B hB

theorem reads_plain : ∀ x : Kd.dens (viewKs [.sl (.int .u8)]), okAll [.sl (.int .u8)] x → bulkAll [.sl (.int .u8)] x ≤ 1048576 → ∃ k u, f6_F k x = some (true, u) := by
  rintro ⟨B, ⟨⟩⟩ ho _
  exact ⟨16777216, (), f6_spec (Nat.le_refl _) B (okB_byt ho.1)⟩
theorem returns_plain : ∀ x : Kd.dens (viewKs [trackT, .sl (.int .u8)]), okAll [trackT, .sl (.int .u8)] x → bulkAll [trackT, .sl (.int .u8)] x ≤ 1048576 → ∃ k u, f5_F k x = some (true, u) := by
  rintro ⟨⟨⟨c, d, r, ⟨⟩⟩, tags, ch, ⟨⟩⟩, B, ⟨⟩⟩ ho hb
  have hb : Ty.bulk trackT ((c, d, r, ()), tags, ch, ()) + _ ≤ 1048576 := hb
  exact ⟨16777216, (), f5_spec (Nat.le_refl _) (track_small (c := c) (d := d) (r := r) (tags := tags) (ch := ch) (by omega)) B (okB_byt ho.2.1)⟩
end Go.Sh
