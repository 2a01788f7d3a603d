/-
  Plain words of wav: tags, and what a track must be.
-/
import Derived.Test.YtlbgcegonmbddaaDoorQ2
import Derived.Test.YtlbgcegonmbddaaDoorW1
set_option linter.unusedSimpArgs false
set_option linter.unusedVariables false
namespace Go.Sh
open Go Go.Proofs

def az (b : UInt8) : Bool := Nat.ble 97 b.toNat && Nat.ble b.toNat 122
def vis (b : UInt8) : Bool := Nat.ble 33 b.toNat && Nat.ble b.toNat 126
/-- what stands behind a name -/
def valL : List UInt8 → Bool
  | b :: v => b == 61 && (!v.isEmpty && v.all vis)
  | [] => false
def tagL (n : Nat) (l : List UInt8) : Bool := bif Nat.beq (l.dropWhile az).length n then false else valL (l.dropWhile az)
def tagV (s : ByteArray) : Bool := Nat.ble 3 s.size && (Nat.ble s.size 12 && tagL s.size s.data.toList)

theorem az_iff (b : UInt8) : az b = decide ((97 : Int) ≤ Int.ofNat b.toNat ∧ Int.ofNat b.toNat ≤ (122 : Int)) := by
  unfold az
  rw [Bool.eq_iff_iff, Bool.and_eq_true, Nat.ble_eq, Nat.ble_eq, decide_eq_true_eq]
  simp only [Int.ofNat_eq_natCast]
  omega

theorem f44_2 (k : Nat) (s : ByteArray) (hs : s.size ≤ 12) (hk : 100 ≤ k) (i : Nat) (hi : i ≤ s.size) : f44_L2 k (Int.ofNat i, s) = some ((s.data.toList.drop i).all vis, ()) := by
  have hl := toList_len s
  refine iter_list (A := Unit) (fun i _ => (Int.ofNat i, s)) s.data.toList (fun l _ => some (l.all vis, ())) (fun L a => ?_) (fun L i hi a hL => ?_) k i () (by omega) (by omega)
  · rw [hl]
    simp only [f44_raw2]
    rw [cneg (nltR _)]
    rfl
  · rw [hl] at hi
    simp only [f44_raw2]
    rw [cpos (ltR hi), cpos (inR hi), cpos (inR hi), getD_at (by omega), wnext hi (by omega), hL ()]
    simp only [List.all_cons, vis]
    generalize s.data.toList[i].toNat = n
    by_cases h1 : (Int.ofNat n < (33 : Int))
    · rw [cpos h1]
      have : Nat.ble 33 n = false := by
        cases hb : Nat.ble 33 n with
        | false => rfl
        | true => have := Nat.le_of_ble_eq_true hb; simp only [Int.ofNat_eq_natCast] at h1; omega
      rw [this]; rfl
    · rw [cneg h1]
      have : Nat.ble 33 n = true := Nat.ble_eq_true_of_le (by simp only [Int.ofNat_eq_natCast] at h1; omega)
      rw [this]
      by_cases h2 : ((126 : Int) < Int.ofNat n)
      · rw [cpos h2]
        have : Nat.ble n 126 = false := by
          cases hb : Nat.ble n 126 with
          | false => rfl
          | true => have := Nat.le_of_ble_eq_true hb; simp only [Int.ofNat_eq_natCast] at h2; omega
        rw [this]; rfl
      · rw [cneg h2]
        have : Nat.ble n 126 = true := Nat.ble_eq_true_of_le (by simp only [Int.ofNat_eq_natCast] at h2; omega)
        rw [this]; rfl

theorem f44_1 (k : Nat) (s : ByteArray) (hs : s.size ≤ 12) (h3 : 3 ≤ s.size) (hk : 100 ≤ k) : f44_L1 k (0, s) = some (tagL s.size s.data.toList, ()) := by
  have hl := toList_len s
  have key := iter_list (step := fun L1 => f44_raw1 k (f44_L2 k) L1) (A := Unit) (fun i _ => (Int.ofNat i, s)) s.data.toList (fun l _ => some (tagL s.size l, ())) (fun L a => ?_) (fun L i hi a hL => ?_) k 0 () (by omega) (by omega)
  · rw [List.drop_zero] at key
    exact key
  · rw [hl]
    simp only [f44_raw1]
    rw [cneg (nltR _), int_beq, cneg (by simp only [Int.ofNat_eq_natCast]; omega), cpos (by rw [w64 (by simp only [Int.ofNat_eq_natCast]; omega)]; simp only [Int.ofNat_eq_natCast]; omega)]
    have : tagL s.size [] = false := by
      unfold tagL
      cases Nat.beq (List.dropWhile az []).length s.size <;> rfl
    rw [this]
  · rw [hl] at hi
    simp only [f44_raw1]
    rw [cpos (ltR hi), cpos (inR hi), cpos (inR hi), getD_at (by omega), wnext hi (by omega), hL ()]
    have hlen : (s.data.toList.drop (i + 1)).length = s.size - (i + 1) := by rw [List.length_drop, hl]
    have hsame : tagL s.size (s.data.toList[i] :: s.data.toList.drop (i + 1)) = bif az s.data.toList[i] then tagL s.size (s.data.toList.drop (i + 1)) else (bif Nat.beq i 0 then false else valL (s.data.toList[i] :: s.data.toList.drop (i + 1))) := by
      unfold tagL
      rw [List.dropWhile_cons]
      cases haz : az s.data.toList[i] with
      | true => rfl
      | false =>
        simp only [Bool.false_eq_true, if_false, cond_false, List.length_cons, hlen]
        have : Nat.beq (s.size - (i + 1) + 1) s.size = Nat.beq i 0 := by
          rw [Bool.eq_iff_iff, Nat.beq_eq, Nat.beq_eq]; omega
        rw [this]
    rw [hsame, az_iff]
    have rest : (bif Int.ofNat i == (0 : Int) then some (false, ()) else bif decide (Int.ofNat s.size ≤ Int.ofNat (i + 1)) then some (false, ()) else bif decide ((0 : Int) ≤ Int.ofNat i ∧ Int.ofNat i < Int.ofNat s.size) then bif Int.ofNat s.data.toList[i].toNat != (61 : Int) then some (false, ()) else f44_L2 k (Int.ofNat (i + 1), s) else none)
        = some ((bif Nat.beq i 0 then false else valL (s.data.toList[i] :: s.data.toList.drop (i + 1))), ()) := by
      rw [int_beq]
      by_cases h0 : i = 0
      · subst h0; rfl
      · rw [cneg (by simp only [Int.ofNat_eq_natCast]; omega)]
        have hb : Nat.beq i 0 = false := by cases hb : Nat.beq i 0 with | false => rfl | true => exact absurd (Nat.eq_of_beq_eq_true hb) h0
        rw [hb]
        simp only [cond_false, valL]
        by_cases h1 : s.size ≤ i + 1
        · rw [cpos (by simp only [Int.ofNat_eq_natCast]; omega)]
          have : s.data.toList.drop (i + 1) = [] := List.drop_eq_nil_of_le (by omega)
          rw [this]; simp
        · rw [cneg (by simp only [Int.ofNat_eq_natCast]; omega), cpos (inR hi), f44_2 k s hs hk _ (by omega), int_bne]
          have hne : (s.data.toList.drop (i + 1)).isEmpty = false := by
            cases hd : s.data.toList.drop (i + 1) with
            | nil => rw [hd] at hlen; simp at hlen; omega
            | cons => rfl
          rw [hne]
          by_cases h2 : s.data.toList[i] = 61
          · rw [h2]; rfl
          · rw [cpos (by
              intro e
              apply h2
              apply UInt8.toNat_inj.1
              simp only [Int.ofNat_eq_natCast] at e
              have : (61 : UInt8).toNat = 61 := rfl
              omega)]
            rw [beq_false_of_ne h2]; rfl
    rw [rest]
    by_cases h1 : (97 : Int) ≤ Int.ofNat s.data.toList[i].toNat
    · rw [cpos h1]
      by_cases h2 : Int.ofNat s.data.toList[i].toNat ≤ (122 : Int)
      · rw [cpos h2, cpos ⟨h1, h2⟩]
      · rw [cneg h2, cneg (fun h => h2 h.2)]
    · rw [cneg h1, cneg (fun h => h1 h.1)]

theorem f44_spec (k : Nat) (s : ByteArray) (hk : 100 ≤ k) : f44_F k (s, ()) = some (tagV s, ()) := by
  show f44_raw0 k (f44_L1 k) (s, ()) = _
  simp only [f44_raw0]
  unfold tagV
  by_cases h1 : s.size < 3
  · rw [cpos (by simp only [Int.ofNat_eq_natCast]; omega)]
    have : Nat.ble 3 s.size = false := by cases hb : Nat.ble 3 s.size with | false => rfl | true => have := Nat.le_of_ble_eq_true hb; omega
    rw [this]; rfl
  · rw [cneg (by simp only [Int.ofNat_eq_natCast]; omega), Nat.ble_eq_true_of_le (show 3 ≤ s.size by omega)]
    by_cases h2 : 12 < s.size
    · rw [cpos (by simp only [Int.ofNat_eq_natCast]; omega)]
      have : Nat.ble s.size 12 = false := by cases hb : Nat.ble s.size 12 with | false => rfl | true => have := Nat.le_of_ble_eq_true hb; omega
      rw [this]; rfl
    · rw [cneg (by simp only [Int.ofNat_eq_natCast]; omega), Nat.ble_eq_true_of_le (show s.size ≤ 12 by omega)]
      exact f44_1 k s (by omega) (by omega) hk
end Go.Sh
