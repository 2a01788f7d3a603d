/-
  Plain words of wav: numbers in bytes.
-/
import Derived.Test.YtlbgcegonmbddaaDoorWP3
set_option linter.unusedSimpArgs false
set_option linter.unusedVariables false
namespace Go.Sh
open Go Go.Proofs

/-- a byte of a number -/
def byteN (n : Int) (j : Nat) : Int := IntKind.u8.wrap (n.fdiv ((2 : Int) ^ (8 * j)))
/-- a number in so many bytes, the lowest first -/
def low (n : Int) (size : Nat) : List Int := (List.range size).map (byteN n)
theorem low_len (n : Int) (size : Nat) : (low n size).length = size := by simp [low]
theorem byteN_raw {size j : Nat} (hs : size ≤ 8) (hj : j < size) : min (IntKind.i64.wrap ((8 : Int) * Int.ofNat j)).toNat 64 = 8 * j := by
  rw [w64 (by simp only [Int.ofNat_eq_natCast]; omega)]; simp only [Int.ofNat_eq_natCast]; omega

theorem f31_spec {k : Nat} (hk : 16777216 ≤ k) (b : List Int) (n : Int) (size : Nat) (hs : size ≤ 8) (hb : b.length ≤ 1073741824) : f31_F k (b, n, Int.ofNat size, ()) = some (b ++ low n size, ()) := by
  show iter (fun L1 => f31_raw1 k L1) k (Int.ofNat size, Int.ofNat 0, n, b) = _
  have key := iter_list_inv (step := fun L1 => f31_raw1 k L1) (A := List Int) (fun i a => (Int.ofNat size, Int.ofNat i, n, a)) (List.range size) (fun l a => some (a ++ l.map (byteN n), ())) (fun i a => a.length ≤ 1073741824 + i)
    (fun L a ha => by
      simp only [f31_raw1, List.length_range]
      rw [cneg (nltR _)]; simp)
    (fun L i hi a ha hL => by
      simp only [List.length_range] at hi
      simp only [f31_raw1]
      rw [cpos (ltR hi), cpos (by rw [w64 (by simp only [Int.ofNat_eq_natCast]; omega)]; simp only [Int.ofNat_eq_natCast]; omega), cpos (by simp only [List.length_singleton]; omega), byteN_raw hs hi, wnext hi (by omega)]
      rw [hL _ (by simp; omega)]
      simp [byteN]) k 0 b (by omega) (by rw [List.length_range]; omega) (by omega)
  rw [key]
  simp [low]

theorem f46_spec {k : Nat} (hk : 16777216 ≤ k) (n : Int) (size : Nat) (hs : size ≤ 8) : f46_F k (n, Int.ofNat size, ()) = some (bytesOf (low n size), ()) := by
  show f46_raw0 k (f46_L1 k) (n, Int.ofNat size, ()) = _
  simp only [f46_raw0]
  rw [cpos (by simp only [Int.ofNat_eq_natCast]; omega)]
  have key := iter_list (step := fun L1 => f46_raw1 k L1) (A := Unit) (fun i _ => (Int.ofNat i, Int.ofNat size, n, (List.range i).map (byteN n) ++ List.replicate (size - i) 0)) (List.range size) (fun _ _ => some (bytesOf (low n size), ()))
    (fun L a => by
      simp only [f46_raw1, List.length_range]
      rw [cneg (nltR _)]; simp [low, bytesOf])
    (fun L i hi a hL => by
      simp only [List.length_range] at hi
      simp only [f46_raw1]
      have hlen : ((List.range i).map (byteN n) ++ List.replicate (size - i) (0 : Int)).length = size := by simp; omega
      rw [cpos (ltR hi), cpos (by rw [w64 (by simp only [Int.ofNat_eq_natCast]; omega)]; simp only [Int.ofNat_eq_natCast]; omega), hlen, cpos (inR hi), cpos (by simp only [Int.ofNat_eq_natCast]; omega), byteN_raw hs hi, wnext hi (by omega)]
      rw [← hL ()]
      congr 1
      simp only [Prod.mk.injEq, true_and]
      have e : (Int.ofNat i).toNat = i := rfl
      rw [e, show size - i = (size - (i + 1)) + 1 by omega, List.replicate_succ, List.range_succ, List.map_append, List.append_assoc]
      rw [List.set_append_right _ _ (by simp)]
      simp [byteN]) k 0 () (by rw [List.length_range]; omega) (by omega)
  simp only [List.range_zero, List.map_nil, List.nil_append, Nat.sub_zero] at key
  exact key
end Go.Sh
