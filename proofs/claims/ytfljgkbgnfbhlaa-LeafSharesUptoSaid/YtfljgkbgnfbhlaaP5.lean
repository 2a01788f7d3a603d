import Derived.Test.YtfljgkbgnfbhlaaP4
import Derived.Test.YtfljgkbgnfbhlaaS2
set_option linter.unusedSimpArgs false
namespace Go.Sh
open Go Go.Proofs

theorem bulk_cells (l : List Cell) : (l.map (Ty.bulk pairT)).sum = allSz l := by
  induction l with
  | nil => rfl
  | cons c l ih =>
    rw [List.map_cons, List.sum_cons, ih, allSz_cons]
    have : Ty.bulk pairT c = cellSz c := by
      simp only [Ty.bulk, cellSz]; omega
    rw [this]
theorem bulk_node (n : Nd) : Ty.bulk nodeT n = allSz n.2.2.1 + 3 := by
  have := bulk_cells n.2.2.1
  simp only [Ty.bulk] at this ⊢
  omega
theorem node_small {n : Nd} (h : Ty.bulk nodeT n ≤ 1048576) : allSz n.2.2.1 ≤ 1048576 ∧ n.2.2.1.length ≤ 1048576 := by
  rw [bulk_node] at h
  have := len_le_allSz n.2.2.1
  omega

theorem right_one (k v : ByteArray) (f : Int) (h1 : 0 < k.size) (h2 : k.size ≤ 32) (h3 : v.size = 4) (h4 : num4 v ≠ 0) (h5 : 1 ≤ f) (h6 : f < 4294967296) : rightB (true, f, [(k, v, ())], ()) = true := by
  have e1 : ¬ k.size = 0 := by omega
  simp [rightB, chain, cellOk, h2, h3, h4, h5, h6, e1]

theorem f3_ok (k : Nat) (hk : 256 < k) (n : Nd) (key : ByteArray) (c : Int) (hn : n.2.2.1.length ≤ 1048576) : f3_F k (n, key, c, ()) = some (true, ()) := by
  obtain ⟨b, f, l, u⟩ := n
  simp only at hn
  unfold f3_F
  simp only [f3_raw0]
  rw [f9_ok k hk]
  simp only [Option.bind_some, Bool.not_true, cond_false]
  rw [f10_ok k hk, f12_ok k _ (by simp only; omega)]
  simp only [Option.bind_some]
  rw [f11_ok k hk]
  simp only [Option.bind_some]
  rw [int_bne, int_bne, int_bne, cneg (by simp), cneg (by simp), cneg (by simp)]
  have hm : ∃ m : Nat, IntKind.i64.wrap ((1 : Int) + IntKind.i64.wrap ((IntKind.u64.wrap c).tmod (4294967295 : Int))) = (m : Int) ∧ 1 ≤ m ∧ m < 4294967296 := by
    have hu : 0 ≤ IntKind.u64.wrap c := by rw [IntKind.wrap_u64]; omega
    have ht : (IntKind.u64.wrap c).tmod 4294967295 = (IntKind.u64.wrap c) % 4294967295 := by rw [Int.tmod_eq_emod_of_nonneg hu]
    rw [ht]
    have h1 := Int.emod_nonneg (IntKind.u64.wrap c) (show (4294967295 : Int) ≠ 0 by omega)
    have h2 := Int.emod_lt_of_pos (IntKind.u64.wrap c) (show (0 : Int) < 4294967295 by omega)
    rw [w64 (n := IntKind.u64.wrap c % 4294967295) (by omega), w64 (by omega)]
    exact ⟨(1 + IntKind.u64.wrap c % 4294967295).toNat, by omega, by omega, by omega⟩
  obtain ⟨m, hm, m1, m2⟩ := hm
  rw [hm, f13_ok]
  simp only [Option.bind_some]
  have hr := right_one (ByteArray.mk #[OfNat.ofNat (107 : Nat)]) (fourB m) 5 (by decide) (by decide) rfl (by rw [num4_fourB m2]; omega) (by omega) (by omega)
  have hnum := num4_fourB m2
  have hk1 : childB (true, 5, [(ByteArray.mk #[OfNat.ofNat (107 : Nat)], fourB m, ())], ()) (ByteArray.mk #[OfNat.ofNat (107 : Nat)]) = (1, (m : Int), 0, ()) := by
    unfold childB
    rw [hr]
    simp only [cond_true, cnt, sless_irrefl, cond_false, pageOf, Nat.zero_add]
    simp [hnum]
  have hk2 : childB (true, 5, [(ByteArray.mk #[OfNat.ofNat (107 : Nat)], fourB m, ())], ()) (ByteArray.mk #[OfNat.ofNat (106 : Nat)]) = (0, 5, 0, ()) := by
    unfold childB
    rw [hr]
    have : sless (ByteArray.mk #[OfNat.ofNat (106 : Nat)]) (ByteArray.mk #[OfNat.ofNat (107 : Nat)]) = true := by kernel_rfl
    simp only [cond_true, cnt, this, pageOf]
    rfl
  rw [f11_ok k hk, f11_ok k hk, hk1, hk2, f14_ok]
  simp

theorem children_plain : ∀ x : Kd.dens (viewKs [nodeT, .str, .int .i64]), okAll [nodeT, .str, .int .i64] x → bulkAll [nodeT, .str, .int .i64] x ≤ 1048576 → ∃ k u, f3_F k x = some (true, u) := by
  rintro ⟨n, key, c, u⟩ _ hb
  have hb : Ty.bulk nodeT n + (Ty.bulk .str key + (Ty.bulk (.int .i64) c + 0)) ≤ 1048576 := hb
  exact ⟨257, (), f3_ok 257 (by omega) n key c (node_small (by omega)).2⟩
end Go.Sh
