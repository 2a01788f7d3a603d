import Derived.Test.YtfljgkbgnfbhlaaP5
set_option linter.unusedSimpArgs false
namespace Go.Sh
open Go Go.Proofs

theorem f17_loop (k : Nat) (b : Bool) (f : Int) (b' : Bool) (f' : Int) (l l' : List Cell) (he : l.length = l'.length) (hl : l.length < 1099511627776) : ∀ (d m j : Nat), l.length - j = d → j ≤ l.length → d < m →
    iter (fun L1 => f17_raw1 k L1) m (Int.ofNat j, b, f, l, b', f', l') = some (decide (l.drop j = l'.drop j), ()) := by
  intro d
  induction d with
  | zero =>
    intro m j hd hj hm
    obtain ⟨m, rfl⟩ := pos_of_lt hm
    obtain rfl : j = l.length := by omega
    simp only [iter_succ, f17_raw1]
    rw [cneg (by simp only [Int.ofNat_eq_natCast]; omega)]
    simp [he]
  | succ d ih =>
    intro m j hd hj hm
    obtain ⟨m, rfl⟩ := pos_of_lt hm
    have hlt : j < l.length := by omega
    have hlt' : j < l'.length := by omega
    have h0 := ih m (j + 1) (by omega) (by omega) (by omega)
    have e1 : IntKind.i64.wrap (Int.ofNat j + 1) = Int.ofNat (j + 1) := by rw [w64 (by simp only [Int.ofNat_eq_natCast]; omega)]; rfl
    simp only [iter_succ, f17_raw1, e1]
    rw [cpos (by simp only [Int.ofNat_eq_natCast]; omega), cpos (by simp only [Int.ofNat_eq_natCast]; omega), cpos (by simp only [Int.ofNat_eq_natCast]; omega), h0]
    rw [show l.getD (Int.ofNat j).toNat (ByteArray.mk #[], ByteArray.mk #[], ()) = l[j] from getD_of hlt, show l'.getD (Int.ofNat j).toNat (ByteArray.mk #[], ByteArray.mk #[], ()) = l'[j] from getD_of hlt']
    rw [List.drop_eq_getElem_cons hlt, List.drop_eq_getElem_cons hlt']
    have e : (decide (l[j].1 = l'[j].1) && (decide (l[j].2.1 = l'[j].2.1) && true)) = decide (l[j] = l'[j]) := by
      rw [Bool.eq_iff_iff]
      simp only [Bool.and_true, Bool.and_eq_true, decide_eq_true_eq]
      constructor
      · rintro ⟨h1, h2⟩; exact Prod.ext h1 (Prod.ext h2 rfl)
      · intro h; rw [h]; exact ⟨rfl, rfl⟩
    rw [e]
    by_cases h : l[j] = l'[j]
    · simp only [List.cons.injEq, h, true_and, decide_true, Bool.not_true, cond_false]
    · simp only [List.cons.injEq, h, false_and, decide_false, Bool.not_false, cond_true]

theorem f17_ok (k : Nat) (n m : Nd) (hk : n.2.2.1.length < k) (hl : n.2.2.1.length < 1099511627776) : f17_F k (n, m, ()) = some (decide (n = m), ()) := by
  obtain ⟨b, f, l, u⟩ := n
  obtain ⟨b', f', l', u'⟩ := m
  simp only at hk hl
  have e : decide ((b, f, l, u) = (b', f', l', u')) = (decide (b = b') && decide (f = f') && decide (l = l')) := by
    rw [Bool.eq_iff_iff]
    simp only [Bool.and_eq_true, decide_eq_true_eq, Prod.mk.injEq, and_true]
    exact ⟨fun ⟨a, b, c⟩ => ⟨⟨a, b⟩, c⟩, fun ⟨⟨a, b⟩, c⟩ => ⟨a, b, c⟩⟩
  rw [e]
  unfold f17_F
  simp only [f17_raw0]
  by_cases hb : b = b'
  · subst hb
    by_cases hf : f = f'
    · subst hf
      by_cases hlen : l.length = l'.length
      · have h := f17_loop k b f b f l l' hlen hl l.length k 0 (by omega) (by omega) hk
        have h : f17_L1 k (0, b, f, l, b, f, l') = some (decide (l = l'), ()) := h
        rw [h]
        simp [hlen]
      · have : (Int.ofNat l.length != Int.ofNat l'.length) = true := by rw [int_bne]; simp only [Int.ofNat_eq_natCast]; exact decide_eq_true (by omega)
        have hne : l ≠ l' := fun h => hlen (by rw [h])
        rw [this]
        simp [hne]
    · have : (f != f') = true := by rw [int_bne]; exact decide_eq_true hf
      rw [this]
      simp [hf]
  · have : (!b == b') = true := by cases b <;> cases b' <;> simp at hb <;> rfl
    rw [this]
    simp [hb]

/-- two nodes put together -/
def mergeB (a : Nd) (key : ByteArray) (b : Nd) : Nd × Int × Unit :=
  bif decide (a.1 = b.1) then
    bif rightB a && rightB b then
      bif rightB (a.1, a.2.1, a.2.2.1 ++ (bif a.1 then [(key, fourB b.2.1, ())] else []) ++ b.2.2.1, ()) then ((a.1, a.2.1, a.2.2.1 ++ (bif a.1 then [(key, fourB b.2.1, ())] else []) ++ b.2.2.1, ()), 0, ())
      else ((false, 0, [], ()), 2, ())
    else ((false, 0, [], ()), 2, ())
  else ((false, 0, [], ()), 1, ())

theorem f29_ok (k : Nat) (l : List Cell) (h : l.length < 2147483648) : f29_F k (l, ()) = some (l, ()) := by
  show cloneF (l, ()) = _
  unfold cloneF
  rw [cpos h]
theorem f28_ok (k : Nat) (l : List Cell) (h : l.length < 2147483648) : f28_F k (l, ()) = some (l, ()) := by
  unfold f28_F
  simp only [f28_raw0]
  rw [cpos (by omega)]
  rfl
theorem bnot_beq (a b : Bool) : (!a == b) = !decide (a = b) := by cases a <;> cases b <;> rfl

theorem f16_ok (k : Nat) (hk : 256 < k) (a : Nd) (key : ByteArray) (b : Nd) : f16_F k (a, key, b, ()) = some (mergeB a key b, ()) := by
  obtain ⟨b0, f0, l0, u0⟩ := a
  obtain ⟨b1, f1, l1, u1⟩ := b
  unfold f16_F mergeB
  simp only [f16_raw0]
  rw [f25_ok k _ hk, f25_ok k _ hk, bnot_beq, cnot]
  by_cases hb : b0 = b1
  · subst hb
    simp only [decide_true, cond_true, Option.bind_some, cnot]
    cases h0 : rightB (b0, f0, l0, ()) with
    | false => simp
    | true =>
      cases h1 : rightB (b0, f1, l1, ()) with
      | false => simp
      | true =>
        have hl0 := right_len h0
        have hl1 := right_len h1
        simp only at hl0 hl1
        rw [f29_ok k l0 (by omega)]
        simp only [Option.bind_some, cond_true, Bool.and_self]
        cases b0 with
        | true =>
          rw [f13_ok]
          simp only [Option.bind_some, cond_true]
          rw [cpos (by simp; omega), cpos (by simp; omega), f25_ok k _ hk]
          simp only [Option.bind_some, cnot]
          cases rightB (true, f0, l0 ++ [(key, fourB f1, ())] ++ l1, ()) <;> rfl
        | false =>
          simp only [cond_false, List.append_nil]
          rw [cpos (by omega), f25_ok k _ hk]
          simp only [Option.bind_some, cnot]
          cases rightB (false, f0, l0 ++ l1, ()) <;> rfl
  · simp only [hb, decide_false, cond_false]

theorem f15_ok (k : Nat) (hk : 256 < k) (a : Nd) (key : ByteArray) (b : Nd) : f15_F k (a, key, b, ()) = some (mergeB a key b, ()) := by
  obtain ⟨b0, f0, l0, u0⟩ := a
  obtain ⟨b1, f1, l1, u1⟩ := b
  unfold f15_F mergeB
  simp only [f15_raw0]
  rw [f22_ok k _ hk, f22_ok k _ hk, bnot_beq, cnot]
  by_cases hb : b0 = b1
  · subst hb
    simp only [decide_true, cond_true, Option.bind_some, cnot]
    cases h0 : rightB (b0, f0, l0, ()) with
    | false => simp
    | true =>
      cases h1 : rightB (b0, f1, l1, ()) with
      | false => simp
      | true =>
        have hl0 := right_len h0
        have hl1 := right_len h1
        simp only at hl0 hl1
        rw [f28_ok k l0 (by omega)]
        simp only [Option.bind_some, cond_true, Bool.and_self]
        cases b0 with
        | true =>
          rw [f14_ok]
          simp only [Option.bind_some, cond_true]
          rw [cpos (by simp; omega), cpos (by simp; omega), f22_ok k _ hk]
          simp only [Option.bind_some, cnot]
          cases rightB (true, f0, l0 ++ [(key, fourB f1, ())] ++ l1, ()) <;> rfl
        | false =>
          simp only [cond_false, List.append_nil]
          rw [cpos (by omega), f22_ok k _ hk]
          simp only [Option.bind_some, cnot]
          cases rightB (false, f0, l0 ++ l1, ()) <;> rfl
  · simp only [hb, decide_false, cond_false]

theorem merge_len (a : Nd) (key : ByteArray) (b : Nd) : (mergeB a key b).1.2.2.1.length ≤ 255 := by
  unfold mergeB
  by_cases h : decide (a.1 = b.1) = true
  · rw [h]
    cases rightB a && rightB b with
    | false => simp
    | true =>
      simp only [cond_true]
      cases h2 : rightB (a.1, a.2.1, a.2.2.1 ++ (bif a.1 then [(key, fourB b.2.1, ())] else []) ++ b.2.2.1, ()) with
      | false => simp
      | true => exact right_len h2
  · simp only [Bool.not_eq_true] at h
    rw [h]; simp

theorem f4_ok (k : Nat) (hk : 256 < k) (a : Nd) (key : ByteArray) (b : Nd) (ha : a.2.2.1.length ≤ 1048576) (hb : b.2.2.1.length ≤ 1048576) : f4_F k (a, key, b, ()) = some (true, ()) := by
  obtain ⟨b0, f0, l0, u0⟩ := a
  obtain ⟨b1, f1, l1, u1⟩ := b
  simp only at ha hb
  unfold f4_F
  simp only [f4_raw0]
  rw [f9_ok k hk]
  simp only [Option.bind_some, Bool.not_true, cond_false]
  rw [f15_ok k hk, f12_ok k _ (by simp only; omega), f12_ok k _ (by simp only; omega)]
  simp only [Option.bind_some]
  rw [f16_ok k hk]
  have hm := merge_len (b0, f0, l0, ()) key (b1, f1, l1, ())
  simp only [Option.bind_some]
  generalize mergeB (b0, f0, l0, ()) key (b1, f1, l1, ()) = m at *
  obtain ⟨⟨b2, f2, l2, u2⟩, e2, u3⟩ := m
  simp only at hm
  rw [f18_ok]
  simp only [Option.bind_some]
  rw [f17_ok k _ _ (by simp only; omega) (by simp only; omega)]
  simp

theorem merges_plain : ∀ x : Kd.dens (viewKs [nodeT, .str, nodeT]), okAll [nodeT, .str, nodeT] x → bulkAll [nodeT, .str, nodeT] x ≤ 1048576 → ∃ k u, f4_F k x = some (true, u) := by
  rintro ⟨a, key, b, u⟩ _ hb
  have hb : Ty.bulk nodeT a + (Ty.bulk .str key + (Ty.bulk nodeT b + 0)) ≤ 1048576 := hb
  exact ⟨257, (), f4_ok 257 (by omega) a key b (node_small (by omega)).2 (node_small (by omega)).2⟩
end Go.Sh
