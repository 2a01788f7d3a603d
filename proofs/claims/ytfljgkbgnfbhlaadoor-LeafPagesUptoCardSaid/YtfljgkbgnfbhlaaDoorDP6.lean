import Derived.Test.YtfljgkbgnfbhlaaDoorDP5
set_option linter.unusedSimpArgs false
namespace Go.Sh
open Go Go.Proofs

theorem f17_loop (k : Nat) (b : Bool) (f : Int) (b' : Bool) (f' : Int) (l l' : List Cell) (he : l.length = l'.length) (hl : l.length < 1099511627776) : ∀ (d m j : Nat), l.length - j = d → j ≤ l.length → d < m →
    iter (fun L1 => f17_raw1 k L1) m (Int.ofNat j, b, f, l, b', f', l') = some (decide (l.drop j = l'.drop j), ()) := by
  intro d
  induction d with
  | zero =>
    intro m j hd hj hm
    obtain ⟨m, rfl⟩ := pos_of_lt hm
    obtain rfl : j = l.length := by omega
    simp only [iter_succ, f17_raw1]
    rw [cneg (by simp only [Int.ofNat_eq_natCast]; omega)]
    simp [he]
  | succ d ih =>
    intro m j hd hj hm
    obtain ⟨m, rfl⟩ := pos_of_lt hm
    have hlt : j < l.length := by omega
    have hlt' : j < l'.length := by omega
    have h0 := ih m (j + 1) (by omega) (by omega) (by omega)
    have e1 : IntKind.i64.wrap (Int.ofNat j + 1) = Int.ofNat (j + 1) := by rw [w64 (by simp only [Int.ofNat_eq_natCast]; omega)]; rfl
    simp only [iter_succ, f17_raw1, e1]
    rw [cpos (by simp only [Int.ofNat_eq_natCast]; omega), cpos (by simp only [Int.ofNat_eq_natCast]; omega), cpos (by simp only [Int.ofNat_eq_natCast]; omega), h0]
    rw [show l.getD (Int.ofNat j).toNat (ByteArray.mk #[], ByteArray.mk #[], ()) = l[j] from getD_of hlt, show l'.getD (Int.ofNat j).toNat (ByteArray.mk #[], ByteArray.mk #[], ()) = l'[j] from getD_of hlt']
    rw [List.drop_eq_getElem_cons hlt, List.drop_eq_getElem_cons hlt']
    have e : (decide (l[j].1 = l'[j].1) && (decide (l[j].2.1 = l'[j].2.1) && true)) = decide (l[j] = l'[j]) := by
      rw [Bool.eq_iff_iff]
      simp only [Bool.and_true, Bool.and_eq_true, decide_eq_true_eq]
      constructor
      · rintro ⟨h1, h2⟩; exact Prod.ext h1 (Prod.ext h2 rfl)
      · intro h; rw [h]; exact ⟨rfl, rfl⟩
    rw [e]
    by_cases h : l[j] = l'[j]
    · simp only [List.cons.injEq, h, true_and, decide_true, Bool.not_true, cond_false]
    · simp only [List.cons.injEq, h, false_and, decide_false, Bool.not_false, cond_true]

theorem f17_ok (k : Nat) (n m : Nd) (hk : n.2.2.1.length < k) (hl : n.2.2.1.length < 1099511627776) : f17_F k (n, m, ()) = some (decide (n = m), ()) := by
  obtain ⟨b, f, l, u⟩ := n
  obtain ⟨b', f', l', u'⟩ := m
  simp only at hk hl
  have e : decide ((b, f, l, u) = (b', f', l', u')) = (decide (b = b') && decide (f = f') && decide (l = l')) := by
    rw [Bool.eq_iff_iff]
    simp only [Bool.and_eq_true, decide_eq_true_eq, Prod.mk.injEq, and_true]
    exact ⟨fun ⟨a, b, c⟩ => ⟨⟨a, b⟩, c⟩, fun ⟨⟨a, b⟩, c⟩ => ⟨a, b, c⟩⟩
  rw [e]
  unfold f17_F
  simp only [f17_raw0]
  by_cases hb : b = b'
  · subst hb
    by_cases hf : f = f'
    · subst hf
      by_cases hlen : l.length = l'.length
      · have h := f17_loop k b f b f l l' hlen hl l.length k 0 (by omega) (by omega) hk
        have h : f17_L1 k (0, b, f, l, b, f, l') = some (decide (l = l'), ()) := h
        rw [h]
        simp [hlen]
      · have : (Int.ofNat l.length != Int.ofNat l'.length) = true := by rw [int_bne]; simp only [Int.ofNat_eq_natCast]; exact decide_eq_true (by omega)
        have hne : l ≠ l' := fun h => hlen (by rw [h])
        rw [this]
        simp [hne]
    · have : (f != f') = true := by rw [int_bne]; exact decide_eq_true hf
      rw [this]
      simp [hf]
  · have : (!b == b') = true := by cases b <;> cases b' <;> simp at hb <;> rfl
    rw [this]
    simp [hb]

end Go.Sh
