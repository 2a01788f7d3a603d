import Derived.Test.YtfljgkbgnfbhlaaDoorDP2
set_option linter.unusedSimpArgs false
namespace Go.Sh
open Go Go.Proofs

theorem chain_mem {b : Bool} : ∀ {l : List Cell} {p : Option ByteArray}, chain b p l = true → ∀ c ∈ l, cellOk b c = true
  | [], _, _, c, hc => by cases hc
  | d :: l, p, h, c, hc => by
    simp only [chain, Bool.and_eq_true] at h
    rcases List.mem_cons.1 hc with rfl | hc
    · exact h.1.1
    · exact chain_mem h.2 c hc
theorem right_chain {n : Nd} (h : rightB n = true) : chain n.1 none n.2.2.1 = true := by
  unfold rightB at h; simp only [Bool.and_eq_true] at h; exact h.2
theorem right_len {n : Nd} (h : rightB n = true) : n.2.2.1.length ≤ 255 := by
  unfold rightB at h; simp only [Bool.and_eq_true, decide_eq_true_eq] at h; exact h.1.1
theorem right_first {n : Nd} (h : rightB n = true) (hb : n.1 = true) : 1 ≤ n.2.1 ∧ n.2.1 < 4294967296 := by
  unfold rightB at h; rw [hb] at h; simp only [Bool.and_eq_true, decide_eq_true_eq, cond_true] at h; exact h.1.2
theorem right_first0 {n : Nd} (h : rightB n = true) (hb : n.1 = false) : n.2.1 = 0 := by
  unfold rightB at h; rw [hb] at h; simp only [Bool.and_eq_true, decide_eq_true_eq, cond_false] at h; exact h.1.2
theorem cellOk_key {b : Bool} {c : Cell} (h : cellOk b c = true) : 0 < c.1.size ∧ c.1.size ≤ 32 := by
  unfold cellOk at h; simp only [Bool.and_eq_true, decide_eq_true_eq] at h; omega
theorem cellOk_val4 {c : Cell} (h : cellOk true c = true) : c.2.1.size = 4 ∧ num4 c.2.1 ≠ 0 := by
  unfold cellOk at h; simp only [Bool.and_eq_true, decide_eq_true_eq, cond_true] at h; exact h.2
theorem cellOk_val {b : Bool} {c : Cell} (h : cellOk b c = true) : c.2.1.size ≤ 48 := by
  cases b
  · unfold cellOk at h; simp only [Bool.and_eq_true, decide_eq_true_eq, cond_false] at h; exact h.2
  · have := cellOk_val4 h; omega

/-- how many keys, from the front, are not above -/
def cnt (key : ByteArray) : List Cell → Nat
  | [] => 0
  | c :: l => bif sless key c.1 then 0 else cnt key l + 1
def dflt : Cell := (ByteArray.mk #[], ByteArray.mk #[], ())
def pageOf (f : Int) (l : List Cell) (i : Nat) : Int := if i = 0 then f else (num4 (l.getD (i - 1) dflt).2.1 : Int)
def childB (n : Nd) (key : ByteArray) : Int × Int × Int × Unit :=
  bif rightB n then (bif n.1 then (Int.ofNat (cnt key n.2.2.1), pageOf n.2.1 n.2.2.1 (cnt key n.2.2.1), 0, ()) else (0, 0, 1, ())) else (0, 0, 2, ())
theorem cnt_le (key : ByteArray) : ∀ (l : List Cell), cnt key l ≤ l.length
  | [] => Nat.le_refl _
  | c :: l => by
    have := cnt_le key l
    simp only [cnt, List.length_cons]
    cases sless key c.1 <;> simp <;> omega

theorem f12_ok (k : Nat) (n : Nd) (h : n.2.2.1.length < 1073741824) : f12_F k (n, ()) = some (n, ()) := by
  obtain ⟨b, f, l, u⟩ := n
  simp only at h
  unfold f12_F
  simp only [f12_raw0]
  rw [show IntKind.i64.wrap (Int.ofNat l.length + 2) = Int.ofNat l.length + 2 from w64 (by simp only [Int.ofNat_eq_natCast]; omega)]
  rw [cpos (by simp only [Int.ofNat_eq_natCast]; omega), cpos (by omega)]
  rfl
theorem f18_ok (k : Nat) (n : Nd) : f18_F k (n, ()) = some (n, ()) := rfl
end Go.Sh
