import Derived.Test.YtfljgkbgnfbhlaaDoorDP6
set_option linter.unusedSimpArgs false
namespace Go.Sh
open Go Go.Proofs

theorem fourB_num4 {v : ByteArray} (h : v.size = 4) : fourB (num4 v : Int) = v := by
  obtain ⟨a, b, c, d, rfl⟩ := len4 h
  have hn : num4 ⟨#[a, b, c, d]⟩ = ((a.toNat * 256 + b.toNat) * 256 + c.toNat) * 256 + d.toNat := rfl
  have ha := UInt8.toNat_lt a
  have hb := UInt8.toNat_lt b
  have hc := UInt8.toNat_lt c
  have hd := UInt8.toNat_lt d
  rw [hn]
  generalize hm : ((a.toNat * 256 + b.toNat) * 256 + c.toNat) * 256 + d.toNat = m
  have e : ∀ (m : Nat) (x : UInt8), m % 256 = x.toNat → UInt8.ofNat (IntKind.u8.wrap (m : Int)).toNat = x := by
    intro m x hx
    have : IntKind.u8.wrap (m : Int) = (x.toNat : Int) := by rw [IntKind.wrap_u8]; omega
    rw [this, Int.toNat_natCast]
    exact UInt8.ofNat_toNat
  have dv : ∀ q : Nat, 0 < q → ((m : Int)).fdiv (q : Int) = ((m / q : Nat) : Int) := by
    intro q hq
    rw [Int.fdiv_eq_ediv_of_nonneg _ (by omega)]; rfl
  have d1 := dv 16777216 (by omega)
  have d2 := dv 65536 (by omega)
  have d3 := dv 256 (by omega)
  unfold fourB
  rw [show ((16777216 : Int)) = ((16777216 : Nat) : Int) from rfl, show ((65536 : Int)) = ((65536 : Nat) : Int) from rfl, show ((256 : Int)) = ((256 : Nat) : Int) from rfl, d1, d2, d3,
    e _ a (by omega), e _ b (by omega), e _ c (by omega), e _ d (by omega)]

end Go.Sh
