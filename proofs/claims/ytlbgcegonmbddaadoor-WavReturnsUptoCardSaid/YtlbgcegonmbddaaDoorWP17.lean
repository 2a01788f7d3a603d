/-
  Plain words of wav: Slice; WavCuts.
-/
import Derived.Test.YtlbgcegonmbddaaDoorWP16
set_option linter.unusedSimpArgs false
set_option linter.unusedVariables false
namespace Go.Sh
open Go Go.Proofs

/-- these samples aren't there -/
def outside (n a b : Int) : Bool := decide (a < 0 ∨ b < 0 ∨ n < a ∨ n - a < b)
def subL (m : Int) (D : List Int) (a b : Int) : List Int := (D.take ((a + b) * m).toNat).drop (a * m).toNat

theorem outside_chain {α : Type} {n a b : Int} (hn : 0 ≤ n ∧ n ≤ 4096) {x y : α} :
    (bif decide (a < 0) then x else bif decide (b < 0) then x else bif decide (n < a) then x else bif decide (IntKind.i64.wrap (n - a) < b) then x else y) = bif outside n a b then x else y := by
  unfold outside
  by_cases h1 : a < 0
  · rw [cpos h1, cpos (.inl h1)]
  rw [cneg h1]
  by_cases h2 : b < 0
  · rw [cpos h2, cpos (.inr (.inl h2))]
  rw [cneg h2]
  by_cases h3 : n < a
  · rw [cpos h3, cpos (.inr (.inr (.inl h3)))]
  rw [cneg h3, w64 (by omega)]
  by_cases h4 : n - a < b
  · rw [cpos h4, cpos (.inr (.inr (.inr h4)))]
  rw [cneg h4, cneg (by omega)]

theorem inside_mul {n a b m : Int} {L : Nat} (hm : 1 ≤ m ∧ m ≤ 6) (hn : 0 ≤ n ∧ n ≤ 4096) (hL : n * m = L) (ho : outside n a b = false) :
    IntKind.i64.wrap (a * m) = a * m ∧ IntKind.i64.wrap (a + b) = a + b ∧ IntKind.i64.wrap ((a + b) * m) = (a + b) * m ∧ 0 ≤ a * m ∧ a * m ≤ (a + b) * m ∧ (a + b) * m ≤ L ∧ 0 ≤ a ∧ 0 ≤ b ∧ a + b ≤ n := by
  have h := of_decide_eq_false ho
  have h1 : 0 ≤ a * m := Int.mul_nonneg (by omega) (by omega)
  have h2 : a * m ≤ (a + b) * m := Int.mul_le_mul_of_nonneg_right (by omega) (by omega)
  have h3 : (a + b) * m ≤ n * m := Int.mul_le_mul_of_nonneg_right (by omega) (by omega)
  have h4 : n * m ≤ 4096 * 6 := Int.mul_le_mul (by omega) hm.2 (by omega) (by omega)
  exact ⟨w64 (by omega), w64 (by omega), w64 (by omega), h1, h2, by omega, by omega, by omega, by omega⟩

section
variable {k : Nat} (hk : 16777216 ≤ k) {B : List Int} (hb : B.length ≤ 524288) (hB : Byt B) {c d r : Int} {tags : List ByteArray} {D : List Int} (hI : IsFile B c d r tags D) (a b : Int)
include hk hb hB hI
theorem f16_file : f16_F k (B, a, b, ()) = some ((bif outside (cntL c d D) a b then ([], 9, ()) else (fileL c d r tags (subL (c * wideI d) D a b), 0, ())), ()) := by
  have hD := hI.D_len
  have hcn := hI.cnt_ok
  have hbl := shape_b hI.shape
  have htv := hI.tv
  have htl := htv.len
  have ht8 := htv.1
  show f16_raw0 k (B, a, b, ()) = _
  simp only [f16_raw0]
  rw [f33_file hk (by omega) hB hI, Option.bind_some]
  simp only
  rw [int_bne, cneg (fun h => h rfl), f34_spec k hI.shape _ _ (by omega), Option.bind_some, Option.bind_some]
  simp only
  rw [outside_chain ⟨hcn.1, hcn.2.1⟩]
  cases ho : outside (cntL c d D) a b with
  | true => rfl
  | false =>
    simp only [cond_false]
    obtain ⟨w1, w2, w3, q1, q2, q3, _, _, _⟩ := inside_mul hbl ⟨hcn.1, hcn.2.1⟩ hcn.2.2 ho
    rw [f37_spec k (shape_c hI.shape) (shape_d hI.shape), Option.bind_some]
    simp only
    rw [w1, w2, w3, cpos (by simp only [Int.ofNat_eq_natCast]; omega)]
    rw [f32_spec hk hI.shape _ _ (by omega) (by omega) (by simp; omega), Option.bind_some]
    rfl
theorem f15_file : f15_F k (bytesOf B, a, b, ()) = some ((bif outside (cntL c d D) a b then (bytesOf [], 9, ()) else (bytesOf (fileL c d r tags (subL (c * wideI d) D a b)), 0, ())), ()) := by
  have hD := hI.D_len
  have hcn := hI.cnt_ok
  have hbl := shape_b hI.shape
  have htv := hI.tv
  have htl := htv.len
  have ht8 := htv.1
  show f15_raw0 k (bytesOf B, a, b, ()) = _
  simp only [f15_raw0]
  have h35 : f35_F k (bytesOf B, ()) = some (((c, d, r, ()), tags, bytesOf D, true, ()), ()) := f35_file hk hb hB hI
  rw [f22_file hk hb hB hI, Option.bind_some]
  simp only
  rw [int_bne, cneg (fun h => h rfl), outside_chain ⟨hcn.1, hcn.2.1⟩]
  cases ho : outside (cntL c d D) a b with
  | true => rfl
  | false =>
    simp only [cond_false]
    obtain ⟨w1, w2, w3, q1, q2, q3, _, _, _⟩ := inside_mul hbl ⟨hcn.1, hcn.2.1⟩ hcn.2.2 ho
    rw [h35, Option.bind_some, f36_spec k (shape_d hI.shape), Option.bind_some]
    simp only
    rw [w64 (n := c * wideI d) (by omega), w1, w2, w3, bytesOf_size, cpos (by simp only [Int.ofNat_eq_natCast]; omega), extract_bytesOf]
    rw [f27_spec hk hI.shape _ _ (by omega) (by omega) (by simp; omega), Option.bind_some]
    rfl
end
theorem f16_none {k : Nat} (hk : 16777216 ≤ k) {B : List Int} (hb : B.length ≤ 524288) (hB : Byt B) (hI : ∀ c d r tags D, ¬ IsFile B c d r tags D) (a b : Int) : f16_F k (B, a, b, ()) = some (([], 2, ()), ()) := by
  show f16_raw0 k (B, a, b, ()) = _
  simp only [f16_raw0]
  rw [f33_none hk (by omega) hB hI, Option.bind_some]
  rfl
theorem f15_none {k : Nat} (hk : 16777216 ≤ k) {B : List Int} (hb : B.length ≤ 524288) (hB : Byt B) (hI : ∀ c d r tags D, ¬ IsFile B c d r tags D) (a b : Int) : f15_F k (bytesOf B, a, b, ()) = some ((bytesOf [], 2, ()), ()) := by
  show f15_raw0 k (bytesOf B, a, b, ()) = _
  simp only [f15_raw0]
  rw [f22_none hk hb hB hI, Option.bind_some]
  rfl

/-! parts of a track -/
theorem flat_take {α : Type} (f : α → List Int) (m : Nat) : ∀ (l : List α) (b : Nat), (∀ x ∈ l, (f x).length = m) → (l.flatMap f).take (b * m) = (l.take b).flatMap f
  | [], b, _ => by simp
  | x :: l, 0, _ => by simp
  | x :: l, b + 1, h => by
    rw [List.flatMap_cons, List.take_succ_cons, List.flatMap_cons, Nat.add_mul, Nat.one_mul, Nat.add_comm, ← h x (by simp), List.take_length_add_append, h x (by simp), flat_take f m l b (fun y hy => h y (by simp [hy]))]
theorem flat_drop {α : Type} (f : α → List Int) (m : Nat) : ∀ (l : List α) (b : Nat), (∀ x ∈ l, (f x).length = m) → (l.flatMap f).drop (b * m) = (l.drop b).flatMap f
  | [], b, _ => by simp
  | x :: l, 0, _ => by simp
  | x :: l, b + 1, h => by
    rw [List.flatMap_cons, List.drop_succ_cons, Nat.add_mul, Nat.one_mul, Nat.add_comm, ← h x (by simp), List.drop_length_add_append, h x (by simp), flat_drop f m l b (fun y hy => h y (by simp [hy]))]

def partCh (ch : List (List Int)) (a b : Nat) : List (List Int) := ch.map fun x => (x.take (a + b)).drop a
theorem rowL_part {d : Int} {ch : List (List Int)} {a b j : Nat} (hj : j < b) : rowL d (partCh ch a b) j = rowL d ch (a + j) := by
  unfold rowL partCh
  rw [List.flatMap_map]
  congr 1
  funext x
  congr 2
  rw [List.getD_eq_getElem?_getD, List.getD_eq_getElem?_getD, List.getElem?_drop, List.getElem?_take_of_lt (by omega)]
theorem dataL_part {d : Int} {ch : List (List Int)} {a b n : Nat} (h : a + b ≤ n) : dataL d (partCh ch a b) b = ((dataL d ch n).take ((a + b) * (ch.length * wideN d))).drop (a * (ch.length * wideN d)) := by
  unfold dataL
  rw [flat_take _ _ _ _ (fun j _ => rowL_len d ch j), flat_drop _ _ _ _ (fun j _ => rowL_len d ch j)]
  have hr : ((List.range n).take (a + b)).drop a = (List.range b).map (a + ·) := by
    apply List.ext_getElem
    · simp; omega
    · intro i h1 h2
      simp
  rw [hr, List.flatMap_map]
  rw [List.flatMap_def, List.flatMap_def]
  congr 1
  apply List.map_congr_left
  intro j hj
  exact rowL_part (List.mem_range.1 hj)

theorem part_fine {c d r : Int} {tags : List ByteArray} {ch : List (List Int)} (hF : Fine c d r tags ch) {a b : Nat} (h : a + b ≤ (ch.getD 0 []).length) : Fine c d r tags (partCh ch a b) ∧ ((partCh ch a b).getD 0 []).length = b ∧ Small tags (partCh ch a b) := by
  have hz := hF.z
  have hcl := hF.cl2
  have hlen : ∀ x ∈ partCh ch a b, x.length = b := by
    intro x hx
    obtain ⟨y, hy, rfl⟩ := List.mem_map.1 hx
    have := (hF.even y hy).2
    simp; omega
  have h0 : ((partCh ch a b).getD 0 []).length = b := by
    cases hch : ch with
    | nil => rw [hch] at hcl; simp at hcl
    | cons y l => rw [← hch]; exact hlen _ (by rw [hch]; simp [partCh])
  refine ⟨⟨hF.shape, hF.tl, hF.tag, by rw [partCh, List.length_map]; exact hF.cl, fun x hx => ?_, fun x hx y hy => ?_⟩, h0, ?_⟩
  · rw [hlen x hx, h0]; exact ⟨by omega, rfl⟩
  · obtain ⟨z, hz, rfl⟩ := List.mem_map.1 hx
    exact hF.sgn z hz y (List.mem_of_mem_take (List.mem_of_mem_drop hy))
  · have := hF.tl
    exact ⟨by omega, fun t ht => by have := (hF.tagsz t ht).2; omega, by rw [partCh, List.length_map]; omega, fun x hx => by have := hlen x hx; omega⟩

theorem f17_spec {k : Nat} (hk : 16777216 ≤ k) {c d r : Int} {tags : List ByteArray} {ch : List (List Int)} (hF : Fine c d r tags ch) {a b : Nat} (h : a + b ≤ (ch.getD 0 []).length) : f17_F k (((c, d, r, ()), tags, ch, ()), Int.ofNat a, Int.ofNat (a + b), ()) = some (((c, d, r, ()), tags, partCh ch a b, ()), ()) := by
  have hcl := hF.cl2
  have hz := hF.z
  show iter (fun L1 => f17_raw1 k L1) k (0, Int.ofNat a, Int.ofNat (a + b), c, d, r, tags, ch, c, d, r, tags, [], 0, 0, 0) = _
  have key := iter_list (step := fun L1 => f17_raw1 k L1) (A := Unit) (fun i _ => (Int.ofNat i, Int.ofNat a, Int.ofNat (a + b), c, d, r, tags, ch, c, d, r, tags, partCh (ch.take i) a b, (0 : Int), (0 : Int), (0 : Int))) ch (fun _ _ => some (((c, d, r, ()), tags, partCh ch a b, ()), ()))
    (fun L _ => by
      simp only [f17_raw1]
      rw [cneg (nltR _), List.take_length])
    (fun L i hi _ hL => by
      simp only [f17_raw1]
      have hl := (hF.even ch[i] (List.getElem_mem _)).2
      rw [cpos (ltR hi), cpos (inR hi), getD_at hi, cpos (by simp only [Int.ofNat_eq_natCast]; omega), cpos (by simp [partCh]; omega), wnext hi (by omega)]
      have e : partCh (ch.take i) a b ++ [List.drop (Int.ofNat a).toNat (List.take (Int.ofNat (a + b)).toNat ch[i])] = partCh (ch.take (i + 1)) a b := by
        rw [List.take_succ_eq_append_getElem hi]
        unfold partCh
        rw [List.map_append]
        rfl
      rw [e]
      exact hL ()) k 0 () (by omega) (by omega)
  exact key

theorem slice_track {c d r : Int} {tags : List ByteArray} {ch : List (List Int)} (hF : Fine c d r tags ch) {a b : Nat} (h : a + b ≤ (ch.getD 0 []).length) :
    fileL c d r tags (subL (c * wideI d) (dataL d ch (ch.getD 0 []).length) (a : Int) (b : Int)) = trackL c d r tags (partCh ch a b) := by
  obtain ⟨_, h2, _⟩ := part_fine hF h
  unfold trackL
  rw [h2, dataL_part h]
  unfold subL
  have h3 := hF.cl
  have h4 := (wideN_eq hF.d24).1
  have e : c * wideI d = ((ch.length * wideN d : Nat) : Int) := by rw [← h3, h4]; simp
  rw [e]
  have e1 : (((a : Int) + (b : Int)) * ((ch.length * wideN d : Nat) : Int)).toNat = (a + b) * (ch.length * wideN d) := by
    rw [← Int.natCast_add, ← Int.natCast_mul, Int.toNat_natCast]
  have e2 : ((a : Int) * ((ch.length * wideN d : Nat) : Int)).toNat = a * (ch.length * wideN d) := by
    rw [← Int.natCast_mul, Int.toNat_natCast]
  rw [e1, e2]

theorem f4_spec {k : Nat} (hk : 16777216 ≤ k) {c d r : Int} {tags : List ByteArray} {ch : List (List Int)} (hS : Small tags ch) (B : List Int) (hB : Byt B) (a b : Int) : f4_F k ((((c, d, r, ()), tags, ch, ()), B, a, b, ()), ()) = some (true, ()) := by
  show f4_raw0 k ((((c, d, r, ()), tags, ch, ()), B, a, b, ()), ()) = _
  simp only [f4_raw0]
  rw [f10_spec hk, Option.bind_some]
  simp only [Bool.not_true, cond_false]
  by_cases h5 : 5000 < B.length
  · rw [cpos (by simp only [Int.ofNat_eq_natCast]; omega)]; rfl
  rw [cneg (by simp only [Int.ofNat_eq_natCast]; omega)]
  rw [show (ByteArray.mk (List.map (fun n => UInt8.ofNat n.toNat) B).toArray) = bytesOf B from rfl]
  -- what both answer is the same
  have same : ∃ x e, f15_F k (bytesOf B, a, b, ()) = some ((bytesOf x, e, ()), ()) ∧ f16_F k (B, a, b, ()) = some ((x, e, ()), ()) := by
    by_cases hI : ∃ c d r tags D, IsFile B c d r tags D
    · obtain ⟨c, d, r, tags, D, hI⟩ := hI
      have h15 := f15_file hk (by omega) hB hI a b
      have h16 := f16_file hk (by omega) hB hI a b
      cases ho : outside (cntL c d D) a b with
      | true => rw [ho] at h15 h16; exact ⟨_, _, h15, h16⟩
      | false => rw [ho] at h15 h16; exact ⟨_, _, h15, h16⟩
    · have hI' : ∀ c d r tags D, ¬ IsFile B c d r tags D := fun c d r tags D h => hI ⟨c, d, r, tags, D, h⟩
      exact ⟨_, _, f15_none hk (by omega) hB hI' a b, f16_none hk (by omega) hB hI' a b⟩
  obtain ⟨x, e, h15, h16⟩ := same
  rw [h15, Option.bind_some, h16, Option.bind_some]
  simp only
  rw [int_bne, cneg (fun h => h rfl), show (ByteArray.mk (List.map (fun n => UInt8.ofNat n.toNat) x).toArray) = bytesOf x from rfl, ba_beq, cnot, cpos rfl]
  rw [f13_spec hk hS, Option.bind_some, f12_spec hk hS, Option.bind_some]
  by_cases h : chk c d r tags ch = 0
  case neg =>
    rw [cneg h]
    simp only
    rw [int_bne, cpos h]
  rw [cpos h]
  have hF := chk_zero.1 h
  obtain ⟨hI, hcnt, hlen⟩ := hF.file
  have hcl := hF.cl2
  have hz := hF.z
  simp only
  rw [int_bne, cneg (fun h => h rfl), cpos (by simp only [Int.ofNat_eq_natCast]; omega)]
  rw [f16_file hk (by omega) trackL_byt hI a b, Option.bind_some, hcnt, outside_chain ⟨by simp only [Int.ofNat_eq_natCast]; omega, by simp only [Int.ofNat_eq_natCast]; omega⟩]
  cases ho : outside (Int.ofNat (ch.getD 0 []).length) a b with
  | true =>
    simp only [cond_true]
    rfl
  | false =>
    simp only [cond_false]
    have hin := of_decide_eq_false ho
    simp only [Int.ofNat_eq_natCast] at hin
    obtain ⟨an, rfl⟩ : ∃ an : Nat, a = (an : Int) := ⟨a.toNat, by omega⟩
    obtain ⟨bn, rfl⟩ : ∃ bn : Nat, b = (bn : Int) := ⟨b.toNat, by omega⟩
    have hab : an + bn ≤ (ch.getD 0 []).length := by omega
    obtain ⟨pF, _, pS⟩ := part_fine hF hab
    have hw : IntKind.i64.wrap ((an : Int) + (bn : Int)) = Int.ofNat (an + bn) := by rw [w64 (by omega)]; simp
    rw [hw, show ((an : Int)) = Int.ofNat an from rfl, f17_spec hk hF hab, Option.bind_some]
    simp only
    rw [f13_spec hk pS, Option.bind_some]
    simp only
    rw [f12_spec hk pS, Option.bind_some, cpos (chk_zero.2 pF)]
    simp only
    rw [int_beq, cpos rfl]
    have := slice_track hF hab
    rw [show (Int.ofNat an) = (an : Int) from rfl, this, cpos rfl]
    rw [show (ByteArray.mk (List.map (fun n => UInt8.ofNat n.toNat) (trackL c d r tags (partCh ch an bn))).toArray) = bytesOf (trackL c d r tags (partCh ch an bn)) from rfl, ba_beq, decide_eq_true rfl]

theorem okB_byt {B : List Int} (h : Ty.ok (.sl (.int .u8)) B) : Byt B := by
  intro x hx
  have : IntKind.u8.min ≤ x ∧ x ≤ IntKind.u8.max := h x hx
  have e1 : IntKind.u8.min = 0 := rfl
  have e2 : IntKind.u8.max = 255 := rfl
  omega
theorem cuts_plain : ∀ x : Kd.dens (viewKs [cuttingT]), okAll [cuttingT] x → bulkAll [cuttingT] x ≤ 1048576 → ∃ k u, f4_F k x = some (true, u) := by
  rintro ⟨⟨⟨⟨c, d, r, ⟨⟩⟩, tags, ch, ⟨⟩⟩, B, a, b, ⟨⟩⟩, ⟨⟩⟩ hok hb
  have hb : (Ty.bulk trackT ((c, d, r, ()), tags, ch, ()) + (Ty.bulk (.sl (.int .u8)) B + (1 + (1 + 0)))) + 0 ≤ 1048576 := hb
  exact ⟨16777216, (), f4_spec (Nat.le_refl _) (track_small (c := c) (d := d) (r := r) (tags := tags) (ch := ch) (by omega)) B (okB_byt hok.1.2.1) a b⟩
end Go.Sh
