/-
  Plain words of wav: the samples' bytes; Encode.
-/
import Derived.Test.YtlbgcegonmbddaaDoorWP6
set_option linter.unusedSimpArgs false
set_option linter.unusedVariables false
namespace Go.Sh
open Go Go.Proofs

def Byt (l : List Int) : Prop := ∀ x ∈ l, 0 ≤ x ∧ x < 256
theorem Byt.app {a b : List Int} (ha : Byt a) (hb : Byt b) : Byt (a ++ b) := fun x hx => (List.mem_append.1 hx).elim (ha x) (hb x)
theorem byt_u8 (n : Int) : 0 ≤ IntKind.u8.wrap n ∧ IntKind.u8.wrap n < 256 := by rw [IntKind.wrap_u8]; omega
theorem byt_low (n : Int) (s : Nat) : Byt (low n s) := by
  intro x hx
  simp only [low, List.mem_map] at hx
  obtain ⟨j, _, rfl⟩ := hx
  exact byt_u8 _
theorem byt_nums (s : ByteArray) : Byt (numsOf s) := by
  intro x hx
  simp only [numsOf, List.mem_map] at hx
  obtain ⟨b, _, rfl⟩ := hx
  have := b.toNat_lt
  omega
theorem byt_nil : Byt [] := by intro x hx; simp at hx
theorem byt_take {l : List Int} (h : Byt l) (n : Nat) : Byt (l.take n) := fun x hx => h x (List.mem_of_mem_take hx)
theorem byt_drop {l : List Int} (h : Byt l) (n : Nat) : Byt (l.drop n) := fun x hx => h x (List.mem_of_mem_drop hx)
theorem byt_flat {α : Type} {l : List α} {f : α → List Int} (h : ∀ x ∈ l, Byt (f x)) : Byt (l.flatMap f) := by
  intro x hx
  obtain ⟨a, ha, hxa⟩ := List.mem_flatMap.1 hx
  exact h a ha x hxa
theorem numsOf_bytesOf' {l : List Int} (h : Byt l) : numsOf (bytesOf l) = l := by
  unfold numsOf
  show List.map _ (List.map (fun n : Int => UInt8.ofNat n.toNat) l).toArray.toList = l
  rw [List.toList_toArray, List.map_map]
  conv => rhs; rw [← List.map_id l]
  apply List.map_congr_left
  intro x hx
  have := h x hx
  have e : (UInt8.ofNat x.toNat).toNat = x.toNat := UInt8.toNat_ofNat_of_lt' (show x.toNat < UInt8.size by have : UInt8.size = 256 := rfl; omega)
  simp only [Function.comp, e, id]
  omega
theorem bytesOf_inj {a b : List Int} (ha : Byt a) (hb : Byt b) (h : bytesOf a = bytesOf b) : a = b := by
  rw [← numsOf_bytesOf' ha, h, numsOf_bytesOf' hb]

def wideN (d : Int) : Nat := (wideI d).toNat
def sft (d : Int) : Nat := (8 * wideI d - d).toNat
def samp (d x : Int) : Int := bif wideI d == 1 then x * (2 : Int) ^ sft d + 128 else x * (2 : Int) ^ sft d
def rowL (d : Int) (ch : List (List Int)) (j : Nat) : List Int := ch.flatMap fun c => low (samp d (c.getD j 0)) (wideN d)
def dataL (d : Int) (ch : List (List Int)) (n : Nat) : List Int := (List.range n).flatMap (rowL d ch)

/-- samples and shapes are right -/
structure Fine (c d r : Int) (tags : List ByteArray) (ch : List (List Int)) : Prop where
  shape : shapeB c d r = true
  tl : tags.length ≤ 8
  tag : ∀ t ∈ tags, tagV t = true
  cl : Int.ofNat ch.length = c
  even : ∀ x ∈ ch, x.length ≤ 4096 ∧ x.length = (ch.getD 0 []).length
  sgn : ∀ x ∈ ch, ∀ y ∈ x, sgn d y = true
theorem chk_zero {c d r : Int} {tags : List ByteArray} {ch : List (List Int)} : chk c d r tags ch = 0 ↔ Fine c d r tags ch := by
  unfold chk
  constructor
  · intro h
    cases h1 : shapeB c d r with
    | false => rw [h1] at h; cases h
    | true =>
      rw [h1] at h
      simp only [cond_true] at h
      by_cases h2 : 8 < tags.length
      · rw [cpos h2] at h; cases h
      rw [cneg h2] at h
      by_cases h3 : Int.ofNat ch.length = c
      · rw [cneg (fun e => e h3)] at h
        cases h4 : tags.all tagV with
        | false => rw [h4] at h; cases h
        | true =>
          rw [h4] at h
          simp only [cond_true] at h
          cases h5 : ch.all (evenL ch) with
          | false => rw [h5] at h; cases h
          | true =>
            rw [h5] at h
            simp only [cond_true] at h
            cases h6 : ch.all (fun x => x.all (Go.Sh.sgn d)) with
            | false => rw [h6] at h; cases h
            | true => exact ⟨h1, by omega, fun t ht => List.all_eq_true.1 h4 t ht, h3, fun x hx => of_decide_eq_true (List.all_eq_true.1 h5 x hx), fun x hx y hy => List.all_eq_true.1 (List.all_eq_true.1 h6 x hx) y hy⟩
      · rw [cpos h3] at h; cases h
  · intro h
    have h8 := h.tl
    rw [h.shape]
    simp only [cond_true]
    rw [cneg (by omega), cneg (fun e => e h.cl), List.all_eq_true.2 h.tag, List.all_eq_true.2 (show ∀ x ∈ ch, evenL ch x = true from fun x hx => decide_eq_true (h.even x hx)), List.all_eq_true.2 (show ∀ x ∈ ch, (fun x => x.all (Go.Sh.sgn d)) x = true from fun x hx => List.all_eq_true.2 (h.sgn x hx))]
    rfl

section
variable {c d r : Int} {tags : List ByteArray} {ch : List (List Int)} (hF : Fine c d r tags ch)
include hF
theorem Fine.c2 : 1 ≤ c ∧ c ≤ 2 := by have := of_decide_eq_true hF.shape; exact ⟨this.1, this.2.1⟩
theorem Fine.d24 : 4 ≤ d ∧ d ≤ 24 := by have := of_decide_eq_true hF.shape; exact ⟨this.2.2.1, this.2.2.2.1⟩
theorem Fine.tagsz : ∀ t ∈ tags, 3 ≤ t.size ∧ t.size ≤ 12 := fun t ht => by
  have h := hF.tag t ht
  unfold tagV at h
  rw [Bool.and_eq_true, Bool.and_eq_true] at h
  exact ⟨Nat.le_of_ble_eq_true h.1, Nat.le_of_ble_eq_true h.2.1⟩
theorem Fine.cl2 : 1 ≤ ch.length ∧ ch.length ≤ 2 := by
  have h1 := hF.c2
  have h2 := hF.cl
  simp only [Int.ofNat_eq_natCast] at h2
  omega
end
theorem tagsL_len : ∀ (tags : List ByteArray), (∀ t ∈ tags, t.size ≤ 12) → (tagsL tags).length ≤ 13 * tags.length
  | [], _ => by simp [tagsL]
  | t :: l, h => by
    have h1 := h t (by simp)
    have h2 := tagsL_len l (fun t ht => h t (by simp [ht]))
    have h3 : (tagsL (t :: l)).length = 1 + t.size + (tagsL l).length := by
      have : tagsL (t :: l) = tagB t ++ tagsL l := rfl
      rw [this, List.length_append]
      simp [tagB, numsOf_len']; omega
    rw [h3, List.length_cons]
    omega

theorem sgn_bound {d x : Int} (hd : 4 ≤ d ∧ d ≤ 24) (h : sgn d x = true) : -16777216 ≤ x ∧ x ≤ 16777216 := by
  have h1 := of_decide_eq_true h
  have h2 := two_pow (n := (d - 1).toNat) (by omega)
  omega
theorem sft_pow {d : Int} (hd : 4 ≤ d ∧ d ≤ 24) : 1 ≤ (2 : Int) ^ sft d ∧ (2 : Int) ^ sft d ≤ 128 := by
  have hw := wide_ok hd
  have : sft d ≤ 7 := by unfold sft; omega
  have h1 : 1 ≤ 2 ^ sft d := Nat.one_le_two_pow
  have h2 : 2 ^ sft d ≤ 2 ^ 7 := Nat.pow_le_pow_right (by omega) this
  have e : ((2 ^ sft d : Nat) : Int) = (2 : Int) ^ sft d := by simp
  rw [← e]
  omega
theorem sft_raw {d : Int} (hd : 4 ≤ d ∧ d ≤ 24) : 0 ≤ IntKind.i64.wrap (IntKind.i64.wrap ((8 : Int) * wideI d) - d) ∧ min (IntKind.i64.wrap (IntKind.i64.wrap ((8 : Int) * wideI d) - d)).toNat 64 = sft d := by
  have hw := wide_ok hd
  rw [w64 (n := 8 * wideI d) (by omega), w64 (by omega)]
  unfold sft
  omega
theorem mul_bound {x p : Int} (hx : -16777216 ≤ x ∧ x ≤ 16777216) (hp : 1 ≤ p ∧ p ≤ 128) : -2147483648 ≤ x * p ∧ x * p ≤ 2147483648 := by
  have h1 : x * p ≤ 16777216 * p := Int.mul_le_mul_of_nonneg_right hx.2 (by omega)
  have h2 : -16777216 * p ≤ x * p := Int.mul_le_mul_of_nonneg_right hx.1 (by omega)
  omega
/-- the two ways to reckon a sample -/
theorem samp_raw {d x : Int} (hd : 4 ≤ d ∧ d ≤ 24) (h : sgn d x = true) :
    (bif wideI d == 1 then IntKind.i64.wrap (IntKind.i64.wrap (x * (2 : Int) ^ sft d) + 128) else IntKind.i64.wrap (x * (2 : Int) ^ sft d)) = samp d x := by
  have hp := sft_pow hd
  have hb := mul_bound (sgn_bound hd h) hp
  unfold samp
  rw [w64 (n := x * 2 ^ sft d) (by omega), w64 (by omega)]
theorem wideN_eq {d : Int} (hd : 4 ≤ d ∧ d ≤ 24) : wideI d = Int.ofNat (wideN d) ∧ 1 ≤ wideN d ∧ wideN d ≤ 3 := by
  have hw := wide_ok hd
  unfold wideN
  simp only [Int.ofNat_eq_natCast]
  omega
theorem cond_bind {α β : Type} (b : Bool) (x y : Option α) (f : α → Option β) : (bif b then x.bind f else y.bind f) = (bif b then x else y).bind f := by cases b <;> rfl

theorem Fine.z {c d r : Int} {tags : List ByteArray} {ch : List (List Int)} (hF : Fine c d r tags ch) : (ch.getD 0 []).length ≤ 4096 := by
  have hcl := hF.cl2
  cases hch : ch with
  | nil => rw [hch] at hcl; simp at hcl
  | cons x l => exact (hF.even x (by rw [hch]; simp)).1
theorem rowL_len (d : Int) (ch : List (List Int)) (j : Nat) : (rowL d ch j).length = ch.length * wideN d := by
  unfold rowL
  induction ch with
  | nil => simp
  | cons x l ih => rw [List.flatMap_cons, List.length_append, ih, low_len, List.length_cons, Nat.add_mul]; omega

section ref
variable {k : Nat} (hk : 16777216 ≤ k) {c d r : Int} {tags : List ByteArray} {ch : List (List Int)} (hF : Fine c d r tags ch)
include hk hF
theorem f28_2 (L1 : Int × Int × Int × Int × Int × List ByteArray × List (List Int) × List Int → Option (ByteArray × Unit)) (j : Nat) (hj : j < (ch.getD 0 []).length) (b : List Int) (hb : b.length ≤ 16 * j) :
    f28_L2 k L1 (0, Int.ofNat j, wideI d, c, d, r, tags, ch, b) = L1 (Int.ofNat (j + 1), wideI d, c, d, r, tags, ch, b ++ rowL d ch j) := by
  have hcl := hF.cl2
  have hd := hF.d24
  have hw := wideN_eq hd
  have hz : (ch.getD 0 []).length ≤ 4096 := by
    cases hch : ch with
    | nil => rw [hch] at hcl; simp at hcl
    | cons x l => exact (hF.even x (by rw [hch]; simp)).1
  have key := iter_list_inv (step := fun L2 => f28_raw2 k L1 L2) (A := List Int) (fun i a => (Int.ofNat i, Int.ofNat j, wideI d, c, d, r, tags, ch, a)) ch (fun l a => L1 (Int.ofNat (j + 1), wideI d, c, d, r, tags, ch, a ++ rowL d l j)) (fun i a => a.length ≤ 16 * j + 4 * i)
    (fun L a ha => by
      simp only [f28_raw2]
      rw [cneg (nltR _), wnext hj (by omega)]
      simp [rowL])
    (fun L i hi a ha hL => by
      simp only [f28_raw2]
      have hj' : j < ch[i].length := by rw [(hF.even ch[i] (List.getElem_mem _)).2]; exact hj
      have hs := hF.sgn ch[i] (List.getElem_mem _) ch[i][j] (List.getElem_mem _)
      have hp := sft_pow hd
      have hr := sft_raw hd
      rw [cpos (ltR hi), cpos (inR hi), getD_at hi, cpos (inR hj'), getD_at hj', cpos hr.1, hr.2, Int.one_mul, w64 (n := (2 : Int) ^ sft d) (by omega)]
      have hsr := samp_raw hd hs
      have step : ∀ z : Int, ((f46_F k (z, wideI d, ())).bind fun y => bif decide (a.length + (List.map (fun b => Int.ofNat b.toNat) y.1.data.toList).length < (2147483648 : Nat)) then L (IntKind.i64.wrap (Int.ofNat i + (1 : Int)), Int.ofNat j, wideI d, c, d, r, tags, ch, a ++ List.map (fun b => Int.ofNat b.toNat) y.1.data.toList) else none)
          = L (Int.ofNat (i + 1), Int.ofNat j, wideI d, c, d, r, tags, ch, a ++ numsOf (bytesOf (low z (wideN d)))) := by
        intro z
        have h46 := f46_spec hk z (wideN d) (by omega)
        rw [← hw.1] at h46
        rw [h46, Option.bind_some, wnext hi (by omega)]
        simp only
        have e1 : List.map (fun b => Int.ofNat b.toNat) (bytesOf (low z (wideN d))).data.toList = numsOf (bytesOf (low z (wideN d))) := rfl
        rw [e1, cpos (by rw [numsOf_len', bytesOf_size, low_len]; omega)]
      rw [step, step]
      have hfin : (bif wideI d == 1 then L (Int.ofNat (i + 1), Int.ofNat j, wideI d, c, d, r, tags, ch, a ++ numsOf (bytesOf (low (IntKind.i64.wrap (IntKind.i64.wrap (ch[i][j] * 2 ^ sft d) + 128)) (wideN d)))) else L (Int.ofNat (i + 1), Int.ofNat j, wideI d, c, d, r, tags, ch, a ++ numsOf (bytesOf (low (IntKind.i64.wrap (ch[i][j] * 2 ^ sft d)) (wideN d)))))
          = L (Int.ofNat (i + 1), Int.ofNat j, wideI d, c, d, r, tags, ch, a ++ numsOf (bytesOf (low (samp d ch[i][j]) (wideN d)))) := by
        rw [← hsr]
        cases (wideI d == 1) <;> rfl
      rw [hfin, hL _ (by rw [List.length_append, numsOf_len', bytesOf_size, low_len]; omega)]
      have hn : numsOf (bytesOf (low (samp d ch[i][j]) (wideN d))) = low (samp d ch[i][j]) (wideN d) := numsOf_bytesOf' (byt_low _ _)
      rw [hn]
      have hr2 : rowL d (ch[i] :: ch.drop (i + 1)) j = low (samp d (ch[i].getD j 0)) (wideN d) ++ rowL d (ch.drop (i + 1)) j := rfl
      rw [hr2, List.append_assoc, getD_of hj']) k 0 b (by omega) (by omega) (by omega)
  rw [List.drop_zero] at key
  exact key

theorem f28_spec : f28_F k (((c, d, r, ()), tags, ch, ()), ()) = some (bytesOf (dataL d ch (ch.getD 0 []).length), ()) := by
  have hcl := hF.cl2
  have hd := hF.d24
  have hw := wideN_eq hd
  have hz := hF.z
  show f28_raw0 k (f28_L1 k) (((c, d, r, ()), tags, ch, ()), ()) = _
  simp only [f28_raw0]
  rw [f36_spec k hd, Option.bind_some]
  simp only
  have key := iter_list_inv (step := fun L1 => f28_raw1 k (f28_L2 k L1) L1) (A := List Int) (fun j a => (Int.ofNat j, wideI d, c, d, r, tags, ch, a)) (List.range (ch.getD 0 []).length) (fun l a => some (bytesOf (a ++ l.flatMap (rowL d ch)), ())) (fun j a => a.length ≤ 16 * j)
    (fun L a ha => by
      simp only [f28_raw1, List.length_range]
      rw [cpos (by simp only [Int.ofNat_eq_natCast]; omega), cneg (nltR _)]
      simp [bytesOf])
    (fun L j hj a ha hL => by
      simp only [List.length_range] at hj
      simp only [f28_raw1]
      rw [cpos (by simp only [Int.ofNat_eq_natCast]; omega), cpos (ltR hj), f28_2 hk hF L j hj a ha, hL _ (by
        rw [List.length_append, rowL_len]
        have : ch.length * wideN d ≤ 2 * 3 := Nat.mul_le_mul hcl.2 hw.2.2
        omega)]
      simp) k 0 [] (by simp) (by rw [List.length_range]; omega) (by omega)
  rw [List.drop_zero] at key
  exact key
end ref

theorem dataL_len (d : Int) (ch : List (List Int)) (n : Nat) : (dataL d ch n).length = n * (ch.length * wideN d) := by
  unfold dataL
  have : ∀ l : List Nat, (l.flatMap (rowL d ch)).length = l.length * (ch.length * wideN d) := by
    intro l
    induction l with
    | nil => simp
    | cons x l ih => rw [List.flatMap_cons, List.length_append, ih, rowL_len, List.length_cons, Nat.add_mul]; omega
  rw [this, List.length_range]

/-- the bytes of a track -/
def trackL (c d r : Int) (tags : List ByteArray) (ch : List (List Int)) : List Int := fileL c d r tags (dataL d ch (ch.getD 0 []).length)

theorem Fine.small {c d r : Int} {tags : List ByteArray} {ch : List (List Int)} (hF : Fine c d r tags ch) : tags.length ≤ 1048576 ∧ (tagsL tags).length ≤ 104 ∧ (dataL d ch (ch.getD 0 []).length).length ≤ 24576 := by
  have h1 := hF.tl
  have h2 := tagsL_len tags (fun t ht => (hF.tagsz t ht).2)
  have hw := wideN_eq hF.d24
  have hz := hF.z
  have hcl := hF.cl2
  have h3 : (ch.getD 0 []).length * (ch.length * wideN d) ≤ 4096 * (2 * 3) := Nat.mul_le_mul hz (Nat.mul_le_mul hcl.2 hw.2.2)
  rw [dataL_len]
  omega

/-- DocEncode -/
theorem f11_spec {k : Nat} (hk : 16777216 ≤ k) {c d r : Int} {tags : List ByteArray} {ch : List (List Int)} (hS : Small tags ch) : f11_F k (((c, d, r, ()), tags, ch, ()), ()) =
    some ((bif decide (chk c d r tags ch = 0) then (bytesOf (trackL c d r tags ch), 0, ()) else (bytesOf [], chk c d r tags ch, ())), ()) := by
  show f11_raw0 k (((c, d, r, ()), tags, ch, ()), ()) = _
  simp only [f11_raw0]
  rw [f26_spec hk hS, Option.bind_some, int_bne]
  by_cases h : chk c d r tags ch = 0
  · have hF := chk_zero.1 h
    have hs := hF.small
    rw [cneg (fun e => e h), cpos h, f28_spec hk hF, Option.bind_some, f27_spec hk hF.shape _ _ (by omega) (by omega) (by omega)]
    rfl
  · rw [cpos h, cneg h]; rfl

section prog
variable {k : Nat} (hk : 16777216 ≤ k) {c d r : Int} {tags : List ByteArray} {ch : List (List Int)} (hF : Fine c d r tags ch)
include hk hF
theorem f12_2 (L1 : Int × Int × Int × Int × Int × Int × List ByteArray × List (List Int) × Int × Int × Int × List ByteArray × List Int → Option ((List Int × Int × Unit) × Unit)) (j : Nat) (hj : j < (ch.getD 0 []).length) (b : List Int) (hb : b.length ≤ 16 * j) (n : Int) :
    f12_L2 k L1 (Int.ofNat ch.length, 0, ch, Int.ofNat j, wideI d, Int.ofNat j, n, c, d, r, tags, ch, c, d, r, tags, b) = L1 (n, Int.ofNat (j + 1), wideI d, c, d, r, tags, ch, c, d, r, tags, b ++ rowL d ch j) := by
  have hcl := hF.cl2
  have hd := hF.d24
  have hw := wideN_eq hd
  have hz := hF.z
  have key := iter_list_inv (step := fun L2 => f12_raw2 k L1 L2) (A := List Int) (fun i a => (Int.ofNat ch.length, Int.ofNat i, ch, Int.ofNat j, wideI d, Int.ofNat j, n, c, d, r, tags, ch, c, d, r, tags, a)) ch (fun l a => L1 (n, Int.ofNat (j + 1), wideI d, c, d, r, tags, ch, c, d, r, tags, a ++ rowL d l j)) (fun i a => a.length ≤ 16 * j + 4 * i)
    (fun L a ha => by
      simp only [f12_raw2]
      rw [cneg (nltR _), wnext hj (by omega)]
      simp [rowL])
    (fun L i hi a ha hL => by
      simp only [f12_raw2]
      have hj' : j < ch[i].length := by rw [(hF.even ch[i] (List.getElem_mem _)).2]; exact hj
      have hs := hF.sgn ch[i] (List.getElem_mem _) ch[i][j] (List.getElem_mem _)
      have hr := sft_raw hd
      rw [cpos (ltR hi), cpos (inR hi), getD_at hi, cpos (inR hj'), getD_at hj', cpos hr.1, hr.2]
      have hsr := samp_raw hd hs
      have step : ∀ z : Int, ((f31_F k (a, z, wideI d, ())).bind fun y => L (Int.ofNat ch.length, IntKind.i64.wrap (Int.ofNat i + (1 : Int)), ch, Int.ofNat j, wideI d, Int.ofNat j, n, c, d, r, tags, ch, c, d, r, tags, y.1))
          = L (Int.ofNat ch.length, Int.ofNat (i + 1), ch, Int.ofNat j, wideI d, Int.ofNat j, n, c, d, r, tags, ch, c, d, r, tags, a ++ low z (wideN d)) := by
        intro z
        have h31 := f31_spec hk a z (wideN d) (by omega) (by omega)
        rw [← hw.1] at h31
        rw [h31, Option.bind_some, wnext hi (by omega)]
      rw [step, step]
      have hfin : (bif wideI d == 1 then L (Int.ofNat ch.length, Int.ofNat (i + 1), ch, Int.ofNat j, wideI d, Int.ofNat j, n, c, d, r, tags, ch, c, d, r, tags, a ++ low (IntKind.i64.wrap (IntKind.i64.wrap (ch[i][j] * 2 ^ sft d) + 128)) (wideN d)) else L (Int.ofNat ch.length, Int.ofNat (i + 1), ch, Int.ofNat j, wideI d, Int.ofNat j, n, c, d, r, tags, ch, c, d, r, tags, a ++ low (IntKind.i64.wrap (ch[i][j] * 2 ^ sft d)) (wideN d)))
          = L (Int.ofNat ch.length, Int.ofNat (i + 1), ch, Int.ofNat j, wideI d, Int.ofNat j, n, c, d, r, tags, ch, c, d, r, tags, a ++ low (samp d ch[i][j]) (wideN d)) := by
        rw [← hsr]
        cases (wideI d == 1) <;> rfl
      rw [hfin, hL _ (by rw [List.length_append, low_len]; omega)]
      have hr2 : rowL d (ch[i] :: ch.drop (i + 1)) j = low (samp d (ch[i].getD j 0)) (wideN d) ++ rowL d (ch.drop (i + 1)) j := rfl
      rw [hr2, List.append_assoc, getD_of hj']) k 0 b (by omega) (by omega) (by omega)
  rw [List.drop_zero] at key
  exact key
end prog
/-- Encode -/
theorem f12_spec {k : Nat} (hk : 16777216 ≤ k) {c d r : Int} {tags : List ByteArray} {ch : List (List Int)} (hS : Small tags ch) : f12_F k (((c, d, r, ()), tags, ch, ()), ()) =
    some ((bif decide (chk c d r tags ch = 0) then (trackL c d r tags ch, 0, ()) else ([], chk c d r tags ch, ())), ()) := by
  show f12_raw0 k (f12_L1 k) (((c, d, r, ()), tags, ch, ()), ()) = _
  simp only [f12_raw0]
  rw [f29_spec hk hS, Option.bind_some, int_bne]
  by_cases h : chk c d r tags ch = 0
  · have hF := chk_zero.1 h
    have hs := hF.small
    have hd := hF.d24
    have hcl := hF.cl2
    have hw := wideN_eq hd
    have hz := hF.z
    rw [cneg (fun e => e h), cpos h, f30_spec k hd, Option.bind_some, cpos (by simp only [Int.ofNat_eq_natCast]; omega)]
    simp only
    have key := iter_list_inv (step := fun L1 => f12_raw1 k (f12_L2 k L1) L1) (A := List Int) (fun j a => (Int.ofNat (ch.getD 0 []).length, Int.ofNat j, wideI d, c, d, r, tags, ch, c, d, r, tags, a)) (List.range (ch.getD 0 []).length) (fun l a => some ((fileL c d r tags (a ++ l.flatMap (rowL d ch)), 0, ()), ())) (fun j a => a.length ≤ 16 * j)
      (fun L a ha => by
        simp only [List.length_range] at ha
        simp only [f12_raw1, List.length_range]
        rw [cneg (nltR _), f32_spec hk hF.shape _ _ (by omega) (by omega) (by omega)]
        simp)
      (fun L j hj a ha hL => by
        simp only [List.length_range] at hj
        simp only [f12_raw1]
        rw [cpos (ltR hj), f12_2 hk hF L j hj a ha, hL _ (by
          rw [List.length_append, rowL_len]
          have : ch.length * wideN d ≤ 2 * 3 := Nat.mul_le_mul hcl.2 hw.2.2
          omega)]
        simp) k 0 [] (by simp) (by rw [List.length_range]; omega) (by omega)
    rw [List.drop_zero] at key
    exact key
  · rw [cpos h, cneg h]
end Go.Sh
