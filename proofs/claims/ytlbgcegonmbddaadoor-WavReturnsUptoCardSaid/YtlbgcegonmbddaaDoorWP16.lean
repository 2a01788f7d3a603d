/-
  Plain words of wav: Skim, tune, rings; WavFiles.
-/
import Derived.Test.YtlbgcegonmbddaaDoorWP15
import Derived.Test.YtlbgcegonmbddaaDoorS2
set_option linter.unusedSimpArgs false
set_option linter.unusedVariables false
namespace Go.Sh
open Go Go.Proofs

theorem tagsL_inj : ∀ (a b : List ByteArray), (∀ t ∈ a, tagV t = true) → (∀ t ∈ b, tagV t = true) → tagsL a = tagsL b → a = b
  | [], [], _, _, _ => rfl
  | [], t :: l, _, _, h => by rw [tagsL_cons] at h; simp [tagsL, tagB] at h
  | t :: l, [], _, _, h => by rw [tagsL_cons] at h; simp [tagsL, tagB] at h
  | t :: l, t' :: l', ha, hb, h => by
    have h1 := tagV_size (ha t (by simp))
    have h2 := tagV_size (hb t' (by simp))
    rw [tagsL_cons, tagsL_cons, tagB_eq (by omega), tagB_eq (by omega), List.cons_append, List.cons_append] at h
    obtain ⟨h3, h4⟩ := List.cons.inj h
    have hlen : (numsOf t).length = (numsOf t').length := by rw [numsOf_len', numsOf_len']; omega
    obtain ⟨h5, h6⟩ := List.append_inj h4 hlen
    have : t = t' := by rw [← bytesOf_numsOf' t, h5, bytesOf_numsOf']
    rw [this, tagsL_inj l l' (fun t ht => ha t (by simp [ht])) (fun t ht => hb t (by simp [ht])) h6]

theorem tags_rest {a b : List ByteArray} {x y : List Int} (ha : Tagv a) (hb : Tagv b) (h : tagsPartL a ++ (mData ++ x) = tagsPartL b ++ (mData ++ y)) : a = b ∧ x = y := by
  have w4 : (2 : Int) ^ (8 * 4) = 4294967296 := rfl
  have hal := ha.len
  have hbl := hb.len
  have hp : ∀ t : List ByteArray, t ≠ [] → ∀ z, tagsPartL t ++ z = mTags ++ (low ((tagsL t).length : Int) 4 ++ (tagsL t ++ (padL (tagsL t) ++ z))) := by
    intro t ht z
    unfold tagsPartL
    rw [if_neg ht]; simp [partL]
  by_cases h1 : a = []
  · by_cases h2 : b = []
    · subst h1 h2
      exact ⟨rfl, List.append_cancel_left (show mData ++ x = mData ++ y from h)⟩
    · exfalso
      subst h1
      rw [hp b h2] at h
      have := congrArg (List.take 4) h
      rw [show tagsPartL [] ++ (mData ++ x) = mData ++ x from rfl, take_len (show mData.length = 4 from rfl), take_len (show mTags.length = 4 from rfl)] at this
      exact absurd this (by decide)
  · by_cases h2 : b = []
    · exfalso
      subst h2
      rw [hp a h1] at h
      have := congrArg (List.take 4) h
      rw [show tagsPartL [] ++ (mData ++ y) = mData ++ y from rfl, take_len (show mData.length = 4 from rfl), take_len (show mTags.length = 4 from rfl)] at this
      exact absurd this (by decide)
    · rw [hp a h1, hp b h2] at h
      have h3 := List.append_cancel_left h
      obtain ⟨h4, h5⟩ := List.append_inj h3 (by rw [low_len, low_len])
      have h6 := low_inj (s := 4) (by omega) (by omega) h4
      obtain ⟨h7, h8⟩ := List.append_inj h5 (by omega)
      have h9 := tagsL_inj a b ha.2 hb.2 h7
      subst h9
      exact ⟨rfl, List.append_cancel_left (List.append_cancel_left h8)⟩
theorem IsFile.uniq {B : List Int} {c d r : Int} {tags : List ByteArray} {D : List Int} {c' d' r' : Int} {tags' : List ByteArray} {D' : List Int} (h : IsFile B c d r tags D) (h' : IsFile B c' d' r' tags' D') : c = c' ∧ d = d' ∧ r = r' ∧ tags = tags' ∧ D = D' := by
  have w4 : (2 : Int) ^ (8 * 4) = 4294967296 := rfl
  obtain ⟨_, _, _, _, a1, e, he, a2⟩ := h.walk
  obtain ⟨_, _, _, _, b1, e', he', b2⟩ := h'.walk
  obtain ⟨h1, h2, h3⟩ := form_inj h.shape h'.shape (a1.symm.trans b1)
  obtain ⟨h4, h5⟩ := tags_rest h.tv h'.tv (a2.symm.trans b2)
  obtain ⟨h6, h7⟩ := List.append_inj h5 (by rw [low_len, low_len])
  have g1 := h.D_len
  have g2 := h'.D_len
  have h8 := low_inj (s := 4) (by omega) (by omega) h6
  exact ⟨h1, h2, h3, h4, (List.append_inj h7 (by omega)).1⟩

/-- what look answers of a file, and of none -/
theorem f33_file {k : Nat} (hk : 16777216 ≤ k) {B : List Int} (hb : B.length ≤ 1048576) (hB : Byt B) {c d r : Int} {tags : List ByteArray} {D : List Int} (hI : IsFile B c d r tags D) : f33_F k (B, ()) = some ((((c, d, r, ()), tags, D, ()), 0, ()), ()) := by
  rcases f33_spec hk B hb hB with ⟨c', d', r', tags', D', h, e⟩ | ⟨h, _⟩
  · obtain ⟨rfl, rfl, rfl, rfl, rfl⟩ := hI.uniq h
    exact e
  · exact absurd hI (h _ _ _ _ _)
theorem f33_none {k : Nat} (hk : 16777216 ≤ k) {B : List Int} (hb : B.length ≤ 1048576) (hB : Byt B) (hI : ∀ c d r tags D, ¬ IsFile B c d r tags D) : f33_F k (B, ()) = some lookErr := by
  rcases f33_spec hk B hb hB with ⟨c', d', r', tags', D', h, e⟩ | ⟨_, e⟩
  · exact absurd h (hI _ _ _ _ _)
  · exact e
theorem f35_file {k : Nat} (hk : 16777216 ≤ k) {B : List Int} (hb : B.length ≤ 524288) (hB : Byt B) {c d r : Int} {tags : List ByteArray} {D : List Int} (hI : IsFile B c d r tags D) : f35_F k (bytesOf B, ()) = some (headOk c d r tags D) := by
  rcases f35_spec hk B hb hB with ⟨c', d', r', tags', D', h, e⟩ | ⟨h, _⟩
  · obtain ⟨rfl, rfl, rfl, rfl, rfl⟩ := hI.uniq h
    exact e
  · exact absurd hI (h _ _ _ _ _)
theorem f35_none {k : Nat} (hk : 16777216 ≤ k) {B : List Int} (hb : B.length ≤ 524288) (hB : Byt B) (hI : ∀ c d r tags D, ¬ IsFile B c d r tags D) : f35_F k (bytesOf B, ()) = some headErr := by
  rcases f35_spec hk B hb hB with ⟨c', d', r', tags', D', h, e⟩ | ⟨_, e⟩
  · exact absurd h (hI _ _ _ _ _)
  · exact e

/-- how many samples -/
def cntL (c d : Int) (D : List Int) : Int := (D.length : Int) / (c * wideI d)
theorem IsFile.cnt_ok {B : List Int} {c d r : Int} {tags : List ByteArray} {D : List Int} (h : IsFile B c d r tags D) : 0 ≤ cntL c d D ∧ cntL c d D ≤ 4096 ∧ cntL c d D * (c * wideI d) = D.length := by
  have hb := shape_b h.shape
  refine ⟨Int.ediv_nonneg (by omega) (by omega), h.cnt, ?_⟩
  have h2 := Int.mul_ediv_add_emod (D.length : Int) (c * wideI d)
  rw [h.blk] at h2
  unfold cntL
  rw [Int.mul_comm]; omega
theorem f34_spec (k : Nat) {c d r : Int} (hs : shapeB c d r = true) (tags : List ByteArray) (D : List Int) (hD : D.length ≤ 1048576) : f34_F k (((c, d, r, ()), tags, D, ()), ()) = some (cntL c d D, ()) := by
  show f34_raw0 k (((c, d, r, ()), tags, D, ()), ()) = _
  simp only [f34_raw0]
  have hb := shape_b hs
  rw [f37_spec k (shape_c hs) (shape_d hs), Option.bind_some]
  simp only
  rw [cpos (show ¬ c * wideI d = 0 by omega), Int.tdiv_eq_ediv_of_nonneg (by simp only [Int.ofNat_eq_natCast]; omega)]
  have hq0 : 0 ≤ Int.ofNat D.length / (c * wideI d) := Int.ediv_nonneg (by simp only [Int.ofNat_eq_natCast]; omega) (by omega)
  have hq1 : Int.ofNat D.length / (c * wideI d) ≤ Int.ofNat D.length := Int.ediv_le_self _ (by simp only [Int.ofNat_eq_natCast]; omega)
  rw [w64 (n := Int.ofNat D.length / (c * wideI d)) (by simp only [Int.ofNat_eq_natCast] at *; omega)]
  rfl
theorem f14_file {k : Nat} (hk : 16777216 ≤ k) {B : List Int} (hb : B.length ≤ 1048576) (hB : Byt B) {c d r : Int} {tags : List ByteArray} {D : List Int} (hI : IsFile B c d r tags D) : f14_F k (B, ()) = some (((c, d, r, ()), cntL c d D, 0, ()), ()) := by
  show f14_raw0 k (B, ()) = _
  simp only [f14_raw0]
  have := hI.D_len
  rw [f33_file hk hb hB hI, Option.bind_some]
  simp only
  rw [int_bne, cneg (fun h => h rfl), f34_spec k hI.shape _ _ (by omega), Option.bind_some]
theorem f14_none {k : Nat} (hk : 16777216 ≤ k) {B : List Int} (hb : B.length ≤ 1048576) (hB : Byt B) (hI : ∀ c d r tags D, ¬ IsFile B c d r tags D) : f14_F k (B, ()) = some (((0, 0, 0, ()), 0, 2, ()), ()) := by
  show f14_raw0 k (B, ()) = _
  simp only [f14_raw0]
  rw [f33_none hk hb hB hI, Option.bind_some]
  rfl
theorem f22_file {k : Nat} (hk : 16777216 ≤ k) {B : List Int} (hb : B.length ≤ 524288) (hB : Byt B) {c d r : Int} {tags : List ByteArray} {D : List Int} (hI : IsFile B c d r tags D) : f22_F k (bytesOf B, ()) = some (((c, d, r, ()), cntL c d D, 0, ()), ()) := by
  show f22_raw0 k (bytesOf B, ()) = _
  simp only [f22_raw0]
  have hD := hI.D_len
  have hbl := shape_b hI.shape
  have h35 : f35_F k (bytesOf B, ()) = some (((c, d, r, ()), tags, bytesOf D, true, ()), ()) := f35_file hk hb hB hI
  rw [h35, Option.bind_some]
  simp only
  rw [cnot]
  simp only [cond_true]
  rw [f36_spec k (shape_d hI.shape), Option.bind_some]
  simp only
  rw [w64 (n := c * wideI d) (by omega), cpos (show ¬ c * wideI d = 0 by omega), bytesOf_size, Int.tdiv_eq_ediv_of_nonneg (by simp only [Int.ofNat_eq_natCast]; omega)]
  have hq0 : 0 ≤ Int.ofNat D.length / (c * wideI d) := Int.ediv_nonneg (by simp only [Int.ofNat_eq_natCast]; omega) (by omega)
  have hq1 : Int.ofNat D.length / (c * wideI d) ≤ Int.ofNat D.length := Int.ediv_le_self _ (by simp only [Int.ofNat_eq_natCast]; omega)
  rw [w64 (n := Int.ofNat D.length / (c * wideI d)) (by simp only [Int.ofNat_eq_natCast] at *; omega)]
  rfl
theorem f22_none {k : Nat} (hk : 16777216 ≤ k) {B : List Int} (hb : B.length ≤ 524288) (hB : Byt B) (hI : ∀ c d r tags D, ¬ IsFile B c d r tags D) : f22_F k (bytesOf B, ()) = some (((0, 0, 0, ()), 0, 2, ()), ()) := by
  show f22_raw0 k (bytesOf B, ()) = _
  simp only [f22_raw0]
  rw [f35_none hk hb hB hI, Option.bind_some]
  rfl

/-! tune -/
theorem f13_spec {k : Nat} (hk : 16777216 ≤ k) {c d r : Int} {tags : List ByteArray} {ch : List (List Int)} (hS : Small tags ch) : f13_F k (((c, d, r, ()), tags, ch, ()), ()) = some (((c, d, r, ()), tags, ch, ()), ()) := by
  have htl := hS.tl
  have hcl := hS.cl
  show f13_raw0 k (f13_L1 k) (((c, d, r, ()), tags, ch, ()), ()) = _
  simp only [f13_raw0]
  rw [cpos (by omega), List.nil_append]
  have key := iter_list (step := fun L1 => f13_raw1 k L1) (A := Unit) (fun i _ => (Int.ofNat i, c, d, r, tags, ch, c, d, r, tags, ch.take i, (0 : Int), (0 : Int), (0 : Int))) ch (fun _ _ => some (((c, d, r, ()), tags, ch, ()), ()))
    (fun L a => by
      simp only [f13_raw1]
      rw [cneg (nltR _), List.take_length])
    (fun L i hi a hL => by
      simp only [f13_raw1]
      have hl := hS.chan ch[i] (List.getElem_mem _)
      rw [cpos (ltR hi), cpos (inR hi), getD_at hi, w64 (n := Int.ofNat ch[i].length + 1) (by simp only [Int.ofNat_eq_natCast]; omega), cpos (by simp only [Int.ofNat_eq_natCast]; omega), cpos (inR hi), cpos (by omega), cpos (by rw [List.length_take]; simp; omega), wnext hi (by omega)]
      have e : ch.take i ++ [List.replicate 0 0 ++ ch[i]] = ch.take (i + 1) := by rw [List.take_succ_eq_append_getElem hi]; rfl
      rw [e]
      exact hL ()) k 0 () (by omega) (by omega)
  exact key

theorem trackL_byt {c d r : Int} {tags : List ByteArray} {ch : List (List Int)} : Byt (trackL c d r tags ch) := fileL_byt (byt_flat fun j _ => byt_flat fun x _ => byt_low _ _)
theorem Fine.tv {c d r : Int} {tags : List ByteArray} {ch : List (List Int)} (hF : Fine c d r tags ch) : Tagv tags := ⟨hF.tl, hF.tag⟩
theorem Fine.dlen {c d r : Int} {tags : List ByteArray} {ch : List (List Int)} (hF : Fine c d r tags ch) (n : Nat) : ((dataL d ch n).length : Int) = n * (c * wideI d) := by
  rw [dataL_len]
  have h1 := hF.cl
  have h2 := (wideN_eq hF.d24).1
  rw [← h1, h2]
  simp
theorem Fine.file {c d r : Int} {tags : List ByteArray} {ch : List (List Int)} (hF : Fine c d r tags ch) : IsFile (trackL c d r tags ch) c d r tags (dataL d ch (ch.getD 0 []).length) ∧ cntL c d (dataL d ch (ch.getD 0 []).length) = Int.ofNat (ch.getD 0 []).length ∧ (trackL c d r tags ch).length ≤ 32768 := by
  have hb := shape_b hF.shape
  have hz := hF.z
  have hs := hF.small
  have hcnt : cntL c d (dataL d ch (ch.getD 0 []).length) = Int.ofNat (ch.getD 0 []).length := by
    unfold cntL
    rw [hF.dlen, Int.mul_ediv_cancel _ (by omega)]; rfl
  refine ⟨isFile_of hF.shape hF.tv ?_ ?_ rfl rfl, hcnt, ?_⟩
  · rw [hF.dlen, Int.mul_emod_left]
  · unfold cntL at hcnt
    rw [hcnt]; simp only [Int.ofNat_eq_natCast]; omega
  · unfold trackL
    rw [fileL_len]
    have := tagsPartL_len tags
    omega

theorem small_ring : Small [] [[0, -128, 127]] := ⟨by simp, by simp, by simp, by simp⟩
theorem f10_spec {k : Nat} (hk : 16777216 ≤ k) : f10_F k () = some (true, ()) := by
  show f10_raw0 k () = _
  simp only [f10_raw0]
  rw [f12_spec hk small_ring]
  kernel_rfl

theorem f3_spec {k : Nat} (hk : 16777216 ≤ k) {c d r : Int} {tags : List ByteArray} {ch : List (List Int)} (hS : Small tags ch) : f3_F k (((c, d, r, ()), tags, ch, ()), ()) = some (true, ()) := by
  show f3_raw0 k (((c, d, r, ()), tags, ch, ()), ()) = _
  simp only [f3_raw0]
  rw [f10_spec hk, Option.bind_some]
  simp only [Bool.not_true, cond_false]
  rw [f11_spec hk hS, Option.bind_some, f13_spec hk hS, Option.bind_some]
  simp only
  rw [f12_spec hk hS, Option.bind_some]
  by_cases h : chk c d r tags ch = 0
  · rw [cpos h, cpos h]
    have hF := chk_zero.1 h
    obtain ⟨hI, hcnt, hlen⟩ := hF.file
    simp only
    rw [int_bne, cneg (fun h => h rfl)]
    rw [show (ByteArray.mk (List.map (fun n => UInt8.ofNat n.toNat) (trackL c d r tags ch)).toArray) = bytesOf (trackL c d r tags ch) from rfl, ba_beq, cnot, cpos rfl, cneg (fun h => h rfl)]
    rw [f14_file hk (by omega) trackL_byt hI, Option.bind_some]
    simp only
    rw [int_beq, cpos rfl]
    simp only [decide_true, Bool.and_self, cond_true]
    have := hF.cl2
    rw [cpos (by simp only [Int.ofNat_eq_natCast]; omega), hcnt, int_beq, decide_eq_true rfl]
  · rw [cneg h, cneg h]
    simp only
    rw [int_bne, cneg (fun h => h rfl)]
    rw [show (ByteArray.mk (List.map (fun n => UInt8.ofNat n.toNat) ([] : List Int)).toArray) = bytesOf [] from rfl, ba_beq, cnot, cpos rfl, int_bne, cpos h]

/-! bulk -/
theorem sum_le {α : Type} (f : α → Nat) : ∀ (l : List α), (∀ x ∈ l, 1 ≤ f x) → l.length ≤ (l.map f).sum ∧ ∀ x ∈ l, f x ≤ (l.map f).sum
  | [], _ => by simp
  | a :: l, h => by
    have ih := sum_le f l (fun x hx => h x (by simp [hx]))
    have ha := h a (by simp)
    simp only [List.map_cons, List.sum_cons, List.length_cons]
    refine ⟨by omega, fun x hx => ?_⟩
    rcases List.mem_cons.1 hx with rfl | hx
    · omega
    · have := ih.2 x hx; omega
theorem track_small {c d r : Int} {tags : List ByteArray} {ch : List (List Int)} (h : Ty.bulk trackT ((c, d, r, ()), tags, ch, ()) ≤ 1048576) : Small tags ch := by
  have h1 : (3 : Nat) + (((tags.map (Ty.bulk .str)).sum + 1) + (((ch.map (Ty.bulk (.sl (.int .i64)))).sum + 1) + 0)) ≤ 1048576 := h
  have t := sum_le (Ty.bulk .str) tags (fun x _ => by simp only [Ty.bulk]; omega)
  have s := sum_le (Ty.bulk (.sl (.int .i64))) ch (fun x _ => by simp only [Ty.bulk]; omega)
  refine ⟨by omega, fun x hx => ?_, by omega, fun x hx => ?_⟩
  · have h2 := t.2 x hx
    have h3 : Ty.bulk .str x = x.size + 1 := rfl
    omega
  · have h2 := s.2 x hx
    have h3 : Ty.bulk (.sl (.int .i64)) x = (x.map (Ty.bulk (.int .i64))).sum + 1 := rfl
    have h4 := sum_le (Ty.bulk (.int .i64)) x (fun y _ => by simp only [Ty.bulk]; omega)
    omega
theorem files_plain : ∀ x : Kd.dens (viewKs [trackT]), okAll [trackT] x → bulkAll [trackT] x ≤ 1048576 → ∃ k u, f3_F k x = some (true, u) := by
  rintro ⟨⟨⟨c, d, r, ⟨⟩⟩, tags, ch, ⟨⟩⟩, ⟨⟩⟩ _ hb
  have hb : Ty.bulk trackT ((c, d, r, ()), tags, ch, ()) + 0 ≤ 1048576 := hb
  exact ⟨16777216, (), f3_spec (Nat.le_refl _) (track_small (by omega))⟩
end Go.Sh
