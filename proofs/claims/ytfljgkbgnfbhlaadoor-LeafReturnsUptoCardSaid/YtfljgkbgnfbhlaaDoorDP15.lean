import Derived.Test.YtfljgkbgnfbhlaaDoorDP14
import Derived.Test.YtfljgkbgnfbhlaaDoorS2
set_option linter.unusedSimpArgs false
namespace Go.Sh
open Go Go.Proofs

theorem docAfter_cases (page : ByteArray) (b : Bool) (f : Int) (acc : List Cell) (o : Option (List Cell × ByteArray)) :
    docAfter page b f acc o = formB ∨ ∃ m, docAfter page b f acc o = (m, 0, ()) ∧ (encB m).2.1 = 0 ∧ (encB m).1 = page := by
  cases o with
  | none => exact .inl rfl
  | some q =>
    obtain ⟨l, r⟩ := q
    simp only [docAfter]
    by_cases h1 : (encB (b, f, acc ++ l, ())).2.1 = 0
    · rw [cpos h1]
      by_cases h2 : (encB (b, f, acc ++ l, ())).1 = page
      · rw [cpos h2]
        exact .inr ⟨_, rfl, h1, h2⟩
      · rw [cneg h2]; exact .inl rfl
    · rw [cneg h1]; exact .inl rfl
theorem dec_cases (page : ByteArray) : decB page = formB ∨ ∃ m, decB page = (m, 0, ()) ∧ (encB m).2.1 = 0 ∧ (encB m).1 = page := by
  rw [← dec_eq]
  unfold docDecB
  by_cases hs : page.size = 256
  · rw [cpos hs]; exact docAfter_cases _ _ _ _ _
  · rw [cneg hs]; exact .inl rfl
theorem enc_ok {n : Nd} (h : (encB n).2.1 = 0) : rightB n = true ∧ nodeSz n ≤ 256 ∧ encB n = (bytesOf (pageInts n), 0, ()) := by
  cases hr : rightB n with
  | false => rw [enc_form hr] at h; cases h
  | true =>
    by_cases h2 : 256 < nodeSz n
    · rw [enc_big hr h2] at h; cases h
    · exact ⟨rfl, by omega, enc_page hr h2⟩
theorem enc_no {n : Nd} (h : (encB n).2.1 ≠ 0) : (encB n).1 = ByteArray.mk #[] := by
  cases hr : rightB n with
  | false => rw [enc_form hr]
  | true =>
    by_cases h2 : 256 < nodeSz n
    · rw [enc_big hr h2]
    · rw [enc_page hr h2] at h; exact absurd rfl h

theorem dec_own {n : Nd} (hr : rightB n = true) (hs : nodeSz n ≤ 256) : decB (bytesOf (pageInts n)) = (n, 0, ()) := by
  obtain ⟨b, f, l, u⟩ := n
  have hsz := page_len hs
  have hn := numsOf_bytesOf (page_byte hr)
  have hl := right_len hr
  simp only at hl
  have hcells : ∀ c ∈ l, c.1.size < 256 ∧ c.2.1.size < 256 := fun c hc => by
    have h1 := chain_mem (right_chain hr) c hc
    have := cellOk_key h1
    have := cellOk_val h1
    omega
  generalize hz : List.replicate (256 - (pageBody (b, f, l, ())).length) (0 : Int) = z
  have hzb : ∀ x ∈ z, 0 ≤ x ∧ x < 256 := by
    intro x hx; rw [← hz] at hx; rw [(List.mem_replicate.1 hx).2]; omega
  have hz0 : noughts (bytesOf z) = true := by
    unfold noughts
    rw [numsOf_bytesOf hzb, List.all_eq_true]
    intro x hx; rw [← hz] at hx; exact decide_eq_true (List.mem_replicate.1 hx).2
  have hfb : ∀ x ∈ l.flatMap encCell ++ z, 0 ≤ x ∧ x < 256 := by
    intro x hx
    rcases List.mem_append.1 hx with hx | hx
    · obtain ⟨d, hd, hx⟩ := List.mem_flatMap.1 hx
      exact encCell_byte (hcells d hd).1 (hcells d hd).2 x hx
    · exact hzb x hx
  have hp := parse_enc l z hcells hzb
  have hpi : pageInts (b, f, l, ()) = [bif b then 2 else 1, Int.ofNat l.length] ++ (bif b then numsOf (fourB f) else []) ++ l.flatMap encCell ++ z := by
    rw [← hz]; rfl
  rw [show pageInts (b, f, l, u) = pageInts (b, f, l, ()) from rfl] at *
  generalize bytesOf (pageInts (b, f, l, ())) = page at *
  rw [hpi] at hn
  have b0 := byteAt_nums page 0
  have b1 := byteAt_nums page 1
  rw [hn] at b0 b1
  simp only [List.cons_append, List.nil_append, List.getD_cons_zero, List.getD_cons_succ] at b0 b1
  have hb1 : byteAt page 1 = l.length := by simp only [Int.ofNat_eq_natCast] at b1; omega
  have hnl := numsOf_len page
  rw [hsz] at hnl
  have hx : numsOf (page.extract 2 256) = (bif b then numsOf (fourB f) else []) ++ l.flatMap encCell ++ z := by
    rw [numsOf_extract, List.take_of_length_le (by omega), hn]
    simp
  cases b with
  | false =>
    simp only [cond_false] at b0 hx
    have hb0 : byteAt page 0 = 1 := by omega
    have hf := right_first0 hr rfl
    simp only at hf
    unfold decB firstOf restOf
    simp only [hsz, hb0, hb1, decide_true, cond_true, Bool.true_or, show decide ((1 : Nat) = 2) = false from rfl, cond_false]
    have he : page.extract 2 256 = bytesOf (l.flatMap encCell ++ z) := by
      apply numsOf_inj
      rw [hx, numsOf_bytesOf hfb]; rfl
    rw [he, hp]
    simp only [afterB, List.nil_append, finalB]
    rw [← hf, show rightB (false, f, l, ()) = true from hr, hz0]
    rfl
  | true =>
    simp only [cond_true] at b0 hx
    have hb0 : byteAt page 0 = 2 := by omega
    obtain ⟨f1, f2⟩ := right_first hr rfl
    simp only at f1 f2
    obtain ⟨m, rfl⟩ : ∃ m : Nat, f = (m : Int) := ⟨f.toNat, by omega⟩
    unfold decB firstOf restOf
    simp only [hsz, hb0, hb1, decide_true, cond_true, Bool.or_true]
    have hes : (page.extract 2 256).size = 254 := by rw [size_extract]; omega
    have hfl : (numsOf (fourB (m : Int))).length = 4 := by rw [numsOf_len, fourB_size]
    have he : (page.extract 2 256).extract 4 254 = bytesOf (l.flatMap encCell ++ z) := by
      apply numsOf_inj
      rw [numsOf_extract, numsOf_bytesOf hfb, List.take_of_length_le (by rw [numsOf_len]; omega), hx, List.append_assoc, ← hfl, List.drop_left]
    have h4 : (page.extract 2 256).extract 0 4 = fourB (m : Int) := by
      apply numsOf_inj
      rw [numsOf_extract, List.drop_zero, hx, List.append_assoc, ← hfl, List.take_left]
    have hnum : num4 (page.extract 2 256) = m := by
      rw [← num4_extract, h4, num4_fourB (by omega)]
    rw [he, hp, hnum]
    simp only [afterB, List.nil_append, finalB]
    rw [show rightB (true, (m : Int), l, ()) = true from hr, hz0]
    rfl

theorem node_cells {n : Nd} (h : rightB n = true) : allSz n.2.2.1 ≤ 20910 := by
  have : ∀ {l : List Cell}, (∀ c ∈ l, cellOk n.1 c = true) → allSz l ≤ 82 * l.length := by
    intro l
    induction l with
    | nil => intro _; exact Nat.le_refl _
    | cons c l ih =>
      intro h
      have h1 := h c (List.mem_cons_self ..)
      have h2 := ih fun c hc => h c (List.mem_cons_of_mem _ hc)
      have h3 := cellOk_key h1
      have h4 := cellOk_val h1
      simp only [allSz_cons, List.length_cons, cellSz]; omega
  have h1 := this (chain_mem (right_chain h))
  have h2 := right_len h
  omega

theorem dec_small (page : ByteArray) : (decB page).1.2.2.1.length ≤ 255 ∧ allSz (decB page).1.2.2.1 ≤ 20910 := by
  rcases dec_cases page with h | ⟨m, h, h1, h2⟩
  · rw [h]; exact ⟨by simp, by simp [allSz_nil]⟩
  · rw [h]
    obtain ⟨hr, _, _⟩ := enc_ok h1
    exact ⟨right_len hr, node_cells hr⟩

theorem f103_ok (k : Nat) (n : Nd) (page : ByteArray) (hk : 256 < k) (hn : n.2.2.1.length < k) (hb : allSz n.2.2.1 ≤ 1048576) : f103_F k (n, page, ()) = some (true, ()) := by
  obtain ⟨b, f, l, u⟩ := n
  have hll := len_le_allSz l
  simp only at hn hb
  unfold f103_F
  simp only [f103_raw0]
  rw [f9_ok k hk]
  simp only [Option.bind_some, Bool.not_true, cond_false]
  by_cases hp : (1000 : Int) < Int.ofNat page.size
  · rw [cpos hp]
  · rw [cneg hp, f106_ok k hk _ (by simp only; omega) hn, f12_ok k _ (by simp only; omega)]
    simp only [Option.bind_some]
    rw [f23_ok k hk _ (by simp only; omega) hn, f109_ok k hk, f110_ok k hk, dec_eq]
    simp only [Option.bind_some]
    rw [ba_beq, decide_eq_true rfl, int_beq, decide_eq_true rfl]
    simp only [cond_true]
    rw [f18_ok]
    simp only [Option.bind_some]
    have hd := dec_small page
    rw [f17_ok k _ _ (by simp only; omega) (by simp only; omega)]
    simp only [Option.bind_some, decide_true, cond_true]
    rw [int_beq, decide_eq_true rfl]
    simp only [cond_true]
    rw [f19_ok k _ (by simp only; omega) (by simp only; omega), f114_ok k _ (by simp only; omega) (by simp only; omega)]
    simp only [Option.bind_some, int_beq, decide_true]

theorem back_part (k : Nat) (page : ByteArray) (hk : 256 < k) : ((f110_F k (page, ())).bind fun y => bif y.1.2.1 != (0 : Int) then bif y.1.2.1 == (2 : Int) then some (Int.ofNat (List.length y.1.1.2.2.1) == (0 : Int), ()) else some (false, ()) else (f23_F k ((y.1.1.1, y.1.1.2.1, y.1.1.2.2.1, ()), ())).bind fun y => bif y.1.2.1 == (0 : Int) then some (ByteArray.toList y.1.1 == page.toList, ()) else some (false, ())) = some (true, ()) := by
  rw [f110_ok k hk]
  simp only [Option.bind_some]
  have hd := dec_small page
  rcases dec_cases page with h | ⟨m, h, h1, h2⟩
  · rw [h]; rfl
  · rw [h] at hd ⊢
    simp only at hd
    simp only
    rw [int_bne, cneg (by simp), f23_ok k hk _ (by simp only; omega) (by simp only; omega)]
    simp only [Option.bind_some]
    have e : ((m.1, m.2.1, m.2.2.1, ()) : Nd) = m := rfl
    rw [e, int_beq, cpos h1, ba_beq, decide_eq_true h2]

theorem f104_ok (k : Nat) (n : Nd) (page : ByteArray) (hk : 256 < k) (hn : n.2.2.1.length < k) (hb : allSz n.2.2.1 ≤ 1048576) : f104_F k (n, page, ()) = some (true, ()) := by
  obtain ⟨b, f, l, u⟩ := n
  have hll := len_le_allSz l
  have hback := back_part k page hk
  simp only at hn hb
  unfold f104_F
  simp only [f104_raw0]
  rw [f9_ok k hk]
  simp only [Option.bind_some, Bool.not_true, cond_false]
  rw [f12_ok k _ (by simp only; omega)]
  simp only [Option.bind_some]
  rw [f23_ok k hk _ (by simp only; omega) hn]
  simp only [Option.bind_some]
  by_cases he : (encB (b, f, l, ())).2.1 = 0
  · obtain ⟨hr, hs, hpg⟩ := enc_ok he
    rw [int_beq, cpos he, hpg]
    simp only
    have h110 := f110_ok k hk (bytesOf (pageInts (b, f, l, ())))
    rw [dec_own hr hs] at h110
    rw [h110]
    simp only [Option.bind_some]
    rw [int_bne, cneg (by simp), f18_ok]
    simp only [Option.bind_some]
    rw [f17_ok k _ _ (by simp only; omega) (by simp only; omega)]
    simp only [Option.bind_some, decide_true, Bool.not_true, cond_false]
    rw [page_len hs, int_bne, cneg (by simp), f19_ok k _ (by simp only; omega) (by simp only; omega)]
    simp only [Option.bind_some]
    rw [cneg (by omega)]
    exact hback
  · rw [int_beq, cneg he, enc_no he, show ((ByteArray.mk #[]).toList == (ByteArray.mk #[]).toList) = true from by rw [ba_beq]; exact decide_eq_true rfl]
    exact hback

theorem bulk_small {n : Nd} {page : ByteArray} (hb : Ty.bulk nodeT n + (Ty.bulk .str page + 0) ≤ 1048576) : allSz n.2.2.1 ≤ 1048576 ∧ n.2.2.1.length < 1048577 := by
  have := node_small (n := n) (by omega)
  omega
theorem pages_plain : ∀ x : Kd.dens (viewKs [nodeT, .str]), okAll [nodeT, .str] x → bulkAll [nodeT, .str] x ≤ 1048576 → ∃ k u, f103_F k x = some (true, u) := by
  rintro ⟨n, page, u⟩ _ hb
  obtain ⟨h1, h2⟩ := bulk_small hb
  exact ⟨1048577, (), f103_ok 1048577 n page (by omega) h2 h1⟩
theorem returns_plain : ∀ x : Kd.dens (viewKs [nodeT, .str]), okAll [nodeT, .str] x → bulkAll [nodeT, .str] x ≤ 1048576 → ∃ k u, f104_F k x = some (true, u) := by
  rintro ⟨n, page, u⟩ _ hb
  obtain ⟨h1, h2⟩ := bulk_small hb
  exact ⟨1048577, (), f104_ok 1048577 n page (by omega) h2 h1⟩
end Go.Sh
