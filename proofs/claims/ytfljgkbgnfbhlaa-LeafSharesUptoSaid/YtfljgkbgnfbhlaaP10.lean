import Derived.Test.YtfljgkbgnfbhlaaP9
set_option linter.unusedSimpArgs false
namespace Go.Sh
open Go Go.Proofs

theorem f6_ok (k : Nat) (n : Nd) (hk : 256 < k) (hn : n.2.2.1.length < k) (hb : n.2.2.1.length ≤ 1048576) : f6_F k (n, ()) = some (true, ()) := by
  obtain ⟨b, f, l, u⟩ := n
  have hsl := splitB_len (b, f, l, ())
  simp only at hn hb hsl
  unfold f6_F
  simp only [f6_raw0]
  rw [f9_ok k hk]
  simp only [Option.bind_some, Bool.not_true, cond_false]
  rw [f21_ok k hk, f12_ok k _ (by simp only; omega)]
  simp only [Option.bind_some]
  rw [f20_ok k hk]
  simp only [Option.bind_some]
  rw [f18_ok]
  simp only [Option.bind_some]
  rw [f17_ok k _ _ (by simp only; omega) (by simp only; omega)]
  simp only [Option.bind_some, decide_true, Bool.not_true, cond_false]
  rw [ba_beq, decide_eq_true rfl]
  simp only [Bool.not_true, cond_false]
  rw [f18_ok]
  simp only [Option.bind_some]
  rw [f17_ok k _ _ (by simp only; omega) (by simp only; omega)]
  simp only [Option.bind_some, decide_true, Bool.not_true, cond_false]
  rw [int_bne, int_bne, cneg (by simp)]
  by_cases he : (splitB (b, f, l, ())).2.2.2.1 = 0
  · rw [cneg (by simp [he])]
    have hr : rightB (b, f, l, ()) = true := by
      cases h : rightB (b, f, l, ()) with
      | true => rfl
      | false => unfold splitB at he; rw [h] at he; simp at he
    obtain ⟨i, hh, hres⟩ := split_halved hr he
    have htop := hh.top
    have hone := hh.one
    have hil : i < l.length := by
      simp only [topOf] at htop; cases b <;> simp at htop <;> omega
    have hms := merge_split hr i hil
    rw [hres]
    have h16 := f16_ok k hk (splitRes (b, f, l, ()) i).1 (splitRes (b, f, l, ()) i).2.1 (splitRes (b, f, l, ()) i).2.2.1
    rw [hms] at h16
    have h16' : f16_F k (((splitRes (b, f, l, ()) i).1.1, (splitRes (b, f, l, ()) i).1.2.1, (splitRes (b, f, l, ()) i).1.2.2.1, ()), (splitRes (b, f, l, ()) i).2.1, ((splitRes (b, f, l, ()) i).2.2.1.1, (splitRes (b, f, l, ()) i).2.2.1.2.1, (splitRes (b, f, l, ()) i).2.2.1.2.2.1, ()), ()) = some (((b, f, l, ()), 0, ()), ()) := h16
    rw [h16']
    simp only [Option.bind_some]
    rw [int_bne, cneg (by simp), f18_ok]
    simp only [Option.bind_some]
    rw [f17_ok k _ _ (by simp only; omega) (by simp only; omega)]
    simp only [Option.bind_some, decide_true, Bool.not_true, cond_false]
    have e5 : l.getD i dflt = l[i] := getD_of hil
    have ch := right_chain hr
    simp only at ch
    have hleft : ∀ c ∈ l.take i, sless c.1 l[i].1 = true := by
      intro c hc
      obtain ⟨j, hj, rfl⟩ := List.getElem_of_mem hc
      rw [List.length_take] at hj
      rw [List.getElem_take]
      exact chain_sorted ch j i (by omega) hil (by omega)
    have hright : ∀ c ∈ l.drop (i + 1), sless l[i].1 c.1 = true := by
      intro c hc
      obtain ⟨j, hj, rfl⟩ := List.getElem_of_mem hc
      rw [List.length_drop] at hj
      rw [List.getElem_drop]
      exact chain_sorted ch i (i + 1 + j) hil (by omega) (by omega)
    have asym : ∀ {x y : ByteArray}, sless x y = true → sless y x = false := by
      intro x y h
      cases h2 : sless y x with
      | false => rfl
      | true => have := sless_trans h h2; rw [sless_irrefl] at this; cases this
    cases b with
    | false =>
      simp only [splitRes, cond_false, e5]
      have l1 : ((Int.ofNat (l.take i).length == (0 : Int))) = false := by rw [int_beq]; exact decide_eq_false (by rw [List.length_take]; simp only [Int.ofNat_eq_natCast]; omega)
      have l2 : ((Int.ofNat (l.drop i).length == (0 : Int))) = false := by rw [int_beq]; exact decide_eq_false (by rw [List.length_drop]; simp only [Int.ofNat_eq_natCast]; omega)
      rw [l1, l2]
      simp only [cond_false]
      refine f6_loop1 k l[i].1 false f (l.take i) false 0 (l.drop i) false f l (by rw [List.length_take]; omega) hleft (f6_L2 k) ?_ (l.take i).length k 0 (by omega) (by omega) (by rw [List.length_take]; omega)
      refine f6_loop2 k l[i].1 false 0 (l.drop i) false f l (by rw [List.length_drop]; omega) ?_ (fun h => by cases h) (l.drop i).length k 0 (by omega) (by omega) (by rw [List.length_drop]; omega)
      intro c hc
      rw [List.drop_eq_getElem_cons hil] at hc
      rcases List.mem_cons.1 hc with rfl | hc
      · exact sless_irrefl _
      · exact asym (hright c hc)
    | true =>
      have hil2 : i + 1 < l.length := by simp only [topOf] at htop; simp at htop; omega
      simp only [splitRes, cond_true, e5]
      have l1 : ((Int.ofNat (l.take i).length == (0 : Int))) = false := by rw [int_beq]; exact decide_eq_false (by rw [List.length_take]; simp only [Int.ofNat_eq_natCast]; omega)
      have l2 : ((Int.ofNat (l.drop (i + 1)).length == (0 : Int))) = false := by rw [int_beq]; exact decide_eq_false (by rw [List.length_drop]; simp only [Int.ofNat_eq_natCast]; omega)
      rw [l1, l2]
      simp only [cond_false]
      refine f6_loop1 k l[i].1 true f (l.take i) true _ (l.drop (i + 1)) true f l (by rw [List.length_take]; omega) hleft (f6_L2 k) ?_ (l.take i).length k 0 (by omega) (by omega) (by rw [List.length_take]; omega)
      refine f6_loop2 k l[i].1 true _ (l.drop (i + 1)) true f l (by rw [List.length_drop]; omega) (fun c hc => asym (hright c hc)) (fun _ c hc h => ?_) (l.drop (i + 1)).length k 0 (by omega) (by omega) (by rw [List.length_drop]; omega)
      have := hright c hc
      rw [h, sless_irrefl] at this
      cases this
  · rw [cpos he]

theorem splits_plain : ∀ x : Kd.dens (viewKs [nodeT]), okAll [nodeT] x → bulkAll [nodeT] x ≤ 1048576 → ∃ k u, f6_F k x = some (true, u) := by
  rintro ⟨n, u⟩ _ hb
  have hb : Ty.bulk nodeT n + 0 ≤ 1048576 := hb
  have := node_small (n := n) (by omega)
  exact ⟨1048577, (), f6_ok 1048577 n (by omega) (by omega) (by omega)⟩
end Go.Sh
