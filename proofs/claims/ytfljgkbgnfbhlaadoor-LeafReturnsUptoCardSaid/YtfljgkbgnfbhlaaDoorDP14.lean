import Derived.Test.YtfljgkbgnfbhlaaDoorDP13
set_option linter.unusedSimpArgs false
namespace Go.Sh
open Go Go.Proofs

theorem bytesOf_fold (l : List Int) : ByteArray.mk (List.map (fun n : Int => UInt8.ofNat n.toNat) l).toArray = bytesOf l := rfl
theorem bytesOf_append (l m : List Int) : bytesOf (l ++ m) = bytesOf l ++ bytesOf m := by
  apply ba_ext
  rw [ByteArray.data_append]
  show (List.map (fun n : Int => UInt8.ofNat n.toNat) (l ++ m)).toArray.toList = ((List.map (fun n : Int => UInt8.ofNat n.toNat) l).toArray ++ (List.map (fun n : Int => UInt8.ofNat n.toNat) m).toArray).toList
  simp
theorem ba_size_append (a b : ByteArray) : (a ++ b).size = a.size + b.size := by
  rw [← bytesOf_numsOf a, ← bytesOf_numsOf b, ← bytesOf_append, bytesOf_size, bytesOf_size, bytesOf_size, List.length_append]

theorem f114_ok (k : Nat) (n : Nd) (hk : n.2.2.1.length < k) (hb : allSz n.2.2.1 ≤ 1099511627776) : f114_F k (n, ()) = some ((nodeSz n : Int), ()) := by
  obtain ⟨b, f, l, u⟩ := n
  simp only at hk hb
  have h := f32_ok k l hk hb
  have e6 : IntKind.i64.wrap (6 + (allSz l : Int)) = ((6 + allSz l : Nat) : Int) := by rw [w64 (by omega)]; omega
  have e2 : IntKind.i64.wrap (2 + (allSz l : Int)) = ((2 + allSz l : Nat) : Int) := by rw [w64 (by omega)]; omega
  cases b
  · simp [f114_F, f114_raw0, h, e2, nodeSz, headSz]
  · simp [f114_F, f114_raw0, h, e6, nodeSz, headSz]

theorem f106_loop (k : Nat) (b : Bool) (f : Int) (l : List Cell) (pre : List Int) (hl : l.length ≤ 255) (hb : pre.length + allSz l ≤ 256) (hc : ∀ c ∈ l, c.1.size ≤ 32 ∧ c.2.1.size ≤ 48) :
    ∀ (d m j : Nat), l.length - j = d → j ≤ l.length → d < m →
    iter (fun L1 => f106_raw1 k L1) m (Int.ofNat j, bytesOf (pre ++ (l.take j).flatMap encCell), b, f, l) =
      some ((bytesOf (pre ++ l.flatMap encCell ++ List.replicate (256 - (pre ++ l.flatMap encCell).length) 0), 0, ()), ()) := by
  intro d
  induction d with
  | zero =>
    intro m j hd hj hm
    obtain ⟨m, rfl⟩ := pos_of_lt hm
    obtain rfl : j = l.length := by omega
    have hlen : (pre ++ l.flatMap encCell).length = pre.length + allSz l := by rw [List.length_append, flat_len]
    simp only [iter_succ, f106_raw1, List.take_length, Int.ofNat_eq_natCast, bytesOf_size, bytesOf_fold]
    generalize hq : pre ++ l.flatMap encCell = q at *
    have e : IntKind.i64.wrap ((256 : Int) - (q.length : Int)) = ((256 - q.length : Nat) : Int) := by rw [w64 (by omega)]; omega
    rw [cneg (by omega), e, cpos (by omega), Int.toNat_natCast, cpos (by simp; omega), ← bytesOf_append]
  | succ d ih =>
    intro m j hd hj hm
    obtain ⟨m, rfl⟩ := pos_of_lt hm
    have hlt : j < l.length := by omega
    have h0 := ih m (j + 1) (by omega) (by omega) (by omega)
    have e1 : IntKind.i64.wrap (Int.ofNat j + 1) = Int.ofNat (j + 1) := by rw [w64 (by simp only [Int.ofNat_eq_natCast]; omega)]; rfl
    have e5 : l.getD (Int.ofNat j).toNat (ByteArray.mk #[], ByteArray.mk #[], ()) = l[j] := getD_of hlt
    have hcj := hc l[j] (List.getElem_mem hlt)
    have hts := allSz_take_succ hlt
    have htl := allSz_take_le l (j + 1)
    have hpl : (pre ++ (l.take j).flatMap encCell).length = pre.length + allSz (l.take j) := by rw [List.length_append, flat_len]
    have hcs : cellSz l[j] = 2 + l[j].1.size + l[j].2.1.size := rfl
    simp only [iter_succ, f106_raw1, e1]
    rw [cpos (by simp only [Int.ofNat_eq_natCast]; omega), cpos (by simp only [Int.ofNat_eq_natCast]; omega), e5]
    rw [wu8 (n := Int.ofNat l[j].1.size) (by simp only [Int.ofNat_eq_natCast]; omega), wu8 (n := Int.ofNat l[j].2.1.size) (by simp only [Int.ofNat_eq_natCast]; omega)]
    rw [bytesOf_fold]
    have e6 : bytesOf (pre ++ (l.take j).flatMap encCell) ++ bytesOf [Int.ofNat l[j].1.size, Int.ofNat l[j].2.1.size] ++ l[j].1 ++ l[j].2.1 = bytesOf (pre ++ (l.take (j + 1)).flatMap encCell) := by
      conv => lhs; rw [← bytesOf_numsOf l[j].1, ← bytesOf_numsOf l[j].2.1]
      simp only [← bytesOf_append]
      rw [List.take_succ_eq_append_getElem hlt, List.flatMap_append]
      simp [encCell, bytesOf_numsOf]
    rw [cpos (by rw [bytesOf_size, bytesOf_size]; simp only [List.length_cons, List.length_nil]; omega), cpos (by rw [ba_size_append, bytesOf_size, bytesOf_size]; simp only [List.length_cons, List.length_nil]; omega),
      cpos (by rw [ba_size_append, ba_size_append, bytesOf_size, bytesOf_size]; simp only [List.length_cons, List.length_nil]; omega), e6]
    exact h0

theorem f106_ok (k : Nat) (hk : 256 < k) (n : Nd) (hb : allSz n.2.2.1 ≤ 1099511627776) (hn : n.2.2.1.length < k) : f106_F k (n, ()) = some (encB n, ()) := by
  obtain ⟨b, f, l, u⟩ := n
  simp only at hb hn
  unfold f106_F
  simp only [f106_raw0]
  rw [f22_ok k _ hk]
  unfold encB
  cases hr : rightB (b, f, l, ()) with
  | false => simp
  | true =>
    simp only [Option.bind_some, Bool.not_true, cond_false, cond_true]
    rw [f114_ok k (b, f, l, ()) hn hb]
    simp only [Option.bind_some]
    by_cases hs : 256 < nodeSz (b, f, l, ())
    · rw [cpos (by omega), cpos (by omega)]
    · have hs2 : nodeSz (b, f, l, ()) = headSz b + allSz l := rfl
      have hl := right_len hr
      simp only at hl
      have hok : ∀ c ∈ l, c.1.size ≤ 32 ∧ c.2.1.size ≤ 48 := fun c hc => ⟨(cellOk_key (chain_mem (right_chain hr) c hc)).2, cellOk_val (chain_mem (right_chain hr) c hc)⟩
      rw [cneg (by omega), cneg (by omega)]
      rw [wu8 (n := Int.ofNat l.length) (by simp only [Int.ofNat_eq_natCast]; omega)]
      cases b with
      | true =>
        simp only [cond_true]
        rw [f14_ok]
        simp only [Option.bind_some]
        rw [bytesOf_fold]
        have e : ByteArray.mk #[OfNat.ofNat (2 : Nat)] ++ bytesOf [Int.ofNat l.length] ++ fourB f = bytesOf (pageHead (true, f, l, ())) := by
          unfold pageHead
          simp only [cond_true]
          rw [bytesOf_append, bytesOf_numsOf]
          rfl
        rw [cpos (by rw [ba_size_append, bytesOf_size, fourB_size]; simp only [List.length_cons, List.length_nil]; show 1 + 1 + 4 < 1099511627776; omega), e]
        have h := f106_loop k true f l (pageHead (true, f, l, ())) hl (by rw [head_len]; show headSz true + allSz l ≤ 256; omega) hok l.length k 0 (by omega) (by omega) (by omega)
        simp only [List.take_zero, List.flatMap_nil, List.append_nil] at h
        exact h
      | false =>
        simp only [cond_false]
        rw [bytesOf_fold]
        have e : ByteArray.mk #[OfNat.ofNat (1 : Nat)] ++ bytesOf [Int.ofNat l.length] = bytesOf (pageHead (false, f, l, ())) := by
          unfold pageHead
          simp only [cond_false, List.append_nil]
          rfl
        rw [e]
        have h := f106_loop k false f l (pageHead (false, f, l, ())) hl (by rw [head_len]; show headSz false + allSz l ≤ 256; omega) hok l.length k 0 (by omega) (by omega) (by omega)
        simp only [List.take_zero, List.flatMap_nil, List.append_nil] at h
        exact h

def docAfter (page : ByteArray) (b : Bool) (f : Int) (acc : List Cell) : Option (List Cell × ByteArray) → Nd × Int × Unit
  | none => formB
  | some (l, _) => bif decide ((encB (b, f, acc ++ l, ())).2.1 = 0) then (bif decide ((encB (b, f, acc ++ l, ())).1 = page) then ((b, f, acc ++ l, ()), 0, ()) else formB) else formB

theorem extract_extract (s : ByteArray) (a b c d : Nat) : (s.extract a b).extract c d = s.extract (a + c) (min b (a + d)) := by
  apply numsOf_inj
  simp only [numsOf_extract]
  rw [List.take_drop, List.drop_drop, List.take_take, Nat.min_comm]

theorem f109_loop (k : Nat) (hk : 256 < k) (page : ByteArray) (hs : page.size = 256) (b : Bool) (f : Int) (n : Nat) (hn : byteAt page 1 = n) : ∀ (d m i p : Nat) (acc : List Cell), n - i = d → i ≤ n → acc.length = i → p ≤ 256 → allSz acc ≤ p → d < m →
    iter (fun L1 => f109_raw1 k L1) m (Int.ofNat i, page, Int.ofNat p, false, 0, b, f, acc) = some (docAfter page b f acc (parse d (page.extract p 256)), ()) := by
  have hn255 : n ≤ 255 := by have := byteAt_lt page 1; omega
  intro d
  induction d with
  | zero =>
    intro m i p acc hd hi ha hp hz hm
    obtain ⟨m, rfl⟩ := pos_of_lt hm
    obtain rfl : i = n := by omega
    simp only [iter_succ, f109_raw1, Int.ofNat_eq_natCast, byteAt_fold]
    simp only [hn]
    rw [w64 (n := (i : Int)) (by omega)]
    rw [cpos (by omega), cneg (by omega), f106_ok k hk (b, f, acc, ()) (by simp only; omega) (by simp only; omega)]
    simp only [Option.bind_some, parse, docAfter, List.append_nil, int_bne, cnot, ba_beq]
    by_cases he : (encB (b, f, acc, ())).2.1 = 0
    · rw [cneg (by simp [he]), cpos he]
      by_cases h2 : (encB (b, f, acc, ())).1 = page
      · rw [cpos h2, cpos h2]
      · rw [cneg h2, cneg h2]
    · rw [cpos he, cneg he]
  | succ d ih =>
    intro m i p acc hd hi ha hp hz hm
    obtain ⟨m, rfl⟩ := pos_of_lt hm
    have e1 : IntKind.i64.wrap ((i : Int) + 1) = ((i + 1 : Nat) : Int) := by rw [w64 (by omega)]; omega
    have q2 : IntKind.i64.wrap ((p : Int) + 2) = ((p + 2 : Nat) : Int) := by rw [w64 (by omega)]; omega
    have q1 : IntKind.i64.wrap ((p : Int) + 1) = ((p + 1 : Nat) : Int) := by rw [w64 (by omega)]; omega
    have hrs : (page.extract p 256).size = 256 - p := by rw [size_extract]; omega
    simp only [iter_succ, f109_raw1, Int.ofNat_eq_natCast, byteAt_fold, Int.toNat_natCast, q1, q2, e1, parse]
    simp only [hn]
    rw [w64 (n := (n : Int)) (by omega)]
    rw [cpos (by omega), cpos (by omega), hrs]
    by_cases h2 : 256 - p < 2
    · rw [cpos (by omega), if_pos (.inl h2)]
      rfl
    · rw [cneg (by omega), cpos (by omega), cpos (by omega)]
      have b0 : byteAt (page.extract p 256) 0 = byteAt page p := by rw [byteAt_extract _ _ _ _ (by omega)]; rfl
      have b1 : byteAt (page.extract p 256) 1 = byteAt page (p + 1) := byteAt_extract _ _ _ _ (by omega)
      have hx := byteAt_lt page p
      have hy := byteAt_lt page (p + 1)
      obtain ⟨x, hx0⟩ : ∃ x, byteAt page p = x := ⟨_, rfl⟩
      obtain ⟨y, hy0⟩ : ∃ y, byteAt page (p + 1) = y := ⟨_, rfl⟩
      simp only [b0, b1, hx0, hy0] at hx hy ⊢
      have a1 : IntKind.i64.wrap (x : Int) = x := w64 (by omega)
      have a2 : IntKind.i64.wrap (y : Int) = y := w64 (by omega)
      have a3 : IntKind.i64.wrap (((p + 2 : Nat) : Int) + (x : Int)) = ((p + 2 + x : Nat) : Int) := by rw [w64 (by omega)]; omega
      have a4 : IntKind.i64.wrap (((p + 2 + x : Nat) : Int) + (y : Int)) = ((p + 2 + x + y : Nat) : Int) := by rw [w64 (by omega)]; omega
      simp only [a1, a2, a3, a4, Int.toNat_natCast]
      by_cases h3 : 256 - p < 2 + x + y
      · rw [cpos (by omega), if_pos (.inr h3)]
        rfl
      · rw [cneg (by omega), cpos (by omega), cpos (by omega), cpos (by omega), cpos (by omega), cpos (by simp; omega), if_neg (by omega)]
        have c1 : (page.extract p 256).extract 2 (2 + x) = page.extract (p + 2) (p + 2 + x) := by rw [extract_extract, Nat.min_eq_right (by omega), Nat.add_assoc]
        have c2 : (page.extract p 256).extract (2 + x) (2 + x + y) = page.extract (p + 2 + x) (p + 2 + x + y) := by rw [extract_extract, Nat.min_eq_right (by omega)]; congr 1 <;> omega
        have c3 : (page.extract p 256).extract (2 + x + y) (256 - p) = page.extract (p + 2 + x + y) 256 := by rw [extract_extract, Nat.min_eq_left (by omega)]; congr 1; omega
        rw [c1, c2, c3]
        have hcz : cellSz (page.extract (p + 2) (p + 2 + x), page.extract (p + 2 + x) (p + 2 + x + y), ()) = 2 + x + y := by
          simp only [cellSz, size_extract]; omega
        have h0 := ih m (i + 1) (p + 2 + x + y) (acc ++ [(page.extract (p + 2) (p + 2 + x), page.extract (p + 2 + x) (p + 2 + x + y), ())]) (by omega) (by omega) (by simp [ha]) (by omega) (by rw [allSz_append, allSz_cons, allSz_nil, hcz]; omega) (by omega)
        refine Eq.trans h0 ?_
        cases parse d (page.extract (p + 2 + x + y) 256) with
        | none => rfl
        | some q => obtain ⟨l, r⟩ := q; simp [docAfter]

def docDecB (page : ByteArray) : Nd × Int × Unit :=
  bif decide (page.size = 256) then docAfter page (decide (byteAt page 0 = 2)) (firstOf page) [] (parse (byteAt page 1) (restOf page)) else formB

theorem f109_ok (k : Nat) (hk : 256 < k) (page : ByteArray) : f109_F k (page, ()) = some (docDecB page, ()) := by
  unfold f109_F docDecB
  simp only [f109_raw0, Int.ofNat_eq_natCast, byteAt_fold]
  by_cases hs : page.size = 256
  · have hb1 := byteAt_lt page 1
    rw [int_bne, cneg (by omega), decide_eq_true hs, hs]
    simp only [cond_true, Int.toNat_natCast]
    have loop : ∀ (p : Nat) (b : Bool) (f : Int), p ≤ 256 → f109_L1 k (0, page, Int.ofNat p, false, 0, b, f, []) = some (docAfter page b f [] (parse (byteAt page 1) (page.extract p 256)), ()) := by
      intro p b f hp
      exact f109_loop k hk page hs b f (byteAt page 1) rfl (byteAt page 1) k 0 p [] (by omega) (by omega) rfl hp (by simp [allSz_nil]) (by omega)
    have e24 := f24_ok k (page.extract 2 256) (by rw [size_extract]; omega)
    by_cases h2 : byteAt page 0 = 2
    · have hd : ((byteAt page 0 : Int) == 2) = true := by rw [int_beq]; exact decide_eq_true (by omega)
      simp only [firstOf, restOf, hd, decide_eq_true h2, cond_true]
      rw [cpos (by decide), cpos (by decide), e24]
      simp only [Option.bind_some]
      have := loop 6 true (num4 (page.extract 2 256) : Int) (by omega)
      rw [extract_extract]
      exact this
    · have hd : ((byteAt page 0 : Int) == 2) = false := by rw [int_beq]; exact decide_eq_false (by omega)
      simp only [firstOf, restOf, hd, decide_eq_false h2, cond_false]
      rw [cpos (by decide)]
      exact loop 2 false 0 (by omega)
  · rw [int_bne, cpos (by omega), decide_eq_false hs]
    rfl

/-- a page, told by its parts -/
theorem page_parts {page : ByteArray} (hs : page.size = 256) {l : List Cell} {r : ByteArray} (h : parse (byteAt page 1) (restOf page) = some (l, r)) :
    numsOf page = [(byteAt page 0 : Int), Int.ofNat l.length] ++ (bif decide (byteAt page 0 = 2) then numsOf (fourB (firstOf page)) else []) ++ l.flatMap encCell ++ numsOf r := by
  obtain ⟨h1, h2⟩ := parse_nums _ _ _ _ h
  have b0 := byteAt_nums page 0
  have b1 := byteAt_nums page 1
  rw [← h2] at b1
  have hl := numsOf_len page
  have hcut : numsOf page = [(byteAt page 0 : Int), Int.ofNat l.length] ++ numsOf (page.extract 2 256) := by
    rw [numsOf_extract, b0]
    generalize numsOf page = L at *
    match L, hl with
    | [], hl => simp at hl; omega
    | [a], hl => simp at hl; omega
    | a :: b :: L, hl =>
      simp only [List.length_cons] at hl
      simp only [List.getD_cons_zero, List.getD_cons_succ] at b1 ⊢
      rw [List.take_of_length_le (by simp; omega)]
      simp only [List.drop_succ_cons, List.drop_zero, List.cons_append, List.nil_append, List.cons.injEq, true_and, and_true]
      simp only [Int.ofNat_eq_natCast]
      omega
  rw [hcut, List.append_assoc, List.append_assoc]
  congr 1
  rw [← h1]
  unfold restOf firstOf
  by_cases h3 : byteAt page 0 = 2
  · simp only [decide_eq_true h3, cond_true]
    have hes : (page.extract 2 256).size = 254 := by rw [size_extract]; omega
    generalize page.extract 2 256 = s at *
    have hn : num4 s = num4 (s.extract 0 4) := (num4_extract s).symm
    rw [hn, fourB_num4 (by rw [size_extract]; omega)]
    rw [numsOf_extract, numsOf_extract, List.drop_zero]
    have hsl := numsOf_len s
    rw [hes] at hsl
    rw [List.take_of_length_le (show (numsOf s).length ≤ 254 by omega), List.take_append_drop]
  · simp only [decide_eq_false h3, cond_false, List.nil_append]

theorem noughts_rep {r : ByteArray} : noughts r = true ↔ numsOf r = List.replicate r.size 0 := by
  unfold noughts
  rw [List.all_eq_true]
  constructor
  · intro h
    rw [List.eq_replicate_iff]
    exact ⟨numsOf_len r, fun x hx => of_decide_eq_true (h x hx)⟩
  · intro h x hx
    rw [h] at hx
    exact decide_eq_true (List.mem_replicate.1 hx).2

theorem page_is {page : ByteArray} (hs : page.size = 256) {l : List Cell} {r : ByteArray} (h : parse (byteAt page 1) (restOf page) = some (l, r)) (hk : byteAt page 0 = 1 ∨ byteAt page 0 = 2) :
    numsOf page = pageBody (decide (byteAt page 0 = 2), firstOf page, l, ()) ++ numsOf r := by
  rw [page_parts hs h]
  congr 1
  unfold pageBody pageHead
  congr 1
  rcases hk with h1 | h1
  · rw [h1]; rfl
  · rw [h1]; rfl

theorem enc_form {n : Nd} (h : rightB n = false) : encB n = (ByteArray.mk #[], 2, ()) := by unfold encB; rw [h]; rfl
theorem enc_big {n : Nd} (h : rightB n = true) (h2 : 256 < nodeSz n) : encB n = (ByteArray.mk #[], 14, ()) := by unfold encB; rw [h, decide_eq_true h2]; rfl
theorem enc_page {n : Nd} (h : rightB n = true) (h2 : ¬ 256 < nodeSz n) : encB n = (bytesOf (pageInts n), 0, ()) := by unfold encB; rw [h, decide_eq_false h2]; rfl

theorem dec_eq (page : ByteArray) : docDecB page = decB page := by
  unfold docDecB decB
  by_cases hs : page.size = 256
  · rw [cpos hs, cpos hs]
    cases hp : parse (byteAt page 1) (restOf page) with
    | none =>
      simp only [docAfter, afterB]
      cases (decide (byteAt page 0 = 1) || decide (byteAt page 0 = 2)) <;> rfl
    | some q =>
      obtain ⟨l, r⟩ := q
      simp only [docAfter, afterB, List.nil_append, finalB]
      by_cases hk : byteAt page 0 = 1 ∨ byteAt page 0 = 2
      · have hk' : (decide (byteAt page 0 = 1) || decide (byteAt page 0 = 2)) = true := by simpa using hk
        rw [hk']
        have hpi := page_is hs hp hk
        obtain ⟨n, hn⟩ : ∃ n : Nd, ((decide (byteAt page 0 = 2), firstOf page, l, ()) : Nd) = n := ⟨_, rfl⟩
        simp only [hn] at hpi ⊢
        have hlen := congrArg List.length hpi
        rw [numsOf_len, List.length_append, numsOf_len, body_len, hs] at hlen
        simp only [cond_true]
        cases hr : rightB n with
        | false => simp only [enc_form hr]; rfl
        | true =>
          simp only [enc_page hr (show ¬ 256 < nodeSz n by omega), decide_true, cond_true]
          have hbl : 256 - (pageBody n).length = r.size := by rw [body_len]; omega
          have key : bytesOf (pageInts n) = page ↔ noughts r = true := by
            rw [noughts_rep]
            constructor
            · intro e
              have e := congrArg numsOf e
              rw [numsOf_bytesOf (page_byte hr), hpi, pageInts, hbl] at e
              exact (List.append_cancel_left e).symm
            · intro e
              apply numsOf_inj
              rw [numsOf_bytesOf (page_byte hr), hpi, pageInts, hbl, e]
          cases hno : noughts r with
          | true => rw [cpos (key.2 hno)]; rfl
          | false =>
            rw [cneg (fun e => by have := key.1 e; rw [hno] at this; cases this)]
            rfl
      · have hk' : (decide (byteAt page 0 = 1) || decide (byteAt page 0 = 2)) = false := by
          simp only [not_or] at hk; simp [hk]
        rw [hk']
        simp only [cond_false]
        have h2 : ¬ byteAt page 0 = 2 := fun h => hk (.inr h)
        rw [decide_eq_false h2]
        generalize firstOf page = f
        cases hr : rightB (false, f, l, ()) with
        | false => simp only [enc_form hr]; rfl
        | true =>
          by_cases h256 : 256 < nodeSz (false, f, l, ())
          · simp only [enc_big hr h256]; rfl
          · simp only [enc_page hr h256, decide_true, cond_true]
            rw [cneg]
            intro e
            have b0 := byteAt_nums page 0
            rw [← e, numsOf_bytesOf (page_byte hr)] at b0
            rw [e] at b0
            simp [pageInts, pageBody, pageHead] at b0
            omega
  · rw [cneg hs, cneg hs]
end Go.Sh
