/-
  What the row needs, part 8.
-/
import Derived.Test.YtmeahimfdhdggaaGreatDoorXFrameSmall7
import Derived.Test.YtmeahimfdhdggaaGreatDoorProg
set_option linter.unusedSimpArgs false
set_option linter.unusedVariables false
set_option linter.unusedSectionVars false
namespace Go.Sh
open Go Go.Proofs
def deBruijnT : List Int := [0, 1, 56, 2, 57, 49, 28, 3, 61, 58, 42, 50, 38, 29, 17, 4, 62, 47, 59, 36, 45, 43, 51, 22, 53, 39, 33, 30, 24, 18, 12, 5, 63, 55, 48, 27, 60, 41, 37, 16, 46, 35, 44, 21, 52, 32, 23, 11, 54, 26, 40, 15, 34, 20, 31, 10, 25, 14, 19, 9, 13, 8, 7, 6]
instance frameGl : Gl := ⟨fun g => bif Nat.beq g 1 then (.u8, deBruijnT) else (.u8, [])⟩
abbrev shapeT : Ty := .pair (.int .i64) (.pair (.int .i64) (.pair (.int .i64) .unit))
abbrev frameT : Ty := .pair (.int .i64) (.pair (.sl (.sl (.int .i64))) .unit)
abbrev modelT : Ty := .pair (.sl (.int .i64)) (.pair (.int .i64) .unit)
abbrev splanT : Ty := .pair (.int .i64) (.pair (.int .i64) (.pair (.int .i64) (.pair (.sl (.int .i64)) (.pair modelT (.pair (.sl (.int .i64)) (.pair (.int .i64) .unit))))))
abbrev rpartT : Ty := .pair (.int .i64) (.pair (.int .i64) (.pair (.int .i64) .unit))
abbrev rplanT : Ty := .pair (.int .i64) (.pair (.int .i64) (.pair (.sl rpartT) (.pair (.int .i64) .unit)))
theorem prog_mixed : Tryz.prog.follows .mixedOrders = true := by kernel_rfl
abbrev avI (v : Int) : AV := AV.val (PV.v (Value.int IntKind.i64 v))
abbrev avL (v : List Int) : AV := AV.val (PV.sl (Ty.int IntKind.i64) v)
abbrev avB (v : Bool) : AV := AV.val (PV.v (Value.bool v))
noncomputable abbrev cdX (f : Func) : Code := f.body.getD .skip
noncomputable def cxX (k : Nat) (l : List (Nat × Callee)) (live : Nat → List Nat := fun _ => []) : Ctx := { P := Tryz.prog, Φ := phi l, k := k, live := live }
def nA : Nat → Ann := fun _ => ⟨[], []⟩
noncomputable abbrev runX (C : Ctx) (A : Nat → Ann) (fn : Func) (pk : List Kd) (rk : Kd) (x : Kd.dens pk) := runF C A fn.ntmps (cdX fn) fn.results.toList pk rk (encs pk x) (decR pk rk)
noncomputable abbrev lvX (C : Ctx) (fn : Func) (pk : List Kd) (rk : Kd) (a : List AV) (b : List (List Nat)) := leaveK C fn.results.toList pk a b rk (decR pk rk)
theorem lawX {l : List (Nat × Callee)} {live : Nat → List Nat} {A : Nat → Ann} {f k : Nat} {fn : Func} {pk : List Kd} {rk : Kd} {F : Nat → Kd.dens pk → Option (Ans pk rk)} (hC : ∀ f cal, phi l f = some cal → Ctr Tryz.prog k f cal)
    (hf : Tryz.prog.funcs[f]? = some fn) (hb : fn.body = some (cdX fn)) (hname : (fn.name == "runtime.NumGoroutine") = false) (hfit : fitsC Tryz.prog fn.ntmps (cdX fn) = true)
    (h : ∀ x, runX (cxX k l live) A fn pk rk x = F k x) : Ctr Tryz.prog k f (mk pk rk F) :=
  fun_law (C := cxX k l live) hC prog_mixed hf hb hname hfit (fun x y e => (h x).trans e)
abbrev f11_pk : List Kd := [.view shapeT]
abbrev f11_rk : Kd := .view (.int .i64)
noncomputable def f11_C (k : Nat) := cxX k []
def f11_raw0 (k : Nat) : (Int × Int × Int × Unit) × Unit → Option (Int × Unit)
  | ((a0, a1, a2, ()), ()) => bif decide (a0 < (1 : Int)) then some (2, ()) else bif decide ((2 : Int) < a0) then some (2, ()) else bif decide (a1 < (4 : Int)) then some (2, ()) else bif decide ((24 : Int) < a1) then some (2, ()) else bif decide (a2 < (1 : Int)) then some (2, ()) else bif decide ((655350 : Int) < a2) then some (2, ()) else some (0, ())
def f11_F (k : Nat) := f11_raw0 k
theorem f11_eq (k : Nat) (x : Kd.dens f11_pk) : runX (f11_C k) nA Tryz.f11 f11_pk f11_rk x = f11_F k x := by
  show _ = f11_raw0 k x
  obtain ⟨⟨a0, ⟨a1, ⟨a2, ⟨⟩⟩⟩⟩, ⟨⟩⟩ := x
  kernel_rfl
theorem f11_ctr (k : Nat) : Ctr Tryz.prog k 11 (mk f11_pk f11_rk f11_F) :=
  lawX (fn := Tryz.f11) (phi_ok ctr_nil) (by kernel_rfl) (by kernel_rfl) (by kernel_rfl) (by kernel_rfl) (f11_eq k)
noncomputable abbrev f11_m : Nat × Callee := (11, mk f11_pk f11_rk f11_F)
abbrev f23_pk : List Kd := [.view shapeT, .view frameT]
abbrev f23_rk : Kd := .view (.int .i64)
noncomputable def f23_C (k : Nat) := cxX k [f11_m]
def f23_A : Nat → Ann := fun id => bif Nat.beq id 17 then ⟨[68, 69, 67, 2, 63, 62, 61], []⟩ else bif Nat.beq id 14 then ⟨[62, 63, 61, 2], []⟩ else bif Nat.beq id 8 then ⟨[42, 43, 41, 6, 3, 2], []⟩ else ⟨[], []⟩
abbrev f23_T3 := Int × Int × List Int × Int × Int × List (List Int) × Int × Int × Int
abbrev f23_K3 := f23_T3 → Option (Int × Unit)
abbrev f23_T2 := Int × Int × List (List Int) × Int × Int × Int
abbrev f23_K2 := f23_T2 → Option (Int × Unit)
abbrev f23_T1 := Int × Int × List (List Int) × Int × Int × List (List Int) × Int × Int × Int
abbrev f23_K1 := f23_T1 → Option (Int × Unit)
def f23_S3 : f23_T3 → St
  | (v0, v1, v2, v3, v4, v5, v6, v7, v8) => St.mk (envOf [(nat_lit 68, avI v0), (nat_lit 69, avI v1), (nat_lit 67, avL v2), (nat_lit 2, AV.bx (nat_lit 8192) (nat_lit 0)), (nat_lit 63, avI v3), (nat_lit 62, avI v4), (nat_lit 61, AV.val (PV.sl (Ty.int IntKind.i64).sl v5))]) (tblOf [(nat_lit 8192, RS.live (Res.box [avI v6, avI v7, avI v8]))])
def f23_raw3 (k : Nat) (L2 : f23_K2) (L3 : f23_K3) : f23_K3
  | (v0, v1, v2, v3, v4, v5, v6, v7, v8) => bif decide (v1 < v0) then bif decide ((0 : Int) ≤ v1 ∧ v1 < Int.ofNat v2.length) then bif decide ((0 : Int) ≤ IntKind.i64.wrap (v7 - (1 : Int))) then bif Int.fdiv (v2.getD v1.toNat 0) ((2 : Int) ^ min (IntKind.i64.wrap (v7 - (1 : Int))).toNat (64 : Nat)) != (0 : Int) then bif Int.fdiv (v2.getD v1.toNat 0) ((2 : Int) ^ min (IntKind.i64.wrap (v7 - (1 : Int))).toNat (64 : Nat)) != (-1 : Int) then some (12, ()) else L3 (v0, IntKind.i64.wrap (v1 + (1 : Int)), v2, v3, v4, v5, v6, v7, v8) else L3 (v0, IntKind.i64.wrap (v1 + (1 : Int)), v2, v3, v4, v5, v6, v7, v8) else none else none else L2 (v4, IntKind.i64.wrap (v3 + (1 : Int)), v5, v6, v7, v8)
def f23_L3 (k : Nat) (L2 : f23_K2) : f23_K3 := iter (fun L3 => f23_raw3 k L2 L3) k
noncomputable def f23_at3 (k : Nat) (n2 : Nat) (n : Nat) (v : f23_T3) : Option (Int × Unit) :=
  loopAt (f23_C k) f23_A [] [1, 1, 1, 1, 1, 0, 1, 0, 0, 1, 1, 0, 0, 1, 1, 0] [n2] (cdX Tryz.f23) (lvX (f23_C k) Tryz.f23 f23_pk f23_rk [] []) n (f23_S3 v)
def f23_S2 : f23_T2 → St
  | (v0, v1, v2, v3, v4, v5) => St.mk (envOf [(nat_lit 62, avI v0), (nat_lit 63, avI v1), (nat_lit 61, AV.val (PV.sl (Ty.int IntKind.i64).sl v2)), (nat_lit 2, AV.bx (nat_lit 8192) (nat_lit 0))]) (tblOf [(nat_lit 8192, RS.live (Res.box [avI v3, avI v4, avI v5]))])
def f23_raw2 (k : Nat) (L3 : f23_K3) (L2 : f23_K2) : f23_K2
  | (v0, v1, v2, v3, v4, v5) => bif decide (v1 < v0) then bif decide ((0 : Int) ≤ v1 ∧ v1 < Int.ofNat v2.length) then L3 (Int.ofNat (List.length (v2.getD v1.toNat [])), (0 : Int), v2.getD v1.toNat [], v1, v0, v2, v3, v4, v5) else none else some (0, ())
def f23_L2 (k : Nat) : f23_K2 := iter (fun L2 => f23_raw2 k (f23_L3 k L2) L2) k
noncomputable def f23_at2 (k : Nat) (n : Nat) (v : f23_T2) : Option (Int × Unit) :=
  loopAt (f23_C k) f23_A [] [1, 1, 1, 1, 1, 0, 1, 0] [] (cdX Tryz.f23) (lvX (f23_C k) Tryz.f23 f23_pk f23_rk [] []) n (f23_S2 v)
def f23_S1 : f23_T1 → St
  | (v0, v1, v2, v3, v4, v5, v6, v7, v8) => St.mk (envOf [(nat_lit 42, avI v0), (nat_lit 43, avI v1), (nat_lit 41, AV.val (PV.sl (Ty.int IntKind.i64).sl v2)), (nat_lit 6, avI v3), (nat_lit 3, AV.bx (nat_lit 8192) (nat_lit 0)), (nat_lit 2, AV.bx (nat_lit 8193) (nat_lit 0))]) (tblOf [(nat_lit 8192, RS.live (Res.box [avI v4, AV.val (PV.sl (Ty.int IntKind.i64).sl v5)])), (nat_lit 8193, RS.live (Res.box [avI v6, avI v7, avI v8]))])
def f23_raw1 (k : Nat) (L2 : f23_K2) (L1 : f23_K1) : f23_K1
  | (v0, v1, v2, v3, v4, v5, v6, v7, v8) => bif decide (v1 < v0) then bif decide ((0 : Int) ≤ v1 ∧ v1 < Int.ofNat v2.length) then bif Int.ofNat (List.length (v2.getD v1.toNat [])) != v3 then some (1, ()) else bif decide (v3 < (1 : Int)) then some (1, ()) else bif decide ((512 : Int) < v3) then some (1, ()) else L1 (v0, IntKind.i64.wrap (v1 + (1 : Int)), v2, v3, v4, v5, v6, v7, v8) else none else L2 (Int.ofNat v5.length, (0 : Int), v5, v6, v7, v8)
def f23_L1 (k : Nat) : f23_K1 := iter (fun L1 => f23_raw1 k (f23_L2 k) L1) k
noncomputable def f23_at1 (k : Nat) (n : Nat) (v : f23_T1) : Option (Int × Unit) :=
  loopAt (f23_C k) f23_A [] [1, 1, 1, 1, 0, 1, 0] [] (cdX Tryz.f23) (lvX (f23_C k) Tryz.f23 f23_pk f23_rk [] []) n (f23_S1 v)
def f23_raw0 (k : Nat) (L1 : f23_K1) : (Int × Int × Int × Unit) × (Int × List (List Int) × Unit) × Unit → Option (Int × Unit)
  | ((a0, a1, a2, ()), (a3, a4, ()), ()) => (f11_F k ((a0, a1, a2, ()), ())).bind fun y => bif y.1 != (0 : Int) then some (y.1, ()) else bif decide (a3 < (0 : Int)) then some (1, ()) else bif decide ((2147483647 : Int) < a3) then some (1, ()) else bif Int.ofNat a4.length != a0 then some (1, ()) else bif decide ((0 : Int) ≤ (0 : Int) ∧ (0 : Int) < Int.ofNat a4.length) then L1 (Int.ofNat a4.length, (0 : Int), a4, Int.ofNat (List.length (a4.getD (0 : Nat) [])), a3, a4, a0, a1, a2) else none
def f23_F (k : Nat) := f23_raw0 k (f23_L1 k)
theorem f23_law3 (k : Nat) (n2 : Nat) : ∀ n, f23_at3 k n2 n = iter (fun L3 => f23_raw3 k (f23_at2 k n2) L3) n :=
  iter_law (fun v => by kernel_rfl) (fun n v => by
    show f23_at3 k n2 (n + 1) v = f23_raw3 k (f23_at2 k n2) (f23_at3 k n2 n) v
    obtain ⟨v0, v1, v2, v3, v4, v5, v6, v7, v8⟩ := v
    kernel_rfl)
theorem f23_law2 (k : Nat) : ∀ n, f23_at2 k n = iter (fun L2 => f23_raw2 k (f23_L3 k L2) L2) n :=
  iter_law (fun v => by kernel_rfl) (fun n v => by
    show f23_at2 k (n + 1) v = f23_raw2 k (f23_L3 k (f23_at2 k n)) (f23_at2 k n) v
    rw [show (f23_L3 k (f23_at2 k n)) = f23_at3 k n k from (f23_law3 k n k).symm]
    obtain ⟨v0, v1, v2, v3, v4, v5⟩ := v
    kernel_rfl)
theorem f23_law1 (k : Nat) : ∀ n, f23_at1 k n = iter (fun L1 => f23_raw1 k (f23_L2 k) L1) n :=
  iter_law (fun v => by kernel_rfl) (fun n v => by
    show f23_at1 k (n + 1) v = f23_raw1 k (f23_L2 k) (f23_at1 k n) v
    rw [show (f23_L2 k) = f23_at2 k k from (f23_law2 k k).symm]
    obtain ⟨v0, v1, v2, v3, v4, v5, v6, v7, v8⟩ := v
    kernel_rfl)
theorem f23_eq (k : Nat) (x : Kd.dens f23_pk) : runX (f23_C k) f23_A Tryz.f23 f23_pk f23_rk x = f23_F k x := by
  show _ = f23_raw0 k (f23_L1 k) x
  rw [show f23_L1 k = f23_at1 k k from (f23_law1 k k).symm]
  obtain ⟨⟨a0, ⟨a1, ⟨a2, ⟨⟩⟩⟩⟩, ⟨⟨a3, ⟨a4, ⟨⟩⟩⟩, ⟨⟩⟩⟩ := x
  kernel_rfl
theorem f23_ctr (k : Nat) : Ctr Tryz.prog k 23 (mk f23_pk f23_rk f23_F) :=
  lawX (fn := Tryz.f23) (phi_ok (ctr_cons (f11_ctr k) ctr_nil)) (by kernel_rfl) (by kernel_rfl) (by kernel_rfl) (by kernel_rfl) (f23_eq k)
noncomputable abbrev f23_m : Nat × Callee := (23, mk f23_pk f23_rk f23_F)
abbrev f59_pk : List Kd := [.view (.sl (.int .i64)), .view (.sl (.int .i64))]
abbrev f59_rk : Kd := .tup [.view (.sl (.cx .f64)), .view (.int .i64)]
noncomputable def f59_C (k : Nat) := cxX k []
def f59_A : Nat → Ann := fun id => bif Nat.beq id 7 then ⟨[21, 22, 20, 1, 6], [.slot 6 ((Ty.cx FloatKind.f64))]⟩ else ⟨[], []⟩
abbrev f59_T1 := Int × Int × List Int × List Int × List (Nat × Nat)
abbrev f59_K1 := f59_T1 → Option ((List (Nat × Nat) × Int × Unit) × Unit)
def f59_S1 : f59_T1 → St
  | (v0, v1, v2, v3, v4) => St.mk (envOf [(nat_lit 21, avI v0), (nat_lit 22, avI v1), (nat_lit 20, avL v2), (nat_lit 1, avL v3), (nat_lit 6, AV.own (nat_lit 8192))]) (tblOf [(nat_lit 8192, RS.live (Res.arr (Ty.cx FloatKind.f64) v4 false))])
def f59_raw1 (k : Nat) (L1 : f59_K1) : f59_K1
  | (v0, v1, v2, v3, v4) => bif decide (v1 < v0) then bif decide ((0 : Int) ≤ v1 ∧ v1 < Int.ofNat v2.length) then bif decide ((0 : Int) ≤ v1 ∧ v1 < Int.ofNat v3.length) then bif decide (v2.getD v1.toNat 0 < (-16777216 : Int)) then some (([], 12, ()), ()) else bif decide ((16777216 : Int) < v2.getD v1.toNat 0) then some (([], 12, ()), ()) else bif decide (v3.getD v1.toNat 0 < (-16777216 : Int)) then some (([], 12, ()), ()) else bif decide ((16777216 : Int) < v3.getD v1.toNat 0) then some (([], 12, ()), ()) else bif decide (v4.length + [(FloatKind.f64.nearest (v2.getD v1.toNat 0), FloatKind.f64.nearest (v3.getD v1.toNat 0))].length < (2147483648 : Nat)) then L1 (v0, IntKind.i64.wrap (v1 + (1 : Int)), v2, v3, v4 ++ [(FloatKind.f64.nearest (v2.getD v1.toNat 0), FloatKind.f64.nearest (v3.getD v1.toNat 0))]) else none else none else none else some ((v4, 0, ()), ())
def f59_L1 (k : Nat) : f59_K1 := iter (fun L1 => f59_raw1 k L1) k
noncomputable def f59_at1 (k : Nat) (n : Nat) (v : f59_T1) : Option ((List (Nat × Nat) × Int × Unit) × Unit) :=
  loopAt (f59_C k) f59_A [] [1, 1, 1, 0, 1, 0] [] (cdX Tryz.f59) (lvX (f59_C k) Tryz.f59 f59_pk f59_rk [] []) n (f59_S1 v)
def f59_raw0 (k : Nat) (L1 : f59_K1) : List Int × List Int × Unit → Option ((List (Nat × Nat) × Int × Unit) × Unit)
  | (a0, a1, ()) => bif Int.ofNat a0.length != Int.ofNat a1.length then some (([], 1, ()), ()) else bif decide ((8192 : Int) < Int.ofNat a0.length) then some (([], 14, ()), ()) else L1 (Int.ofNat a0.length, (0 : Int), a0, a1, [])
def f59_F (k : Nat) := f59_raw0 k (f59_L1 k)
theorem f59_law1 (k : Nat) : ∀ n, f59_at1 k n = iter (fun L1 => f59_raw1 k L1) n :=
  iter_law (fun v => by kernel_rfl) (fun n v => by
    show f59_at1 k (n + 1) v = f59_raw1 k (f59_at1 k n) v
    obtain ⟨v0, v1, v2, v3, v4⟩ := v
    kernel_rfl)
theorem f59_eq (k : Nat) (x : Kd.dens f59_pk) : runX (f59_C k) f59_A Tryz.f59 f59_pk f59_rk x = f59_F k x := by
  show _ = f59_raw0 k (f59_L1 k) x
  rw [show f59_L1 k = f59_at1 k k from (f59_law1 k k).symm]
  obtain ⟨a0, ⟨a1, ⟨⟩⟩⟩ := x
  kernel_rfl
theorem f59_ctr (k : Nat) : Ctr Tryz.prog k 59 (mk f59_pk f59_rk f59_F) :=
  lawX (fn := Tryz.f59) (phi_ok ctr_nil) (by kernel_rfl) (by kernel_rfl) (by kernel_rfl) (by kernel_rfl) (f59_eq k)
noncomputable abbrev f59_m : Nat × Callee := (59, mk f59_pk f59_rk f59_F)
abbrev f91_pk : List Kd := [.view (.int .i64)]
abbrev f91_rk : Kd := .view .bool
noncomputable def f91_C (k : Nat) := cxX k []
def f91_raw0 (k : Nat) : Int × Unit → Option (Bool × Unit)
  | (a0, ()) => bif a0 == (0 : Int) then some (true, ()) else bif decide ((8 : Int) ≤ a0) then some (decide (a0 ≤ (10 : Int)), ()) else some (false, ())
def f91_F (k : Nat) := f91_raw0 k
theorem f91_eq (k : Nat) (x : Kd.dens f91_pk) : runX (f91_C k) nA Tryz.f91 f91_pk f91_rk x = f91_F k x := by
  show _ = f91_raw0 k x
  obtain ⟨a0, ⟨⟩⟩ := x
  kernel_rfl
theorem f91_ctr (k : Nat) : Ctr Tryz.prog k 91 (mk f91_pk f91_rk f91_F) :=
  lawX (fn := Tryz.f91) (phi_ok ctr_nil) (by kernel_rfl) (by kernel_rfl) (by kernel_rfl) (by kernel_rfl) (f91_eq k)
noncomputable abbrev f91_m : Nat × Callee := (91, mk f91_pk f91_rk f91_F)
abbrev f143_pk : List Kd := [.view (.fl .f64)]
abbrev f143_rk : Kd := .view (.fl .f64)
noncomputable def f143_C (k : Nat) := cxX k []
def f143_raw0 (k : Nat) : Nat × Unit → Option (Nat × Unit)
  | (a0, ()) => some ((IntKind.u64.wrap (Int.ofNat (BitVec.ofInt (64 : Nat) (Int.ofNat a0) &&& ~~~BitVec.ofInt (64 : Nat) (9223372036854775808 : Int)).toNat)).toNat, ())
def f143_F (k : Nat) := f143_raw0 k
theorem f143_eq (k : Nat) (x : Kd.dens f143_pk) : runX (f143_C k) nA Tryz.f143 f143_pk f143_rk x = f143_F k x := by
  show _ = f143_raw0 k x
  obtain ⟨a0, ⟨⟩⟩ := x
  kernel_rfl
theorem f143_ctr (k : Nat) : Ctr Tryz.prog k 143 (mk f143_pk f143_rk f143_F) :=
  lawX (fn := Tryz.f143) (phi_ok ctr_nil) (by kernel_rfl) (by kernel_rfl) (by kernel_rfl) (by kernel_rfl) (f143_eq k)
noncomputable abbrev f143_m : Nat × Callee := (143, mk f143_pk f143_rk f143_F)
abbrev f193_pk : List Kd := [.view (.fl .f64), .view (.fl .f64)]
abbrev f193_rk : Kd := .view (.fl .f64)
noncomputable def f193_C (k : Nat) := cxX k []
def f193_raw0 (k : Nat) : Nat × Nat × Unit → Option (Nat × Unit)
  | (a0, a1, ()) => some ((IntKind.u64.wrap (Int.ofNat (BitVec.ofInt (64 : Nat) (IntKind.u64.wrap (Int.ofNat (BitVec.ofInt (64 : Nat) (Int.ofNat a0) &&& ~~~BitVec.ofInt (64 : Nat) (9223372036854775808 : Int)).toNat)) ||| BitVec.ofInt (64 : Nat) (IntKind.u64.wrap (Int.ofNat (BitVec.ofInt (64 : Nat) (Int.ofNat a1) &&& BitVec.ofInt (64 : Nat) (9223372036854775808 : Int)).toNat))).toNat)).toNat, ())
def f193_F (k : Nat) := f193_raw0 k
theorem f193_eq (k : Nat) (x : Kd.dens f193_pk) : runX (f193_C k) nA Tryz.f193 f193_pk f193_rk x = f193_F k x := by
  show _ = f193_raw0 k x
  obtain ⟨a0, ⟨a1, ⟨⟩⟩⟩ := x
  kernel_rfl
theorem f193_ctr (k : Nat) : Ctr Tryz.prog k 193 (mk f193_pk f193_rk f193_F) :=
  lawX (fn := Tryz.f193) (phi_ok ctr_nil) (by kernel_rfl) (by kernel_rfl) (by kernel_rfl) (by kernel_rfl) (f193_eq k)
noncomputable abbrev f193_m : Nat × Callee := (193, mk f193_pk f193_rk f193_F)
abbrev f177_pk : List Kd := [.view (.fl .f64)]
abbrev f177_rk : Kd := .view (.fl .f64)
noncomputable def f177_C (k : Nat) := cxX k [f143_m, f193_m]
def f177_raw0 (k : Nat) : Nat × Unit → Option (Nat × Unit)
  | (a0, ()) => (f143_F k (a0, ())).bind fun y => bif FloatKind.f64.format.order y.1 (4607182418800017408 : Nat) == some Ordering.lt then (f193_F k (0, a0, ())).bind fun y => some (y.1, ()) else bif decide (IntKind.u64.wrap (IntKind.u64.wrap (Int.ofNat (BitVec.ofInt (64 : Nat) ((Int.ofNat a0).fdiv (4503599627370496 : Int)) &&& BitVec.ofInt (64 : Nat) (2047 : Int)).toNat) - (1023 : Int)) < (52 : Int)) then bif decide ((0 : Int) ≤ IntKind.u64.wrap ((52 : Int) - IntKind.u64.wrap (IntKind.u64.wrap (Int.ofNat (BitVec.ofInt (64 : Nat) ((Int.ofNat a0).fdiv (4503599627370496 : Int)) &&& BitVec.ofInt (64 : Nat) (2047 : Int)).toNat) - (1023 : Int)))) then some ((IntKind.u64.wrap (Int.ofNat (BitVec.ofInt (64 : Nat) (Int.ofNat a0) &&& ~~~BitVec.ofInt (64 : Nat) (IntKind.u64.wrap (IntKind.u64.wrap ((1 : Int) * (2 : Int) ^ min (IntKind.u64.wrap ((52 : Int) - IntKind.u64.wrap (IntKind.u64.wrap (Int.ofNat (BitVec.ofInt (64 : Nat) ((Int.ofNat a0).fdiv (4503599627370496 : Int)) &&& BitVec.ofInt (64 : Nat) (2047 : Int)).toNat) - (1023 : Int)))).toNat (64 : Nat)) - (1 : Int)))).toNat)).toNat, ()) else none else some ((Int.ofNat a0).toNat, ())
def f177_F (k : Nat) := f177_raw0 k
theorem f177_eq (k : Nat) (x : Kd.dens f177_pk) : runX (f177_C k) nA Tryz.f177 f177_pk f177_rk x = f177_F k x := by
  show _ = f177_raw0 k x
  obtain ⟨a0, ⟨⟩⟩ := x
  kernel_rfl
theorem f177_ctr (k : Nat) : Ctr Tryz.prog k 177 (mk f177_pk f177_rk f177_F) :=
  lawX (fn := Tryz.f177) (phi_ok (ctr_cons (f143_ctr k) (ctr_cons (f193_ctr k) ctr_nil))) (by kernel_rfl) (by kernel_rfl) (by kernel_rfl) (by kernel_rfl) (f177_eq k)
noncomputable abbrev f177_m : Nat × Callee := (177, mk f177_pk f177_rk f177_F)
abbrev f141_pk : List Kd := [.view (.fl .f64)]
abbrev f141_rk : Kd := .view (.fl .f64)
noncomputable def f141_C (k : Nat) := cxX k [f177_m]
def f141_raw0 (k : Nat) : Nat × Unit → Option (Nat × Unit)
  | (a0, ()) => (integralFl Ieee.Toward.zero a0).bind fun y => some (y, ())
def f141_F (k : Nat) := f141_raw0 k
theorem f141_eq (k : Nat) (x : Kd.dens f141_pk) : runX (f141_C k) nA Tryz.f141 f141_pk f141_rk x = f141_F k x := by
  show _ = f141_raw0 k x
  obtain ⟨a0, ⟨⟩⟩ := x
  kernel_rfl
theorem f141_ctr (k : Nat) : Ctr Tryz.prog k 141 (mk f141_pk f141_rk f141_F) :=
  lawX (fn := Tryz.f141) (phi_ok (ctr_cons (f177_ctr k) ctr_nil)) (by kernel_rfl) (by kernel_rfl) (by kernel_rfl) (by kernel_rfl) (f141_eq k)
noncomputable abbrev f141_m : Nat × Callee := (141, mk f141_pk f141_rk f141_F)
abbrev f142_pk : List Kd := [.view (.fl .f64), .view (.int .i64)]
abbrev f142_rk : Kd := .view .bool
noncomputable def f142_C (k : Nat) := cxX k [f143_m]
def f142_raw0 (k : Nat) : Nat × Int × Unit → Option (Bool × Unit)
  | (a0, a1, ()) => bif a1 == (0 : Int) then (f143_F k (a0, ())).bind fun y => some (FloatKind.f64.format.order y.1 (9218868437227405311 : Nat) == some Ordering.gt, ()) else bif decide (a1 < (0 : Int)) then some (FloatKind.f64.format.order (a0 ^^^ (9223372036854775808 : Nat)) (9218868437227405311 : Nat) == some Ordering.gt, ()) else some (FloatKind.f64.format.order a0 (9218868437227405311 : Nat) == some Ordering.gt, ())
def f142_F (k : Nat) := f142_raw0 k
theorem f142_eq (k : Nat) (x : Kd.dens f142_pk) : runX (f142_C k) nA Tryz.f142 f142_pk f142_rk x = f142_F k x := by
  show _ = f142_raw0 k x
  obtain ⟨a0, ⟨a1, ⟨⟩⟩⟩ := x
  kernel_rfl
theorem f142_ctr (k : Nat) : Ctr Tryz.prog k 142 (mk f142_pk f142_rk f142_F) :=
  lawX (fn := Tryz.f142) (phi_ok (ctr_cons (f143_ctr k) ctr_nil)) (by kernel_rfl) (by kernel_rfl) (by kernel_rfl) (by kernel_rfl) (f142_eq k)
noncomputable abbrev f142_m : Nat × Callee := (142, mk f142_pk f142_rk f142_F)
abbrev f100_pk : List Kd := [.view (.sl (.cx .f64))]
abbrev f100_rk : Kd := .view (.int .i64)
noncomputable def f100_C (k : Nat) := cxX k [f141_m, f142_m, f143_m]
def f100_A : Nat → Ann := fun id => bif Nat.beq id 14 then ⟨[37, 38, 36], []⟩ else bif Nat.beq id 7 then ⟨[23, 22, 14, 13, 12, 0], []⟩ else bif Nat.beq id 4 then ⟨[13, 14, 12, 0], []⟩ else ⟨[], []⟩
abbrev f100_T2 := Int × Nat × Nat × Int × Int × List (Nat × Nat) × List (Nat × Nat)
abbrev f100_K2 := f100_T2 → Option (Int × Unit)
abbrev f100_T3 := Int × Int × List (Nat × Nat)
abbrev f100_K3 := f100_T3 → Option (Int × Unit)
abbrev f100_T1 := Int × Int × List (Nat × Nat) × List (Nat × Nat)
abbrev f100_K1 := f100_T1 → Option (Int × Unit)
def f100_S2 : f100_T2 → St
  | (v0, v1, v2, v3, v4, v5, v6) => St.mk (envOf [(nat_lit 23, avI v0), (nat_lit 22, AV.agg [AV.val (PV.v (Value.float FloatKind.f64 v1)), AV.val (PV.v (Value.float FloatKind.f64 v2))]), (nat_lit 14, avI v3), (nat_lit 13, avI v4), (nat_lit 12, AV.val (PV.sl (Ty.cx FloatKind.f64) v5)), (nat_lit 0, AV.val (PV.sl (Ty.cx FloatKind.f64) v6))]) (tblOf [])
def f100_raw2 (k : Nat) (L1 : f100_K1) (L2 : f100_K2) : f100_K2
  | (v0, v1, v2, v3, v4, v5, v6) => bif decide (v0 < (2 : Int)) then bif decide ((0 : Int) ≤ v0 ∧ v0 < (2 : Int)) then (f141_F k ([v1, v2].getD v0.toNat (0 : Nat), ())).bind fun y => bif FloatKind.f64.format.order y.1 ([v1, v2].getD v0.toNat (0 : Nat)) != some Ordering.eq then some (2, ()) else (f142_F k ([v1, v2].getD v0.toNat (0 : Nat), 0, ())).bind fun y => bif y.1 then some (2, ()) else L2 (IntKind.i64.wrap (v0 + (1 : Int)), v1, v2, v3, v4, v5, v6) else none else L1 (v4, IntKind.i64.wrap (v3 + (1 : Int)), v5, v6)
def f100_L2 (k : Nat) (L1 : f100_K1) : f100_K2 := iter (fun L2 => f100_raw2 k L1 L2) k
noncomputable def f100_at2 (k : Nat) (n1 : Nat) (n : Nat) (v : f100_T2) : Option (Int × Unit) :=
  loopAt (f100_C k) f100_A [] [1, 1, 0, 1, 0, 0, 1, 1, 0, 0, 1, 1, 0] [n1] (cdX Tryz.f100) (lvX (f100_C k) Tryz.f100 f100_pk f100_rk [] []) n (f100_S2 v)
def f100_S3 : f100_T3 → St
  | (v0, v1, v2) => St.mk (envOf [(nat_lit 37, avI v0), (nat_lit 38, avI v1), (nat_lit 36, AV.val (PV.sl (Ty.cx FloatKind.f64) v2))]) (tblOf [])
def f100_raw3 (k : Nat) (L3 : f100_K3) : f100_K3
  | (v0, v1, v2) => bif decide (v1 < v0) then bif decide ((0 : Int) ≤ v1 ∧ v1 < Int.ofNat v2.length) then (f143_F k ((v2.getD v1.toNat ((0 : Nat), (0 : Nat))).1, ())).bind fun y => (f143_F k ((v2.getD v1.toNat ((0 : Nat), (0 : Nat))).2, ())).bind fun y_1 => (maxFl FloatKind.f64 y.1 y_1.1).bind fun y => bif FloatKind.f64.format.order y (4715268809856909312 : Nat) == some Ordering.gt then some (12, ()) else L3 (v0, IntKind.i64.wrap (v1 + (1 : Int)), v2) else none else some (0, ())
def f100_L3 (k : Nat) : f100_K3 := iter (fun L3 => f100_raw3 k L3) k
noncomputable def f100_at3 (k : Nat) (n : Nat) (v : f100_T3) : Option (Int × Unit) :=
  loopAt (f100_C k) f100_A [] [1, 1, 1, 0, 1, 0] [] (cdX Tryz.f100) (lvX (f100_C k) Tryz.f100 f100_pk f100_rk [] []) n (f100_S3 v)
def f100_S1 : f100_T1 → St
  | (v0, v1, v2, v3) => St.mk (envOf [(nat_lit 13, avI v0), (nat_lit 14, avI v1), (nat_lit 12, AV.val (PV.sl (Ty.cx FloatKind.f64) v2)), (nat_lit 0, AV.val (PV.sl (Ty.cx FloatKind.f64) v3))]) (tblOf [])
def f100_raw1 (k : Nat) (L2 : f100_K2) (L3 : f100_K3) (L1 : f100_K1) : f100_K1
  | (v0, v1, v2, v3) => bif decide (v1 < v0) then bif decide ((0 : Int) ≤ v1 ∧ v1 < Int.ofNat v2.length) then L2 ((0 : Int), (v2.getD v1.toNat ((0 : Nat), (0 : Nat))).1, (v2.getD v1.toNat ((0 : Nat), (0 : Nat))).2, v1, v0, v2, v3) else none else L3 (Int.ofNat v3.length, (0 : Int), v3)
def f100_L1 (k : Nat) : f100_K1 := iter (fun L1 => f100_raw1 k (f100_L2 k L1) (f100_L3 k) L1) k
noncomputable def f100_at1 (k : Nat) (n : Nat) (v : f100_T1) : Option (Int × Unit) :=
  loopAt (f100_C k) f100_A [] [1, 1, 0, 1, 0] [] (cdX Tryz.f100) (lvX (f100_C k) Tryz.f100 f100_pk f100_rk [] []) n (f100_S1 v)
def f100_raw0 (k : Nat) (L1 : f100_K1) : List (Nat × Nat) × Unit → Option (Int × Unit)
  | (a0, ()) => bif decide ((8192 : Int) < Int.ofNat a0.length) then some (14, ()) else L1 (Int.ofNat a0.length, (0 : Int), a0, a0)
def f100_F (k : Nat) := f100_raw0 k (f100_L1 k)
theorem f100_law2 (k : Nat) (n1 : Nat) : ∀ n, f100_at2 k n1 n = iter (fun L2 => f100_raw2 k (f100_at1 k n1) L2) n :=
  iter_law (fun v => by kernel_rfl) (fun n v => by
    show f100_at2 k n1 (n + 1) v = f100_raw2 k (f100_at1 k n1) (f100_at2 k n1 n) v
    obtain ⟨v0, v1, v2, v3, v4, v5, v6⟩ := v
    kernel_rfl)
theorem f100_law3 (k : Nat) : ∀ n, f100_at3 k n = iter (fun L3 => f100_raw3 k L3) n :=
  iter_law (fun v => by kernel_rfl) (fun n v => by
    show f100_at3 k (n + 1) v = f100_raw3 k (f100_at3 k n) v
    obtain ⟨v0, v1, v2⟩ := v
    kernel_rfl)
theorem f100_law1 (k : Nat) : ∀ n, f100_at1 k n = iter (fun L1 => f100_raw1 k (f100_L2 k L1) (f100_L3 k) L1) n :=
  iter_law (fun v => by kernel_rfl) (fun n v => by
    show f100_at1 k (n + 1) v = f100_raw1 k (f100_L2 k (f100_at1 k n)) (f100_L3 k) (f100_at1 k n) v
    rw [show (f100_L2 k (f100_at1 k n)) = f100_at2 k n k from (f100_law2 k n k).symm, show (f100_L3 k) = f100_at3 k k from (f100_law3 k k).symm]
    obtain ⟨v0, v1, v2, v3⟩ := v
    kernel_rfl)
theorem f100_eq (k : Nat) (x : Kd.dens f100_pk) : runX (f100_C k) f100_A Tryz.f100 f100_pk f100_rk x = f100_F k x := by
  show _ = f100_raw0 k (f100_L1 k) x
  rw [show f100_L1 k = f100_at1 k k from (f100_law1 k k).symm]
  obtain ⟨a0, ⟨⟩⟩ := x
  kernel_rfl
theorem f100_ctr (k : Nat) : Ctr Tryz.prog k 100 (mk f100_pk f100_rk f100_F) :=
  lawX (fn := Tryz.f100) (phi_ok (ctr_cons (f141_ctr k) (ctr_cons (f142_ctr k) (ctr_cons (f143_ctr k) ctr_nil)))) (by kernel_rfl) (by kernel_rfl) (by kernel_rfl) (by kernel_rfl) (f100_eq k)
noncomputable abbrev f100_m : Nat × Callee := (100, mk f100_pk f100_rk f100_F)
abbrev f101_pk : List Kd := [.view (.cx .f64)]
abbrev f101_rk : Kd := .view (.fl .f64)
noncomputable def f101_C (k : Nat) := cxX k []
def f101_raw0 (k : Nat) : (Nat × Nat) × Unit → Option (Nat × Unit)
  | (a0, ()) => (cMulBits a0.1 a0.2 (4607182418800017408 : Nat) (4607182418800017408 : Nat)).bind fun y => some (y.1, ())
def f101_F (k : Nat) := f101_raw0 k
theorem f101_eq (k : Nat) (x : Kd.dens f101_pk) : runX (f101_C k) nA Tryz.f101 f101_pk f101_rk x = f101_F k x := by
  show _ = f101_raw0 k x
  obtain ⟨a0, ⟨⟩⟩ := x
  kernel_rfl
theorem f101_ctr (k : Nat) : Ctr Tryz.prog k 101 (mk f101_pk f101_rk f101_F) :=
  lawX (fn := Tryz.f101) (phi_ok ctr_nil) (by kernel_rfl) (by kernel_rfl) (by kernel_rfl) (by kernel_rfl) (f101_eq k)
noncomputable abbrev f101_m : Nat × Callee := (101, mk f101_pk f101_rk f101_F)
abbrev f180_pk : List Kd := [.view (.fl .f64)]
abbrev f180_rk : Kd := .view .bool
noncomputable def f180_C (k : Nat) := cxX k []
def f180_raw0 (k : Nat) : Nat × Unit → Option (Bool × Unit)
  | (a0, ()) => some (FloatKind.f64.format.order a0 a0 != some Ordering.eq, ())
def f180_F (k : Nat) := f180_raw0 k
theorem f180_eq (k : Nat) (x : Kd.dens f180_pk) : runX (f180_C k) nA Tryz.f180 f180_pk f180_rk x = f180_F k x := by
  show _ = f180_raw0 k x
  obtain ⟨a0, ⟨⟩⟩ := x
  kernel_rfl
theorem f180_ctr (k : Nat) : Ctr Tryz.prog k 180 (mk f180_pk f180_rk f180_F) :=
  lawX (fn := Tryz.f180) (phi_ok ctr_nil) (by kernel_rfl) (by kernel_rfl) (by kernel_rfl) (by kernel_rfl) (f180_eq k)
noncomputable abbrev f180_m : Nat × Callee := (180, mk f180_pk f180_rk f180_F)
abbrev f181_pk : List Kd := [.view (.fl .f64)]
abbrev f181_rk : Kd := .tup [.view (.fl .f64), .view (.fl .f64)]
noncomputable def f181_C (k : Nat) := cxX k [f141_m, f193_m]
def f181_raw0 (k : Nat) : Nat × Unit → Option ((Nat × Nat × Unit) × Unit)
  | (a0, ()) => (f141_F k (a0, ())).bind fun y => (floatBits BinOp.sub FloatKind.f64 a0 y.1).bind fun y_1 => (f193_F k (y_1, a0, ())).bind fun y_2 => some ((y.1, y_2.1, ()), ())
def f181_F (k : Nat) := f181_raw0 k
theorem f181_eq (k : Nat) (x : Kd.dens f181_pk) : runX (f181_C k) nA Tryz.f181 f181_pk f181_rk x = f181_F k x := by
  show _ = f181_raw0 k x
  obtain ⟨a0, ⟨⟩⟩ := x
  kernel_rfl
theorem f181_ctr (k : Nat) : Ctr Tryz.prog k 181 (mk f181_pk f181_rk f181_F) :=
  lawX (fn := Tryz.f181) (phi_ok (ctr_cons (f141_ctr k) (ctr_cons (f193_ctr k) ctr_nil))) (by kernel_rfl) (by kernel_rfl) (by kernel_rfl) (by kernel_rfl) (f181_eq k)
noncomputable abbrev f181_m : Nat × Callee := (181, mk f181_pk f181_rk f181_F)
abbrev f145_pk : List Kd := [.view (.fl .f64)]
abbrev f145_rk : Kd := .view (.fl .f64)
noncomputable def f145_C (k : Nat) := cxX k [f142_m, f180_m, f181_m]
def f145_raw0 (k : Nat) : Nat × Unit → Option (Nat × Unit)
  | (a0, ()) => bif FloatKind.f64.format.order a0 (0 : Nat) == some Ordering.eq then some (a0, ()) else (f180_F k (a0, ())).bind fun y => bif y.1 then some (a0, ()) else (f142_F k (a0, 0, ())).bind fun y => bif y.1 then some (a0, ()) else bif FloatKind.f64.format.order a0 (0 : Nat) == some Ordering.lt then (f181_F k (a0 ^^^ (9223372036854775808 : Nat), ())).bind fun y => bif FloatKind.f64.format.order y.1.2.1 (0 : Nat) != some Ordering.eq then (floatBits BinOp.add FloatKind.f64 y.1.1 (4607182418800017408 : Nat)).bind fun y => some (y ^^^ (9223372036854775808 : Nat), ()) else some (y.1.1 ^^^ (9223372036854775808 : Nat), ()) else (f181_F k (a0, ())).bind fun y => some (y.1.1, ())
def f145_F (k : Nat) := f145_raw0 k
theorem f145_eq (k : Nat) (x : Kd.dens f145_pk) : runX (f145_C k) nA Tryz.f145 f145_pk f145_rk x = f145_F k x := by
  show _ = f145_raw0 k x
  obtain ⟨a0, ⟨⟩⟩ := x
  kernel_rfl
theorem f145_ctr (k : Nat) : Ctr Tryz.prog k 145 (mk f145_pk f145_rk f145_F) :=
  lawX (fn := Tryz.f145) (phi_ok (ctr_cons (f142_ctr k) (ctr_cons (f180_ctr k) (ctr_cons (f181_ctr k) ctr_nil)))) (by kernel_rfl) (by kernel_rfl) (by kernel_rfl) (by kernel_rfl) (f145_eq k)
noncomputable abbrev f145_m : Nat × Callee := (145, mk f145_pk f145_rk f145_F)
abbrev f102_pk : List Kd := [.view (.fl .f64)]
abbrev f102_rk : Kd := .view (.fl .f64)
noncomputable def f102_C (k : Nat) := cxX k [f145_m]
def f102_raw0 (k : Nat) : Nat × Unit → Option (Nat × Unit)
  | (a0, ()) => (integralFl Ieee.Toward.down a0).bind fun y => some (y, ())
def f102_F (k : Nat) := f102_raw0 k
theorem f102_eq (k : Nat) (x : Kd.dens f102_pk) : runX (f102_C k) nA Tryz.f102 f102_pk f102_rk x = f102_F k x := by
  show _ = f102_raw0 k x
  obtain ⟨a0, ⟨⟩⟩ := x
  kernel_rfl
theorem f102_ctr (k : Nat) : Ctr Tryz.prog k 102 (mk f102_pk f102_rk f102_F) :=
  lawX (fn := Tryz.f102) (phi_ok (ctr_cons (f145_ctr k) ctr_nil)) (by kernel_rfl) (by kernel_rfl) (by kernel_rfl) (by kernel_rfl) (f102_eq k)
noncomputable abbrev f102_m : Nat × Callee := (102, mk f102_pk f102_rk f102_F)
abbrev f61_pk : List Kd := [.view (.sl (.cx .f64)), .view (.int .i64)]
abbrev f61_rk : Kd := .tup [.view (.sl (.int .i64)), .view (.sl (.int .i64)), .view (.int .i64)]
noncomputable def f61_C (k : Nat) := cxX k [f91_m, f100_m, f101_m, f102_m]
def f61_A : Nat → Ann := fun id => bif Nat.beq id 8 then ⟨[23, 24, 22, 1, 8, 9], [.slot 8 ((Ty.int IntKind.i64)), .slot 9 ((Ty.int IntKind.i64))]⟩ else ⟨[], []⟩
abbrev f61_T1 := Int × Int × List (Nat × Nat) × Int × List Int × List Int
abbrev f61_K1 := f61_T1 → Option ((List Int × List Int × Int × Unit) × Unit)
def f61_S1 : f61_T1 → St
  | (v0, v1, v2, v3, v4, v5) => St.mk (envOf [(nat_lit 23, avI v0), (nat_lit 24, avI v1), (nat_lit 22, AV.val (PV.sl (Ty.cx FloatKind.f64) v2)), (nat_lit 1, avI v3), (nat_lit 8, AV.own (nat_lit 8192)), (nat_lit 9, AV.own (nat_lit 8193))]) (tblOf [(nat_lit 8192, RS.live (Res.arr (Ty.int IntKind.i64) v4 false)), (nat_lit 8193, RS.live (Res.arr (Ty.int IntKind.i64) v5 false))])
def f61_raw1 (k : Nat) (L1 : f61_K1) : f61_K1
  | (v0, v1, v2, v3, v4, v5) => bif decide (v1 < v0) then bif decide ((0 : Int) ≤ v1 ∧ v1 < Int.ofNat v2.length) then bif v3 == (8 : Int) then (f101_F k (((v2.getD v1.toNat ((0 : Nat), (0 : Nat))).1, (v2.getD v1.toNat ((0 : Nat), (0 : Nat))).2), ())).bind fun y => (floatToIntVal FloatKind.f64 (v2.getD v1.toNat ((0 : Nat), (0 : Nat))).1 IntKind.i64).bind fun y_1 => bif decide (v4.length + [y_1].length < (2147483648 : Nat)) then (floatToIntVal FloatKind.f64 y.1 IntKind.i64).bind fun y => bif decide (v5.length + [y].length < (2147483648 : Nat)) then L1 (v0, IntKind.i64.wrap (v1 + (1 : Int)), v2, v3, v4 ++ [y_1], v5 ++ [y]) else none else none else bif v3 == (9 : Int) then (f101_F k (((v2.getD v1.toNat ((0 : Nat), (0 : Nat))).1, (v2.getD v1.toNat ((0 : Nat), (0 : Nat))).2), ())).bind fun y => (floatToIntVal FloatKind.f64 y.1 IntKind.i64).bind fun y => bif decide (v4.length + [y].length < (2147483648 : Nat)) then (floatToIntVal FloatKind.f64 (v2.getD v1.toNat ((0 : Nat), (0 : Nat))).2 IntKind.i64).bind fun y_1 => bif decide (v5.length + [y_1].length < (2147483648 : Nat)) then L1 (v0, IntKind.i64.wrap (v1 + (1 : Int)), v2, v3, v4 ++ [y], v5 ++ [y_1]) else none else none else bif v3 == (10 : Int) then (floatBits BinOp.add FloatKind.f64 (v2.getD v1.toNat ((0 : Nat), (0 : Nat))).1 (v2.getD v1.toNat ((0 : Nat), (0 : Nat))).2).bind fun y => (floatBits BinOp.quo FloatKind.f64 y (4611686018427387904 : Nat)).bind fun y => (f102_F k (y, ())).bind fun y => (f101_F k (((v2.getD v1.toNat ((0 : Nat), (0 : Nat))).1, (v2.getD v1.toNat ((0 : Nat), (0 : Nat))).2), ())).bind fun y_1 => (floatToIntVal FloatKind.f64 y.1 IntKind.i64).bind fun y => bif decide (v4.length + [y].length < (2147483648 : Nat)) then (floatToIntVal FloatKind.f64 y_1.1 IntKind.i64).bind fun y_2 => bif decide (v5.length + [y_2].length < (2147483648 : Nat)) then L1 (v0, IntKind.i64.wrap (v1 + (1 : Int)), v2, v3, v4 ++ [y], v5 ++ [y_2]) else none else none else (floatToIntVal FloatKind.f64 (v2.getD v1.toNat ((0 : Nat), (0 : Nat))).1 IntKind.i64).bind fun y => bif decide (v4.length + [y].length < (2147483648 : Nat)) then (floatToIntVal FloatKind.f64 (v2.getD v1.toNat ((0 : Nat), (0 : Nat))).2 IntKind.i64).bind fun y_1 => bif decide (v5.length + [y_1].length < (2147483648 : Nat)) then L1 (v0, IntKind.i64.wrap (v1 + (1 : Int)), v2, v3, v4 ++ [y], v5 ++ [y_1]) else none else none else none else some ((v4, v5, 0, ()), ())
def f61_L1 (k : Nat) : f61_K1 := iter (fun L1 => f61_raw1 k L1) k
noncomputable def f61_at1 (k : Nat) (n : Nat) (v : f61_T1) : Option ((List Int × List Int × Int × Unit) × Unit) :=
  loopAt (f61_C k) f61_A [] [1, 1, 1, 1, 0, 1, 0] [] (cdX Tryz.f61) (lvX (f61_C k) Tryz.f61 f61_pk f61_rk [] []) n (f61_S1 v)
def f61_raw0 (k : Nat) (L1 : f61_K1) : List (Nat × Nat) × Int × Unit → Option ((List Int × List Int × Int × Unit) × Unit)
  | (a0, a1, ()) => (f91_F k (a1, ())).bind fun y => bif !y.1 then some (([], [], 1, ()), ()) else (f100_F k (a0, ())).bind fun y => bif y.1 != (0 : Int) then some (([], [], y.1, ()), ()) else L1 (Int.ofNat a0.length, (0 : Int), a0, a1, [], [])
def f61_F (k : Nat) := f61_raw0 k (f61_L1 k)
theorem f61_law1 (k : Nat) : ∀ n, f61_at1 k n = iter (fun L1 => f61_raw1 k L1) n :=
  iter_law (fun v => by kernel_rfl) (fun n v => by
    show f61_at1 k (n + 1) v = f61_raw1 k (f61_at1 k n) v
    obtain ⟨v0, v1, v2, v3, v4, v5⟩ := v
    kernel_rfl)
theorem f61_eq (k : Nat) (x : Kd.dens f61_pk) : runX (f61_C k) f61_A Tryz.f61 f61_pk f61_rk x = f61_F k x := by
  show _ = f61_raw0 k (f61_L1 k) x
  rw [show f61_L1 k = f61_at1 k k from (f61_law1 k k).symm]
  obtain ⟨a0, ⟨a1, ⟨⟩⟩⟩ := x
  kernel_rfl
theorem f61_ctr (k : Nat) : Ctr Tryz.prog k 61 (mk f61_pk f61_rk f61_F) :=
  lawX (fn := Tryz.f61) (phi_ok (ctr_cons (f91_ctr k) (ctr_cons (f100_ctr k) (ctr_cons (f101_ctr k) (ctr_cons (f102_ctr k) ctr_nil))))) (by kernel_rfl) (by kernel_rfl) (by kernel_rfl) (by kernel_rfl) (f61_eq k)
noncomputable abbrev f61_m : Nat × Callee := (61, mk f61_pk f61_rk f61_F)
abbrev f99_pk : List Kd := [.view (.sl (.int .i64))]
abbrev f99_rk : Kd := .view (.int .i64)
noncomputable def f99_C (k : Nat) := cxX k []
def f99_A : Nat → Ann := fun id => bif Nat.beq id 3 then ⟨[8, 9, 7, 3, 4], []⟩ else ⟨[], []⟩
abbrev f99_T1 := Int × Int × List Int × Int × Int
abbrev f99_K1 := f99_T1 → Option (Int × Unit)
def f99_S1 : f99_T1 → St
  | (v0, v1, v2, v3, v4) => St.mk (envOf [(nat_lit 8, avI v0), (nat_lit 9, avI v1), (nat_lit 7, avL v2), (nat_lit 3, avI v3), (nat_lit 4, avI v4)]) (tblOf [])
def f99_raw1 (k : Nat) (L1 : f99_K1) : f99_K1
  | (v0, v1, v2, v3, v4) => bif decide (v1 < v0) then bif decide ((0 : Int) ≤ v1 ∧ v1 < Int.ofNat v2.length) then L1 (v0, IntKind.i64.wrap (v1 + (1 : Int)), v2, IntKind.i64.wrap (v3 + if IntKind.i64.wrap (v2.getD v1.toNat 0 - v4) < IntKind.i64.wrap (v4 - v2.getD v1.toNat 0) then IntKind.i64.wrap (v4 - v2.getD v1.toNat 0) else IntKind.i64.wrap (v2.getD v1.toNat 0 - v4)), v2.getD v1.toNat 0) else none else some (v3, ())
def f99_L1 (k : Nat) : f99_K1 := iter (fun L1 => f99_raw1 k L1) k
noncomputable def f99_at1 (k : Nat) (n : Nat) (v : f99_T1) : Option (Int × Unit) :=
  loopAt (f99_C k) f99_A [] [1, 1, 0, 1, 0] [] (cdX Tryz.f99) (lvX (f99_C k) Tryz.f99 f99_pk f99_rk [] []) n (f99_S1 v)
def f99_raw0 (k : Nat) (L1 : f99_K1) : List Int × Unit → Option (Int × Unit)
  | (a0, ()) => L1 (Int.ofNat a0.length, (0 : Int), a0, (0 : Int), (0 : Int))
def f99_F (k : Nat) := f99_raw0 k (f99_L1 k)
theorem f99_law1 (k : Nat) : ∀ n, f99_at1 k n = iter (fun L1 => f99_raw1 k L1) n :=
  iter_law (fun v => by kernel_rfl) (fun n v => by
    show f99_at1 k (n + 1) v = f99_raw1 k (f99_at1 k n) v
    obtain ⟨v0, v1, v2, v3, v4⟩ := v
    kernel_rfl)
theorem f99_eq (k : Nat) (x : Kd.dens f99_pk) : runX (f99_C k) f99_A Tryz.f99 f99_pk f99_rk x = f99_F k x := by
  show _ = f99_raw0 k (f99_L1 k) x
  rw [show f99_L1 k = f99_at1 k k from (f99_law1 k k).symm]
  obtain ⟨a0, ⟨⟩⟩ := x
  kernel_rfl
theorem f99_ctr (k : Nat) : Ctr Tryz.prog k 99 (mk f99_pk f99_rk f99_F) :=
  lawX (fn := Tryz.f99) (phi_ok ctr_nil) (by kernel_rfl) (by kernel_rfl) (by kernel_rfl) (by kernel_rfl) (f99_eq k)
noncomputable abbrev f99_m : Nat × Callee := (99, mk f99_pk f99_rk f99_F)
abbrev f60_pk : List Kd := [.view (.sl (.cx .f64))]
abbrev f60_rk : Kd := .tup [.view (.int .i64), .view (.int .i64)]
noncomputable def f60_C (k : Nat) := cxX k [f61_m, f99_m]
def f60_A : Nat → Ann := fun id => bif Nat.beq id 3 then ⟨[13, 12, 0, 5, 4], []⟩ else ⟨[], []⟩
abbrev f60_T1 := Int × Int × Int × Int × Int × List (Nat × Nat) × Int × Int
abbrev f60_K1 := f60_T1 → Option ((Int × Int × Unit) × Unit)
def f60_S1 : f60_T1 → St
  | (v0, v1, v2, v3, v4, v5, v6, v7) => St.mk (envOf [(nat_lit 13, avI v0), (nat_lit 12, AV.agg [avI v1, avI v2, avI v3, avI v4]), (nat_lit 0, AV.val (PV.sl (Ty.cx FloatKind.f64) v5)), (nat_lit 5, avI v6), (nat_lit 4, avI v7)]) (tblOf [])
def f60_raw1 (k : Nat) (L1 : f60_K1) : f60_K1
  | (v0, v1, v2, v3, v4, v5, v6, v7) => bif decide (v0 < (4 : Int)) then bif decide ((0 : Int) ≤ v0 ∧ v0 < (4 : Int)) then (f61_F k (v5, [v1, v2, v3, v4].getD v0.toNat (0 : Int), ())).bind fun y => bif y.1.2.2.1 != (0 : Int) then some ((0, y.1.2.2.1, ()), ()) else (f99_F k (y.1.1, ())).bind fun y_1 => (f99_F k (y.1.2.1, ())).bind fun y => bif decide (v6 < (0 : Int)) then L1 (IntKind.i64.wrap (v0 + (1 : Int)), v1, v2, v3, v4, v5, IntKind.i64.wrap (y_1.1 + y.1), [v1, v2, v3, v4].getD v0.toNat (0 : Int)) else bif decide (IntKind.i64.wrap (y_1.1 + y.1) < v6) then L1 (IntKind.i64.wrap (v0 + (1 : Int)), v1, v2, v3, v4, v5, IntKind.i64.wrap (y_1.1 + y.1), [v1, v2, v3, v4].getD v0.toNat (0 : Int)) else L1 (IntKind.i64.wrap (v0 + (1 : Int)), v1, v2, v3, v4, v5, v6, v7) else none else some ((v7, 0, ()), ())
def f60_L1 (k : Nat) : f60_K1 := iter (fun L1 => f60_raw1 k L1) k
noncomputable def f60_at1 (k : Nat) (n : Nat) (v : f60_T1) : Option ((Int × Int × Unit) × Unit) :=
  loopAt (f60_C k) f60_A [] [1, 1, 0, 1, 0] [] (cdX Tryz.f60) (lvX (f60_C k) Tryz.f60 f60_pk f60_rk [] []) n (f60_S1 v)
def f60_raw0 (k : Nat) (L1 : f60_K1) : List (Nat × Nat) × Unit → Option ((Int × Int × Unit) × Unit)
  | (a0, ()) => L1 ((0 : Int), (0 : Int), (8 : Int), (9 : Int), (10 : Int), a0, (-1 : Int), (0 : Int))
def f60_F (k : Nat) := f60_raw0 k (f60_L1 k)
theorem f60_law1 (k : Nat) : ∀ n, f60_at1 k n = iter (fun L1 => f60_raw1 k L1) n :=
  iter_law (fun v => by kernel_rfl) (fun n v => by
    show f60_at1 k (n + 1) v = f60_raw1 k (f60_at1 k n) v
    obtain ⟨v0, v1, v2, v3, v4, v5, v6, v7⟩ := v
    kernel_rfl)
theorem f60_eq (k : Nat) (x : Kd.dens f60_pk) : runX (f60_C k) f60_A Tryz.f60 f60_pk f60_rk x = f60_F k x := by
  show _ = f60_raw0 k (f60_L1 k) x
  rw [show f60_L1 k = f60_at1 k k from (f60_law1 k k).symm]
  obtain ⟨a0, ⟨⟩⟩ := x
  kernel_rfl
theorem f60_ctr (k : Nat) : Ctr Tryz.prog k 60 (mk f60_pk f60_rk f60_F) :=
  lawX (fn := Tryz.f60) (phi_ok (ctr_cons (f61_ctr k) (ctr_cons (f99_ctr k) ctr_nil))) (by kernel_rfl) (by kernel_rfl) (by kernel_rfl) (by kernel_rfl) (f60_eq k)
noncomputable abbrev f60_m : Nat × Callee := (60, mk f60_pk f60_rk f60_F)
abbrev f24_pk : List Kd := [.view frameT]
abbrev f24_rk : Kd := .tup [.view (.sl (.sl (.int .i64))), .view (.int .i64), .view (.int .i64)]
noncomputable def f24_C (k : Nat) := cxX k [f59_m, f60_m, f61_m]
def f24_raw0 (k : Nat) : (Int × List (List Int) × Unit) × Unit → Option ((List (List Int) × Int × Int × Unit) × Unit)
  | ((a0, a1, ()), ()) => bif Int.ofNat a1.length == (1 : Int) then some ((a1, 0, 0, ()), ()) else bif decide ((0 : Int) ≤ (0 : Int) ∧ (0 : Int) < Int.ofNat a1.length) then bif decide ((0 : Int) ≤ (1 : Int) ∧ (1 : Int) < Int.ofNat a1.length) then (f59_F k (a1.getD (0 : Nat) [], a1.getD (1 : Nat) [], ())).bind fun y => bif y.1.2.1 != (0 : Int) then some (([], 0, y.1.2.1, ()), ()) else (f60_F k (y.1.1, ())).bind fun y_1 => bif y_1.1.2.1 != (0 : Int) then some (([], 0, y_1.1.2.1, ()), ()) else (f61_F k (y.1.1, y_1.1.1, ())).bind fun y => bif y_1.1.1 == (0 : Int) then some (([y.1.1, y.1.2.1], 1, y.1.2.2.1, ()), ()) else some (([y.1.1, y.1.2.1], y_1.1.1, y.1.2.2.1, ()), ()) else none else none
def f24_F (k : Nat) := f24_raw0 k
theorem f24_eq (k : Nat) (x : Kd.dens f24_pk) : runX (f24_C k) nA Tryz.f24 f24_pk f24_rk x = f24_F k x := by
  show _ = f24_raw0 k x
  obtain ⟨⟨a0, ⟨a1, ⟨⟩⟩⟩, ⟨⟩⟩ := x
  kernel_rfl
theorem f24_ctr (k : Nat) : Ctr Tryz.prog k 24 (mk f24_pk f24_rk f24_F) :=
  lawX (fn := Tryz.f24) (phi_ok (ctr_cons (f59_ctr k) (ctr_cons (f60_ctr k) (ctr_cons (f61_ctr k) ctr_nil)))) (by kernel_rfl) (by kernel_rfl) (by kernel_rfl) (by kernel_rfl) (f24_eq k)
noncomputable abbrev f24_m : Nat × Callee := (24, mk f24_pk f24_rk f24_F)
abbrev f25_pk : List Kd := []
abbrev f25_rk : Kd := .box [.own (.int .u8) false, .view (.int .i64)]
noncomputable def f25_C (k : Nat) := cxX k []
def f25_raw0 (k : Nat) : Unit → Option ((List Int × Int × Unit) × Unit)
  | () => some (([], 0, ()), ())
def f25_F (k : Nat) := f25_raw0 k
theorem f25_eq (k : Nat) (x : Kd.dens f25_pk) : runX (f25_C k) nA Tryz.f25 f25_pk f25_rk x = f25_F k x := by
  show _ = f25_raw0 k x
  obtain ⟨⟩ := x
  kernel_rfl
theorem f25_ctr (k : Nat) : Ctr Tryz.prog k 25 (mk f25_pk f25_rk f25_F) :=
  lawX (fn := Tryz.f25) (phi_ok ctr_nil) (by kernel_rfl) (by kernel_rfl) (by kernel_rfl) (by kernel_rfl) (f25_eq k)
noncomputable abbrev f25_m : Nat × Callee := (25, mk f25_pk f25_rk f25_F)
abbrev f62_pk : List Kd := [.view (.int .i64)]
abbrev f62_rk : Kd := .view .bool
noncomputable def f62_C (k : Nat) := cxX k []
def f62_raw0 (k : Nat) : Int × Unit → Option (Bool × Unit)
  | (a0, ()) => bif decide (a0 < (0 : Int)) then some (true, ()) else some (decide ((32 : Int) < a0), ())
def f62_F (k : Nat) := f62_raw0 k
theorem f62_eq (k : Nat) (x : Kd.dens f62_pk) : runX (f62_C k) nA Tryz.f62 f62_pk f62_rk x = f62_F k x := by
  show _ = f62_raw0 k x
  obtain ⟨a0, ⟨⟩⟩ := x
  kernel_rfl
theorem f62_ctr (k : Nat) : Ctr Tryz.prog k 62 (mk f62_pk f62_rk f62_F) :=
  lawX (fn := Tryz.f62) (phi_ok ctr_nil) (by kernel_rfl) (by kernel_rfl) (by kernel_rfl) (by kernel_rfl) (f62_eq k)
noncomputable abbrev f62_m : Nat × Callee := (62, mk f62_pk f62_rk f62_F)
abbrev f103_pk : List Kd := [.box [.own (.int .u8) false, .view (.int .i64)], .view (.int .i64)]
abbrev f103_rk : Kd := .tup []
noncomputable def f103_C (k : Nat) := cxX k []
def f103_raw0 (k : Nat) : (List Int × Int × Unit) × Int × Unit → Option (Unit × (List Int × Int × Unit) × Unit)
  | ((a0, a1, ()), a2, ()) => bif a1.tmod (8 : Int) == (0 : Int) then bif decide (a0.length + (1 : Nat) < (2147483648 : Nat)) then bif decide ((0 : Int) ≤ IntKind.i64.wrap (a1.tdiv (8 : Int)) ∧ IntKind.i64.wrap (a1.tdiv (8 : Int)) < Int.ofNat (a0 ++ [(0 : Int)]).length) then bif decide ((IntKind.i64.wrap (a1.tdiv (8 : Int))).toNat < (a0 ++ [(0 : Int)]).length) then bif decide ((0 : Int) ≤ IntKind.i64.wrap ((7 : Int) - a1.tmod (8 : Int))) then bif decide ((0 : Int) ≤ IntKind.i64.wrap (a1.tdiv (8 : Int)) ∧ IntKind.i64.wrap (a1.tdiv (8 : Int)) < Int.ofNat (a0 ++ [(0 : Int)]).length) then bif decide ((IntKind.i64.wrap (a1.tdiv (8 : Int))).toNat < (a0 ++ [(0 : Int)]).length) then some ((), ((a0 ++ [(0 : Int)]).set (IntKind.i64.wrap (a1.tdiv (8 : Int))).toNat (IntKind.u8.wrap (Int.ofNat (BitVec.ofInt (8 : Nat) ((a0 ++ [(0 : Int)]).getD (IntKind.i64.wrap (a1.tdiv (8 : Int))).toNat 0) ||| BitVec.ofInt (8 : Nat) (IntKind.u8.wrap (IntKind.i64.wrap (a2 * (2 : Int) ^ min (IntKind.i64.wrap ((7 : Int) - a1.tmod (8 : Int))).toNat (64 : Nat))))).toNat)), IntKind.i64.wrap (a1 + (1 : Int)), ()), ()) else none else none else none else none else none else none else bif decide ((0 : Int) ≤ IntKind.i64.wrap (a1.tdiv (8 : Int)) ∧ IntKind.i64.wrap (a1.tdiv (8 : Int)) < Int.ofNat a0.length) then bif decide ((IntKind.i64.wrap (a1.tdiv (8 : Int))).toNat < a0.length) then bif decide ((0 : Int) ≤ IntKind.i64.wrap ((7 : Int) - a1.tmod (8 : Int))) then bif decide ((0 : Int) ≤ IntKind.i64.wrap (a1.tdiv (8 : Int)) ∧ IntKind.i64.wrap (a1.tdiv (8 : Int)) < Int.ofNat a0.length) then bif decide ((IntKind.i64.wrap (a1.tdiv (8 : Int))).toNat < a0.length) then some ((), (a0.set (IntKind.i64.wrap (a1.tdiv (8 : Int))).toNat (IntKind.u8.wrap (Int.ofNat (BitVec.ofInt (8 : Nat) (a0.getD (IntKind.i64.wrap (a1.tdiv (8 : Int))).toNat 0) ||| BitVec.ofInt (8 : Nat) (IntKind.u8.wrap (IntKind.i64.wrap (a2 * (2 : Int) ^ min (IntKind.i64.wrap ((7 : Int) - a1.tmod (8 : Int))).toNat (64 : Nat))))).toNat)), IntKind.i64.wrap (a1 + (1 : Int)), ()), ()) else none else none else none else none else none
def f103_F (k : Nat) := f103_raw0 k
theorem f103_eq (k : Nat) (x : Kd.dens f103_pk) : runX (f103_C k) nA Tryz.f103 f103_pk f103_rk x = f103_F k x := by
  show _ = f103_raw0 k x
  obtain ⟨⟨a0, ⟨a1, ⟨⟩⟩⟩, ⟨a2, ⟨⟩⟩⟩ := x
  kernel_rfl
theorem f103_ctr (k : Nat) : Ctr Tryz.prog k 103 (mk f103_pk f103_rk f103_F) :=
  lawX (fn := Tryz.f103) (phi_ok ctr_nil) (by kernel_rfl) (by kernel_rfl) (by kernel_rfl) (by kernel_rfl) (f103_eq k)
noncomputable abbrev f103_m : Nat × Callee := (103, mk f103_pk f103_rk f103_F)
abbrev f63_pk : List Kd := [.box [.own (.int .u8) false, .view (.int .i64)], .view (.int .u64), .view (.int .i64)]
abbrev f63_rk : Kd := .tup []
noncomputable def f63_C (k : Nat) := cxX k [f103_m]
def f63_A : Nat → Ann := fun id => bif Nat.beq id 1 then ⟨[6, 0, 1], []⟩ else ⟨[], []⟩
abbrev f63_T1 := Int × Int × Int × List Int
abbrev f63_K1 := f63_T1 → Option (Unit × (List Int × Int × Unit) × Unit)
def f63_S1 : f63_T1 → St
  | (v0, v1, v2, v3) => St.mk (envOf [(nat_lit 6, avI v0), (nat_lit 0, AV.bx (nat_lit 0) (nat_lit 0)), (nat_lit 1, AV.val (PV.v (Value.int IntKind.u64 v1)))]) (tblOf [(nat_lit 0, RS.live (Res.box [AV.own (nat_lit 8192), avI v2])), (nat_lit 8192, RS.live (Res.arr (Ty.int IntKind.u8) v3 false))])
def f63_raw1 (k : Nat) (L1 : f63_K1) : f63_K1
  | (v0, v1, v2, v3) => bif decide ((0 : Int) ≤ v0) then bif decide ((0 : Int) ≤ v0) then (f103_F k ((v3, v2, ()), IntKind.i64.wrap (IntKind.u64.wrap (Int.ofNat (BitVec.ofInt (64 : Nat) (v1.fdiv ((2 : Int) ^ min v0.toNat (64 : Nat))) &&& BitVec.ofInt (64 : Nat) (1 : Int)).toNat)), ())).bind fun y => L1 (IntKind.i64.wrap (v0 - (1 : Int)), v1, y.2.1.2.1, y.2.1.1) else none else some ((), (v3, v2, ()), ())
def f63_L1 (k : Nat) : f63_K1 := iter (fun L1 => f63_raw1 k L1) k
noncomputable def f63_at1 (k : Nat) (n : Nat) (v : f63_T1) : Option (Unit × (List Int × Int × Unit) × Unit) :=
  loopAt (f63_C k) f63_A [0] [1, 0] [] (cdX Tryz.f63) (lvX (f63_C k) Tryz.f63 f63_pk f63_rk [AV.bx (nat_lit 0) (nat_lit 0)] [[]]) n (f63_S1 v)
def f63_raw0 (k : Nat) (L1 : f63_K1) : (List Int × Int × Unit) × Int × Int × Unit → Option (Unit × (List Int × Int × Unit) × Unit)
  | ((a0, a1, ()), a2, a3, ()) => L1 (IntKind.i64.wrap (a3 - (1 : Int)), a2, a1, a0)
def f63_F (k : Nat) := f63_raw0 k (f63_L1 k)
theorem f63_law1 (k : Nat) : ∀ n, f63_at1 k n = iter (fun L1 => f63_raw1 k L1) n :=
  iter_law (fun v => by kernel_rfl) (fun n v => by
    show f63_at1 k (n + 1) v = f63_raw1 k (f63_at1 k n) v
    obtain ⟨v0, v1, v2, v3⟩ := v
    kernel_rfl)
theorem f63_eq (k : Nat) (x : Kd.dens f63_pk) : runX (f63_C k) f63_A Tryz.f63 f63_pk f63_rk x = f63_F k x := by
  show _ = f63_raw0 k (f63_L1 k) x
  rw [show f63_L1 k = f63_at1 k k from (f63_law1 k k).symm]
  obtain ⟨⟨a0, ⟨a1, ⟨⟩⟩⟩, ⟨a2, ⟨a3, ⟨⟩⟩⟩⟩ := x
  kernel_rfl
theorem f63_ctr (k : Nat) : Ctr Tryz.prog k 63 (mk f63_pk f63_rk f63_F) :=
  lawX (fn := Tryz.f63) (phi_ok (ctr_cons (f103_ctr k) ctr_nil)) (by kernel_rfl) (by kernel_rfl) (by kernel_rfl) (by kernel_rfl) (f63_eq k)
noncomputable abbrev f63_m : Nat × Callee := (63, mk f63_pk f63_rk f63_F)
abbrev f26_pk : List Kd := [.box [.own (.int .u8) false, .view (.int .i64)], .view (.int .i64), .view (.int .i64)]
abbrev f26_rk : Kd := .view (.int .i64)
noncomputable def f26_C (k : Nat) := cxX k [f62_m, f63_m]
def f26_raw0 (k : Nat) : (List Int × Int × Unit) × Int × Int × Unit → Option (Int × (List Int × Int × Unit) × Unit)
  | ((a0, a1, ()), a2, a3, ()) => (f62_F k (a3, ())).bind fun y => bif y.1 then some (1, (a0, a1, ()), ()) else bif decide (a2 < (0 : Int)) then some (12, (a0, a1, ()), ()) else bif decide ((0 : Int) ≤ a3) then bif a2.fdiv ((2 : Int) ^ min a3.toNat (64 : Nat)) != (0 : Int) then some (12, (a0, a1, ()), ()) else (f63_F k ((a0, a1, ()), IntKind.u64.wrap a2, a3, ())).bind fun y => some (0, (y.2.1.1, y.2.1.2.1, ()), ()) else none
def f26_F (k : Nat) := f26_raw0 k
theorem f26_eq (k : Nat) (x : Kd.dens f26_pk) : runX (f26_C k) nA Tryz.f26 f26_pk f26_rk x = f26_F k x := by
  show _ = f26_raw0 k x
  obtain ⟨⟨a0, ⟨a1, ⟨⟩⟩⟩, ⟨a2, ⟨a3, ⟨⟩⟩⟩⟩ := x
  kernel_rfl
theorem f26_ctr (k : Nat) : Ctr Tryz.prog k 26 (mk f26_pk f26_rk f26_F) :=
  lawX (fn := Tryz.f26) (phi_ok (ctr_cons (f62_ctr k) (ctr_cons (f63_ctr k) ctr_nil))) (by kernel_rfl) (by kernel_rfl) (by kernel_rfl) (by kernel_rfl) (f26_eq k)
noncomputable abbrev f26_m : Nat × Callee := (26, mk f26_pk f26_rk f26_F)
abbrev f64_pk : List Kd := [.view (.int .i64)]
abbrev f64_rk : Kd := .view (.int .i64)
noncomputable def f64_C (k : Nat) := cxX k []
def f64_raw0 (k : Nat) : Int × Unit → Option (Int × Unit)
  | (a0, ()) => bif a0 == (1 : Int) then some (7, ()) else some (IntKind.i64.wrap (IntKind.i64.wrap ((5 : Int) * a0) + (1 : Int)), ())
def f64_F (k : Nat) := f64_raw0 k
theorem f64_eq (k : Nat) (x : Kd.dens f64_pk) : runX (f64_C k) nA Tryz.f64 f64_pk f64_rk x = f64_F k x := by
  show _ = f64_raw0 k x
  obtain ⟨a0, ⟨⟩⟩ := x
  kernel_rfl
theorem f64_ctr (k : Nat) : Ctr Tryz.prog k 64 (mk f64_pk f64_rk f64_F) :=
  lawX (fn := Tryz.f64) (phi_ok ctr_nil) (by kernel_rfl) (by kernel_rfl) (by kernel_rfl) (by kernel_rfl) (f64_eq k)
noncomputable abbrev f64_m : Nat × Callee := (64, mk f64_pk f64_rk f64_F)
abbrev f27_pk : List Kd := [.view (.int .i64)]
abbrev f27_rk : Kd := .tup [.view (.sl (.int .u8)), .view (.int .i64)]
noncomputable def f27_C (k : Nat) := cxX k [f64_m]
def f27_A : Nat → Ann := fun id => bif Nat.beq id 10 then ⟨[6, 5, 0, 4], []⟩ else bif Nat.beq id 6 then ⟨[0, 4], []⟩ else ⟨[], []⟩
abbrev f27_T2 := Int × Int × Int × List Int
abbrev f27_K2 := f27_T2 → Option ((List Int × Int × Unit) × Unit)
abbrev f27_T1 := Int × Int
abbrev f27_K1 := f27_T1 → Option ((List Int × Int × Unit) × Unit)
def f27_S2 : f27_T2 → St
  | (v0, v1, v2, v3) => St.mk (envOf [(nat_lit 6, avI v0), (nat_lit 5, AV.own (nat_lit 8192)), (nat_lit 0, avI v1), (nat_lit 4, avI v2)]) (tblOf [(nat_lit 8192, RS.live (Res.arr (Ty.int IntKind.u8) v3 false))])
def f27_raw2 (k : Nat) (L2 : f27_K2) : f27_K2
  | (v0, v1, v2, v3) => bif decide ((0 : Int) < v0) then bif decide ((0 : Int) ≤ v0 ∧ v0 < Int.ofNat v3.length) then bif decide (v0.toNat < v3.length) then L2 (IntKind.i64.wrap (v0 - (1 : Int)), v1.fdiv (64 : Int), v2, v3.set v0.toNat (IntKind.u8.wrap (Int.ofNat (BitVec.ofInt (8 : Nat) (128 : Int) ||| BitVec.ofInt (8 : Nat) (IntKind.u8.wrap (IntKind.i64.wrap (Int.ofNat (BitVec.ofInt (64 : Nat) v1 &&& BitVec.ofInt (64 : Nat) (63 : Int)).toNat)))).toNat))) else none else none else bif decide ((0 : Int) ≤ v2) then bif decide ((0 : Int) ≤ (0 : Int) ∧ (0 : Int) < Int.ofNat v3.length) then bif decide ((0 : Nat) < v3.length) then some ((v3.set (0 : Nat) (IntKind.u8.wrap (Int.ofNat (BitVec.ofInt (8 : Nat) (IntKind.u8.wrap (Int.fdiv (65280 : Int) ((2 : Int) ^ min v2.toNat (64 : Nat)))) ||| BitVec.ofInt (8 : Nat) (IntKind.u8.wrap v1)).toNat)), 0, ()), ()) else none else none else none
def f27_L2 (k : Nat) : f27_K2 := iter (fun L2 => f27_raw2 k L2) k
noncomputable def f27_at2 (k : Nat) (n : Nat) (v : f27_T2) : Option ((List Int × Int × Unit) × Unit) :=
  loopAt (f27_C k) f27_A [] [1, 1, 1, 1, 1, 1, 0, 1, 0] [] (cdX Tryz.f27) (lvX (f27_C k) Tryz.f27 f27_pk f27_rk [] []) n (f27_S2 v)
def f27_S1 : f27_T1 → St
  | (v0, v1) => St.mk (envOf [(nat_lit 0, avI v0), (nat_lit 4, avI v1)]) (tblOf [])
def f27_raw1 (k : Nat) (L2 : f27_K2) (L1 : f27_K1) : f27_K1
  | (v0, v1) => (f64_F k (v1, ())).bind fun y => bif decide ((0 : Int) ≤ y.1) then bif decide ((0 : Int) < v0.fdiv ((2 : Int) ^ min (Int.toNat y.1) (64 : Nat))) then L1 (v0, IntKind.i64.wrap (v1 + (1 : Int))) else bif decide ((0 : Int) ≤ v1 ∧ v1 ≤ v1 ∧ v1 < (4294967296 : Int)) then L2 (IntKind.i64.wrap (v1 - (1 : Int)), v0, v1, List.replicate v1.toNat (0 : Int)) else none else none
def f27_L1 (k : Nat) : f27_K1 := iter (fun L1 => f27_raw1 k (f27_L2 k) L1) k
noncomputable def f27_at1 (k : Nat) (n : Nat) (v : f27_T1) : Option ((List Int × Int × Unit) × Unit) :=
  loopAt (f27_C k) f27_A [] [1, 1, 1, 1, 0, 0] [] (cdX Tryz.f27) (lvX (f27_C k) Tryz.f27 f27_pk f27_rk [] []) n (f27_S1 v)
def f27_raw0 (k : Nat) (L1 : f27_K1) : Int × Unit → Option ((List Int × Int × Unit) × Unit)
  | (a0, ()) => bif decide (a0 < (0 : Int)) then some (([], 12, ()), ()) else bif decide ((68719476735 : Int) < a0) then some (([], 12, ()), ()) else bif decide (a0 < (128 : Int)) then some (([IntKind.u8.wrap a0], 0, ()), ()) else L1 (a0, (2 : Int))
def f27_F (k : Nat) := f27_raw0 k (f27_L1 k)
theorem f27_law2 (k : Nat) : ∀ n, f27_at2 k n = iter (fun L2 => f27_raw2 k L2) n :=
  iter_law (fun v => by kernel_rfl) (fun n v => by
    show f27_at2 k (n + 1) v = f27_raw2 k (f27_at2 k n) v
    obtain ⟨v0, v1, v2, v3⟩ := v
    kernel_rfl)
theorem f27_law1 (k : Nat) : ∀ n, f27_at1 k n = iter (fun L1 => f27_raw1 k (f27_L2 k) L1) n :=
  iter_law (fun v => by kernel_rfl) (fun n v => by
    show f27_at1 k (n + 1) v = f27_raw1 k (f27_L2 k) (f27_at1 k n) v
    rw [show (f27_L2 k) = f27_at2 k k from (f27_law2 k k).symm]
    obtain ⟨v0, v1⟩ := v
    kernel_rfl)
theorem f27_eq (k : Nat) (x : Kd.dens f27_pk) : runX (f27_C k) f27_A Tryz.f27 f27_pk f27_rk x = f27_F k x := by
  show _ = f27_raw0 k (f27_L1 k) x
  rw [show f27_L1 k = f27_at1 k k from (f27_law1 k k).symm]
  obtain ⟨a0, ⟨⟩⟩ := x
  kernel_rfl
theorem f27_ctr (k : Nat) : Ctr Tryz.prog k 27 (mk f27_pk f27_rk f27_F) :=
  lawX (fn := Tryz.f27) (phi_ok (ctr_cons (f64_ctr k) ctr_nil)) (by kernel_rfl) (by kernel_rfl) (by kernel_rfl) (by kernel_rfl) (f27_eq k)
noncomputable abbrev f27_m : Nat × Callee := (27, mk f27_pk f27_rk f27_F)
abbrev f65_pk : List Kd := [.view (.sl (.int .u8)), .view (.int .i64), .view (.int .u64)]
abbrev f65_rk : Kd := .view (.int .i64)
noncomputable def f65_C (k : Nat) := cxX k []
def f65_A : Nat → Ann := fun id => bif Nat.beq id 7 then ⟨[24, 7, 1, 2, 13, 12, 11], []⟩ else bif Nat.beq id 3 then ⟨[12, 13, 11, 7, 1, 2], []⟩ else ⟨[], []⟩
abbrev f65_T2 := Int × Int × Int × Int × Int × Int × List Int
abbrev f65_K2 := f65_T2 → Option (Int × Unit)
abbrev f65_T1 := Int × Int × List Int × Int × Int × Int
abbrev f65_K1 := f65_T1 → Option (Int × Unit)
def f65_S2 : f65_T2 → St
  | (v0, v1, v2, v3, v4, v5, v6) => St.mk (envOf [(nat_lit 24, avI v0), (nat_lit 7, AV.val (PV.v (Value.int IntKind.u64 v1))), (nat_lit 1, avI v2), (nat_lit 2, AV.val (PV.v (Value.int IntKind.u64 v3))), (nat_lit 13, avI v4), (nat_lit 12, avI v5), (nat_lit 11, AV.val (PV.sl (Ty.int IntKind.u8) v6))]) (tblOf [])
def f65_raw2 (k : Nat) (L1 : f65_K1) (L2 : f65_K2) : f65_K2
  | (v0, v1, v2, v3, v4, v5, v6) => bif decide (v0 < (8 : Int)) then bif decide ((0 : Int) ≤ IntKind.i64.wrap (v2 - (1 : Int))) then bif decide ((0 : Int) ≤ v2) then L2 (IntKind.i64.wrap (v0 + (1 : Int)), IntKind.u64.wrap (Int.ofNat (BitVec.ofInt (64 : Nat) (IntKind.u64.wrap (Int.ofNat (BitVec.ofInt (64 : Nat) (IntKind.u64.wrap (v1 * (2 : Int))) &&& BitVec.ofInt (64 : Nat) (IntKind.u64.wrap (IntKind.u64.wrap ((1 : Int) * (2 : Int) ^ min v2.toNat (64 : Nat)) - (1 : Int)))).toNat)) ^^^ BitVec.ofInt (64 : Nat) (IntKind.u64.wrap (IntKind.u64.wrap (Int.ofNat (BitVec.ofInt (64 : Nat) (v1.fdiv ((2 : Int) ^ min (IntKind.i64.wrap (v2 - (1 : Int))).toNat (64 : Nat))) &&& BitVec.ofInt (64 : Nat) (1 : Int)).toNat) * v3))).toNat), v2, v3, v4, v5, v6) else none else none else L1 (v5, IntKind.i64.wrap (v4 + (1 : Int)), v6, v1, v2, v3)
def f65_L2 (k : Nat) (L1 : f65_K1) : f65_K2 := iter (fun L2 => f65_raw2 k L1 L2) k
noncomputable def f65_at2 (k : Nat) (n1 : Nat) (n : Nat) (v : f65_T2) : Option (Int × Unit) :=
  loopAt (f65_C k) f65_A [] [1, 1, 0, 1, 0, 0, 1, 1, 0, 0, 1, 1, 1, 0] [n1] (cdX Tryz.f65) (lvX (f65_C k) Tryz.f65 f65_pk f65_rk [] []) n (f65_S2 v)
def f65_S1 : f65_T1 → St
  | (v0, v1, v2, v3, v4, v5) => St.mk (envOf [(nat_lit 12, avI v0), (nat_lit 13, avI v1), (nat_lit 11, AV.val (PV.sl (Ty.int IntKind.u8) v2)), (nat_lit 7, AV.val (PV.v (Value.int IntKind.u64 v3))), (nat_lit 1, avI v4), (nat_lit 2, AV.val (PV.v (Value.int IntKind.u64 v5)))]) (tblOf [])
def f65_raw1 (k : Nat) (L2 : f65_K2) (L1 : f65_K1) : f65_K1
  | (v0, v1, v2, v3, v4, v5) => bif decide (v1 < v0) then bif decide ((0 : Int) ≤ v1 ∧ v1 < Int.ofNat v2.length) then bif decide ((0 : Int) ≤ IntKind.i64.wrap (v4 - (8 : Int))) then L2 ((0 : Int), IntKind.u64.wrap (Int.ofNat (BitVec.ofInt (64 : Nat) v3 ^^^ BitVec.ofInt (64 : Nat) (IntKind.u64.wrap (IntKind.u64.wrap (v2.getD v1.toNat 0) * (2 : Int) ^ min (IntKind.i64.wrap (v4 - (8 : Int))).toNat (64 : Nat)))).toNat), v4, v5, v1, v0, v2) else none else none else some (IntKind.i64.wrap v3, ())
def f65_L1 (k : Nat) : f65_K1 := iter (fun L1 => f65_raw1 k (f65_L2 k L1) L1) k
noncomputable def f65_at1 (k : Nat) (n : Nat) (v : f65_T1) : Option (Int × Unit) :=
  loopAt (f65_C k) f65_A [] [1, 1, 0, 1, 0] [] (cdX Tryz.f65) (lvX (f65_C k) Tryz.f65 f65_pk f65_rk [] []) n (f65_S1 v)
def f65_raw0 (k : Nat) (L1 : f65_K1) : List Int × Int × Int × Unit → Option (Int × Unit)
  | (a0, a1, a2, ()) => L1 (Int.ofNat a0.length, (0 : Int), a0, (0 : Int), a1, a2)
def f65_F (k : Nat) := f65_raw0 k (f65_L1 k)
theorem f65_law2 (k : Nat) (n1 : Nat) : ∀ n, f65_at2 k n1 n = iter (fun L2 => f65_raw2 k (f65_at1 k n1) L2) n :=
  iter_law (fun v => by kernel_rfl) (fun n v => by
    show f65_at2 k n1 (n + 1) v = f65_raw2 k (f65_at1 k n1) (f65_at2 k n1 n) v
    obtain ⟨v0, v1, v2, v3, v4, v5, v6⟩ := v
    kernel_rfl)
theorem f65_law1 (k : Nat) : ∀ n, f65_at1 k n = iter (fun L1 => f65_raw1 k (f65_L2 k L1) L1) n :=
  iter_law (fun v => by kernel_rfl) (fun n v => by
    show f65_at1 k (n + 1) v = f65_raw1 k (f65_L2 k (f65_at1 k n)) (f65_at1 k n) v
    rw [show (f65_L2 k (f65_at1 k n)) = f65_at2 k n k from (f65_law2 k n k).symm]
    obtain ⟨v0, v1, v2, v3, v4, v5⟩ := v
    kernel_rfl)
theorem f65_eq (k : Nat) (x : Kd.dens f65_pk) : runX (f65_C k) f65_A Tryz.f65 f65_pk f65_rk x = f65_F k x := by
  show _ = f65_raw0 k (f65_L1 k) x
  rw [show f65_L1 k = f65_at1 k k from (f65_law1 k k).symm]
  obtain ⟨a0, ⟨a1, ⟨a2, ⟨⟩⟩⟩⟩ := x
  kernel_rfl
theorem f65_ctr (k : Nat) : Ctr Tryz.prog k 65 (mk f65_pk f65_rk f65_F) :=
  lawX (fn := Tryz.f65) (phi_ok ctr_nil) (by kernel_rfl) (by kernel_rfl) (by kernel_rfl) (by kernel_rfl) (f65_eq k)
noncomputable abbrev f65_m : Nat × Callee := (65, mk f65_pk f65_rk f65_F)
abbrev f28_pk : List Kd := [.view (.sl (.int .u8))]
abbrev f28_rk : Kd := .view (.int .i64)
noncomputable def f28_C (k : Nat) := cxX k [f65_m]
def f28_raw0 (k : Nat) : List Int × Unit → Option (Int × Unit)
  | (a0, ()) => (f65_F k (a0, 8, 7, ())).bind fun y => some (y.1, ())
def f28_F (k : Nat) := f28_raw0 k
theorem f28_eq (k : Nat) (x : Kd.dens f28_pk) : runX (f28_C k) nA Tryz.f28 f28_pk f28_rk x = f28_F k x := by
  show _ = f28_raw0 k x
  obtain ⟨a0, ⟨⟩⟩ := x
  kernel_rfl
theorem f28_ctr (k : Nat) : Ctr Tryz.prog k 28 (mk f28_pk f28_rk f28_F) :=
  lawX (fn := Tryz.f28) (phi_ok (ctr_cons (f65_ctr k) ctr_nil)) (by kernel_rfl) (by kernel_rfl) (by kernel_rfl) (by kernel_rfl) (f28_eq k)
noncomputable abbrev f28_m : Nat × Callee := (28, mk f28_pk f28_rk f28_F)
abbrev f66_pk : List Kd := [.view (.sl (.int .u8))]
abbrev f66_rk : Kd := .own (.int .u8) false
def f66_F (k : Nat) : List Int × Unit → Option (List Int × Unit) := fun x => cloneF x
noncomputable def f66_C (k : Nat) : Ctx := { P := Tryz.prog, Φ := phi [], k := k, live := fun _ => [] }
noncomputable def f66_b : Code := bodyOf Tryz.f66
theorem f66_ctr (k : Nat) : Ctr Tryz.prog k 66 (mk f66_pk f66_rk f66_F) :=
  clone_ctr (C := f66_C k) (A := fun _ => ⟨[], []⟩) (phi_ok ctr_nil) prog_mixed (f := 66) (fn := Tryz.f66) (o0 := operAt (partC [0] f66_b) 0) (o1 := operAt (partC [1, 0, 0] f66_b) 0) (o2 := operAt (partC [1, 0, 0] f66_b) 1)
    (r0 := 0) (r1 := 1) (X := partC [1, 0, 1, 0] f66_b) (Y := partC [1, 1] f66_b) (T := 32) (E := 5) (U := 32) (t := (.int .u8))
    (by kernel_rfl) (by kernel_rfl) (by kernel_rfl) (by kernel_rfl) (by kernel_rfl) (of_decide_eq_true (by kernel_rfl)) (by kernel_rfl) ⟨by kernel_rfl, by kernel_rfl, by kernel_rfl⟩ ⟨by kernel_rfl, by kernel_rfl, by kernel_rfl⟩ ⟨by kernel_rfl, by kernel_rfl, by kernel_rfl⟩ (fun xs => by kernel_rfl) (by kernel_rfl)
noncomputable abbrev f66_m : Nat × Callee := (66, mk f66_pk f66_rk f66_F)
abbrev f29_pk : List Kd := [.box [.own (.int .u8) false, .view (.int .i64)]]
abbrev f29_rk : Kd := .own (.int .u8) false
noncomputable def f29_C (k : Nat) := cxX k [f66_m] (fun r => bif Nat.beq r 999998 then [66] else [])
def f29_raw0 (k : Nat) : (List Int × Int × Unit) × Unit → Option (List Int × (List Int × Int × Unit) × Unit)
  | ((a0, a1, ()), ()) => (f66_F k (a0, ())).bind fun y => some (y.1, (a0, a1, ()), ())
def f29_F (k : Nat) := f29_raw0 k
theorem f29_eq (k : Nat) (x : Kd.dens f29_pk) : runX (f29_C k) nA Tryz.f29 f29_pk f29_rk x = f29_F k x := by
  show _ = f29_raw0 k x
  obtain ⟨⟨a0, ⟨a1, ⟨⟩⟩⟩, ⟨⟩⟩ := x
  kernel_rfl
theorem f29_ctr (k : Nat) : Ctr Tryz.prog k 29 (mk f29_pk f29_rk f29_F) :=
  lawX (fn := Tryz.f29) (phi_ok (ctr_cons (f66_ctr k) ctr_nil)) (by kernel_rfl) (by kernel_rfl) (by kernel_rfl) (by kernel_rfl) (f29_eq k)
noncomputable abbrev f29_m : Nat × Callee := (29, mk f29_pk f29_rk f29_F)
abbrev f30_pk : List Kd := [.view shapeT, .view (.int .i64)]
abbrev f30_rk : Kd := .view (.sl (.int .i64))
noncomputable def f30_C (k : Nat) := cxX k [] (fun r => bif Nat.beq r 999999 then [1] else [])
def f30_raw0 (k : Nat) : (Int × Int × Int × Unit) × Int × Unit → Option (List Int × Unit)
  | ((a0, a1, a2, ()), a3, ()) => bif decide ((0 : Int) ≤ (0 : Int) ∧ (0 : Int) ≤ a0 ∧ a0 ≤ Int.ofNat [a1, a1].length) then bif a3 == (8 : Int) then bif decide ((0 : Nat) ≤ a0.toNat ∧ a0.toNat ≤ [a1, a1].length ∧ (0 : Int) ≤ (1 : Int) ∧ (1 : Nat) < a0.toNat - (0 : Nat)) then bif decide ((0 : Nat) ≤ a0.toNat ∧ a0.toNat ≤ [a1, a1].length ∧ (0 : Int) ≤ (1 : Int) ∧ (1 : Nat) < a0.toNat - (0 : Nat)) then bif decide ((0 : Nat) ≤ a0.toNat ∧ a0.toNat ≤ ([a1, a1].set (1 : Nat) (IntKind.i64.wrap ([a1, a1].getD (1 : Nat) 0 + (1 : Int)))).length) then some (List.drop (0 : Nat) (List.take a0.toNat ([a1, a1].set (1 : Nat) (IntKind.i64.wrap ([a1, a1].getD (1 : Nat) 0 + (1 : Int))))), ()) else none else none else none else bif a3 == (10 : Int) then bif decide ((0 : Nat) ≤ a0.toNat ∧ a0.toNat ≤ [a1, a1].length ∧ (0 : Int) ≤ (1 : Int) ∧ (1 : Nat) < a0.toNat - (0 : Nat)) then bif decide ((0 : Nat) ≤ a0.toNat ∧ a0.toNat ≤ [a1, a1].length ∧ (0 : Int) ≤ (1 : Int) ∧ (1 : Nat) < a0.toNat - (0 : Nat)) then bif decide ((0 : Nat) ≤ a0.toNat ∧ a0.toNat ≤ ([a1, a1].set (1 : Nat) (IntKind.i64.wrap ([a1, a1].getD (1 : Nat) 0 + (1 : Int)))).length) then some (List.drop (0 : Nat) (List.take a0.toNat ([a1, a1].set (1 : Nat) (IntKind.i64.wrap ([a1, a1].getD (1 : Nat) 0 + (1 : Int))))), ()) else none else none else none else bif a3 == (9 : Int) then bif decide ((0 : Nat) ≤ a0.toNat ∧ a0.toNat ≤ [a1, a1].length ∧ (0 : Int) ≤ (0 : Int) ∧ (0 : Nat) < a0.toNat - (0 : Nat)) then bif decide ((0 : Nat) ≤ a0.toNat ∧ a0.toNat ≤ [a1, a1].length ∧ (0 : Int) ≤ (0 : Int) ∧ (0 : Nat) < a0.toNat - (0 : Nat)) then bif decide ((0 : Nat) ≤ a0.toNat ∧ a0.toNat ≤ ([a1, a1].set (0 : Nat) (IntKind.i64.wrap ([a1, a1].getD (0 : Nat) 0 + (1 : Int)))).length) then some (List.drop (0 : Nat) (List.take a0.toNat ([a1, a1].set (0 : Nat) (IntKind.i64.wrap ([a1, a1].getD (0 : Nat) 0 + (1 : Int))))), ()) else none else none else none else bif decide ((0 : Nat) ≤ a0.toNat ∧ a0.toNat ≤ [a1, a1].length) then some (List.drop (0 : Nat) (List.take a0.toNat [a1, a1]), ()) else none else none
def f30_F (k : Nat) := f30_raw0 k
theorem f30_eq (k : Nat) (x : Kd.dens f30_pk) : runX (f30_C k) nA Tryz.f30 f30_pk f30_rk x = f30_F k x := by
  show _ = f30_raw0 k x
  obtain ⟨⟨a0, ⟨a1, ⟨a2, ⟨⟩⟩⟩⟩, ⟨a3, ⟨⟩⟩⟩ := x
  kernel_rfl
theorem f30_ctr (k : Nat) : Ctr Tryz.prog k 30 (mk f30_pk f30_rk f30_F) :=
  lawX (fn := Tryz.f30) (phi_ok ctr_nil) (by kernel_rfl) (by kernel_rfl) (by kernel_rfl) (by kernel_rfl) (f30_eq k)
noncomputable abbrev f30_m : Nat × Callee := (30, mk f30_pk f30_rk f30_F)
abbrev f86_pk : List Kd := [.view (.int .i64), .view (.int .i64)]
abbrev f86_rk : Kd := .view .bool
noncomputable def f86_C (k : Nat) := cxX k []
def f86_raw0 (k : Nat) : Int × Int × Unit → Option (Bool × Unit)
  | (a0, a1, ()) => bif decide ((1 : Int) ≤ a0) then bif decide (a0 ≤ (512 : Int)) then bif decide ((4 : Int) ≤ a1) then some (decide (a1 ≤ (25 : Int)), ()) else some (false, ()) else some (false, ()) else some (false, ())
def f86_F (k : Nat) := f86_raw0 k
theorem f86_eq (k : Nat) (x : Kd.dens f86_pk) : runX (f86_C k) nA Tryz.f86 f86_pk f86_rk x = f86_F k x := by
  show _ = f86_raw0 k x
  obtain ⟨a0, ⟨a1, ⟨⟩⟩⟩ := x
  kernel_rfl
theorem f86_ctr (k : Nat) : Ctr Tryz.prog k 86 (mk f86_pk f86_rk f86_F) :=
  lawX (fn := Tryz.f86) (phi_ok ctr_nil) (by kernel_rfl) (by kernel_rfl) (by kernel_rfl) (by kernel_rfl) (f86_eq k)
noncomputable abbrev f86_m : Nat × Callee := (86, mk f86_pk f86_rk f86_F)
abbrev f89_pk : List Kd := [.view (.int .i64), .view (.int .i64)]
abbrev f89_rk : Kd := .view .bool
noncomputable def f89_C (k : Nat) := cxX k []
def f89_raw0 (k : Nat) : Int × Int × Unit → Option (Bool × Unit)
  | (a0, a1, ()) => bif decide ((0 : Int) ≤ IntKind.i64.wrap (a1 - (1 : Int))) then bif a0.fdiv ((2 : Int) ^ min (IntKind.i64.wrap (a1 - (1 : Int))).toNat (64 : Nat)) == (0 : Int) then some (true, ()) else bif decide ((0 : Int) ≤ IntKind.i64.wrap (a1 - (1 : Int))) then some (a0.fdiv ((2 : Int) ^ min (IntKind.i64.wrap (a1 - (1 : Int))).toNat (64 : Nat)) == (-1 : Int), ()) else none else none
def f89_F (k : Nat) := f89_raw0 k
theorem f89_eq (k : Nat) (x : Kd.dens f89_pk) : runX (f89_C k) nA Tryz.f89 f89_pk f89_rk x = f89_F k x := by
  show _ = f89_raw0 k x
  obtain ⟨a0, ⟨a1, ⟨⟩⟩⟩ := x
  kernel_rfl
theorem f89_ctr (k : Nat) : Ctr Tryz.prog k 89 (mk f89_pk f89_rk f89_F) :=
  lawX (fn := Tryz.f89) (phi_ok ctr_nil) (by kernel_rfl) (by kernel_rfl) (by kernel_rfl) (by kernel_rfl) (f89_eq k)
noncomputable abbrev f89_m : Nat × Callee := (89, mk f89_pk f89_rk f89_F)
abbrev f105_pk : List Kd := [.view (.int .i64), .box [.view (.int .i64)]]
abbrev f105_rk : Kd := .view .bool
noncomputable def f105_C (k : Nat) := cxX k [f89_m]
def f105_raw0 (k : Nat) : Int × (Int × Unit) × Unit → Option (Bool × (Int × Unit) × Unit)
  | (a0, (a1, ()), ()) => (f89_F k (a0, a1, ())).bind fun y => some (!y.1, (a1, ()), ())
def f105_F (k : Nat) := f105_raw0 k
theorem f105_eq (k : Nat) (x : Kd.dens f105_pk) : runX (f105_C k) nA Tryz.f105 f105_pk f105_rk x = f105_F k x := by
  show _ = f105_raw0 k x
  obtain ⟨a0, ⟨⟨a1, ⟨⟩⟩, ⟨⟩⟩⟩ := x
  kernel_rfl
theorem f105_ctr (k : Nat) : Ctr Tryz.prog k 105 (mk f105_pk f105_rk f105_F) :=
  lawX (fn := Tryz.f105) (phi_ok (ctr_cons (f89_ctr k) ctr_nil)) (by kernel_rfl) (by kernel_rfl) (by kernel_rfl) (by kernel_rfl) (f105_eq k)
noncomputable abbrev f105_m : Nat × Callee := (105, mk f105_pk f105_rk f105_F)
abbrev f14601_pk : List Kd := [.view (.sl (.int .i64)), .clo 105 [.box [.view (.int .i64)]]]
abbrev f14601_rk : Kd := .view (.int .i64)
noncomputable def f14601_C (k : Nat) := cxX k [f105_m]
def f14601_A : Nat → Ann := fun id => bif Nat.beq id 2 then ⟨[7, 8, 1, 0], []⟩ else ⟨[], []⟩
abbrev f14601_T1 := Int × Int × List Int × Int
abbrev f14601_K1 := f14601_T1 → Option (Int × (Int × Unit) × Unit)
def f14601_S1 : f14601_T1 → St
  | (v0, v1, v2, v3) => St.mk (envOf [(nat_lit 7, avI v0), (nat_lit 8, avI v1), (nat_lit 1, AV.clo (nat_lit 105) [AV.bx (nat_lit 0) (nat_lit 0)]), (nat_lit 0, avL v2)]) (tblOf [(nat_lit 0, RS.live (Res.box [avI v3]))])
def f14601_raw1 (k : Nat) (L1 : f14601_K1) : f14601_K1
  | (v0, v1, v2, v3) => bif decide (v1 < v0) then bif decide ((0 : Int) ≤ v1 ∧ v1 < Int.ofNat v2.length) then (f105_F k (v2.getD v1.toNat 0, (v3, ()), ())).bind fun y => bif y.1 then some (v1, (y.2.1.1, ()), ()) else L1 (v0, IntKind.i64.wrap (v1 + (1 : Int)), v2, y.2.1.1) else none else some ((-1 : Int), (v3, ()), ())
def f14601_L1 (k : Nat) : f14601_K1 := iter (fun L1 => f14601_raw1 k L1) k
noncomputable def f14601_at1 (k : Nat) (n : Nat) (v : f14601_T1) : Option (Int × (Int × Unit) × Unit) :=
  loopAt (f14601_C k) f14601_A [0] [1, 0, 1, 0] [] (cdX Tryz.f146) (lvX (f14601_C k) Tryz.f146 f14601_pk f14601_rk [AV.bx (nat_lit 0) (nat_lit 0)] [[]]) n (f14601_S1 v)
def f14601_raw0 (k : Nat) (L1 : f14601_K1) : List Int × ((Int × Unit) × Unit) × Unit → Option (Int × (Int × Unit) × Unit)
  | (a0, ((a1, ()), ()), ()) => L1 (Int.ofNat a0.length, (0 : Int), a0, a1)
def f14601_F (k : Nat) := f14601_raw0 k (f14601_L1 k)
theorem f14601_law1 (k : Nat) : ∀ n, f14601_at1 k n = iter (fun L1 => f14601_raw1 k L1) n :=
  iter_law (fun v => by kernel_rfl) (fun n v => by
    show f14601_at1 k (n + 1) v = f14601_raw1 k (f14601_at1 k n) v
    obtain ⟨v0, v1, v2, v3⟩ := v
    kernel_rfl)
theorem f14601_eq (k : Nat) (x : Kd.dens f14601_pk) : runX (f14601_C k) f14601_A Tryz.f146 f14601_pk f14601_rk x = f14601_F k x := by
  show _ = f14601_raw0 k (f14601_L1 k) x
  rw [show f14601_L1 k = f14601_at1 k k from (f14601_law1 k k).symm]
  obtain ⟨a0, ⟨⟨⟨a1, ⟨⟩⟩, ⟨⟩⟩, ⟨⟩⟩⟩ := x
  kernel_rfl
theorem f14601_ctr (k : Nat) : Ctr Tryz.prog k 146 (mk f14601_pk f14601_rk f14601_F) :=
  lawX (fn := Tryz.f146) (phi_ok (ctr_cons (f105_ctr k) ctr_nil)) (by kernel_rfl) (by kernel_rfl) (by kernel_rfl) (by kernel_rfl) (f14601_eq k)
noncomputable abbrev f14601_m : Nat × Callee := (146, mk f14601_pk f14601_rk f14601_F)
abbrev f10401_pk : List Kd := [.view (.sl (.int .i64)), .clo 105 [.box [.view (.int .i64)]]]
abbrev f10401_rk : Kd := .view .bool
noncomputable def f10401_C (k : Nat) := cxX k [f14601_m]
def f10401_raw0 (k : Nat) : List Int × ((Int × Unit) × Unit) × Unit → Option (Bool × (Int × Unit) × Unit)
  | (a0, ((a1, ()), ()), ()) => (f14601_F k (a0, ((a1, ()), ()), ())).bind fun y => some (decide ((0 : Int) ≤ y.1), (y.2.1.1, ()), ())
def f10401_F (k : Nat) := f10401_raw0 k
theorem f10401_eq (k : Nat) (x : Kd.dens f10401_pk) : runX (f10401_C k) nA Tryz.f104 f10401_pk f10401_rk x = f10401_F k x := by
  show _ = f10401_raw0 k x
  obtain ⟨a0, ⟨⟨⟨a1, ⟨⟩⟩, ⟨⟩⟩, ⟨⟩⟩⟩ := x
  kernel_rfl
theorem f10401_ctr (k : Nat) : Ctr Tryz.prog k 104 (mk f10401_pk f10401_rk f10401_F) :=
  lawX (fn := Tryz.f104) (phi_ok (ctr_cons (f14601_ctr k) ctr_nil)) (by kernel_rfl) (by kernel_rfl) (by kernel_rfl) (by kernel_rfl) (f10401_eq k)
noncomputable abbrev f10401_m : Nat × Callee := (104, mk f10401_pk f10401_rk f10401_F)
abbrev f67_pk : List Kd := [.view (.sl (.int .i64)), .view (.int .i64)]
abbrev f67_rk : Kd := .view (.int .i64)
noncomputable def f67_C (k : Nat) := cxX k [f86_m, f10401_m]
def f67_raw0 (k : Nat) : List Int × Int × Unit → Option (Int × Unit)
  | (a0, a1, ()) => (f86_F k (Int.ofNat a0.length, a1, ())).bind fun y => bif !y.1 then some (1, ()) else (f10401_F k (a0, ((a1, ()), ()), ())).bind fun y => bif y.1 then some (12, ()) else some (0, ())
def f67_F (k : Nat) := f67_raw0 k
theorem f67_eq (k : Nat) (x : Kd.dens f67_pk) : runX (f67_C k) nA Tryz.f67 f67_pk f67_rk x = f67_F k x := by
  show _ = f67_raw0 k x
  obtain ⟨a0, ⟨a1, ⟨⟩⟩⟩ := x
  kernel_rfl
theorem f67_ctr (k : Nat) : Ctr Tryz.prog k 67 (mk f67_pk f67_rk f67_F) :=
  lawX (fn := Tryz.f67) (phi_ok (ctr_cons (f86_ctr k) (ctr_cons (f10401_ctr k) ctr_nil))) (by kernel_rfl) (by kernel_rfl) (by kernel_rfl) (by kernel_rfl) (f67_eq k)
noncomputable abbrev f67_m : Nat × Callee := (67, mk f67_pk f67_rk f67_F)
abbrev f108_pk : List Kd := [.view (.int .i64), .box [.view (.int .i64), .view (.int .i64), .view (.int .i64), .view (.sl (.int .i64)), .view (.sl (.int .i64)), .view (.int .i64), .view (.sl (.int .i64)), .view (.int .i64)]]
abbrev f108_rk : Kd := .view .bool
noncomputable def f108_C (k : Nat) := cxX k []
def f108_raw0 (k : Nat) : Int × (Int × Int × Int × List Int × List Int × Int × List Int × Int × Unit) × Unit → Option (Bool × (Int × Int × Int × List Int × List Int × Int × List Int × Int × Unit) × Unit)
  | (a0, (a1, a2, a3, a4, a5, a6, a7, a8, ()), ()) => bif decide ((0 : Int) ≤ (0 : Int) ∧ (0 : Int) < Int.ofNat a4.length) then some (a0 != a4.getD (0 : Nat) 0, (a1, a2, a3, a4, a5, a6, a7, a8, ()), ()) else none
def f108_F (k : Nat) := f108_raw0 k
theorem f108_eq (k : Nat) (x : Kd.dens f108_pk) : runX (f108_C k) nA Tryz.f108 f108_pk f108_rk x = f108_F k x := by
  show _ = f108_raw0 k x
  obtain ⟨a0, ⟨⟨a1, ⟨a2, ⟨a3, ⟨a4, ⟨a5, ⟨a6, ⟨a7, ⟨a8, ⟨⟩⟩⟩⟩⟩⟩⟩⟩⟩, ⟨⟩⟩⟩ := x
  kernel_rfl
theorem f108_ctr (k : Nat) : Ctr Tryz.prog k 108 (mk f108_pk f108_rk f108_F) :=
  lawX (fn := Tryz.f108) (phi_ok ctr_nil) (by kernel_rfl) (by kernel_rfl) (by kernel_rfl) (by kernel_rfl) (f108_eq k)
noncomputable abbrev f108_m : Nat × Callee := (108, mk f108_pk f108_rk f108_F)
abbrev f14602_pk : List Kd := [.view (.sl (.int .i64)), .clo 108 [.box [.view (.int .i64), .view (.int .i64), .view (.int .i64), .view (.sl (.int .i64)), .view (.sl (.int .i64)), .view (.int .i64), .view (.sl (.int .i64)), .view (.int .i64)]]]
abbrev f14602_rk : Kd := .view (.int .i64)
noncomputable def f14602_C (k : Nat) := cxX k [f108_m]
def f14602_A : Nat → Ann := fun id => bif Nat.beq id 2 then ⟨[7, 8, 1, 0], []⟩ else ⟨[], []⟩
abbrev f14602_T1 := Int × Int × List Int × Int × Int × Int × List Int × List Int × Int × List Int × Int
abbrev f14602_K1 := f14602_T1 → Option (Int × (Int × Int × Int × List Int × List Int × Int × List Int × Int × Unit) × Unit)
def f14602_S1 : f14602_T1 → St
  | (v0, v1, v2, v3, v4, v5, v6, v7, v8, v9, v10) => St.mk (envOf [(nat_lit 7, avI v0), (nat_lit 8, avI v1), (nat_lit 1, AV.clo (nat_lit 108) [AV.bx (nat_lit 0) (nat_lit 0)]), (nat_lit 0, avL v2)]) (tblOf [(nat_lit 0, RS.live (Res.box [avI v3, avI v4, avI v5, avL v6, avL v7, avI v8, avL v9, avI v10]))])
def f14602_raw1 (k : Nat) (L1 : f14602_K1) : f14602_K1
  | (v0, v1, v2, v3, v4, v5, v6, v7, v8, v9, v10) => bif decide (v1 < v0) then bif decide ((0 : Int) ≤ v1 ∧ v1 < Int.ofNat v2.length) then (f108_F k (v2.getD v1.toNat 0, (v3, v4, v5, v6, v7, v8, v9, v10, ()), ())).bind fun y => bif y.1 then some (v1, (y.2.1.1, y.2.1.2.1, y.2.1.2.2.1, y.2.1.2.2.2.1, y.2.1.2.2.2.2.1, y.2.1.2.2.2.2.2.1, y.2.1.2.2.2.2.2.2.1, y.2.1.2.2.2.2.2.2.2.1, ()), ()) else L1 (v0, IntKind.i64.wrap (v1 + (1 : Int)), v2, y.2.1.1, y.2.1.2.1, y.2.1.2.2.1, y.2.1.2.2.2.1, y.2.1.2.2.2.2.1, y.2.1.2.2.2.2.2.1, y.2.1.2.2.2.2.2.2.1, y.2.1.2.2.2.2.2.2.2.1) else none else some ((-1 : Int), (v3, v4, v5, v6, v7, v8, v9, v10, ()), ())
def f14602_L1 (k : Nat) : f14602_K1 := iter (fun L1 => f14602_raw1 k L1) k
noncomputable def f14602_at1 (k : Nat) (n : Nat) (v : f14602_T1) : Option (Int × (Int × Int × Int × List Int × List Int × Int × List Int × Int × Unit) × Unit) :=
  loopAt (f14602_C k) f14602_A [0] [1, 0, 1, 0] [] (cdX Tryz.f146) (lvX (f14602_C k) Tryz.f146 f14602_pk f14602_rk [AV.bx (nat_lit 0) (nat_lit 0)] [[]]) n (f14602_S1 v)
def f14602_raw0 (k : Nat) (L1 : f14602_K1) : List Int × ((Int × Int × Int × List Int × List Int × Int × List Int × Int × Unit) × Unit) × Unit → Option (Int × (Int × Int × Int × List Int × List Int × Int × List Int × Int × Unit) × Unit)
  | (a0, ((a1, a2, a3, a4, a5, a6, a7, a8, ()), ()), ()) => L1 (Int.ofNat a0.length, (0 : Int), a0, a1, a2, a3, a4, a5, a6, a7, a8)
def f14602_F (k : Nat) := f14602_raw0 k (f14602_L1 k)
theorem f14602_law1 (k : Nat) : ∀ n, f14602_at1 k n = iter (fun L1 => f14602_raw1 k L1) n :=
  iter_law (fun v => by kernel_rfl) (fun n v => by
    show f14602_at1 k (n + 1) v = f14602_raw1 k (f14602_at1 k n) v
    obtain ⟨v0, v1, v2, v3, v4, v5, v6, v7, v8, v9, v10⟩ := v
    kernel_rfl)
theorem f14602_eq (k : Nat) (x : Kd.dens f14602_pk) : runX (f14602_C k) f14602_A Tryz.f146 f14602_pk f14602_rk x = f14602_F k x := by
  show _ = f14602_raw0 k (f14602_L1 k) x
  rw [show f14602_L1 k = f14602_at1 k k from (f14602_law1 k k).symm]
  obtain ⟨a0, ⟨⟨⟨a1, ⟨a2, ⟨a3, ⟨a4, ⟨a5, ⟨a6, ⟨a7, ⟨a8, ⟨⟩⟩⟩⟩⟩⟩⟩⟩⟩, ⟨⟩⟩, ⟨⟩⟩⟩ := x
  kernel_rfl
theorem f14602_ctr (k : Nat) : Ctr Tryz.prog k 146 (mk f14602_pk f14602_rk f14602_F) :=
  lawX (fn := Tryz.f146) (phi_ok (ctr_cons (f108_ctr k) ctr_nil)) (by kernel_rfl) (by kernel_rfl) (by kernel_rfl) (by kernel_rfl) (f14602_eq k)
noncomputable abbrev f14602_m : Nat × Callee := (146, mk f14602_pk f14602_rk f14602_F)
abbrev f10402_pk : List Kd := [.view (.sl (.int .i64)), .clo 108 [.box [.view (.int .i64), .view (.int .i64), .view (.int .i64), .view (.sl (.int .i64)), .view (.sl (.int .i64)), .view (.int .i64), .view (.sl (.int .i64)), .view (.int .i64)]]]
abbrev f10402_rk : Kd := .view .bool
noncomputable def f10402_C (k : Nat) := cxX k [f14602_m]
def f10402_raw0 (k : Nat) : List Int × ((Int × Int × Int × List Int × List Int × Int × List Int × Int × Unit) × Unit) × Unit → Option (Bool × (Int × Int × Int × List Int × List Int × Int × List Int × Int × Unit) × Unit)
  | (a0, ((a1, a2, a3, a4, a5, a6, a7, a8, ()), ()), ()) => (f14602_F k (a0, ((a1, a2, a3, a4, a5, a6, a7, a8, ()), ()), ())).bind fun y => some (decide ((0 : Int) ≤ y.1), (y.2.1.1, y.2.1.2.1, y.2.1.2.2.1, y.2.1.2.2.2.1, y.2.1.2.2.2.2.1, y.2.1.2.2.2.2.2.1, y.2.1.2.2.2.2.2.2.1, y.2.1.2.2.2.2.2.2.2.1, ()), ())
def f10402_F (k : Nat) := f10402_raw0 k
theorem f10402_eq (k : Nat) (x : Kd.dens f10402_pk) : runX (f10402_C k) nA Tryz.f104 f10402_pk f10402_rk x = f10402_F k x := by
  show _ = f10402_raw0 k x
  obtain ⟨a0, ⟨⟨⟨a1, ⟨a2, ⟨a3, ⟨a4, ⟨a5, ⟨a6, ⟨a7, ⟨a8, ⟨⟩⟩⟩⟩⟩⟩⟩⟩⟩, ⟨⟩⟩, ⟨⟩⟩⟩ := x
  kernel_rfl
theorem f10402_ctr (k : Nat) : Ctr Tryz.prog k 104 (mk f10402_pk f10402_rk f10402_F) :=
  lawX (fn := Tryz.f104) (phi_ok (ctr_cons (f14602_ctr k) ctr_nil)) (by kernel_rfl) (by kernel_rfl) (by kernel_rfl) (by kernel_rfl) (f10402_eq k)
noncomputable abbrev f10402_m : Nat × Callee := (104, mk f10402_pk f10402_rk f10402_F)
abbrev f147_pk : List Kd := [.view (.int .u64)]
abbrev f147_rk : Kd := .view (.int .i64)
def f147_F (k : Nat) : Int × Unit → Option (Int × Unit) := fun x => tzF x
def tzRho : Go.Shelf.Ren := ⟨fun n => match n with | 29 => 147 | _ => 0, fun n => match n with | 0 => 0 | 3 => 3 | 4 => 4 | 5 => 5 | 22 => 49 | 25 => 114 | 54 => 216 | _ => 0, fun n => n⟩
set_option maxRecDepth 100000 in
theorem tzLays : Go.Proofs.Lays7.n29 Tryz.prog tzRho := by
  constructor <;> first | kernel_rfl | (intro w; rfl)
set_option maxRecDepth 100000 in
theorem f147_ctr (k : Nat) : Ctr Tryz.prog k 147 (mk f147_pk f147_rk f147_F) := tz_ctr tzLays (fn := Tryz.f147) (by kernel_rfl) rfl (by kernel_rfl) (by kernel_rfl) (by kernel_rfl)
noncomputable abbrev f147_m : Nat × Callee := (147, mk f147_pk f147_rk f147_F)
abbrev f106_pk : List Kd := [.view (.sl (.int .i64))]
abbrev f106_rk : Kd := .view (.int .i64)
noncomputable def f106_C (k : Nat) := cxX k [f147_m]
def f106_A : Nat → Ann := fun id => bif Nat.beq id 3 then ⟨[7, 8, 6, 3], []⟩ else ⟨[], []⟩
abbrev f106_T1 := Int × Int × List Int × Int
abbrev f106_K1 := f106_T1 → Option (Int × Unit)
def f106_S1 : f106_T1 → St
  | (v0, v1, v2, v3) => St.mk (envOf [(nat_lit 7, avI v0), (nat_lit 8, avI v1), (nat_lit 6, avL v2), (nat_lit 3, avI v3)]) (tblOf [])
def f106_raw1 (k : Nat) (L1 : f106_K1) : f106_K1
  | (v0, v1, v2, v3) => bif decide (v1 < v0) then bif decide ((0 : Int) ≤ v1 ∧ v1 < Int.ofNat v2.length) then L1 (v0, IntKind.i64.wrap (v1 + (1 : Int)), v2, IntKind.i64.wrap (Int.ofNat (BitVec.ofInt (64 : Nat) v3 ||| BitVec.ofInt (64 : Nat) (v2.getD v1.toNat 0)).toNat)) else none else bif v3 == (0 : Int) then some (0, ()) else (f147_F k (IntKind.u64.wrap v3, ())).bind fun y => some (y.1, ())
def f106_L1 (k : Nat) : f106_K1 := iter (fun L1 => f106_raw1 k L1) k
noncomputable def f106_at1 (k : Nat) (n : Nat) (v : f106_T1) : Option (Int × Unit) :=
  loopAt (f106_C k) f106_A [] [1, 1, 0, 1, 0] [] (cdX Tryz.f106) (lvX (f106_C k) Tryz.f106 f106_pk f106_rk [] []) n (f106_S1 v)
def f106_raw0 (k : Nat) (L1 : f106_K1) : List Int × Unit → Option (Int × Unit)
  | (a0, ()) => L1 (Int.ofNat a0.length, (0 : Int), a0, (0 : Int))
def f106_F (k : Nat) := f106_raw0 k (f106_L1 k)
theorem f106_law1 (k : Nat) : ∀ n, f106_at1 k n = iter (fun L1 => f106_raw1 k L1) n :=
  iter_law (fun v => by kernel_rfl) (fun n v => by
    show f106_at1 k (n + 1) v = f106_raw1 k (f106_at1 k n) v
    obtain ⟨v0, v1, v2, v3⟩ := v
    kernel_rfl)
theorem f106_eq (k : Nat) (x : Kd.dens f106_pk) : runX (f106_C k) f106_A Tryz.f106 f106_pk f106_rk x = f106_F k x := by
  show _ = f106_raw0 k (f106_L1 k) x
  rw [show f106_L1 k = f106_at1 k k from (f106_law1 k k).symm]
  obtain ⟨a0, ⟨⟩⟩ := x
  kernel_rfl
theorem f106_ctr (k : Nat) : Ctr Tryz.prog k 106 (mk f106_pk f106_rk f106_F) :=
  lawX (fn := Tryz.f106) (phi_ok (ctr_cons (f147_ctr k) ctr_nil)) (by kernel_rfl) (by kernel_rfl) (by kernel_rfl) (by kernel_rfl) (f106_eq k)
noncomputable abbrev f106_m : Nat × Callee := (106, mk f106_pk f106_rk f106_F)
abbrev f109_pk : List Kd := [.view (.int .i64)]
abbrev f109_rk : Kd := .tup [.view modelT, .view (.int .i64)]
noncomputable def f109_C (k : Nat) := cxX k []
def f109_A : Nat → Ann := fun id => bif Nat.beq id 17 then ⟨[48, 49, 47, 8, 2], [.cell 8 0 ((Ty.int IntKind.i64))]⟩ else bif Nat.beq id 9 then ⟨[29, 30, 28, 5, 20, 19, 2], []⟩ else bif Nat.beq id 5 then ⟨[19, 20, 4, 2], []⟩ else ⟨[], []⟩
abbrev f109_T2 := Int × Int × Int × Int × List Int × List Int × Int
abbrev f109_K2 := f109_T2 → Option (((List Int × Int × Unit) × Int × Unit) × Unit)
abbrev f109_T3 := Int × Int × List Int × Int × List Int × Int
abbrev f109_K3 := f109_T3 → Option (((List Int × Int × Unit) × Int × Unit) × Unit)
abbrev f109_T1 := Int × Int × List Int × Int
abbrev f109_K1 := f109_T1 → Option (((List Int × Int × Unit) × Int × Unit) × Unit)
def f109_S2 : f109_T2 → St
  | (v0, v1, v2, v3, v4, v5, v6) => St.mk (envOf [(nat_lit 29, avI v0), (nat_lit 30, avI v1), (nat_lit 28, AV.own (nat_lit 8192)), (nat_lit 5, AV.own (nat_lit 8193)), (nat_lit 20, avI v2), (nat_lit 19, avI v3), (nat_lit 2, AV.bx (nat_lit 8194) (nat_lit 0))]) (tblOf [(nat_lit 8192, RS.live (Res.arr (Ty.int IntKind.i64) v4 false)), (nat_lit 8193, RS.live (Res.arr (Ty.int IntKind.i64) v5 false)), (nat_lit 8194, RS.live (Res.box [AV.val (PV.v (Value.slice none (0 : Nat) (0 : Nat))), avI v6]))])
def f109_raw2 (k : Nat) (L1 : f109_K1) (L2 : f109_K2) : f109_K2
  | (v0, v1, v2, v3, v4, v5, v6) => bif decide (v1 < v0) then bif decide ((0 : Int) ≤ v1 ∧ v1 < Int.ofNat v4.length) then bif decide (v1.toNat < v4.length) then bif decide ((0 : Int) ≤ IntKind.i64.wrap (v1 + (1 : Int)) ∧ IntKind.i64.wrap (v1 + (1 : Int)) < Int.ofNat v5.length) then bif decide ((IntKind.i64.wrap (v1 + (1 : Int))).toNat < v5.length) then bif decide ((0 : Int) ≤ IntKind.i64.wrap (v1 + (1 : Int)) ∧ IntKind.i64.wrap (v1 + (1 : Int)) < Int.ofNat v5.length) then bif decide ((IntKind.i64.wrap (v1 + (1 : Int))).toNat < v5.length) then L2 (v0, IntKind.i64.wrap (v1 + (1 : Int)), v2, v3, v4, v5.set (IntKind.i64.wrap (v1 + (1 : Int))).toNat (IntKind.i64.wrap (v5.getD (IntKind.i64.wrap (v1 + (1 : Int))).toNat 0 - v4.getD v1.toNat 0)), v6) else none else none else none else none else none else none else L1 (v3, IntKind.i64.wrap (v2 + (1 : Int)), v5, v6)
def f109_L2 (k : Nat) (L1 : f109_K1) : f109_K2 := iter (fun L2 => f109_raw2 k L1 L2) k
noncomputable def f109_at2 (k : Nat) (n1 : Nat) (n : Nat) (v : f109_T2) : Option (((List Int × Int × Unit) × Int × Unit) × Unit) :=
  loopAt (f109_C k) f109_A [] [1, 1, 1, 0, 1, 0, 0, 1, 1, 0, 0, 1, 1, 0, 1, 0] [n1] (cdX Tryz.f109) (lvX (f109_C k) Tryz.f109 f109_pk f109_rk [] []) n (f109_S2 v)
def f109_S3 : f109_T3 → St
  | (v0, v1, v2, v3, v4, v5) => St.mk (envOf [(nat_lit 48, avI v0), (nat_lit 49, avI v1), (nat_lit 47, avL v2), (nat_lit 8, AV.bx (nat_lit 8192) (nat_lit 0)), (nat_lit 2, AV.bx (nat_lit 8194) (nat_lit 0))]) (tblOf [(nat_lit 8192, RS.live (Res.box [AV.own (nat_lit 8193), avI v3])), (nat_lit 8193, RS.live (Res.arr (Ty.int IntKind.i64) v4 false)), (nat_lit 8194, RS.live (Res.box [AV.val (PV.v (Value.slice none (0 : Nat) (0 : Nat))), avI v5]))])
def f109_raw3 (k : Nat) (L3 : f109_K3) : f109_K3
  | (v0, v1, v2, v3, v4, v5) => bif decide (v1 < v0) then bif decide ((0 : Int) ≤ v1 ∧ v1 < Int.ofNat v2.length) then bif decide (v4.length + [IntKind.i64.wrap ((0 : Int) - v2.getD v1.toNat 0)].length < (2147483648 : Nat)) then L3 (v0, IntKind.i64.wrap (v1 + (1 : Int)), v2, v3, v4 ++ [IntKind.i64.wrap ((0 : Int) - v2.getD v1.toNat 0)], v5) else none else none else some (((v4, v3, ()), 0, ()), ())
def f109_L3 (k : Nat) : f109_K3 := iter (fun L3 => f109_raw3 k L3) k
noncomputable def f109_at3 (k : Nat) (n : Nat) (v : f109_T3) : Option (((List Int × Int × Unit) × Int × Unit) × Unit) :=
  loopAt (f109_C k) f109_A [] [1, 1, 1, 1, 1, 0, 1, 0] [] (cdX Tryz.f109) (lvX (f109_C k) Tryz.f109 f109_pk f109_rk [] []) n (f109_S3 v)
def f109_S1 : f109_T1 → St
  | (v0, v1, v2, v3) => St.mk (envOf [(nat_lit 19, avI v0), (nat_lit 20, avI v1), (nat_lit 4, AV.own (nat_lit 8192)), (nat_lit 2, AV.bx (nat_lit 8193) (nat_lit 0))]) (tblOf [(nat_lit 8192, RS.live (Res.arr (Ty.int IntKind.i64) v2 false)), (nat_lit 8193, RS.live (Res.box [AV.val (PV.v (Value.slice none (0 : Nat) (0 : Nat))), avI v3]))])
def f109_raw1 (k : Nat) (L2 : f109_K2) (L3 : f109_K3) (L1 : f109_K1) : f109_K1
  | (v0, v1, v2, v3) => bif decide (v1 < v0) then bif decide ((0 : Nat) + v2.length < (2147483648 : Nat)) then bif decide (([] ++ v2).length + (1 : Nat) < (2147483648 : Nat)) then L2 (Int.ofNat v2.length, (0 : Int), v1, v0, v2, [] ++ v2 ++ [(0 : Int)], v3) else none else none else bif decide ((0 : Int) ≤ (1 : Int) ∧ (1 : Int) ≤ Int.ofNat v2.length ∧ Int.ofNat v2.length ≤ Int.ofNat v2.length) then L3 (Int.ofNat (List.drop (1 : Nat) (List.take (Int.ofNat v2.length).toNat v2)).length, (0 : Int), List.drop (1 : Nat) (List.take (Int.ofNat v2.length).toNat v2), (0 : Int), [], v3) else none
def f109_L1 (k : Nat) : f109_K1 := iter (fun L1 => f109_raw1 k (f109_L2 k L1) (f109_L3 k) L1) k
noncomputable def f109_at1 (k : Nat) (n : Nat) (v : f109_T1) : Option (((List Int × Int × Unit) × Int × Unit) × Unit) :=
  loopAt (f109_C k) f109_A [] [1, 1, 1, 0, 1, 0] [] (cdX Tryz.f109) (lvX (f109_C k) Tryz.f109 f109_pk f109_rk [] []) n (f109_S1 v)
def f109_raw0 (k : Nat) (L1 : f109_K1) : Int × Unit → Option (((List Int × Int × Unit) × Int × Unit) × Unit)
  | (a0, ()) => bif decide (a0 < (0 : Int)) then some ((([], (0 : Int), ()), 1, ()), ()) else bif decide ((4 : Int) < a0) then some ((([], (0 : Int), ()), 1, ()), ()) else L1 (a0, (0 : Int), [(1 : Int)], (0 : Int))
def f109_F (k : Nat) := f109_raw0 k (f109_L1 k)
theorem f109_law2 (k : Nat) (n1 : Nat) : ∀ n, f109_at2 k n1 n = iter (fun L2 => f109_raw2 k (f109_at1 k n1) L2) n :=
  iter_law (fun v => by kernel_rfl) (fun n v => by
    show f109_at2 k n1 (n + 1) v = f109_raw2 k (f109_at1 k n1) (f109_at2 k n1 n) v
    obtain ⟨v0, v1, v2, v3, v4, v5, v6⟩ := v
    kernel_rfl)
theorem f109_law3 (k : Nat) : ∀ n, f109_at3 k n = iter (fun L3 => f109_raw3 k L3) n :=
  iter_law (fun v => by kernel_rfl) (fun n v => by
    show f109_at3 k (n + 1) v = f109_raw3 k (f109_at3 k n) v
    obtain ⟨v0, v1, v2, v3, v4, v5⟩ := v
    kernel_rfl)
theorem f109_law1 (k : Nat) : ∀ n, f109_at1 k n = iter (fun L1 => f109_raw1 k (f109_L2 k L1) (f109_L3 k) L1) n :=
  iter_law (fun v => by kernel_rfl) (fun n v => by
    show f109_at1 k (n + 1) v = f109_raw1 k (f109_L2 k (f109_at1 k n)) (f109_L3 k) (f109_at1 k n) v
    rw [show (f109_L2 k (f109_at1 k n)) = f109_at2 k n k from (f109_law2 k n k).symm, show (f109_L3 k) = f109_at3 k k from (f109_law3 k k).symm]
    obtain ⟨v0, v1, v2, v3⟩ := v
    kernel_rfl)
theorem f109_eq (k : Nat) (x : Kd.dens f109_pk) : runX (f109_C k) f109_A Tryz.f109 f109_pk f109_rk x = f109_F k x := by
  show _ = f109_raw0 k (f109_L1 k) x
  rw [show f109_L1 k = f109_at1 k k from (f109_law1 k k).symm]
  obtain ⟨a0, ⟨⟩⟩ := x
  kernel_rfl
theorem f109_ctr (k : Nat) : Ctr Tryz.prog k 109 (mk f109_pk f109_rk f109_F) :=
  lawX (fn := Tryz.f109) (phi_ok ctr_nil) (by kernel_rfl) (by kernel_rfl) (by kernel_rfl) (by kernel_rfl) (f109_eq k)
noncomputable abbrev f109_m : Nat × Callee := (109, mk f109_pk f109_rk f109_F)
abbrev f150_pk : List Kd := [.view (.int .i64)]
abbrev f150_rk : Kd := .view .bool
noncomputable def f150_C (k : Nat) := cxX k []
def f150_raw0 (k : Nat) : Int × Unit → Option (Bool × Unit)
  | (a0, ()) => bif decide (a0 ≤ (-2147483648 : Int)) then some (true, ()) else some (decide ((2147483648 : Int) ≤ a0), ())
def f150_F (k : Nat) := f150_raw0 k
theorem f150_eq (k : Nat) (x : Kd.dens f150_pk) : runX (f150_C k) nA Tryz.f150 f150_pk f150_rk x = f150_F k x := by
  show _ = f150_raw0 k x
  obtain ⟨a0, ⟨⟩⟩ := x
  kernel_rfl
theorem f150_ctr (k : Nat) : Ctr Tryz.prog k 150 (mk f150_pk f150_rk f150_F) :=
  lawX (fn := Tryz.f150) (phi_ok ctr_nil) (by kernel_rfl) (by kernel_rfl) (by kernel_rfl) (by kernel_rfl) (f150_eq k)
noncomputable abbrev f150_m : Nat × Callee := (150, mk f150_pk f150_rk f150_F)
abbrev f14603_pk : List Kd := [.view (.sl (.int .i64)), .fn 150]
abbrev f14603_rk : Kd := .view (.int .i64)
noncomputable def f14603_C (k : Nat) := cxX k [f150_m]
def f14603_A : Nat → Ann := fun id => bif Nat.beq id 2 then ⟨[7, 8, 1, 0], []⟩ else ⟨[], []⟩
abbrev f14603_T1 := Int × Int × List Int
abbrev f14603_K1 := f14603_T1 → Option (Int × Unit)
def f14603_S1 : f14603_T1 → St
  | (v0, v1, v2) => St.mk (envOf [(nat_lit 7, avI v0), (nat_lit 8, avI v1), (nat_lit 1, AV.fn (nat_lit 150)), (nat_lit 0, avL v2)]) (tblOf [])
def f14603_raw1 (k : Nat) (L1 : f14603_K1) : f14603_K1
  | (v0, v1, v2) => bif decide (v1 < v0) then bif decide ((0 : Int) ≤ v1 ∧ v1 < Int.ofNat v2.length) then (f150_F k (v2.getD v1.toNat 0, ())).bind fun y => bif y.1 then some (v1, ()) else L1 (v0, IntKind.i64.wrap (v1 + (1 : Int)), v2) else none else some ((-1 : Int), ())
def f14603_L1 (k : Nat) : f14603_K1 := iter (fun L1 => f14603_raw1 k L1) k
noncomputable def f14603_at1 (k : Nat) (n : Nat) (v : f14603_T1) : Option (Int × Unit) :=
  loopAt (f14603_C k) f14603_A [] [1, 0, 1, 0] [] (cdX Tryz.f146) (lvX (f14603_C k) Tryz.f146 f14603_pk f14603_rk [] []) n (f14603_S1 v)
def f14603_raw0 (k : Nat) (L1 : f14603_K1) : List Int × Unit × Unit → Option (Int × Unit)
  | (a0, (), ()) => L1 (Int.ofNat a0.length, (0 : Int), a0)
def f14603_F (k : Nat) := f14603_raw0 k (f14603_L1 k)
theorem f14603_law1 (k : Nat) : ∀ n, f14603_at1 k n = iter (fun L1 => f14603_raw1 k L1) n :=
  iter_law (fun v => by kernel_rfl) (fun n v => by
    show f14603_at1 k (n + 1) v = f14603_raw1 k (f14603_at1 k n) v
    obtain ⟨v0, v1, v2⟩ := v
    kernel_rfl)
theorem f14603_eq (k : Nat) (x : Kd.dens f14603_pk) : runX (f14603_C k) f14603_A Tryz.f146 f14603_pk f14603_rk x = f14603_F k x := by
  show _ = f14603_raw0 k (f14603_L1 k) x
  rw [show f14603_L1 k = f14603_at1 k k from (f14603_law1 k k).symm]
  obtain ⟨a0, ⟨⟨⟩, ⟨⟩⟩⟩ := x
  kernel_rfl
theorem f14603_ctr (k : Nat) : Ctr Tryz.prog k 146 (mk f14603_pk f14603_rk f14603_F) :=
  lawX (fn := Tryz.f146) (phi_ok (ctr_cons (f150_ctr k) ctr_nil)) (by kernel_rfl) (by kernel_rfl) (by kernel_rfl) (by kernel_rfl) (f14603_eq k)
noncomputable abbrev f14603_m : Nat × Callee := (146, mk f14603_pk f14603_rk f14603_F)
abbrev f10403_pk : List Kd := [.view (.sl (.int .i64)), .fn 150]
abbrev f10403_rk : Kd := .view .bool
noncomputable def f10403_C (k : Nat) := cxX k [f14603_m]
def f10403_raw0 (k : Nat) : List Int × Unit × Unit → Option (Bool × Unit)
  | (a0, (), ()) => (f14603_F k (a0, (), ())).bind fun y => some (decide ((0 : Int) ≤ y.1), ())
def f10403_F (k : Nat) := f10403_raw0 k
theorem f10403_eq (k : Nat) (x : Kd.dens f10403_pk) : runX (f10403_C k) nA Tryz.f104 f10403_pk f10403_rk x = f10403_F k x := by
  show _ = f10403_raw0 k x
  obtain ⟨a0, ⟨⟨⟩, ⟨⟩⟩⟩ := x
  kernel_rfl
theorem f10403_ctr (k : Nat) : Ctr Tryz.prog k 104 (mk f10403_pk f10403_rk f10403_F) :=
  lawX (fn := Tryz.f104) (phi_ok (ctr_cons (f14603_ctr k) ctr_nil)) (by kernel_rfl) (by kernel_rfl) (by kernel_rfl) (by kernel_rfl) (f10403_eq k)
noncomputable abbrev f10403_m : Nat × Callee := (104, mk f10403_pk f10403_rk f10403_F)
abbrev f192_pk : List Kd := [.view (.int .i64)]
abbrev f192_rk : Kd := .view .bool
noncomputable def f192_C (k : Nat) := cxX k []
def f192_raw0 (k : Nat) : Int × Unit → Option (Bool × Unit)
  | (a0, ()) => bif decide (a0 < (-2048 : Int)) then some (true, ()) else some (decide ((2047 : Int) < a0), ())
def f192_F (k : Nat) := f192_raw0 k
theorem f192_eq (k : Nat) (x : Kd.dens f192_pk) : runX (f192_C k) nA Tryz.f192 f192_pk f192_rk x = f192_F k x := by
  show _ = f192_raw0 k x
  obtain ⟨a0, ⟨⟩⟩ := x
  kernel_rfl
theorem f192_ctr (k : Nat) : Ctr Tryz.prog k 192 (mk f192_pk f192_rk f192_F) :=
  lawX (fn := Tryz.f192) (phi_ok ctr_nil) (by kernel_rfl) (by kernel_rfl) (by kernel_rfl) (by kernel_rfl) (f192_eq k)
noncomputable abbrev f192_m : Nat × Callee := (192, mk f192_pk f192_rk f192_F)
abbrev f14605_pk : List Kd := [.view (.sl (.int .i64)), .fn 192]
abbrev f14605_rk : Kd := .view (.int .i64)
noncomputable def f14605_C (k : Nat) := cxX k [f192_m]
def f14605_A : Nat → Ann := fun id => bif Nat.beq id 2 then ⟨[7, 8, 1, 0], []⟩ else ⟨[], []⟩
abbrev f14605_T1 := Int × Int × List Int
abbrev f14605_K1 := f14605_T1 → Option (Int × Unit)
def f14605_S1 : f14605_T1 → St
  | (v0, v1, v2) => St.mk (envOf [(nat_lit 7, avI v0), (nat_lit 8, avI v1), (nat_lit 1, AV.fn (nat_lit 192)), (nat_lit 0, avL v2)]) (tblOf [])
def f14605_raw1 (k : Nat) (L1 : f14605_K1) : f14605_K1
  | (v0, v1, v2) => bif decide (v1 < v0) then bif decide ((0 : Int) ≤ v1 ∧ v1 < Int.ofNat v2.length) then (f192_F k (v2.getD v1.toNat 0, ())).bind fun y => bif y.1 then some (v1, ()) else L1 (v0, IntKind.i64.wrap (v1 + (1 : Int)), v2) else none else some ((-1 : Int), ())
def f14605_L1 (k : Nat) : f14605_K1 := iter (fun L1 => f14605_raw1 k L1) k
noncomputable def f14605_at1 (k : Nat) (n : Nat) (v : f14605_T1) : Option (Int × Unit) :=
  loopAt (f14605_C k) f14605_A [] [1, 0, 1, 0] [] (cdX Tryz.f146) (lvX (f14605_C k) Tryz.f146 f14605_pk f14605_rk [] []) n (f14605_S1 v)
def f14605_raw0 (k : Nat) (L1 : f14605_K1) : List Int × Unit × Unit → Option (Int × Unit)
  | (a0, (), ()) => L1 (Int.ofNat a0.length, (0 : Int), a0)
def f14605_F (k : Nat) := f14605_raw0 k (f14605_L1 k)
theorem f14605_law1 (k : Nat) : ∀ n, f14605_at1 k n = iter (fun L1 => f14605_raw1 k L1) n :=
  iter_law (fun v => by kernel_rfl) (fun n v => by
    show f14605_at1 k (n + 1) v = f14605_raw1 k (f14605_at1 k n) v
    obtain ⟨v0, v1, v2⟩ := v
    kernel_rfl)
theorem f14605_eq (k : Nat) (x : Kd.dens f14605_pk) : runX (f14605_C k) f14605_A Tryz.f146 f14605_pk f14605_rk x = f14605_F k x := by
  show _ = f14605_raw0 k (f14605_L1 k) x
  rw [show f14605_L1 k = f14605_at1 k k from (f14605_law1 k k).symm]
  obtain ⟨a0, ⟨⟨⟩, ⟨⟩⟩⟩ := x
  kernel_rfl
theorem f14605_ctr (k : Nat) : Ctr Tryz.prog k 146 (mk f14605_pk f14605_rk f14605_F) :=
  lawX (fn := Tryz.f146) (phi_ok (ctr_cons (f192_ctr k) ctr_nil)) (by kernel_rfl) (by kernel_rfl) (by kernel_rfl) (by kernel_rfl) (f14605_eq k)
noncomputable abbrev f14605_m : Nat × Callee := (146, mk f14605_pk f14605_rk f14605_F)
abbrev f10405_pk : List Kd := [.view (.sl (.int .i64)), .fn 192]
abbrev f10405_rk : Kd := .view .bool
noncomputable def f10405_C (k : Nat) := cxX k [f14605_m]
def f10405_raw0 (k : Nat) : List Int × Unit × Unit → Option (Bool × Unit)
  | (a0, (), ()) => (f14605_F k (a0, (), ())).bind fun y => some (decide ((0 : Int) ≤ y.1), ())
def f10405_F (k : Nat) := f10405_raw0 k
theorem f10405_eq (k : Nat) (x : Kd.dens f10405_pk) : runX (f10405_C k) nA Tryz.f104 f10405_pk f10405_rk x = f10405_F k x := by
  show _ = f10405_raw0 k x
  obtain ⟨a0, ⟨⟨⟩, ⟨⟩⟩⟩ := x
  kernel_rfl
theorem f10405_ctr (k : Nat) : Ctr Tryz.prog k 104 (mk f10405_pk f10405_rk f10405_F) :=
  lawX (fn := Tryz.f104) (phi_ok (ctr_cons (f14605_ctr k) ctr_nil)) (by kernel_rfl) (by kernel_rfl) (by kernel_rfl) (by kernel_rfl) (f10405_eq k)
noncomputable abbrev f10405_m : Nat × Callee := (104, mk f10405_pk f10405_rk f10405_F)
abbrev f172_pk : List Kd := [.view modelT]
abbrev f172_rk : Kd := .view (.int .i64)
noncomputable def f172_C (k : Nat) := cxX k [f10405_m]
def f172_raw0 (k : Nat) : (List Int × Int × Unit) × Unit → Option (Int × Unit)
  | ((a0, a1, ()), ()) => bif decide ((8 : Int) < Int.ofNat a0.length) then some (2, ()) else bif decide (a1 < (0 : Int)) then some (2, ()) else bif decide ((15 : Int) < a1) then some (2, ()) else (f10405_F k (a0, (), ())).bind fun y => bif y.1 then some (2, ()) else some (0, ())
def f172_F (k : Nat) := f172_raw0 k
theorem f172_eq (k : Nat) (x : Kd.dens f172_pk) : runX (f172_C k) nA Tryz.f172 f172_pk f172_rk x = f172_F k x := by
  show _ = f172_raw0 k x
  obtain ⟨⟨a0, ⟨a1, ⟨⟩⟩⟩, ⟨⟩⟩ := x
  kernel_rfl
theorem f172_ctr (k : Nat) : Ctr Tryz.prog k 172 (mk f172_pk f172_rk f172_F) :=
  lawX (fn := Tryz.f172) (phi_ok (ctr_cons (f10405_ctr k) ctr_nil)) (by kernel_rfl) (by kernel_rfl) (by kernel_rfl) (by kernel_rfl) (f172_eq k)
noncomputable abbrev f172_m : Nat × Callee := (172, mk f172_pk f172_rk f172_F)
abbrev f173_pk : List Kd := [.view modelT, .view (.sl (.int .i64))]
abbrev f173_rk : Kd := .view (.int .i64)
noncomputable def f173_C (k : Nat) := cxX k []
def f173_A : Nat → Ann := fun id => bif Nat.beq id 3 then ⟨[10, 11, 9, 5, 1, 2], []⟩ else ⟨[], []⟩
abbrev f173_T1 := Int × Int × List Int × Int × List Int × List Int × Int
abbrev f173_K1 := f173_T1 → Option (Int × Unit)
def f173_S1 : f173_T1 → St
  | (v0, v1, v2, v3, v4, v5, v6) => St.mk (envOf [(nat_lit 10, avI v0), (nat_lit 11, avI v1), (nat_lit 9, avL v2), (nat_lit 5, avI v3), (nat_lit 1, avL v4), (nat_lit 2, AV.bx (nat_lit 8192) (nat_lit 0))]) (tblOf [(nat_lit 8192, RS.live (Res.box [avL v5, avI v6]))])
def f173_raw1 (k : Nat) (L1 : f173_K1) : f173_K1
  | (v0, v1, v2, v3, v4, v5, v6) => bif decide (v1 < v0) then bif decide ((0 : Int) ≤ v1 ∧ v1 < Int.ofNat v2.length) then bif decide ((0 : Int) ≤ IntKind.i64.wrap (IntKind.i64.wrap (Int.ofNat v4.length - (1 : Int)) - v1) ∧ IntKind.i64.wrap (IntKind.i64.wrap (Int.ofNat v4.length - (1 : Int)) - v1) < Int.ofNat v4.length) then L1 (v0, IntKind.i64.wrap (v1 + (1 : Int)), v2, IntKind.i64.wrap (v3 + IntKind.i64.wrap (v2.getD v1.toNat 0 * v4.getD (IntKind.i64.wrap (IntKind.i64.wrap (Int.ofNat v4.length - (1 : Int)) - v1)).toNat 0)), v4, v5, v6) else none else none else bif decide ((0 : Int) ≤ v6) then some (v3.fdiv ((2 : Int) ^ min v6.toNat (64 : Nat)), ()) else none
def f173_L1 (k : Nat) : f173_K1 := iter (fun L1 => f173_raw1 k L1) k
noncomputable def f173_at1 (k : Nat) (n : Nat) (v : f173_T1) : Option (Int × Unit) :=
  loopAt (f173_C k) f173_A [] [1, 1, 0, 1, 0] [] (cdX Tryz.f173) (lvX (f173_C k) Tryz.f173 f173_pk f173_rk [] []) n (f173_S1 v)
def f173_raw0 (k : Nat) (L1 : f173_K1) : (List Int × Int × Unit) × List Int × Unit → Option (Int × Unit)
  | ((a0, a1, ()), a2, ()) => L1 (Int.ofNat a0.length, (0 : Int), a0, (0 : Int), a2, a0, a1)
def f173_F (k : Nat) := f173_raw0 k (f173_L1 k)
theorem f173_law1 (k : Nat) : ∀ n, f173_at1 k n = iter (fun L1 => f173_raw1 k L1) n :=
  iter_law (fun v => by kernel_rfl) (fun n v => by
    show f173_at1 k (n + 1) v = f173_raw1 k (f173_at1 k n) v
    obtain ⟨v0, v1, v2, v3, v4, v5, v6⟩ := v
    kernel_rfl)
theorem f173_eq (k : Nat) (x : Kd.dens f173_pk) : runX (f173_C k) f173_A Tryz.f173 f173_pk f173_rk x = f173_F k x := by
  show _ = f173_raw0 k (f173_L1 k) x
  rw [show f173_L1 k = f173_at1 k k from (f173_law1 k k).symm]
  obtain ⟨⟨a0, ⟨a1, ⟨⟩⟩⟩, ⟨a2, ⟨⟩⟩⟩ := x
  kernel_rfl
theorem f173_ctr (k : Nat) : Ctr Tryz.prog k 173 (mk f173_pk f173_rk f173_F) :=
  lawX (fn := Tryz.f173) (phi_ok ctr_nil) (by kernel_rfl) (by kernel_rfl) (by kernel_rfl) (by kernel_rfl) (f173_eq k)
noncomputable abbrev f173_m : Nat × Callee := (173, mk f173_pk f173_rk f173_F)
abbrev f148_pk : List Kd := [.view modelT, .view (.sl (.int .i64))]
abbrev f148_rk : Kd := .tup [.view (.sl (.int .i64)), .view (.int .i64)]
noncomputable def f148_C (k : Nat) := cxX k [f10403_m, f150_m, f172_m, f173_m]
def f148_A : Nat → Ann := fun id => bif Nat.beq id 9 then ⟨[7, 1, 2, 6], [.slot 6 ((Ty.int IntKind.i64))]⟩ else ⟨[], []⟩
abbrev f148_T1 := Int × List Int × List Int × Int × List Int
abbrev f148_K1 := f148_T1 → Option ((List Int × Int × Unit) × Unit)
def f148_S1 : f148_T1 → St
  | (v0, v1, v2, v3, v4) => St.mk (envOf [(nat_lit 7, avI v0), (nat_lit 1, avL v1), (nat_lit 2, AV.bx (nat_lit 8192) (nat_lit 0)), (nat_lit 6, AV.own (nat_lit 8193))]) (tblOf [(nat_lit 8192, RS.live (Res.box [avL v2, avI v3])), (nat_lit 8193, RS.live (Res.arr (Ty.int IntKind.i64) v4 false))])
def f148_raw1 (k : Nat) (L1 : f148_K1) : f148_K1
  | (v0, v1, v2, v3, v4) => bif decide (v0 < Int.ofNat v1.length) then bif decide ((0 : Int) ≤ v0 ∧ v0 < Int.ofNat v1.length) then bif decide ((0 : Int) ≤ (0 : Int) ∧ (0 : Int) ≤ v0 ∧ v0 ≤ Int.ofNat v1.length) then (f173_F k ((v2, v3, ()), List.drop (0 : Nat) (List.take v0.toNat v1), ())).bind fun y => (f150_F k (IntKind.i64.wrap (v1.getD v0.toNat 0 - y.1), ())).bind fun y_1 => bif y_1.1 then some (([], 12, ()), ()) else bif decide (v4.length + [IntKind.i64.wrap (v1.getD v0.toNat 0 - y.1)].length < (2147483648 : Nat)) then L1 (IntKind.i64.wrap (v0 + (1 : Int)), v1, v2, v3, v4 ++ [IntKind.i64.wrap (v1.getD v0.toNat 0 - y.1)]) else none else none else none else some ((v4, 0, ()), ())
def f148_L1 (k : Nat) : f148_K1 := iter (fun L1 => f148_raw1 k L1) k
noncomputable def f148_at1 (k : Nat) (n : Nat) (v : f148_T1) : Option ((List Int × Int × Unit) × Unit) :=
  loopAt (f148_C k) f148_A [] [1, 1, 1, 0, 1, 0] [] (cdX Tryz.f148) (lvX (f148_C k) Tryz.f148 f148_pk f148_rk [] []) n (f148_S1 v)
def f148_raw0 (k : Nat) (L1 : f148_K1) : (List Int × Int × Unit) × List Int × Unit → Option ((List Int × Int × Unit) × Unit)
  | ((a0, a1, ()), a2, ()) => (f172_F k ((a0, a1, ()), ())).bind fun y => bif y.1 != (0 : Int) then some (([], 2, ()), ()) else bif decide (Int.ofNat a2.length < Int.ofNat a0.length) then some (([], 1, ()), ()) else (f10403_F k (a2, (), ())).bind fun y => bif y.1 then some (([], 12, ()), ()) else L1 (Int.ofNat a0.length, a2, a0, a1, [])
def f148_F (k : Nat) := f148_raw0 k (f148_L1 k)
theorem f148_law1 (k : Nat) : ∀ n, f148_at1 k n = iter (fun L1 => f148_raw1 k L1) n :=
  iter_law (fun v => by kernel_rfl) (fun n v => by
    show f148_at1 k (n + 1) v = f148_raw1 k (f148_at1 k n) v
    obtain ⟨v0, v1, v2, v3, v4⟩ := v
    kernel_rfl)
theorem f148_eq (k : Nat) (x : Kd.dens f148_pk) : runX (f148_C k) f148_A Tryz.f148 f148_pk f148_rk x = f148_F k x := by
  show _ = f148_raw0 k (f148_L1 k) x
  rw [show f148_L1 k = f148_at1 k k from (f148_law1 k k).symm]
  obtain ⟨⟨a0, ⟨a1, ⟨⟩⟩⟩, ⟨a2, ⟨⟩⟩⟩ := x
  kernel_rfl
theorem f148_ctr (k : Nat) : Ctr Tryz.prog k 148 (mk f148_pk f148_rk f148_F) :=
  lawX (fn := Tryz.f148) (phi_ok (ctr_cons (f10403_ctr k) (ctr_cons (f150_ctr k) (ctr_cons (f172_ctr k) (ctr_cons (f173_ctr k) ctr_nil))))) (by kernel_rfl) (by kernel_rfl) (by kernel_rfl) (by kernel_rfl) (f148_eq k)
noncomputable abbrev f148_m : Nat × Callee := (148, mk f148_pk f148_rk f148_F)
abbrev f155_pk : List Kd := [.view (.int .i64)]
abbrev f155_rk : Kd := .view .bool
noncomputable def f155_C (k : Nat) := cxX k []
def f155_raw0 (k : Nat) : Int × Unit → Option (Bool × Unit)
  | (a0, ()) => bif decide (a0 ≤ (-2147483648 : Int)) then some (true, ()) else some (decide ((2147483648 : Int) ≤ a0), ())
def f155_F (k : Nat) := f155_raw0 k
theorem f155_eq (k : Nat) (x : Kd.dens f155_pk) : runX (f155_C k) nA Tryz.f155 f155_pk f155_rk x = f155_F k x := by
  show _ = f155_raw0 k x
  obtain ⟨a0, ⟨⟩⟩ := x
  kernel_rfl
theorem f155_ctr (k : Nat) : Ctr Tryz.prog k 155 (mk f155_pk f155_rk f155_F) :=
  lawX (fn := Tryz.f155) (phi_ok ctr_nil) (by kernel_rfl) (by kernel_rfl) (by kernel_rfl) (by kernel_rfl) (f155_eq k)
noncomputable abbrev f155_m : Nat × Callee := (155, mk f155_pk f155_rk f155_F)
abbrev f14604_pk : List Kd := [.view (.sl (.int .i64)), .fn 155]
abbrev f14604_rk : Kd := .view (.int .i64)
noncomputable def f14604_C (k : Nat) := cxX k [f155_m]
def f14604_A : Nat → Ann := fun id => bif Nat.beq id 2 then ⟨[7, 8, 1, 0], []⟩ else ⟨[], []⟩
abbrev f14604_T1 := Int × Int × List Int
abbrev f14604_K1 := f14604_T1 → Option (Int × Unit)
def f14604_S1 : f14604_T1 → St
  | (v0, v1, v2) => St.mk (envOf [(nat_lit 7, avI v0), (nat_lit 8, avI v1), (nat_lit 1, AV.fn (nat_lit 155)), (nat_lit 0, avL v2)]) (tblOf [])
def f14604_raw1 (k : Nat) (L1 : f14604_K1) : f14604_K1
  | (v0, v1, v2) => bif decide (v1 < v0) then bif decide ((0 : Int) ≤ v1 ∧ v1 < Int.ofNat v2.length) then (f155_F k (v2.getD v1.toNat 0, ())).bind fun y => bif y.1 then some (v1, ()) else L1 (v0, IntKind.i64.wrap (v1 + (1 : Int)), v2) else none else some ((-1 : Int), ())
def f14604_L1 (k : Nat) : f14604_K1 := iter (fun L1 => f14604_raw1 k L1) k
noncomputable def f14604_at1 (k : Nat) (n : Nat) (v : f14604_T1) : Option (Int × Unit) :=
  loopAt (f14604_C k) f14604_A [] [1, 0, 1, 0] [] (cdX Tryz.f146) (lvX (f14604_C k) Tryz.f146 f14604_pk f14604_rk [] []) n (f14604_S1 v)
def f14604_raw0 (k : Nat) (L1 : f14604_K1) : List Int × Unit × Unit → Option (Int × Unit)
  | (a0, (), ()) => L1 (Int.ofNat a0.length, (0 : Int), a0)
def f14604_F (k : Nat) := f14604_raw0 k (f14604_L1 k)
theorem f14604_law1 (k : Nat) : ∀ n, f14604_at1 k n = iter (fun L1 => f14604_raw1 k L1) n :=
  iter_law (fun v => by kernel_rfl) (fun n v => by
    show f14604_at1 k (n + 1) v = f14604_raw1 k (f14604_at1 k n) v
    obtain ⟨v0, v1, v2⟩ := v
    kernel_rfl)
theorem f14604_eq (k : Nat) (x : Kd.dens f14604_pk) : runX (f14604_C k) f14604_A Tryz.f146 f14604_pk f14604_rk x = f14604_F k x := by
  show _ = f14604_raw0 k (f14604_L1 k) x
  rw [show f14604_L1 k = f14604_at1 k k from (f14604_law1 k k).symm]
  obtain ⟨a0, ⟨⟨⟩, ⟨⟩⟩⟩ := x
  kernel_rfl
theorem f14604_ctr (k : Nat) : Ctr Tryz.prog k 146 (mk f14604_pk f14604_rk f14604_F) :=
  lawX (fn := Tryz.f146) (phi_ok (ctr_cons (f155_ctr k) ctr_nil)) (by kernel_rfl) (by kernel_rfl) (by kernel_rfl) (by kernel_rfl) (f14604_eq k)
noncomputable abbrev f14604_m : Nat × Callee := (146, mk f14604_pk f14604_rk f14604_F)
abbrev f10404_pk : List Kd := [.view (.sl (.int .i64)), .fn 155]
abbrev f10404_rk : Kd := .view .bool
noncomputable def f10404_C (k : Nat) := cxX k [f14604_m]
def f10404_raw0 (k : Nat) : List Int × Unit × Unit → Option (Bool × Unit)
  | (a0, (), ()) => (f14604_F k (a0, (), ())).bind fun y => some (decide ((0 : Int) ≤ y.1), ())
def f10404_F (k : Nat) := f10404_raw0 k
theorem f10404_eq (k : Nat) (x : Kd.dens f10404_pk) : runX (f10404_C k) nA Tryz.f104 f10404_pk f10404_rk x = f10404_F k x := by
  show _ = f10404_raw0 k x
  obtain ⟨a0, ⟨⟨⟩, ⟨⟩⟩⟩ := x
  kernel_rfl
theorem f10404_ctr (k : Nat) : Ctr Tryz.prog k 104 (mk f10404_pk f10404_rk f10404_F) :=
  lawX (fn := Tryz.f104) (phi_ok (ctr_cons (f14604_ctr k) ctr_nil)) (by kernel_rfl) (by kernel_rfl) (by kernel_rfl) (by kernel_rfl) (f10404_eq k)
noncomputable abbrev f10404_m : Nat × Callee := (104, mk f10404_pk f10404_rk f10404_F)
abbrev f154_pk : List Kd := [.view (.int .i64), .view (.int .i64)]
abbrev f154_rk : Kd := .view .bool
noncomputable def f154_C (k : Nat) := cxX k []
def f154_raw0 (k : Nat) : Int × Int × Unit → Option (Bool × Unit)
  | (a0, a1, ()) => bif decide ((1 : Int) ≤ a0) then bif decide (a0 ≤ (512 : Int)) then bif decide ((0 : Int) ≤ a1) then some (decide (a1 ≤ if a0 < (8 : Int) then a0 else (8 : Int)), ()) else some (false, ()) else some (false, ()) else some (false, ())
def f154_F (k : Nat) := f154_raw0 k
theorem f154_eq (k : Nat) (x : Kd.dens f154_pk) : runX (f154_C k) nA Tryz.f154 f154_pk f154_rk x = f154_F k x := by
  show _ = f154_raw0 k x
  obtain ⟨a0, ⟨a1, ⟨⟩⟩⟩ := x
  kernel_rfl
theorem f154_ctr (k : Nat) : Ctr Tryz.prog k 154 (mk f154_pk f154_rk f154_F) :=
  lawX (fn := Tryz.f154) (phi_ok ctr_nil) (by kernel_rfl) (by kernel_rfl) (by kernel_rfl) (by kernel_rfl) (f154_eq k)
noncomputable abbrev f154_m : Nat × Callee := (154, mk f154_pk f154_rk f154_F)
abbrev f113_pk : List Kd := [.view (.sl (.int .i64)), .view (.int .i64)]
abbrev f113_rk : Kd := .view (.int .i64)
noncomputable def f113_C (k : Nat) := cxX k [f10404_m, f154_m]
def f113_raw0 (k : Nat) : List Int × Int × Unit → Option (Int × Unit)
  | (a0, a1, ()) => bif decide (a1 < (0 : Int)) then some (1, ()) else bif decide ((8 : Int) < a1) then some (1, ()) else (f154_F k (IntKind.i64.wrap (Int.ofNat a0.length + a1), a1, ())).bind fun y => bif !y.1 then some (1, ()) else (f10404_F k (a0, (), ())).bind fun y => bif y.1 then some (12, ()) else some (0, ())
def f113_F (k : Nat) := f113_raw0 k
theorem f113_eq (k : Nat) (x : Kd.dens f113_pk) : runX (f113_C k) nA Tryz.f113 f113_pk f113_rk x = f113_F k x := by
  show _ = f113_raw0 k x
  obtain ⟨a0, ⟨a1, ⟨⟩⟩⟩ := x
  kernel_rfl
theorem f113_ctr (k : Nat) : Ctr Tryz.prog k 113 (mk f113_pk f113_rk f113_F) :=
  lawX (fn := Tryz.f113) (phi_ok (ctr_cons (f10404_ctr k) (ctr_cons (f154_ctr k) ctr_nil))) (by kernel_rfl) (by kernel_rfl) (by kernel_rfl) (by kernel_rfl) (f113_eq k)
noncomputable abbrev f113_m : Nat × Callee := (113, mk f113_pk f113_rk f113_F)
abbrev f115_pk : List Kd := [.view (.sl (.int .i64)), .view (.int .i64), .view (.int .i64)]
abbrev f115_rk : Kd := .view (.sl (.sl (.int .i64)))
noncomputable def f115_C (k : Nat) := cxX k []
def f115_A : Nat → Ann := fun id => bif Nat.beq id 4 then ⟨[8, 2, 9, 7], []⟩ else ⟨[], []⟩
abbrev f115_T1 := Int × List Int × Int × List (List Int)
abbrev f115_K1 := f115_T1 → Option (List (List Int) × Unit)
def f115_S1 : f115_T1 → St
  | (v0, v1, v2, v3) => St.mk (envOf [(nat_lit 8, AV.own (nat_lit 8192)), (nat_lit 2, avI v0), (nat_lit 9, avL v1), (nat_lit 7, avI v2)]) (tblOf [(nat_lit 8192, RS.live (Res.arr (Ty.int IntKind.i64).sl v3 false))])
def f115_raw1 (k : Nat) (L1 : f115_K1) : f115_K1
  | (v0, v1, v2, v3) => bif decide ((0 : Int) ≤ v0) then bif decide (Int.ofNat v3.length < IntKind.i64.wrap ((1 : Int) * (2 : Int) ^ min v0.toNat (64 : Nat))) then bif decide ((0 : Int) ≤ (0 : Int) ∧ (0 : Int) ≤ v2 ∧ v2 ≤ Int.ofNat v1.length) then bif decide (v3.length + [List.drop (0 : Nat) (List.take v2.toNat v1)].length < (2147483648 : Nat)) then bif decide ((0 : Int) ≤ v2 ∧ v2 ≤ Int.ofNat v1.length ∧ Int.ofNat v1.length ≤ Int.ofNat v1.length) then L1 (v0, List.drop v2.toNat (List.take (Int.ofNat v1.length).toNat v1), v2, v3 ++ [List.drop (0 : Nat) (List.take v2.toNat v1)]) else none else none else none else some (v3, ()) else none
def f115_L1 (k : Nat) : f115_K1 := iter (fun L1 => f115_raw1 k L1) k
noncomputable def f115_at1 (k : Nat) (n : Nat) (v : f115_T1) : Option (List (List Int) × Unit) :=
  loopAt (f115_C k) f115_A [] [1, 1, 1, 0, 1, 0] [] (cdX Tryz.f115) (lvX (f115_C k) Tryz.f115 f115_pk f115_rk [] []) n (f115_S1 v)
def f115_raw0 (k : Nat) (L1 : f115_K1) : List Int × Int × Int × Unit → Option (List (List Int) × Unit)
  | (a0, a1, a2, ()) => bif decide ((0 : Int) ≤ a2) then bif decide ((0 : Int) ≤ (0 : Int) ∧ (0 : Int) ≤ IntKind.i64.wrap ((IntKind.i64.wrap (Int.ofNat a0.length + a1)).fdiv ((2 : Int) ^ min a2.toNat (64 : Nat)) - a1) ∧ IntKind.i64.wrap ((IntKind.i64.wrap (Int.ofNat a0.length + a1)).fdiv ((2 : Int) ^ min a2.toNat (64 : Nat)) - a1) ≤ Int.ofNat a0.length) then bif decide ((0 : Int) ≤ IntKind.i64.wrap ((IntKind.i64.wrap (Int.ofNat a0.length + a1)).fdiv ((2 : Int) ^ min a2.toNat (64 : Nat)) - a1) ∧ IntKind.i64.wrap ((IntKind.i64.wrap (Int.ofNat a0.length + a1)).fdiv ((2 : Int) ^ min a2.toNat (64 : Nat)) - a1) ≤ Int.ofNat a0.length ∧ Int.ofNat a0.length ≤ Int.ofNat a0.length) then L1 (a2, List.drop (IntKind.i64.wrap ((IntKind.i64.wrap (Int.ofNat a0.length + a1)).fdiv ((2 : Int) ^ min a2.toNat (64 : Nat)) - a1)).toNat (List.take (Int.ofNat a0.length).toNat a0), (IntKind.i64.wrap (Int.ofNat a0.length + a1)).fdiv ((2 : Int) ^ min a2.toNat (64 : Nat)), [List.drop (0 : Nat) (List.take (IntKind.i64.wrap ((IntKind.i64.wrap (Int.ofNat a0.length + a1)).fdiv ((2 : Int) ^ min a2.toNat (64 : Nat)) - a1)).toNat a0)]) else none else none else none
def f115_F (k : Nat) := f115_raw0 k (f115_L1 k)
theorem f115_law1 (k : Nat) : ∀ n, f115_at1 k n = iter (fun L1 => f115_raw1 k L1) n :=
  iter_law (fun v => by kernel_rfl) (fun n v => by
    show f115_at1 k (n + 1) v = f115_raw1 k (f115_at1 k n) v
    obtain ⟨v0, v1, v2, v3⟩ := v
    kernel_rfl)
theorem f115_eq (k : Nat) (x : Kd.dens f115_pk) : runX (f115_C k) f115_A Tryz.f115 f115_pk f115_rk x = f115_F k x := by
  show _ = f115_raw0 k (f115_L1 k) x
  rw [show f115_L1 k = f115_at1 k k from (f115_law1 k k).symm]
  obtain ⟨a0, ⟨a1, ⟨a2, ⟨⟩⟩⟩⟩ := x
  kernel_rfl
theorem f115_ctr (k : Nat) : Ctr Tryz.prog k 115 (mk f115_pk f115_rk f115_F) :=
  lawX (fn := Tryz.f115) (phi_ok ctr_nil) (by kernel_rfl) (by kernel_rfl) (by kernel_rfl) (by kernel_rfl) (f115_eq k)
noncomputable abbrev f115_m : Nat × Callee := (115, mk f115_pk f115_rk f115_F)
abbrev f116_pk : List Kd := [.view (.int .i64)]
abbrev f116_rk : Kd := .view (.int .i64)
noncomputable def f116_C (k : Nat) := cxX k []
def f116_raw0 (k : Nat) : Int × Unit → Option (Int × Unit)
  | (a0, ()) => some (IntKind.i64.wrap ((4 : Int) + a0), ())
def f116_F (k : Nat) := f116_raw0 k
theorem f116_eq (k : Nat) (x : Kd.dens f116_pk) : runX (f116_C k) nA Tryz.f116 f116_pk f116_rk x = f116_F k x := by
  show _ = f116_raw0 k x
  obtain ⟨a0, ⟨⟩⟩ := x
  kernel_rfl
theorem f116_ctr (k : Nat) : Ctr Tryz.prog k 116 (mk f116_pk f116_rk f116_F) :=
  lawX (fn := Tryz.f116) (phi_ok ctr_nil) (by kernel_rfl) (by kernel_rfl) (by kernel_rfl) (by kernel_rfl) (f116_eq k)
noncomputable abbrev f116_m : Nat × Callee := (116, mk f116_pk f116_rk f116_F)
abbrev f156_pk : List Kd := [.view (.int .i64), .view (.int .i64), .view (.int .i64)]
abbrev f156_rk : Kd := .view .bool
noncomputable def f156_C (k : Nat) := cxX k []
def f156_raw0 (k : Nat) : Int × Int × Int × Unit → Option (Bool × Unit)
  | (a0, a1, a2, ()) => bif decide ((0 : Int) ≤ a2) then bif IntKind.i64.wrap (Int.ofNat (BitVec.ofInt (64 : Nat) a0 &&& BitVec.ofInt (64 : Nat) (IntKind.i64.wrap (IntKind.i64.wrap ((1 : Int) * (2 : Int) ^ min a2.toNat (64 : Nat)) - (1 : Int)))).toNat) == (0 : Int) then bif decide ((0 : Int) ≤ a2) then some (decide (a1 ≤ a0.fdiv ((2 : Int) ^ min a2.toNat (64 : Nat))), ()) else none else some (false, ()) else none
def f156_F (k : Nat) := f156_raw0 k
theorem f156_eq (k : Nat) (x : Kd.dens f156_pk) : runX (f156_C k) nA Tryz.f156 f156_pk f156_rk x = f156_F k x := by
  show _ = f156_raw0 k x
  obtain ⟨a0, ⟨a1, ⟨a2, ⟨⟩⟩⟩⟩ := x
  kernel_rfl
theorem f156_ctr (k : Nat) : Ctr Tryz.prog k 156 (mk f156_pk f156_rk f156_F) :=
  lawX (fn := Tryz.f156) (phi_ok ctr_nil) (by kernel_rfl) (by kernel_rfl) (by kernel_rfl) (by kernel_rfl) (f156_eq k)
noncomputable abbrev f156_m : Nat × Callee := (156, mk f156_pk f156_rk f156_F)
abbrev f117_pk : List Kd := [.view (.int .i64)]
abbrev f117_rk : Kd := .view (.int .i64)
noncomputable def f117_C (k : Nat) := cxX k [f116_m]
def f117_raw0 (k : Nat) : Int × Unit → Option (Int × Unit)
  | (a0, ()) => (f116_F k (a0, ())).bind fun y => bif decide ((0 : Int) ≤ y.1) then some (IntKind.i64.wrap (IntKind.i64.wrap ((1 : Int) * (2 : Int) ^ min (Int.toNat y.1) (64 : Nat)) - (1 : Int)), ()) else none
def f117_F (k : Nat) := f117_raw0 k
theorem f117_eq (k : Nat) (x : Kd.dens f117_pk) : runX (f117_C k) nA Tryz.f117 f117_pk f117_rk x = f117_F k x := by
  show _ = f117_raw0 k x
  obtain ⟨a0, ⟨⟩⟩ := x
  kernel_rfl
theorem f117_ctr (k : Nat) : Ctr Tryz.prog k 117 (mk f117_pk f117_rk f117_F) :=
  lawX (fn := Tryz.f117) (phi_ok (ctr_cons (f116_ctr k) ctr_nil)) (by kernel_rfl) (by kernel_rfl) (by kernel_rfl) (by kernel_rfl) (f117_eq k)
noncomputable abbrev f117_m : Nat × Callee := (117, mk f117_pk f117_rk f117_F)
abbrev f118_pk : List Kd := [.view (.int .i64)]
abbrev f118_rk : Kd := .tup [.view (.int .i64), .view (.int .i64)]
noncomputable def f118_C (k : Nat) := cxX k []
def f118_raw0 (k : Nat) : Int × Unit → Option ((Int × Int × Unit) × Unit)
  | (a0, ()) => bif decide (a0 < (-1099511627776 : Int)) then some ((0, 12, ()), ()) else bif decide ((1099511627776 : Int) < a0) then some ((0, 12, ()), ()) else some ((IntKind.i64.wrap (Int.ofNat (BitVec.ofInt (64 : Nat) (IntKind.i64.wrap (a0 * (2 : Int))) ^^^ BitVec.ofInt (64 : Nat) (a0.fdiv (9223372036854775808 : Int))).toNat), 0, ()), ())
def f118_F (k : Nat) := f118_raw0 k
theorem f118_eq (k : Nat) (x : Kd.dens f118_pk) : runX (f118_C k) nA Tryz.f118 f118_pk f118_rk x = f118_F k x := by
  show _ = f118_raw0 k x
  obtain ⟨a0, ⟨⟩⟩ := x
  kernel_rfl
theorem f118_ctr (k : Nat) : Ctr Tryz.prog k 118 (mk f118_pk f118_rk f118_F) :=
  lawX (fn := Tryz.f118) (phi_ok ctr_nil) (by kernel_rfl) (by kernel_rfl) (by kernel_rfl) (by kernel_rfl) (f118_eq k)
noncomputable abbrev f118_m : Nat × Callee := (118, mk f118_pk f118_rk f118_F)
abbrev f194_pk : List Kd := [.view (.int .u64)]
abbrev f194_rk : Kd := .view (.int .i64)
def f194_F (k : Nat) : Int × Unit → Option (Int × Unit) := fun x => lenF x
def lenRho : Go.Shelf.Ren := ⟨fun n => match n with | 129 => 194 | _ => 0, fun n => match n with | 0 => 0 | 3 => 3 | 4 => 4 | 5 => 5 | 9 => 9 | 46 => 114 | 53 => 49 | _ => 0, fun n => n⟩
set_option maxRecDepth 100000 in
theorem lenLays : Go.Proofs.Lays.n129 Tryz.prog lenRho := by
  constructor <;> first | kernel_rfl | (intro w; rfl)
set_option maxRecDepth 100000 in
theorem f194_ctr (k : Nat) : Ctr Tryz.prog k 194 (mk f194_pk f194_rk f194_F) := len64_ctr lenLays (fn := Tryz.f194) (by kernel_rfl) (by kernel_rfl) (by kernel_rfl) (by kernel_rfl)
noncomputable abbrev f194_m : Nat × Callee := (194, mk f194_pk f194_rk f194_F)
abbrev f182_pk : List Kd := [.view (.int .i64)]
abbrev f182_rk : Kd := .view (.int .i64)
noncomputable def f182_C (k : Nat) := cxX k [f194_m]
def f182_raw0 (k : Nat) : Int × Unit → Option (Int × Unit)
  | (a0, ()) => (f194_F k (IntKind.u64.wrap (IntKind.i64.wrap (Int.ofNat (BitVec.ofInt (64 : Nat) a0 ^^^ BitVec.ofInt (64 : Nat) (a0.fdiv (9223372036854775808 : Int))).toNat)), ())).bind fun y => some (IntKind.i64.wrap (y.1 + (1 : Int)), ())
def f182_F (k : Nat) := f182_raw0 k
theorem f182_eq (k : Nat) (x : Kd.dens f182_pk) : runX (f182_C k) nA Tryz.f182 f182_pk f182_rk x = f182_F k x := by
  show _ = f182_raw0 k x
  obtain ⟨a0, ⟨⟩⟩ := x
  kernel_rfl
theorem f182_ctr (k : Nat) : Ctr Tryz.prog k 182 (mk f182_pk f182_rk f182_F) :=
  lawX (fn := Tryz.f182) (phi_ok (ctr_cons (f194_ctr k) ctr_nil)) (by kernel_rfl) (by kernel_rfl) (by kernel_rfl) (by kernel_rfl) (f182_eq k)
noncomputable abbrev f182_m : Nat × Callee := (182, mk f182_pk f182_rk f182_F)
noncomputable def f117_O : (k : Nat) → Int × Unit → Option (Int × Unit) := Classical.choose (⟨f117_F, rfl⟩ : ∃ F : (k : Nat) → Int × Unit → Option (Int × Unit), F = f117_F)
theorem f117_O_eq : f117_O = f117_F := Classical.choose_spec (⟨f117_F, rfl⟩ : ∃ F : (k : Nat) → Int × Unit → Option (Int × Unit), F = f117_F)
theorem f117_octr (k : Nat) : Ctr Tryz.prog k 117 (mk f117_pk f117_rk f117_O) := by rw [f117_O_eq]; exact f117_ctr k
noncomputable def f118_O : (k : Nat) → Int × Unit → Option ((Int × Int × Unit) × Unit) := Classical.choose (⟨f118_F, rfl⟩ : ∃ F : (k : Nat) → Int × Unit → Option ((Int × Int × Unit) × Unit), F = f118_F)
theorem f118_O_eq : f118_O = f118_F := Classical.choose_spec (⟨f118_F, rfl⟩ : ∃ F : (k : Nat) → Int × Unit → Option ((Int × Int × Unit) × Unit), F = f118_F)
theorem f118_octr (k : Nat) : Ctr Tryz.prog k 118 (mk f118_pk f118_rk f118_O) := by rw [f118_O_eq]; exact f118_ctr k
abbrev f157_pk : List Kd := [.view (.sl (.int .i64)), .view (.int .i64)]
abbrev f157_rk : Kd := .tup [.view rpartT, .view .bool]
noncomputable def f157_C (k : Nat) := cxX k [(117, mk f117_pk f117_rk f117_O), (118, mk f118_pk f118_rk f118_O), f182_m]
noncomputable def f157_A : Nat → Ann := fun id => bif Nat.beq id 16 then ⟨[55, 56, 54, 13, 12, 14, 7, 6, 46, 45, 0, 8, 9, 1, 4], []⟩ else bif Nat.beq id 12 then ⟨[45, 46, 0, 8, 7, 6, 9, 1, 4], []⟩ else bif Nat.beq id 5 then ⟨[23, 24, 22, 8, 9, 1, 0, 7, 6, 4], []⟩ else ⟨[], []⟩
abbrev f157_T3 := Int × Int × Int × Int × Bool × Bool × Int × Int × List Int × Int × Int × List Int × Int × Int × Int × Int × Int × Int
abbrev f157_K3 := f157_T3 → Option (((Int × Int × Int × Unit) × Bool × Unit) × Unit)
abbrev f157_T2 := Int × Int × List Int × Bool × Int × Int × List Int × Int × Int × Int × Int × Int × Int
abbrev f157_K2 := f157_T2 → Option (((Int × Int × Int × Unit) × Bool × Unit) × Unit)
abbrev f157_T1 := Int × Int × List Int × Int × Int × List Int × Bool × List Int × Int × Int × Int × Int × Int × Int
abbrev f157_K1 := f157_T1 → Option (((Int × Int × Int × Unit) × Bool × Unit) × Unit)
noncomputable def f157_S3 : f157_T3 → St
  | (v0, v1, v2, v3, v4, v5, v6, v7, v8, v9, v10, v11, v12, v13, v14, v15, v16, v17) => St.mk (envOf [(nat_lit 55, avI v0), (nat_lit 56, avI v1), (nat_lit 54, AV.own (nat_lit 8192)), (nat_lit 13, avI v2), (nat_lit 12, avI v3), (nat_lit 14, avB v4), (nat_lit 7, avB v5), (nat_lit 6, AV.bx (nat_lit 8193) (nat_lit 0)), (nat_lit 46, avI v6), (nat_lit 45, avI v7), (nat_lit 0, avL v8), (nat_lit 8, AV.own (nat_lit 8192)), (nat_lit 9, avI v9), (nat_lit 1, avI v10), (nat_lit 4, AV.bx (nat_lit 8194) (nat_lit 0))]) (tblOf [(nat_lit 8192, RS.live (Res.arr (Ty.int IntKind.i64) v11 false)), (nat_lit 8193, RS.live (Res.box [avI v12, avI v13, avI v14])), (nat_lit 8194, RS.live (Res.box [avI v15, avI v16, avI v17]))])
noncomputable def f157_raw3 (k : Nat) (L2 : f157_K2) (L3 : f157_K3) : f157_K3
  | (v0, v1, v2, v3, v4, v5, v6, v7, v8, v9, v10, v11, v12, v13, v14, v15, v16, v17) => bif decide (v1 < v0) then bif decide ((0 : Int) ≤ v1 ∧ v1 < Int.ofNat v11.length) then bif decide (v1.toNat < v11.length) then bif decide ((0 : Int) ≤ v3) then bif v4 then L3 (v0, IntKind.i64.wrap (v1 + (1 : Int)), IntKind.i64.wrap (v2 + Int.fdiv (v11.getD v1.toNat 0) ((2 : Int) ^ min v3.toNat (64 : Nat))), v3, true, v5, v6, v7, v8, v9, v10, v11, v12, v13, v14, v15, v16, v17) else bif decide ((0 : Int) ≤ v3) then L3 (v0, IntKind.i64.wrap (v1 + (1 : Int)), IntKind.i64.wrap (v2 + Int.fdiv (v11.getD v1.toNat 0) ((2 : Int) ^ min v3.toNat (64 : Nat))), v3, decide ((65536 : Int) < Int.fdiv (v11.getD v1.toNat 0) ((2 : Int) ^ min v3.toNat (64 : Nat))), v5, v6, v7, v8, v9, v10, v11, v12, v13, v14, v15, v16, v17) else none else none else none else none else bif !v4 then bif !v5 then L2 (v7, IntKind.i64.wrap (v6 + (1 : Int)), v8, true, v9, v10, v11, v3, (0 : Int), v2, v15, v16, v17) else bif decide (v2 < v14) then L2 (v7, IntKind.i64.wrap (v6 + (1 : Int)), v8, true, v9, v10, v11, v3, (0 : Int), v2, v15, v16, v17) else L2 (v7, IntKind.i64.wrap (v6 + (1 : Int)), v8, v5, v9, v10, v11, v12, v13, v14, v15, v16, v17) else L2 (v7, IntKind.i64.wrap (v6 + (1 : Int)), v8, v5, v9, v10, v11, v12, v13, v14, v15, v16, v17)
noncomputable def f157_L3 (k : Nat) (L2 : f157_K2) : f157_K3 := iter (fun L3 => f157_raw3 k L2 L3) k
noncomputable def f157_at3 (k : Nat) (n2 : Nat) (n : Nat) (v : f157_T3) : Option (((Int × Int × Int × Unit) × Bool × Unit) × Unit) :=
  loopAt (f157_C k) f157_A [] [1, 1, 1, 1, 1, 0, 1, 0, 0, 1, 1, 0, 0, 1, 1, 0, 1, 0] [n2] (cdX Tryz.f157) (lvX (f157_C k) Tryz.f157 f157_pk f157_rk [] []) n (f157_S3 v)
noncomputable def f157_S2 : f157_T2 → St
  | (v0, v1, v2, v3, v4, v5, v6, v7, v8, v9, v10, v11, v12) => St.mk (envOf [(nat_lit 45, avI v0), (nat_lit 46, avI v1), (nat_lit 0, avL v2), (nat_lit 8, AV.own (nat_lit 8192)), (nat_lit 7, avB v3), (nat_lit 6, AV.bx (nat_lit 8193) (nat_lit 0)), (nat_lit 9, avI v4), (nat_lit 1, avI v5), (nat_lit 4, AV.bx (nat_lit 8194) (nat_lit 0))]) (tblOf [(nat_lit 8192, RS.live (Res.arr (Ty.int IntKind.i64) v6 false)), (nat_lit 8193, RS.live (Res.box [avI v7, avI v8, avI v9])), (nat_lit 8194, RS.live (Res.box [avI v10, avI v11, avI v12]))])
noncomputable def f157_raw2 (k : Nat) (L3 : f157_K3) (L2 : f157_K2) : f157_K2
  | (v0, v1, v2, v3, v4, v5, v6, v7, v8, v9, v10, v11, v12) => bif decide (v1 < v0) then L3 (Int.ofNat v6.length, (0 : Int), IntKind.i64.wrap (IntKind.i64.wrap (v1 + (1 : Int)) * Int.ofNat v2.length), v1, false, v3, v1, v0, v2, v4, v5, v6, v7, v8, v9, v10, v11, v12) else bif decide (v4 ≤ (31 : Int)) then bif !v3 then (f117_O k (v5, ())).bind fun y => some (((y.1, v4, IntKind.i64.wrap ((5 : Int) + IntKind.i64.wrap (v4 * Int.ofNat v2.length)), ()), true, ()), ()) else bif decide (IntKind.i64.wrap ((5 : Int) + IntKind.i64.wrap (v4 * Int.ofNat v2.length)) < v9) then (f117_O k (v5, ())).bind fun y => some (((y.1, v4, IntKind.i64.wrap ((5 : Int) + IntKind.i64.wrap (v4 * Int.ofNat v2.length)), ()), true, ()), ()) else some (((v7, v8, v9, ()), v3, ()), ()) else some (((v7, v8, v9, ()), v3, ()), ())
noncomputable def f157_L2 (k : Nat) : f157_K2 := iter (fun L2 => f157_raw2 k (f157_L3 k L2) L2) k
noncomputable def f157_at2 (k : Nat) (n : Nat) (v : f157_T2) : Option (((Int × Int × Int × Unit) × Bool × Unit) × Unit) :=
  loopAt (f157_C k) f157_A [] [1, 1, 1, 1, 1, 0, 1, 0] [] (cdX Tryz.f157) (lvX (f157_C k) Tryz.f157 f157_pk f157_rk [] []) n (f157_S2 v)
noncomputable def f157_S1 : f157_T1 → St
  | (v0, v1, v2, v3, v4, v5, v6, v7, v8, v9, v10, v11, v12, v13) => St.mk (envOf [(nat_lit 23, avI v0), (nat_lit 24, avI v1), (nat_lit 22, avL v2), (nat_lit 8, AV.own (nat_lit 8192)), (nat_lit 9, avI v3), (nat_lit 1, avI v4), (nat_lit 0, avL v5), (nat_lit 7, avB v6), (nat_lit 6, AV.bx (nat_lit 8193) (nat_lit 0)), (nat_lit 4, AV.bx (nat_lit 8194) (nat_lit 0))]) (tblOf [(nat_lit 8192, RS.live (Res.arr (Ty.int IntKind.i64) v7 false)), (nat_lit 8193, RS.live (Res.box [avI v8, avI v9, avI v10])), (nat_lit 8194, RS.live (Res.box [avI v11, avI v12, avI v13]))])
noncomputable def f157_raw1 (k : Nat) (L2 : f157_K2) (L1 : f157_K1) : f157_K1
  | (v0, v1, v2, v3, v4, v5, v6, v7, v8, v9, v10, v11, v12, v13) => bif decide (v1 < v0) then bif decide ((0 : Int) ≤ v1 ∧ v1 < Int.ofNat v2.length) then (f118_O k (v2.getD v1.toNat 0, ())).bind fun y => bif decide ((0 : Int) ≤ v1 ∧ v1 < Int.ofNat v7.length) then bif decide (v1.toNat < v7.length) then bif v2.getD v1.toNat 0 != (0 : Int) then (f182_F k (v2.getD v1.toNat 0, ())).bind fun y_1 => L1 (v0, IntKind.i64.wrap (v1 + (1 : Int)), v2, if v3 < y_1.1 then y_1.1 else v3, v4, v5, v6, v7.set v1.toNat y.1.1, v8, v9, v10, v11, v12, v13) else L1 (v0, IntKind.i64.wrap (v1 + (1 : Int)), v2, v3, v4, v5, v6, v7.set v1.toNat y.1.1, v8, v9, v10, v11, v12, v13) else none else none else none else (f117_O k (v4, ())).bind fun y => L2 (y.1, (0 : Int), v5, v6, v3, v4, v7, v8, v9, v10, v11, v12, v13)
noncomputable def f157_L1 (k : Nat) : f157_K1 := iter (fun L1 => f157_raw1 k (f157_L2 k) L1) k
noncomputable def f157_at1 (k : Nat) (n : Nat) (v : f157_T1) : Option (((Int × Int × Int × Unit) × Bool × Unit) × Unit) :=
  loopAt (f157_C k) f157_A [] [1, 1, 1, 1, 0, 1, 0] [] (cdX Tryz.f157) (lvX (f157_C k) Tryz.f157 f157_pk f157_rk [] []) n (f157_S1 v)
noncomputable def f157_raw0 (k : Nat) (L1 : f157_K1) : List Int × Int × Unit → Option (((Int × Int × Int × Unit) × Bool × Unit) × Unit)
  | (a0, a1, ()) => bif decide ((0 : Int) ≤ Int.ofNat a0.length ∧ Int.ofNat a0.length ≤ Int.ofNat a0.length ∧ Int.ofNat a0.length < (4294967296 : Int)) then L1 (Int.ofNat a0.length, (0 : Int), a0, (0 : Int), a1, a0, false, List.replicate (Int.ofNat a0.length).toNat (0 : Int), (0 : Int), (0 : Int), (0 : Int), (0 : Int), (0 : Int), (0 : Int)) else none
noncomputable def f157_F (k : Nat) := f157_raw0 k (f157_L1 k)
theorem f157_law3 (k : Nat) (n2 : Nat) : ∀ n, f157_at3 k n2 n = iter (fun L3 => f157_raw3 k (f157_at2 k n2) L3) n :=
  iter_law (fun v => by kernel_rfl) (fun n v => by
    show f157_at3 k n2 (n + 1) v = f157_raw3 k (f157_at2 k n2) (f157_at3 k n2 n) v
    obtain ⟨v0, v1, v2, v3, v4, v5, v6, v7, v8, v9, v10, v11, v12, v13, v14, v15, v16, v17⟩ := v
    kernel_rfl)
theorem f157_law2 (k : Nat) : ∀ n, f157_at2 k n = iter (fun L2 => f157_raw2 k (f157_L3 k L2) L2) n :=
  iter_law (fun v => by kernel_rfl) (fun n v => by
    show f157_at2 k (n + 1) v = f157_raw2 k (f157_L3 k (f157_at2 k n)) (f157_at2 k n) v
    rw [show (f157_L3 k (f157_at2 k n)) = f157_at3 k n k from (f157_law3 k n k).symm]
    obtain ⟨v0, v1, v2, v3, v4, v5, v6, v7, v8, v9, v10, v11, v12⟩ := v
    kernel_rfl)
theorem f157_law1 (k : Nat) : ∀ n, f157_at1 k n = iter (fun L1 => f157_raw1 k (f157_L2 k) L1) n :=
  iter_law (fun v => by kernel_rfl) (fun n v => by
    show f157_at1 k (n + 1) v = f157_raw1 k (f157_L2 k) (f157_at1 k n) v
    rw [show (f157_L2 k) = f157_at2 k k from (f157_law2 k k).symm]
    obtain ⟨v0, v1, v2, v3, v4, v5, v6, v7, v8, v9, v10, v11, v12, v13⟩ := v
    kernel_rfl)
theorem f157_eq (k : Nat) (x : Kd.dens f157_pk) : runX (f157_C k) f157_A Tryz.f157 f157_pk f157_rk x = f157_F k x := by
  show _ = f157_raw0 k (f157_L1 k) x
  rw [show f157_L1 k = f157_at1 k k from (f157_law1 k k).symm]
  obtain ⟨a0, ⟨a1, ⟨⟩⟩⟩ := x
  kernel_rfl
theorem f157_ctr (k : Nat) : Ctr Tryz.prog k 157 (mk f157_pk f157_rk f157_F) :=
  lawX (fn := Tryz.f157) (phi_ok (ctr_cons (f117_octr k) (ctr_cons (f118_octr k) (ctr_cons (f182_ctr k) ctr_nil)))) (by kernel_rfl) (by kernel_rfl) (by kernel_rfl) (by kernel_rfl) (f157_eq k)
noncomputable abbrev f157_m : Nat × Callee := (157, mk f157_pk f157_rk f157_F)
noncomputable def f116_O : (k : Nat) → Int × Unit → Option (Int × Unit) := Classical.choose (⟨f116_F, rfl⟩ : ∃ F : (k : Nat) → Int × Unit → Option (Int × Unit), F = f116_F)
theorem f116_O_eq : f116_O = f116_F := Classical.choose_spec (⟨f116_F, rfl⟩ : ∃ F : (k : Nat) → Int × Unit → Option (Int × Unit), F = f116_F)
theorem f116_octr (k : Nat) : Ctr Tryz.prog k 116 (mk f116_pk f116_rk f116_O) := by rw [f116_O_eq]; exact f116_ctr k
noncomputable def f156_O : (k : Nat) → Int × Int × Int × Unit → Option (Bool × Unit) := Classical.choose (⟨f156_F, rfl⟩ : ∃ F : (k : Nat) → Int × Int × Int × Unit → Option (Bool × Unit), F = f156_F)
theorem f156_O_eq : f156_O = f156_F := Classical.choose_spec (⟨f156_F, rfl⟩ : ∃ F : (k : Nat) → Int × Int × Int × Unit → Option (Bool × Unit), F = f156_F)
theorem f156_octr (k : Nat) : Ctr Tryz.prog k 156 (mk f156_pk f156_rk f156_O) := by rw [f156_O_eq]; exact f156_ctr k
abbrev f114_pk : List Kd := [.view (.sl (.int .i64)), .view (.int .i64)]
abbrev f114_rk : Kd := .view rplanT
noncomputable def f114_C (k : Nat) := cxX k [f115_m, (116, mk f116_pk f116_rk f116_O), (156, mk f156_pk f156_rk f156_O), f157_m]
noncomputable def f114_A : Nat → Ann := fun id => bif Nat.beq id 11 then ⟨[37, 38, 36, 7, 5, 8, 6, 0, 1, 4, 9], [.cell 8 2 (((Ty.int IntKind.i64).pair ((Ty.int IntKind.i64).pair ((Ty.int IntKind.i64).pair Ty.unit))))]⟩ else bif Nat.beq id 7 then ⟨[7, 6, 0, 1, 5, 4], [.cell 5 2 (((Ty.int IntKind.i64).pair ((Ty.int IntKind.i64).pair ((Ty.int IntKind.i64).pair Ty.unit))))]⟩ else bif Nat.beq id 3 then ⟨[6, 0, 1, 5, 4], [.cell 5 2 (((Ty.int IntKind.i64).pair ((Ty.int IntKind.i64).pair ((Ty.int IntKind.i64).pair Ty.unit))))]⟩ else ⟨[], []⟩
abbrev f114_T3 := Int × Int × List (List Int) × Int × Int × List Int × Int × Bool × Int × Int × Int × List (Int × Int × Int × Unit) × Int × Int × Int × List (Int × Int × Int × Unit) × Int × Int × Int
abbrev f114_K3 := f114_T3 → Option ((Int × Int × List (Int × Int × Int × Unit) × Int × Unit) × Unit)
abbrev f114_T2 := Int × Int × List Int × Int × Int × Int × Int × List (Int × Int × Int × Unit) × Int × Int × Int
abbrev f114_K2 := f114_T2 → Option ((Int × Int × List (Int × Int × Int × Unit) × Int × Unit) × Unit)
abbrev f114_T1 := Int × List Int × Int × Int × Int × Int × List (Int × Int × Int × Unit) × Int × Int × Int
abbrev f114_K1 := f114_T1 → Option ((Int × Int × List (Int × Int × Int × Unit) × Int × Unit) × Unit)
noncomputable def f114_S3 : f114_T3 → St
  | (v0, v1, v2, v3, v4, v5, v6, v7, v8, v9, v10, v11, v12, v13, v14, v15, v16, v17, v18) => St.mk (envOf [(nat_lit 37, avI v0), (nat_lit 38, avI v1), (nat_lit 36, AV.val (PV.sl (Ty.int IntKind.i64).sl v2)), (nat_lit 7, avI v3), (nat_lit 5, AV.bx (nat_lit 8192) (nat_lit 0)), (nat_lit 8, AV.bx (nat_lit 8194) (nat_lit 0)), (nat_lit 6, avI v4), (nat_lit 0, avL v5), (nat_lit 1, avI v6), (nat_lit 4, AV.bx (nat_lit 8196) (nat_lit 0)), (nat_lit 9, avB v7)]) (tblOf [(nat_lit 8192, RS.live (Res.box [avI v8, avI v9, AV.own (nat_lit 8193), avI v10])), (nat_lit 8193, RS.live (Res.arr ((Ty.int IntKind.i64).pair ((Ty.int IntKind.i64).pair ((Ty.int IntKind.i64).pair Ty.unit))) v11 false)), (nat_lit 8194, RS.live (Res.box [avI v12, avI v13, AV.own (nat_lit 8195), avI v14])), (nat_lit 8195, RS.live (Res.arr ((Ty.int IntKind.i64).pair ((Ty.int IntKind.i64).pair ((Ty.int IntKind.i64).pair Ty.unit))) v15 false)), (nat_lit 8196, RS.live (Res.box [avI v16, avI v17, AV.val (PV.v (Value.slice none (0 : Nat) (0 : Nat))), avI v18]))])
noncomputable def f114_raw3 (k : Nat) (L1 : f114_K1) (L2 : f114_K2) (L3 : f114_K3) : f114_K3
  | (v0, v1, v2, v3, v4, v5, v6, v7, v8, v9, v10, v11, v12, v13, v14, v15, v16, v17, v18) => bif decide (v1 < v0) then bif decide ((0 : Int) ≤ v1 ∧ v1 < Int.ofNat v2.length) then (f157_F k (v2.getD v1.toNat [], v3, ())).bind fun y => bif !y.1.2.1 then bif y.1.2.1 then bif decide (v10 < (0 : Int)) then L2 (IntKind.i64.wrap (v3 + (1 : Int)), v4, v5, v6, v12, v13, v14, v15, v16, v17, v18) else bif decide (v14 < v10) then L2 (IntKind.i64.wrap (v3 + (1 : Int)), v4, v5, v6, v12, v13, v14, v15, v16, v17, v18) else L2 (IntKind.i64.wrap (v3 + (1 : Int)), v4, v5, v6, v8, v9, v10, v11, v16, v17, v18) else L2 (IntKind.i64.wrap (v3 + (1 : Int)), v4, v5, v6, v8, v9, v10, v11, v16, v17, v18) else bif decide (v15.length + [(y.1.1.1, y.1.1.2.1, y.1.1.2.2.1, ())].length < (2147483648 : Nat)) then (f116_O k (v3, ())).bind fun y_1 => L3 (v0, IntKind.i64.wrap (v1 + (1 : Int)), v2, v3, v4, v5, v6, y.1.2.1, v8, v9, v10, v11, v12, v13, IntKind.i64.wrap (v14 + IntKind.i64.wrap (y_1.1 + y.1.1.2.2.1)), v15 ++ [(y.1.1.1, y.1.1.2.1, y.1.1.2.2.1, ())], v16, v17, v18) else none else none else bif v7 then bif decide (v10 < (0 : Int)) then L2 (IntKind.i64.wrap (v3 + (1 : Int)), v4, v5, v6, v12, v13, v14, v15, v16, v17, v18) else bif decide (v14 < v10) then L2 (IntKind.i64.wrap (v3 + (1 : Int)), v4, v5, v6, v12, v13, v14, v15, v16, v17, v18) else L2 (IntKind.i64.wrap (v3 + (1 : Int)), v4, v5, v6, v8, v9, v10, v11, v16, v17, v18) else L2 (IntKind.i64.wrap (v3 + (1 : Int)), v4, v5, v6, v8, v9, v10, v11, v16, v17, v18)
noncomputable def f114_L3 (k : Nat) (L1 : f114_K1) (L2 : f114_K2) : f114_K3 := iter (fun L3 => f114_raw3 k L1 L2 L3) k
noncomputable def f114_at3 (k : Nat) (n1 n2 : Nat) (n : Nat) (v : f114_T3) : Option ((Int × Int × List (Int × Int × Int × Unit) × Int × Unit) × Unit) :=
  loopAt (f114_C k) f114_A [] [1, 1, 0, 1, 0, 0, 1, 0, 0, 1, 1, 0, 0, 1, 0, 0, 1, 0, 1, 0] [n1, n2] (cdX Tryz.f114) (lvX (f114_C k) Tryz.f114 f114_pk f114_rk [] []) n (f114_S3 v)
noncomputable def f114_S2 : f114_T2 → St
  | (v0, v1, v2, v3, v4, v5, v6, v7, v8, v9, v10) => St.mk (envOf [(nat_lit 7, avI v0), (nat_lit 6, avI v1), (nat_lit 0, avL v2), (nat_lit 1, avI v3), (nat_lit 5, AV.bx (nat_lit 8192) (nat_lit 0)), (nat_lit 4, AV.bx (nat_lit 8194) (nat_lit 0))]) (tblOf [(nat_lit 8192, RS.live (Res.box [avI v4, avI v5, AV.own (nat_lit 8193), avI v6])), (nat_lit 8193, RS.live (Res.arr ((Ty.int IntKind.i64).pair ((Ty.int IntKind.i64).pair ((Ty.int IntKind.i64).pair Ty.unit))) v7 false)), (nat_lit 8194, RS.live (Res.box [avI v8, avI v9, AV.val (PV.v (Value.slice none (0 : Nat) (0 : Nat))), avI v10]))])
noncomputable def f114_raw2 (k : Nat) (L3 : f114_K3) (L1 : f114_K1) (L2 : f114_K2) : f114_K2
  | (v0, v1, v2, v3, v4, v5, v6, v7, v8, v9, v10) => bif decide (v0 < (2 : Int)) then (f115_F k (v2, v3, v1, ())).bind fun y => L3 (Int.ofNat (List.length y.1), (0 : Int), y.1, v0, v1, v2, v3, true, v4, v5, v6, v7, v0, v1, (6 : Int), [], v8, v9, v10) else L1 (IntKind.i64.wrap (v1 + (1 : Int)), v2, v3, v4, v5, v6, v7, v8, v9, v10)
noncomputable def f114_L2 (k : Nat) (L1 : f114_K1) : f114_K2 := iter (fun L2 => f114_raw2 k (f114_L3 k L1 L2) L1 L2) k
noncomputable def f114_at2 (k : Nat) (n1 : Nat) (n : Nat) (v : f114_T2) : Option ((Int × Int × List (Int × Int × Int × Unit) × Int × Unit) × Unit) :=
  loopAt (f114_C k) f114_A [] [1, 1, 0, 1, 0, 0, 1, 0, 0, 1, 1, 0] [n1] (cdX Tryz.f114) (lvX (f114_C k) Tryz.f114 f114_pk f114_rk [] []) n (f114_S2 v)
noncomputable def f114_S1 : f114_T1 → St
  | (v0, v1, v2, v3, v4, v5, v6, v7, v8, v9) => St.mk (envOf [(nat_lit 6, avI v0), (nat_lit 0, avL v1), (nat_lit 1, avI v2), (nat_lit 5, AV.bx (nat_lit 8192) (nat_lit 0)), (nat_lit 4, AV.bx (nat_lit 8194) (nat_lit 0))]) (tblOf [(nat_lit 8192, RS.live (Res.box [avI v3, avI v4, AV.own (nat_lit 8193), avI v5])), (nat_lit 8193, RS.live (Res.arr ((Ty.int IntKind.i64).pair ((Ty.int IntKind.i64).pair ((Ty.int IntKind.i64).pair Ty.unit))) v6 false)), (nat_lit 8194, RS.live (Res.box [avI v7, avI v8, AV.val (PV.v (Value.slice none (0 : Nat) (0 : Nat))), avI v9]))])
noncomputable def f114_raw1 (k : Nat) (L2 : f114_K2) (L1 : f114_K1) : f114_K1
  | (v0, v1, v2, v3, v4, v5, v6, v7, v8, v9) => bif decide (v0 ≤ (4 : Int)) then (f156_O k (IntKind.i64.wrap (Int.ofNat v1.length + v2), v2, v0, ())).bind fun y => bif !y.1 then L1 (IntKind.i64.wrap (v0 + (1 : Int)), v1, v2, v3, v4, v5, v6, v7, v8, v9) else L2 ((0 : Int), v0, v1, v2, v3, v4, v5, v6, v7, v8, v9) else some ((v3, v4, v6, v5, ()), ())
noncomputable def f114_L1 (k : Nat) : f114_K1 := iter (fun L1 => f114_raw1 k (f114_L2 k L1) L1) k
noncomputable def f114_at1 (k : Nat) (n : Nat) (v : f114_T1) : Option ((Int × Int × List (Int × Int × Int × Unit) × Int × Unit) × Unit) :=
  loopAt (f114_C k) f114_A [] [1, 1, 0, 1, 0] [] (cdX Tryz.f114) (lvX (f114_C k) Tryz.f114 f114_pk f114_rk [] []) n (f114_S1 v)
noncomputable def f114_raw0 (k : Nat) (L1 : f114_K1) : List Int × Int × Unit → Option ((Int × Int × List (Int × Int × Int × Unit) × Int × Unit) × Unit)
  | (a0, a1, ()) => L1 ((0 : Int), a0, a1, (0 : Int), (0 : Int), (-1 : Int), [], (0 : Int), (0 : Int), (0 : Int))
noncomputable def f114_F (k : Nat) := f114_raw0 k (f114_L1 k)
theorem f114_law3 (k : Nat) (n1 n2 : Nat) : ∀ n, f114_at3 k n1 n2 n = iter (fun L3 => f114_raw3 k (f114_at1 k n1) (f114_at2 k n1 n2) L3) n :=
  iter_law (fun v => by kernel_rfl) (fun n v => by
    show f114_at3 k n1 n2 (n + 1) v = f114_raw3 k (f114_at1 k n1) (f114_at2 k n1 n2) (f114_at3 k n1 n2 n) v
    obtain ⟨v0, v1, v2, v3, v4, v5, v6, v7, v8, v9, v10, v11, v12, v13, v14, v15, v16, v17, v18⟩ := v
    kernel_rfl)
theorem f114_law2 (k : Nat) (n1 : Nat) : ∀ n, f114_at2 k n1 n = iter (fun L2 => f114_raw2 k (f114_L3 k (f114_at1 k n1) L2) (f114_at1 k n1) L2) n :=
  iter_law (fun v => by kernel_rfl) (fun n v => by
    show f114_at2 k n1 (n + 1) v = f114_raw2 k (f114_L3 k (f114_at1 k n1) (f114_at2 k n1 n)) (f114_at1 k n1) (f114_at2 k n1 n) v
    rw [show (f114_L3 k (f114_at1 k n1) (f114_at2 k n1 n)) = f114_at3 k n1 n k from (f114_law3 k n1 n k).symm]
    obtain ⟨v0, v1, v2, v3, v4, v5, v6, v7, v8, v9, v10⟩ := v
    kernel_rfl)
theorem f114_law1 (k : Nat) : ∀ n, f114_at1 k n = iter (fun L1 => f114_raw1 k (f114_L2 k L1) L1) n :=
  iter_law (fun v => by kernel_rfl) (fun n v => by
    show f114_at1 k (n + 1) v = f114_raw1 k (f114_L2 k (f114_at1 k n)) (f114_at1 k n) v
    rw [show (f114_L2 k (f114_at1 k n)) = f114_at2 k n k from (f114_law2 k n k).symm]
    obtain ⟨v0, v1, v2, v3, v4, v5, v6, v7, v8, v9⟩ := v
    kernel_rfl)
theorem f114_eq (k : Nat) (x : Kd.dens f114_pk) : runX (f114_C k) f114_A Tryz.f114 f114_pk f114_rk x = f114_F k x := by
  show _ = f114_raw0 k (f114_L1 k) x
  rw [show f114_L1 k = f114_at1 k k from (f114_law1 k k).symm]
  obtain ⟨a0, ⟨a1, ⟨⟩⟩⟩ := x
  kernel_rfl
theorem f114_ctr (k : Nat) : Ctr Tryz.prog k 114 (mk f114_pk f114_rk f114_F) :=
  lawX (fn := Tryz.f114) (phi_ok (ctr_cons (f115_ctr k) (ctr_cons (f116_octr k) (ctr_cons (f156_octr k) (ctr_cons (f157_ctr k) ctr_nil))))) (by kernel_rfl) (by kernel_rfl) (by kernel_rfl) (by kernel_rfl) (f114_eq k)
noncomputable abbrev f114_m : Nat × Callee := (114, mk f114_pk f114_rk f114_F)
abbrev f149_pk : List Kd := [.view (.sl (.int .i64)), .view (.int .i64)]
abbrev f149_rk : Kd := .tup [.view (.int .i64), .view (.int .i64)]
noncomputable def f149_C (k : Nat) := cxX k [f113_m, f114_m]
noncomputable def f149_raw0 (k : Nat) : List Int × Int × Unit → Option ((Int × Int × Unit) × Unit)
  | (a0, a1, ()) => (f113_F k (a0, a1, ())).bind fun y => bif y.1 != (0 : Int) then some ((0, y.1, ()), ()) else (f114_F k (a0, a1, ())).bind fun y => some ((y.1.2.2.2.1, 0, ()), ())
noncomputable def f149_F (k : Nat) := f149_raw0 k
theorem f149_eq (k : Nat) (x : Kd.dens f149_pk) : runX (f149_C k) nA Tryz.f149 f149_pk f149_rk x = f149_F k x := by
  show _ = f149_raw0 k x
  obtain ⟨a0, ⟨a1, ⟨⟩⟩⟩ := x
  kernel_rfl
theorem f149_ctr (k : Nat) : Ctr Tryz.prog k 149 (mk f149_pk f149_rk f149_F) :=
  lawX (fn := Tryz.f149) (phi_ok (ctr_cons (f113_ctr k) (ctr_cons (f114_ctr k) ctr_nil))) (by kernel_rfl) (by kernel_rfl) (by kernel_rfl) (by kernel_rfl) (f149_eq k)
noncomputable abbrev f149_m : Nat × Callee := (149, mk f149_pk f149_rk f149_F)
abbrev f110_pk : List Kd := [.view splanT, .view (.int .i64), .view modelT, .view (.int .i64)]
abbrev f110_rk : Kd := .tup [.view splanT, .view .bool]
noncomputable def f110_C (k : Nat) := cxX k [f148_m, f149_m]
noncomputable def f110_raw0 (k : Nat) : (Int × Int × Int × List Int × (List Int × Int × Unit) × List Int × Int × Unit) × Int × (List Int × Int × Unit) × Int × Unit → Option (((Int × Int × Int × List Int × (List Int × Int × Unit) × List Int × Int × Unit) × Bool × Unit) × Unit)
  | ((a0, a1, a2, a3, (a4, a5, ()), a6, a7, ()), a8, (a9, a10, ()), a11, ()) => (f148_F k ((a9, a10, ()), a3, ())).bind fun y => bif y.1.2.1 != (0 : Int) then some (((a0, a1, a2, a3, (a4, a5, ()), a6, a7, ()), false, ()), ()) else (f149_F k (y.1.1, Int.ofNat a9.length, ())).bind fun y_1 => bif y_1.1.2.1 != (0 : Int) then some (((a0, a1, a2, a3, (a4, a5, ()), a6, a7, ()), false, ()), ()) else some (((a8, a1, a2, a3, (a9, a10, ()), y.1.1, IntKind.i64.wrap (IntKind.i64.wrap (a11 + IntKind.i64.wrap (Int.ofNat a9.length * a2)) + y_1.1.1), ()), true, ()), ())
noncomputable def f110_F (k : Nat) := f110_raw0 k
theorem f110_eq (k : Nat) (x : Kd.dens f110_pk) : runX (f110_C k) nA Tryz.f110 f110_pk f110_rk x = f110_F k x := by
  show _ = f110_raw0 k x
  obtain ⟨⟨a0, ⟨a1, ⟨a2, ⟨a3, ⟨⟨a4, ⟨a5, ⟨⟩⟩⟩, ⟨a6, ⟨a7, ⟨⟩⟩⟩⟩⟩⟩⟩⟩, ⟨a8, ⟨⟨a9, ⟨a10, ⟨⟩⟩⟩, ⟨a11, ⟨⟩⟩⟩⟩⟩ := x
  kernel_rfl
theorem f110_ctr (k : Nat) : Ctr Tryz.prog k 110 (mk f110_pk f110_rk f110_F) :=
  lawX (fn := Tryz.f110) (phi_ok (ctr_cons (f148_ctr k) (ctr_cons (f149_ctr k) ctr_nil))) (by kernel_rfl) (by kernel_rfl) (by kernel_rfl) (by kernel_rfl) (f110_eq k)
noncomputable abbrev f110_m : Nat × Callee := (110, mk f110_pk f110_rk f110_F)
abbrev f151_pk : List Kd := [.view (.int .i64)]
abbrev f151_rk : Kd := .view modelT
noncomputable def f151_C (k : Nat) := cxX k [f109_m]
def f151_A : Nat → Ann := fun id => bif Nat.beq id 4 then ⟨[19, 20, 18, 3, 2], []⟩ else ⟨[], []⟩
abbrev f151_T1 := Int × Int × List Int × Int × List Int × Int
abbrev f151_K1 := f151_T1 → Option ((List Int × Int × Unit) × Unit)
def f151_S1 : f151_T1 → St
  | (v0, v1, v2, v3, v4, v5) => St.mk (envOf [(nat_lit 19, avI v0), (nat_lit 20, avI v1), (nat_lit 18, avL v2), (nat_lit 3, AV.bx (nat_lit 8192) (nat_lit 0)), (nat_lit 2, AV.bx (nat_lit 8194) (nat_lit 0))]) (tblOf [(nat_lit 8192, RS.live (Res.box [AV.own (nat_lit 8193), avI v3])), (nat_lit 8193, RS.live (Res.arr (Ty.int IntKind.i64) v4 false)), (nat_lit 8194, RS.live (Res.box [AV.val (PV.v (Value.slice none (0 : Nat) (0 : Nat))), avI v5]))])
def f151_raw1 (k : Nat) (L1 : f151_K1) : f151_K1
  | (v0, v1, v2, v3, v4, v5) => bif decide (v1 < v0) then bif decide ((0 : Int) ≤ v1 ∧ v1 < Int.ofNat v2.length) then bif decide ((0 : Int) ≤ v1 ∧ v1 < Int.ofNat v4.length) then bif decide (v1.toNat < v4.length) then L1 (v0, IntKind.i64.wrap (v1 + (1 : Int)), v2, v3, v4.set v1.toNat (IntKind.i64.wrap (v2.getD v1.toNat 0 * (16 : Int))), v5) else none else none else none else some ((v4, v3, ()), ())
def f151_L1 (k : Nat) : f151_K1 := iter (fun L1 => f151_raw1 k L1) k
noncomputable def f151_at1 (k : Nat) (n : Nat) (v : f151_T1) : Option ((List Int × Int × Unit) × Unit) :=
  loopAt (f151_C k) f151_A [] [1, 1, 1, 0, 1, 0] [] (cdX Tryz.f151) (lvX (f151_C k) Tryz.f151 f151_pk f151_rk [] []) n (f151_S1 v)
def f151_raw0 (k : Nat) (L1 : f151_K1) : Int × Unit → Option ((List Int × Int × Unit) × Unit)
  | (a0, ()) => bif decide ((0 : Int) ≤ a0 ∧ a0 ≤ a0 ∧ a0 < (4294967296 : Int)) then (f109_F k (if (4 : Int) < a0 then (4 : Int) else a0, ())).bind fun y => L1 (Int.ofNat (List.length y.1.1.1), (0 : Int), y.1.1.1, (4 : Int), List.replicate a0.toNat (0 : Int), (0 : Int)) else none
def f151_F (k : Nat) := f151_raw0 k (f151_L1 k)
theorem f151_law1 (k : Nat) : ∀ n, f151_at1 k n = iter (fun L1 => f151_raw1 k L1) n :=
  iter_law (fun v => by kernel_rfl) (fun n v => by
    show f151_at1 k (n + 1) v = f151_raw1 k (f151_at1 k n) v
    obtain ⟨v0, v1, v2, v3, v4, v5⟩ := v
    kernel_rfl)
theorem f151_eq (k : Nat) (x : Kd.dens f151_pk) : runX (f151_C k) f151_A Tryz.f151 f151_pk f151_rk x = f151_F k x := by
  show _ = f151_raw0 k (f151_L1 k) x
  rw [show f151_L1 k = f151_at1 k k from (f151_law1 k k).symm]
  obtain ⟨a0, ⟨⟩⟩ := x
  kernel_rfl
theorem f151_ctr (k : Nat) : Ctr Tryz.prog k 151 (mk f151_pk f151_rk f151_F) :=
  lawX (fn := Tryz.f151) (phi_ok (ctr_cons (f109_ctr k) ctr_nil)) (by kernel_rfl) (by kernel_rfl) (by kernel_rfl) (by kernel_rfl) (f151_eq k)
noncomputable abbrev f151_m : Nat × Callee := (151, mk f151_pk f151_rk f151_F)
abbrev f152_pk : List Kd := [.view modelT, .view (.sl (.int .i64))]
abbrev f152_rk : Kd := .tup [.view (.int .i64), .view (.int .i64)]
noncomputable def f152_C (k : Nat) := cxX k [f148_m]
def f152_A : Nat → Ann := fun id => bif Nat.beq id 4 then ⟨[18, 19, 17, 8, 7], []⟩ else ⟨[], []⟩
abbrev f152_T1 := Int × Int × List Int × Int × Int
abbrev f152_K1 := f152_T1 → Option ((Int × Int × Unit) × Unit)
def f152_S1 : f152_T1 → St
  | (v0, v1, v2, v3, v4) => St.mk (envOf [(nat_lit 18, avI v0), (nat_lit 19, avI v1), (nat_lit 17, avL v2), (nat_lit 8, avI v3), (nat_lit 7, avI v4)]) (tblOf [])
def f152_raw1 (k : Nat) (L1 : f152_K1) : f152_K1
  | (v0, v1, v2, v3, v4) => bif decide (v1 < v0) then bif decide ((0 : Int) ≤ v1 ∧ v1 < Int.ofNat v2.length) then L1 (v0, IntKind.i64.wrap (v1 + (1 : Int)), v2, IntKind.i64.wrap (v3 + if v2.getD v1.toNat 0 < IntKind.i64.wrap ((0 : Int) - v2.getD v1.toNat 0) then IntKind.i64.wrap ((0 : Int) - v2.getD v1.toNat 0) else v2.getD v1.toNat 0), v4) else none else some ((v3, v4, ()), ())
def f152_L1 (k : Nat) : f152_K1 := iter (fun L1 => f152_raw1 k L1) k
noncomputable def f152_at1 (k : Nat) (n : Nat) (v : f152_T1) : Option ((Int × Int × Unit) × Unit) :=
  loopAt (f152_C k) f152_A [] [1, 1, 1, 0, 1, 0] [] (cdX Tryz.f152) (lvX (f152_C k) Tryz.f152 f152_pk f152_rk [] []) n (f152_S1 v)
def f152_raw0 (k : Nat) (L1 : f152_K1) : (List Int × Int × Unit) × List Int × Unit → Option ((Int × Int × Unit) × Unit)
  | ((a0, a1, ()), a2, ()) => (f148_F k ((a0, a1, ()), a2, ())).bind fun y => L1 (Int.ofNat (List.length y.1.1), (0 : Int), y.1.1, (0 : Int), y.1.2.1)
def f152_F (k : Nat) := f152_raw0 k (f152_L1 k)
theorem f152_law1 (k : Nat) : ∀ n, f152_at1 k n = iter (fun L1 => f152_raw1 k L1) n :=
  iter_law (fun v => by kernel_rfl) (fun n v => by
    show f152_at1 k (n + 1) v = f152_raw1 k (f152_at1 k n) v
    obtain ⟨v0, v1, v2, v3, v4⟩ := v
    kernel_rfl)
theorem f152_eq (k : Nat) (x : Kd.dens f152_pk) : runX (f152_C k) f152_A Tryz.f152 f152_pk f152_rk x = f152_F k x := by
  show _ = f152_raw0 k (f152_L1 k) x
  rw [show f152_L1 k = f152_at1 k k from (f152_law1 k k).symm]
  obtain ⟨⟨a0, ⟨a1, ⟨⟩⟩⟩, ⟨a2, ⟨⟩⟩⟩ := x
  kernel_rfl
theorem f152_ctr (k : Nat) : Ctr Tryz.prog k 152 (mk f152_pk f152_rk f152_F) :=
  lawX (fn := Tryz.f152) (phi_ok (ctr_cons (f148_ctr k) ctr_nil)) (by kernel_rfl) (by kernel_rfl) (by kernel_rfl) (by kernel_rfl) (f152_eq k)
noncomputable abbrev f152_m : Nat × Callee := (152, mk f152_pk f152_rk f152_F)
abbrev f153_pk : List Kd := [.view (.sl (.int .i64))]
abbrev f153_rk : Kd := .own (.int .i64) false
def f153_F (k : Nat) : List Int × Unit → Option (List Int × Unit) := fun x => cloneF x
noncomputable def f153_C (k : Nat) : Ctx := { P := Tryz.prog, Φ := phi [], k := k, live := fun _ => [] }
noncomputable def f153_b : Code := bodyOf Tryz.f153
theorem f153_ctr (k : Nat) : Ctr Tryz.prog k 153 (mk f153_pk f153_rk f153_F) :=
  clone_ctr (C := f153_C k) (A := fun _ => ⟨[], []⟩) (phi_ok ctr_nil) prog_mixed (f := 153) (fn := Tryz.f153) (o0 := operAt (partC [0] f153_b) 0) (o1 := operAt (partC [1, 0, 0] f153_b) 0) (o2 := operAt (partC [1, 0, 0] f153_b) 1)
    (r0 := 0) (r1 := 1) (X := partC [1, 0, 1, 0] f153_b) (Y := partC [1, 1] f153_b) (T := 51) (E := 3) (U := 51) (t := (.int .i64))
    (by kernel_rfl) (by kernel_rfl) (by kernel_rfl) (by kernel_rfl) (by kernel_rfl) (of_decide_eq_true (by kernel_rfl)) (by kernel_rfl) ⟨by kernel_rfl, by kernel_rfl, by kernel_rfl⟩ ⟨by kernel_rfl, by kernel_rfl, by kernel_rfl⟩ ⟨by kernel_rfl, by kernel_rfl, by kernel_rfl⟩ (fun xs => by kernel_rfl) (by kernel_rfl)
noncomputable abbrev f153_m : Nat × Callee := (153, mk f153_pk f153_rk f153_F)
abbrev f111_pk : List Kd := [.view (.sl (.int .i64)), .view (.int .i64)]
abbrev f111_rk : Kd := .tup [.view modelT, .view (.int .i64)]
noncomputable def f111_C (k : Nat) := cxX k [f10403_m, f151_m, f152_m, f153_m]
def f111_A : Nat → Ann := fun id => bif Nat.beq id 15 then ⟨[57, 56, 6, 11, 0, 9, 7, 50, 49, 10, 1, 4], [.seen 6 0]⟩ else bif Nat.beq id 12 then ⟨[49, 50, 10, 6, 0, 9, 7, 1, 4], []⟩ else bif Nat.beq id 9 then ⟨[10, 1, 6, 0, 9, 7, 4], []⟩ else ⟨[], []⟩
abbrev f111_T3 := Int × Int × Int × Int × List Int × Bool × Int × Int × Int × Int × Int × List Int × Int × Int
abbrev f111_K3 := f111_T3 → Option (((List Int × Int × Unit) × Int × Unit) × Unit)
abbrev f111_T2 := Int × Int × Int × List Int × Bool × Int × Int × List Int × Int × Int
abbrev f111_K2 := f111_T2 → Option (((List Int × Int × Unit) × Int × Unit) × Unit)
abbrev f111_T1 := Int × Int × List Int × Bool × Int × List Int × Int × Int
abbrev f111_K1 := f111_T1 → Option (((List Int × Int × Unit) × Int × Unit) × Unit)
def f111_S3 : f111_T3 → St
  | (v0, v1, v2, v3, v4, v5, v6, v7, v8, v9, v10, v11, v12, v13) => St.mk (envOf [(nat_lit 57, avI v0), (nat_lit 56, AV.agg [avI v1, avI v2]), (nat_lit 6, AV.bx (nat_lit 8192) (nat_lit 0)), (nat_lit 11, avI v3), (nat_lit 0, avL v4), (nat_lit 9, avB v5), (nat_lit 7, avI v6), (nat_lit 50, avI v7), (nat_lit 49, avI v8), (nat_lit 10, avI v9), (nat_lit 1, avI v10), (nat_lit 4, AV.bx (nat_lit 8193) (nat_lit 0))]) (tblOf [(nat_lit 8192, RS.live (Res.box [avL v11, avI v12])), (nat_lit 8193, RS.live (Res.box [AV.val (PV.v (Value.slice none (0 : Nat) (0 : Nat))), avI v13]))])
def f111_raw3 (k : Nat) (L1 : f111_K1) (L2 : f111_K2) (L3 : f111_K3) : f111_K3
  | (v0, v1, v2, v3, v4, v5, v6, v7, v8, v9, v10, v11, v12, v13) => bif decide (v0 < (2 : Int)) then bif decide ((0 : Int) ≤ v0 ∧ v0 < (2 : Int)) then (f153_F k (v11, ())).bind fun y => bif decide ((0 : Int) ≤ v3 ∧ v3 < Int.ofNat (List.length y.1)) then bif decide (v3.toNat < List.length y.1) then bif decide ((0 : Int) ≤ v3 ∧ v3 < Int.ofNat (List.length y.1)) then bif decide (v3.toNat < List.length y.1) then (f152_F k ((List.set y.1 v3.toNat (IntKind.i64.wrap (List.getD y.1 v3.toNat 0 + [v1, v2].getD v0.toNat (0 : Int))), v12, ()), v4, ())).bind fun y_1 => bif y_1.1.2.1 == (0 : Int) then bif !v5 then L3 (IntKind.i64.wrap (v0 + (1 : Int)), v1, v2, v3, v4, true, y_1.1.1, v7, v8, v9, v10, List.set y.1 v3.toNat (IntKind.i64.wrap (List.getD y.1 v3.toNat 0 + [v1, v2].getD v0.toNat (0 : Int))), v12, v13) else bif decide (y_1.1.1 < v6) then L3 (IntKind.i64.wrap (v0 + (1 : Int)), v1, v2, v3, v4, true, y_1.1.1, v7, v8, v9, v10, List.set y.1 v3.toNat (IntKind.i64.wrap (List.getD y.1 v3.toNat 0 + [v1, v2].getD v0.toNat (0 : Int))), v12, v13) else L3 (IntKind.i64.wrap (v0 + (1 : Int)), v1, v2, v3, v4, v5, v6, v7, v8, v9, v10, v11, v12, v13) else L3 (IntKind.i64.wrap (v0 + (1 : Int)), v1, v2, v3, v4, v5, v6, v7, v8, v9, v10, v11, v12, v13) else none else none else none else none else none else L2 (v8, IntKind.i64.wrap (v7 + (1 : Int)), v9, v4, v5, v6, v10, v11, v12, v13)
def f111_L3 (k : Nat) (L1 : f111_K1) (L2 : f111_K2) : f111_K3 := iter (fun L3 => f111_raw3 k L1 L2 L3) k
noncomputable def f111_at3 (k : Nat) (n1 n2 : Nat) (n : Nat) (v : f111_T3) : Option (((List Int × Int × Unit) × Int × Unit) × Unit) :=
  loopAt (f111_C k) f111_A [] [1, 1, 1, 1, 1, 0, 1, 0, 0, 1, 0, 0, 1, 0, 0, 1, 1, 0, 0, 1, 1, 0] [n1, n2] (cdX Tryz.f111) (lvX (f111_C k) Tryz.f111 f111_pk f111_rk [] []) n (f111_S3 v)
def f111_S2 : f111_T2 → St
  | (v0, v1, v2, v3, v4, v5, v6, v7, v8, v9) => St.mk (envOf [(nat_lit 49, avI v0), (nat_lit 50, avI v1), (nat_lit 10, avI v2), (nat_lit 6, AV.bx (nat_lit 8192) (nat_lit 0)), (nat_lit 0, avL v3), (nat_lit 9, avB v4), (nat_lit 7, avI v5), (nat_lit 1, avI v6), (nat_lit 4, AV.bx (nat_lit 8193) (nat_lit 0))]) (tblOf [(nat_lit 8192, RS.live (Res.box [avL v7, avI v8])), (nat_lit 8193, RS.live (Res.box [AV.val (PV.v (Value.slice none (0 : Nat) (0 : Nat))), avI v9]))])
def f111_raw2 (k : Nat) (L3 : f111_K3) (L1 : f111_K1) (L2 : f111_K2) : f111_K2
  | (v0, v1, v2, v3, v4, v5, v6, v7, v8, v9) => bif decide (v1 < v0) then L3 ((0 : Int), v2, IntKind.i64.wrap ((0 : Int) - v2), v1, v3, v4, v5, v1, v0, v2, v6, v7, v8, v9) else L1 (IntKind.i64.wrap (v2.tdiv (2 : Int)), v6, v3, v4, v5, v7, v8, v9)
def f111_L2 (k : Nat) (L1 : f111_K1) : f111_K2 := iter (fun L2 => f111_raw2 k (f111_L3 k L1 L2) L1 L2) k
noncomputable def f111_at2 (k : Nat) (n1 : Nat) (n : Nat) (v : f111_T2) : Option (((List Int × Int × Unit) × Int × Unit) × Unit) :=
  loopAt (f111_C k) f111_A [] [1, 1, 1, 1, 1, 0, 1, 0, 0, 1, 0, 0, 1, 0] [n1] (cdX Tryz.f111) (lvX (f111_C k) Tryz.f111 f111_pk f111_rk [] []) n (f111_S2 v)
def f111_S1 : f111_T1 → St
  | (v0, v1, v2, v3, v4, v5, v6, v7) => St.mk (envOf [(nat_lit 10, avI v0), (nat_lit 1, avI v1), (nat_lit 6, AV.bx (nat_lit 8192) (nat_lit 0)), (nat_lit 0, avL v2), (nat_lit 9, avB v3), (nat_lit 7, avI v4), (nat_lit 4, AV.bx (nat_lit 8193) (nat_lit 0))]) (tblOf [(nat_lit 8192, RS.live (Res.box [avL v5, avI v6])), (nat_lit 8193, RS.live (Res.box [AV.val (PV.v (Value.slice none (0 : Nat) (0 : Nat))), avI v7]))])
def f111_raw1 (k : Nat) (L2 : f111_K2) (L1 : f111_K1) : f111_K1
  | (v0, v1, v2, v3, v4, v5, v6, v7) => bif decide ((0 : Int) < v0) then L2 (v1, (0 : Int), v0, v2, v3, v4, v1, v5, v6, v7) else some (((v5, v6, ()), 0, ()), ())
def f111_L1 (k : Nat) : f111_K1 := iter (fun L1 => f111_raw1 k (f111_L2 k L1) L1) k
noncomputable def f111_at1 (k : Nat) (n : Nat) (v : f111_T1) : Option (((List Int × Int × Unit) × Int × Unit) × Unit) :=
  loopAt (f111_C k) f111_A [] [1, 1, 1, 1, 1, 0, 1, 0] [] (cdX Tryz.f111) (lvX (f111_C k) Tryz.f111 f111_pk f111_rk [] []) n (f111_S1 v)
def f111_raw0 (k : Nat) (L1 : f111_K1) : List Int × Int × Unit → Option (((List Int × Int × Unit) × Int × Unit) × Unit)
  | (a0, a1, ()) => bif decide (a1 < (0 : Int)) then some ((([], (0 : Int), ()), 1, ()), ()) else bif decide ((8 : Int) < a1) then some ((([], (0 : Int), ()), 1, ()), ()) else bif decide (Int.ofNat a0.length < a1) then some ((([], (0 : Int), ()), 1, ()), ()) else (f10403_F k (a0, (), ())).bind fun y => bif y.1 then some ((([], (0 : Int), ()), 12, ()), ()) else (f151_F k (a1, ())).bind fun y => (f152_F k ((y.1.1, y.1.2.1, ()), a0, ())).bind fun y_1 => L1 ((8 : Int), a1, a0, y_1.1.2.1 == (0 : Int), y_1.1.1, y.1.1, y.1.2.1, (0 : Int))
def f111_F (k : Nat) := f111_raw0 k (f111_L1 k)
theorem f111_law3 (k : Nat) (n1 n2 : Nat) : ∀ n, f111_at3 k n1 n2 n = iter (fun L3 => f111_raw3 k (f111_at1 k n1) (f111_at2 k n1 n2) L3) n :=
  iter_law (fun v => by kernel_rfl) (fun n v => by
    show f111_at3 k n1 n2 (n + 1) v = f111_raw3 k (f111_at1 k n1) (f111_at2 k n1 n2) (f111_at3 k n1 n2 n) v
    obtain ⟨v0, v1, v2, v3, v4, v5, v6, v7, v8, v9, v10, v11, v12, v13⟩ := v
    kernel_rfl)
theorem f111_law2 (k : Nat) (n1 : Nat) : ∀ n, f111_at2 k n1 n = iter (fun L2 => f111_raw2 k (f111_L3 k (f111_at1 k n1) L2) (f111_at1 k n1) L2) n :=
  iter_law (fun v => by kernel_rfl) (fun n v => by
    show f111_at2 k n1 (n + 1) v = f111_raw2 k (f111_L3 k (f111_at1 k n1) (f111_at2 k n1 n)) (f111_at1 k n1) (f111_at2 k n1 n) v
    rw [show (f111_L3 k (f111_at1 k n1) (f111_at2 k n1 n)) = f111_at3 k n1 n k from (f111_law3 k n1 n k).symm]
    obtain ⟨v0, v1, v2, v3, v4, v5, v6, v7, v8, v9⟩ := v
    kernel_rfl)
theorem f111_law1 (k : Nat) : ∀ n, f111_at1 k n = iter (fun L1 => f111_raw1 k (f111_L2 k L1) L1) n :=
  iter_law (fun v => by kernel_rfl) (fun n v => by
    show f111_at1 k (n + 1) v = f111_raw1 k (f111_L2 k (f111_at1 k n)) (f111_at1 k n) v
    rw [show (f111_L2 k (f111_at1 k n)) = f111_at2 k n k from (f111_law2 k n k).symm]
    obtain ⟨v0, v1, v2, v3, v4, v5, v6, v7⟩ := v
    kernel_rfl)
theorem f111_eq (k : Nat) (x : Kd.dens f111_pk) : runX (f111_C k) f111_A Tryz.f111 f111_pk f111_rk x = f111_F k x := by
  show _ = f111_raw0 k (f111_L1 k) x
  rw [show f111_L1 k = f111_at1 k k from (f111_law1 k k).symm]
  obtain ⟨a0, ⟨a1, ⟨⟩⟩⟩ := x
  kernel_rfl
theorem f111_ctr (k : Nat) : Ctr Tryz.prog k 111 (mk f111_pk f111_rk f111_F) :=
  lawX (fn := Tryz.f111) (phi_ok (ctr_cons (f10403_ctr k) (ctr_cons (f151_ctr k) (ctr_cons (f152_ctr k) (ctr_cons (f153_ctr k) ctr_nil))))) (by kernel_rfl) (by kernel_rfl) (by kernel_rfl) (by kernel_rfl) (f111_eq k)
noncomputable abbrev f111_m : Nat × Callee := (111, mk f111_pk f111_rk f111_F)
abbrev f107_pk : List Kd := [.view splanT, .view .bool, .box [.view (.int .i64), .view (.int .i64), .view (.int .i64), .view (.sl (.int .i64)), .view (.sl (.int .i64)), .view (.int .i64), .view (.sl (.int .i64)), .view (.int .i64)]]
abbrev f107_rk : Kd := .tup []
noncomputable def f107_C (k : Nat) := cxX k []
def f107_raw0 (k : Nat) : (Int × Int × Int × List Int × (List Int × Int × Unit) × List Int × Int × Unit) × Bool × (Int × Int × Int × List Int × List Int × Int × List Int × Int × Unit) × Unit → Option (Unit × (Int × Int × Int × List Int × List Int × Int × List Int × Int × Unit) × Unit)
  | ((a0, a1, a2, a3, (a4, a5, ()), a6, a7, ()), a8, (a9, a10, a11, a12, a13, a14, a15, a16, ()), ()) => bif a8 then bif decide (a16 < (0 : Int)) then some ((), (a0, a1, a2, a3, a4, a5, a6, a7, ()), ()) else bif decide (a7 < a16) then some ((), (a0, a1, a2, a3, a4, a5, a6, a7, ()), ()) else some ((), (a9, a10, a11, a12, a13, a14, a15, a16, ()), ()) else some ((), (a9, a10, a11, a12, a13, a14, a15, a16, ()), ())
def f107_F (k : Nat) := f107_raw0 k
theorem f107_eq (k : Nat) (x : Kd.dens f107_pk) : runX (f107_C k) nA Tryz.f107 f107_pk f107_rk x = f107_F k x := by
  show _ = f107_raw0 k x
  obtain ⟨⟨a0, ⟨a1, ⟨a2, ⟨a3, ⟨⟨a4, ⟨a5, ⟨⟩⟩⟩, ⟨a6, ⟨a7, ⟨⟩⟩⟩⟩⟩⟩⟩⟩, ⟨a8, ⟨⟨a9, ⟨a10, ⟨a11, ⟨a12, ⟨a13, ⟨a14, ⟨a15, ⟨a16, ⟨⟩⟩⟩⟩⟩⟩⟩⟩⟩, ⟨⟩⟩⟩⟩ := x
  kernel_rfl
theorem f107_ctr (k : Nat) : Ctr Tryz.prog k 107 (mk f107_pk f107_rk f107_F) :=
  lawX (fn := Tryz.f107) (phi_ok ctr_nil) (by kernel_rfl) (by kernel_rfl) (by kernel_rfl) (by kernel_rfl) (f107_eq k)
noncomputable abbrev f107_m : Nat × Callee := (107, mk f107_pk f107_rk f107_F)
abbrev f68_pk : List Kd := [.view (.sl (.int .i64)), .view (.int .i64)]
abbrev f68_rk : Kd := .view splanT
noncomputable def f68_C (k : Nat) := cxX k [f10402_m, f106_m, f109_m, f110_m, f111_m, f107_m]
def f68_A : Nat → Ann := fun id => bif Nat.beq id 21 then ⟨[82, 81, 11, 6, 10, 12, 9, 4], []⟩ else bif Nat.beq id 15 then ⟨[62, 63, 10, 6, 11, 12, 9, 4], []⟩ else bif Nat.beq id 4 then ⟨[28, 29, 27, 6, 5, 4], [.cell 6 3 ((Ty.int IntKind.i64))]⟩ else ⟨[], []⟩
abbrev f68_T3 := Int × Int × Int × Int × Int × Int × Int × Int × List Int × List Int × Int × List Int × Int × Int × Int × Int × List Int × List Int × Int × List Int × Int × Int × Int × Int × Int × Int × List Int × Int × Int × Int × Int × Int
abbrev f68_K3 := f68_T3 → Option ((Int × Int × Int × List Int × (List Int × Int × Unit) × List Int × Int × Unit) × Unit)
abbrev f68_T2 := Int × Int × Int × Int × Int × Int × List Int × List Int × Int × List Int × Int × Int × Int × Int × List Int × List Int × Int × List Int × Int × Int × Int × Int × Int × Int × List Int × Int × Int × Int × Int × Int
abbrev f68_K2 := f68_T2 → Option ((Int × Int × Int × List Int × (List Int × Int × Unit) × List Int × Int × Unit) × Unit)
abbrev f68_T1 := Int × Int × List Int × Int × Int × Int × Int × Int × Int × List Int × Int × Int × Int × Int × Int
abbrev f68_K1 := f68_T1 → Option ((Int × Int × Int × List Int × (List Int × Int × Unit) × List Int × Int × Unit) × Unit)
def f68_S3 : f68_T3 → St
  | (v0, v1, v2, v3, v4, v5, v6, v7, v8, v9, v10, v11, v12, v13, v14, v15, v16, v17, v18, v19, v20, v21, v22, v23, v24, v25, v26, v27, v28, v29, v30, v31) => St.mk (envOf [(nat_lit 82, avI v0), (nat_lit 81, AV.agg [avI v1, avI v2, avI v3]), (nat_lit 11, avI v4), (nat_lit 6, AV.bx (nat_lit 8192) (nat_lit 0)), (nat_lit 10, AV.clo (nat_lit 107) [AV.bx (nat_lit 8193) (nat_lit 0)]), (nat_lit 12, AV.bx (nat_lit 8194) (nat_lit 0)), (nat_lit 9, AV.bx (nat_lit 8193) (nat_lit 0)), (nat_lit 4, AV.bx (nat_lit 8196) (nat_lit 0))]) (tblOf [(nat_lit 8192, RS.live (Res.box [avI v5, avI v6, avI v7, avL v8, avL v9, avI v10, avL v11, avI v12])), (nat_lit 8193, RS.live (Res.box [avI v13, avI v14, avI v15, avL v16, avL v17, avI v18, avL v19, avI v20])), (nat_lit 8194, RS.live (Res.box [avI v21, avI v22, avI v23, AV.own (nat_lit 8195), AV.val (PV.v (Value.slice none (0 : Nat) (0 : Nat))), avI v24, AV.val (PV.v (Value.slice none (0 : Nat) (0 : Nat))), avI v25])), (nat_lit 8195, RS.live (Res.arr (Ty.int IntKind.i64) v26 true)), (nat_lit 8196, RS.live (Res.box [avI v27, avI v28, avI v29, AV.val (PV.v (Value.slice none (0 : Nat) (0 : Nat))), AV.val (PV.v (Value.slice none (0 : Nat) (0 : Nat))), avI v30, AV.val (PV.v (Value.slice none (0 : Nat) (0 : Nat))), avI v31]))])
noncomputable def f68_raw3 (k : Nat) (L3 : f68_K3) : f68_K3
  | (v0, v1, v2, v3, v4, v5, v6, v7, v8, v9, v10, v11, v12, v13, v14, v15, v16, v17, v18, v19, v20, v21, v22, v23, v24, v25, v26, v27, v28, v29, v30, v31) => bif decide (v0 < (3 : Int)) then bif decide ((0 : Int) ≤ v0 ∧ v0 < (3 : Int)) then bif decide ([v1, v2, v3].getD v0.toNat (0 : Int) < v4) then (f111_F k (v8, [v1, v2, v3].getD v0.toNat (0 : Int), ())).bind fun y => (f110_F k ((v5, v6, v7, v8, (v9, v10, ()), v11, v12, ()), IntKind.i64.wrap ((31 : Int) + [v1, v2, v3].getD v0.toNat (0 : Int)), (y.1.1.1, y.1.1.2.1, ()), IntKind.i64.wrap ((9 : Int) + IntKind.i64.wrap ((12 : Int) * [v1, v2, v3].getD v0.toNat (0 : Int))), ())).bind fun y => (f107_F k ((y.1.1.1, y.1.1.2.1, y.1.1.2.2.1, y.1.1.2.2.2.1, (y.1.1.2.2.2.2.1.1, y.1.1.2.2.2.2.1.2.1, ()), y.1.1.2.2.2.2.2.1, y.1.1.2.2.2.2.2.2.1, ()), y.1.2.1, (v13, v14, v15, v16, v17, v18, v19, v20, ()), ())).bind fun y => L3 (IntKind.i64.wrap (v0 + (1 : Int)), v1, v2, v3, v4, v5, v6, v7, v8, v9, v10, v11, v12, y.2.1.1, y.2.1.2.1, y.2.1.2.2.1, y.2.1.2.2.2.1, y.2.1.2.2.2.2.1, y.2.1.2.2.2.2.2.1, y.2.1.2.2.2.2.2.2.1, y.2.1.2.2.2.2.2.2.2.1, v21, v22, v23, v24, v25, v26, v27, v28, v29, v30, v31) else L3 (IntKind.i64.wrap (v0 + (1 : Int)), v1, v2, v3, v4, v5, v6, v7, v8, v9, v10, v11, v12, v13, v14, v15, v16, v17, v18, v19, v20, v21, v22, v23, v24, v25, v26, v27, v28, v29, v30, v31) else none else (f107_F k (((1 : Int), v22, v23, v26, ([], v24, ()), [], IntKind.i64.wrap (v4 * v7), ()), true, (v13, v14, v15, v16, v17, v18, v19, v20, ()), ())).bind fun y => some ((y.2.1.1, y.2.1.2.1, y.2.1.2.2.1, y.2.1.2.2.2.1, (y.2.1.2.2.2.2.1, y.2.1.2.2.2.2.2.1, ()), y.2.1.2.2.2.2.2.2.1, y.2.1.2.2.2.2.2.2.2.1, ()), ())
noncomputable def f68_L3 (k : Nat) : f68_K3 := iter (fun L3 => f68_raw3 k L3) k
noncomputable def f68_at3 (k : Nat) (n : Nat) (v : f68_T3) : Option ((Int × Int × Int × List Int × (List Int × Int × Unit) × List Int × Int × Unit) × Unit) :=
  loopAt (f68_C k) f68_A [] [1, 1, 1, 1, 1, 1, 1, 1, 1, 1, 1, 0, 1, 0] [] (cdX Tryz.f68) (lvX (f68_C k) Tryz.f68 f68_pk f68_rk [] []) n (f68_S3 v)
def f68_S2 : f68_T2 → St
  | (v0, v1, v2, v3, v4, v5, v6, v7, v8, v9, v10, v11, v12, v13, v14, v15, v16, v17, v18, v19, v20, v21, v22, v23, v24, v25, v26, v27, v28, v29) => St.mk (envOf [(nat_lit 62, avI v0), (nat_lit 63, avI v1), (nat_lit 10, AV.clo (nat_lit 107) [AV.bx (nat_lit 8192) (nat_lit 0)]), (nat_lit 6, AV.bx (nat_lit 8193) (nat_lit 0)), (nat_lit 11, avI v2), (nat_lit 12, AV.bx (nat_lit 8194) (nat_lit 0)), (nat_lit 9, AV.bx (nat_lit 8192) (nat_lit 0)), (nat_lit 4, AV.bx (nat_lit 8196) (nat_lit 0))]) (tblOf [(nat_lit 8192, RS.live (Res.box [avI v3, avI v4, avI v5, avL v6, avL v7, avI v8, avL v9, avI v10])), (nat_lit 8193, RS.live (Res.box [avI v11, avI v12, avI v13, avL v14, avL v15, avI v16, avL v17, avI v18])), (nat_lit 8194, RS.live (Res.box [avI v19, avI v20, avI v21, AV.own (nat_lit 8195), AV.val (PV.v (Value.slice none (0 : Nat) (0 : Nat))), avI v22, AV.val (PV.v (Value.slice none (0 : Nat) (0 : Nat))), avI v23])), (nat_lit 8195, RS.live (Res.arr (Ty.int IntKind.i64) v24 true)), (nat_lit 8196, RS.live (Res.box [avI v25, avI v26, avI v27, AV.val (PV.v (Value.slice none (0 : Nat) (0 : Nat))), AV.val (PV.v (Value.slice none (0 : Nat) (0 : Nat))), avI v28, AV.val (PV.v (Value.slice none (0 : Nat) (0 : Nat))), avI v29]))])
noncomputable def f68_raw2 (k : Nat) (L3 : f68_K3) (L2 : f68_K2) : f68_K2
  | (v0, v1, v2, v3, v4, v5, v6, v7, v8, v9, v10, v11, v12, v13, v14, v15, v16, v17, v18, v19, v20, v21, v22, v23, v24, v25, v26, v27, v28, v29) => bif decide (v1 < v0) then (f109_F k (v1, ())).bind fun y => (f110_F k ((v11, v12, v13, v14, (v15, v16, ()), v17, v18, ()), IntKind.i64.wrap ((8 : Int) + v1), (y.1.1.1, y.1.1.2.1, ()), 0, ())).bind fun y => (f107_F k ((y.1.1.1, y.1.1.2.1, y.1.1.2.2.1, y.1.1.2.2.2.1, (y.1.1.2.2.2.2.1.1, y.1.1.2.2.2.2.1.2.1, ()), y.1.1.2.2.2.2.2.1, y.1.1.2.2.2.2.2.2.1, ()), y.1.2.1, (v3, v4, v5, v6, v7, v8, v9, v10, ()), ())).bind fun y => L2 (v0, IntKind.i64.wrap (v1 + (1 : Int)), v2, y.2.1.1, y.2.1.2.1, y.2.1.2.2.1, y.2.1.2.2.2.1, y.2.1.2.2.2.2.1, y.2.1.2.2.2.2.2.1, y.2.1.2.2.2.2.2.2.1, y.2.1.2.2.2.2.2.2.2.1, v11, v12, v13, v14, v15, v16, v17, v18, v19, v20, v21, v22, v23, v24, v25, v26, v27, v28, v29) else L3 ((0 : Int), (2 : Int), (4 : Int), (8 : Int), v2, v11, v12, v13, v14, v15, v16, v17, v18, v3, v4, v5, v6, v7, v8, v9, v10, v19, v20, v21, v22, v23, v24, v25, v26, v27, v28, v29)
noncomputable def f68_L2 (k : Nat) : f68_K2 := iter (fun L2 => f68_raw2 k (f68_L3 k) L2) k
noncomputable def f68_at2 (k : Nat) (n : Nat) (v : f68_T2) : Option ((Int × Int × Int × List Int × (List Int × Int × Unit) × List Int × Int × Unit) × Unit) :=
  loopAt (f68_C k) f68_A [] [1, 1, 1, 1, 1, 1, 1, 1, 1, 1, 0, 1, 0] [] (cdX Tryz.f68) (lvX (f68_C k) Tryz.f68 f68_pk f68_rk [] []) n (f68_S2 v)
def f68_S1 : f68_T1 → St
  | (v0, v1, v2, v3, v4, v5, v6, v7, v8, v9, v10, v11, v12, v13, v14) => St.mk (envOf [(nat_lit 28, avI v0), (nat_lit 29, avI v1), (nat_lit 27, avL v2), (nat_lit 6, AV.bx (nat_lit 8192) (nat_lit 0)), (nat_lit 5, avI v3), (nat_lit 4, AV.bx (nat_lit 8194) (nat_lit 0))]) (tblOf [(nat_lit 8192, RS.live (Res.box [avI v4, avI v5, avI v6, AV.own (nat_lit 8193), AV.val (PV.v (Value.slice none (0 : Nat) (0 : Nat))), avI v7, AV.val (PV.v (Value.slice none (0 : Nat) (0 : Nat))), avI v8])), (nat_lit 8193, RS.live (Res.arr (Ty.int IntKind.i64) v9 false)), (nat_lit 8194, RS.live (Res.box [avI v10, avI v11, avI v12, AV.val (PV.v (Value.slice none (0 : Nat) (0 : Nat))), AV.val (PV.v (Value.slice none (0 : Nat) (0 : Nat))), avI v13, AV.val (PV.v (Value.slice none (0 : Nat) (0 : Nat))), avI v14]))])
def f68_raw1 (k : Nat) (L2 : f68_K2) (L1 : f68_K1) : f68_K1
  | (v0, v1, v2, v3, v4, v5, v6, v7, v8, v9, v10, v11, v12, v13, v14) => bif decide (v1 < v0) then bif decide ((0 : Int) ≤ v1 ∧ v1 < Int.ofNat v2.length) then bif decide ((0 : Int) ≤ v3) then bif decide (v9.length + [Int.fdiv (v2.getD v1.toNat 0) ((2 : Int) ^ min v3.toNat (64 : Nat))].length < (2147483648 : Nat)) then L1 (v0, IntKind.i64.wrap (v1 + (1 : Int)), v2, v3, v4, v5, v6, v7, v8, v9 ++ [Int.fdiv (v2.getD v1.toNat 0) ((2 : Int) ^ min v3.toNat (64 : Nat))], v10, v11, v12, v13, v14) else none else none else none else (f10402_F k (v9, ((v4, v5, v6, v9, [], v7, [], v8, ()), ()), ())).bind fun y => (f107_F k (((0 : Int), v5, v6, v9, ([], v7, ()), [], v6, ()), !y.1, (0, 0, 0, [], [], 0, [], (-1 : Int), ()), ())).bind fun y_1 => L2 (IntKind.i64.wrap ((if Int.ofNat v9.length < (4 : Int) then Int.ofNat v9.length else (4 : Int)) + (1 : Int)), (0 : Int), Int.ofNat v9.length, y_1.2.1.1, y_1.2.1.2.1, y_1.2.1.2.2.1, y_1.2.1.2.2.2.1, y_1.2.1.2.2.2.2.1, y_1.2.1.2.2.2.2.2.1, y_1.2.1.2.2.2.2.2.2.1, y_1.2.1.2.2.2.2.2.2.2.1, y.2.1.1, y.2.1.2.1, y.2.1.2.2.1, y.2.1.2.2.2.1, y.2.1.2.2.2.2.1, y.2.1.2.2.2.2.2.1, y.2.1.2.2.2.2.2.2.1, y.2.1.2.2.2.2.2.2.2.1, (0 : Int), v5, v6, v7, v6, v9, v10, v11, v12, v13, v14)
noncomputable def f68_L1 (k : Nat) : f68_K1 := iter (fun L1 => f68_raw1 k (f68_L2 k) L1) k
noncomputable def f68_at1 (k : Nat) (n : Nat) (v : f68_T1) : Option ((Int × Int × Int × List Int × (List Int × Int × Unit) × List Int × Int × Unit) × Unit) :=
  loopAt (f68_C k) f68_A [] [1, 1, 1, 0, 1, 0] [] (cdX Tryz.f68) (lvX (f68_C k) Tryz.f68 f68_pk f68_rk [] []) n (f68_S1 v)
def f68_raw0 (k : Nat) (L1 : f68_K1) : List Int × Int × Unit → Option ((Int × Int × Int × List Int × (List Int × Int × Unit) × List Int × Int × Unit) × Unit)
  | (a0, a1, ()) => (f106_F k (a0, ())).bind fun y => L1 (Int.ofNat a0.length, (0 : Int), a0, y.1, (0 : Int), y.1, IntKind.i64.wrap (a1 - y.1), (0 : Int), (0 : Int), [], (0 : Int), (0 : Int), (0 : Int), (0 : Int), (0 : Int))
noncomputable def f68_F (k : Nat) := f68_raw0 k (f68_L1 k)
theorem f68_law3 (k : Nat) : ∀ n, f68_at3 k n = iter (fun L3 => f68_raw3 k L3) n :=
  iter_law (fun v => by kernel_rfl) (fun n v => by
    show f68_at3 k (n + 1) v = f68_raw3 k (f68_at3 k n) v
    obtain ⟨v0, v1, v2, v3, v4, v5, v6, v7, v8, v9, v10, v11, v12, v13, v14, v15, v16, v17, v18, v19, v20, v21, v22, v23, v24, v25, v26, v27, v28, v29, v30, v31⟩ := v
    kernel_rfl)
theorem f68_law2 (k : Nat) : ∀ n, f68_at2 k n = iter (fun L2 => f68_raw2 k (f68_L3 k) L2) n :=
  iter_law (fun v => by kernel_rfl) (fun n v => by
    show f68_at2 k (n + 1) v = f68_raw2 k (f68_L3 k) (f68_at2 k n) v
    rw [show (f68_L3 k) = f68_at3 k k from (f68_law3 k k).symm]
    obtain ⟨v0, v1, v2, v3, v4, v5, v6, v7, v8, v9, v10, v11, v12, v13, v14, v15, v16, v17, v18, v19, v20, v21, v22, v23, v24, v25, v26, v27, v28, v29⟩ := v
    kernel_rfl)
theorem f68_law1 (k : Nat) : ∀ n, f68_at1 k n = iter (fun L1 => f68_raw1 k (f68_L2 k) L1) n :=
  iter_law (fun v => by kernel_rfl) (fun n v => by
    show f68_at1 k (n + 1) v = f68_raw1 k (f68_L2 k) (f68_at1 k n) v
    rw [show (f68_L2 k) = f68_at2 k k from (f68_law2 k k).symm]
    obtain ⟨v0, v1, v2, v3, v4, v5, v6, v7, v8, v9, v10, v11, v12, v13, v14⟩ := v
    kernel_rfl)
theorem f68_eq (k : Nat) (x : Kd.dens f68_pk) : runX (f68_C k) f68_A Tryz.f68 f68_pk f68_rk x = f68_F k x := by
  show _ = f68_raw0 k (f68_L1 k) x
  rw [show f68_L1 k = f68_at1 k k from (f68_law1 k k).symm]
  obtain ⟨a0, ⟨a1, ⟨⟩⟩⟩ := x
  kernel_rfl
theorem f68_ctr (k : Nat) : Ctr Tryz.prog k 68 (mk f68_pk f68_rk f68_F) :=
  lawX (fn := Tryz.f68) (phi_ok (ctr_cons (f10402_ctr k) (ctr_cons (f106_ctr k) (ctr_cons (f109_ctr k) (ctr_cons (f110_ctr k) (ctr_cons (f111_ctr k) (ctr_cons (f107_ctr k) ctr_nil))))))) (by kernel_rfl) (by kernel_rfl) (by kernel_rfl) (by kernel_rfl) (f68_eq k)
noncomputable abbrev f68_m : Nat × Callee := (68, mk f68_pk f68_rk f68_F)
abbrev f69_pk : List Kd := [.box [.own (.int .u8) false, .view (.int .i64)], .view (.int .i64)]
abbrev f69_rk : Kd := .view (.int .i64)
noncomputable def f69_C (k : Nat) := cxX k [f103_m]
def f69_A : Nat → Ann := fun id => bif Nat.beq id 4 then ⟨[15, 16, 0], []⟩ else ⟨[], []⟩
abbrev f69_T1 := Int × Int × Int × List Int
abbrev f69_K1 := f69_T1 → Option (Int × (List Int × Int × Unit) × Unit)
def f69_S1 : f69_T1 → St
  | (v0, v1, v2, v3) => St.mk (envOf [(nat_lit 15, avI v0), (nat_lit 16, avI v1), (nat_lit 0, AV.bx (nat_lit 0) (nat_lit 0))]) (tblOf [(nat_lit 0, RS.live (Res.box [AV.own (nat_lit 8192), avI v2])), (nat_lit 8192, RS.live (Res.arr (Ty.int IntKind.u8) v3 false))])
def f69_raw1 (k : Nat) (L1 : f69_K1) : f69_K1
  | (v0, v1, v2, v3) => bif decide (v1 < v0) then (f103_F k ((v3, v2, ()), 0, ())).bind fun y => L1 (v0, IntKind.i64.wrap (v1 + (1 : Int)), y.2.1.2.1, y.2.1.1) else (f103_F k ((v3, v2, ()), 1, ())).bind fun y => some (0, (y.2.1.1, y.2.1.2.1, ()), ())
def f69_L1 (k : Nat) : f69_K1 := iter (fun L1 => f69_raw1 k L1) k
noncomputable def f69_at1 (k : Nat) (n : Nat) (v : f69_T1) : Option (Int × (List Int × Int × Unit) × Unit) :=
  loopAt (f69_C k) f69_A [0] [1, 1, 0, 1, 0] [] (cdX Tryz.f69) (lvX (f69_C k) Tryz.f69 f69_pk f69_rk [AV.bx (nat_lit 0) (nat_lit 0)] [[]]) n (f69_S1 v)
def f69_raw0 (k : Nat) (L1 : f69_K1) : (List Int × Int × Unit) × Int × Unit → Option (Int × (List Int × Int × Unit) × Unit)
  | ((a0, a1, ()), a2, ()) => bif decide (a2 < (0 : Int)) then some (1, (a0, a1, ()), ()) else bif decide ((65536 : Int) < a2) then some (1, (a0, a1, ()), ()) else L1 (a2, (0 : Int), a1, a0)
def f69_F (k : Nat) := f69_raw0 k (f69_L1 k)
theorem f69_law1 (k : Nat) : ∀ n, f69_at1 k n = iter (fun L1 => f69_raw1 k L1) n :=
  iter_law (fun v => by kernel_rfl) (fun n v => by
    show f69_at1 k (n + 1) v = f69_raw1 k (f69_at1 k n) v
    obtain ⟨v0, v1, v2, v3⟩ := v
    kernel_rfl)
theorem f69_eq (k : Nat) (x : Kd.dens f69_pk) : runX (f69_C k) f69_A Tryz.f69 f69_pk f69_rk x = f69_F k x := by
  show _ = f69_raw0 k (f69_L1 k) x
  rw [show f69_L1 k = f69_at1 k k from (f69_law1 k k).symm]
  obtain ⟨⟨a0, ⟨a1, ⟨⟩⟩⟩, ⟨a2, ⟨⟩⟩⟩ := x
  kernel_rfl
theorem f69_ctr (k : Nat) : Ctr Tryz.prog k 69 (mk f69_pk f69_rk f69_F) :=
  lawX (fn := Tryz.f69) (phi_ok (ctr_cons (f103_ctr k) ctr_nil)) (by kernel_rfl) (by kernel_rfl) (by kernel_rfl) (by kernel_rfl) (f69_eq k)
noncomputable abbrev f69_m : Nat × Callee := (69, mk f69_pk f69_rk f69_F)
abbrev f112_pk : List Kd := [.box [.own (.int .u8) false, .view (.int .i64)], .view (.int .i64), .view (.int .i64)]
abbrev f112_rk : Kd := .view (.int .i64)
noncomputable def f112_C (k : Nat) := cxX k [f62_m, f63_m]
def f112_raw0 (k : Nat) : (List Int × Int × Unit) × Int × Int × Unit → Option (Int × (List Int × Int × Unit) × Unit)
  | ((a0, a1, ()), a2, a3, ()) => (f62_F k (a3, ())).bind fun y => bif y.1 then some (1, (a0, a1, ()), ()) else bif a3 == (0 : Int) then bif a2 != (0 : Int) then some (12, (a0, a1, ()), ()) else bif decide ((0 : Int) < a3) then bif decide ((0 : Int) ≤ IntKind.i64.wrap (a3 - (1 : Int))) then bif a2.fdiv ((2 : Int) ^ min (IntKind.i64.wrap (a3 - (1 : Int))).toNat (64 : Nat)) != (0 : Int) then bif decide ((0 : Int) ≤ IntKind.i64.wrap (a3 - (1 : Int))) then bif a2.fdiv ((2 : Int) ^ min (IntKind.i64.wrap (a3 - (1 : Int))).toNat (64 : Nat)) != (-1 : Int) then some (12, (a0, a1, ()), ()) else (f63_F k ((a0, a1, ()), IntKind.u64.wrap a2, a3, ())).bind fun y => some (0, (y.2.1.1, y.2.1.2.1, ()), ()) else none else (f63_F k ((a0, a1, ()), IntKind.u64.wrap a2, a3, ())).bind fun y => some (0, (y.2.1.1, y.2.1.2.1, ()), ()) else none else (f63_F k ((a0, a1, ()), IntKind.u64.wrap a2, a3, ())).bind fun y => some (0, (y.2.1.1, y.2.1.2.1, ()), ()) else bif decide ((0 : Int) < a3) then bif decide ((0 : Int) ≤ IntKind.i64.wrap (a3 - (1 : Int))) then bif a2.fdiv ((2 : Int) ^ min (IntKind.i64.wrap (a3 - (1 : Int))).toNat (64 : Nat)) != (0 : Int) then bif decide ((0 : Int) ≤ IntKind.i64.wrap (a3 - (1 : Int))) then bif a2.fdiv ((2 : Int) ^ min (IntKind.i64.wrap (a3 - (1 : Int))).toNat (64 : Nat)) != (-1 : Int) then some (12, (a0, a1, ()), ()) else (f63_F k ((a0, a1, ()), IntKind.u64.wrap a2, a3, ())).bind fun y => some (0, (y.2.1.1, y.2.1.2.1, ()), ()) else none else (f63_F k ((a0, a1, ()), IntKind.u64.wrap a2, a3, ())).bind fun y => some (0, (y.2.1.1, y.2.1.2.1, ()), ()) else none else (f63_F k ((a0, a1, ()), IntKind.u64.wrap a2, a3, ())).bind fun y => some (0, (y.2.1.1, y.2.1.2.1, ()), ())
def f112_F (k : Nat) := f112_raw0 k
theorem f112_eq (k : Nat) (x : Kd.dens f112_pk) : runX (f112_C k) nA Tryz.f112 f112_pk f112_rk x = f112_F k x := by
  show _ = f112_raw0 k x
  obtain ⟨⟨a0, ⟨a1, ⟨⟩⟩⟩, ⟨a2, ⟨a3, ⟨⟩⟩⟩⟩ := x
  kernel_rfl
theorem f112_ctr (k : Nat) : Ctr Tryz.prog k 112 (mk f112_pk f112_rk f112_F) :=
  lawX (fn := Tryz.f112) (phi_ok (ctr_cons (f62_ctr k) (ctr_cons (f63_ctr k) ctr_nil))) (by kernel_rfl) (by kernel_rfl) (by kernel_rfl) (by kernel_rfl) (f112_eq k)
noncomputable abbrev f112_m : Nat × Callee := (112, mk f112_pk f112_rk f112_F)
abbrev f70_pk : List Kd := [.box [.own (.int .u8) false, .view (.int .i64)], .view (.sl (.int .i64)), .view (.int .i64)]
abbrev f70_rk : Kd := .tup []
noncomputable def f70_C (k : Nat) := cxX k [f112_m]
def f70_A : Nat → Ann := fun id => bif Nat.beq id 1 then ⟨[9, 10, 8, 0, 2], []⟩ else ⟨[], []⟩
abbrev f70_T1 := Int × Int × List Int × Int × Int × List Int
abbrev f70_K1 := f70_T1 → Option (Unit × (List Int × Int × Unit) × Unit)
def f70_S1 : f70_T1 → St
  | (v0, v1, v2, v3, v4, v5) => St.mk (envOf [(nat_lit 9, avI v0), (nat_lit 10, avI v1), (nat_lit 8, avL v2), (nat_lit 0, AV.bx (nat_lit 0) (nat_lit 0)), (nat_lit 2, avI v3)]) (tblOf [(nat_lit 0, RS.live (Res.box [AV.own (nat_lit 8192), avI v4])), (nat_lit 8192, RS.live (Res.arr (Ty.int IntKind.u8) v5 false))])
def f70_raw1 (k : Nat) (L1 : f70_K1) : f70_K1
  | (v0, v1, v2, v3, v4, v5) => bif decide (v1 < v0) then bif decide ((0 : Int) ≤ v1 ∧ v1 < Int.ofNat v2.length) then (f112_F k ((v5, v4, ()), v2.getD v1.toNat 0, v3, ())).bind fun y => L1 (v0, IntKind.i64.wrap (v1 + (1 : Int)), v2, v3, y.2.1.2.1, y.2.1.1) else none else some ((), (v5, v4, ()), ())
def f70_L1 (k : Nat) : f70_K1 := iter (fun L1 => f70_raw1 k L1) k
noncomputable def f70_at1 (k : Nat) (n : Nat) (v : f70_T1) : Option (Unit × (List Int × Int × Unit) × Unit) :=
  loopAt (f70_C k) f70_A [0] [1, 0] [] (cdX Tryz.f70) (lvX (f70_C k) Tryz.f70 f70_pk f70_rk [AV.bx (nat_lit 0) (nat_lit 0)] [[]]) n (f70_S1 v)
def f70_raw0 (k : Nat) (L1 : f70_K1) : (List Int × Int × Unit) × List Int × Int × Unit → Option (Unit × (List Int × Int × Unit) × Unit)
  | ((a0, a1, ()), a2, a3, ()) => L1 (Int.ofNat a2.length, (0 : Int), a2, a3, a1, a0)
def f70_F (k : Nat) := f70_raw0 k (f70_L1 k)
theorem f70_law1 (k : Nat) : ∀ n, f70_at1 k n = iter (fun L1 => f70_raw1 k L1) n :=
  iter_law (fun v => by kernel_rfl) (fun n v => by
    show f70_at1 k (n + 1) v = f70_raw1 k (f70_at1 k n) v
    obtain ⟨v0, v1, v2, v3, v4, v5⟩ := v
    kernel_rfl)
theorem f70_eq (k : Nat) (x : Kd.dens f70_pk) : runX (f70_C k) f70_A Tryz.f70 f70_pk f70_rk x = f70_F k x := by
  show _ = f70_raw0 k (f70_L1 k) x
  rw [show f70_L1 k = f70_at1 k k from (f70_law1 k k).symm]
  obtain ⟨⟨a0, ⟨a1, ⟨⟩⟩⟩, ⟨a2, ⟨a3, ⟨⟩⟩⟩⟩ := x
  kernel_rfl
theorem f70_ctr (k : Nat) : Ctr Tryz.prog k 70 (mk f70_pk f70_rk f70_F) :=
  lawX (fn := Tryz.f70) (phi_ok (ctr_cons (f112_ctr k) ctr_nil)) (by kernel_rfl) (by kernel_rfl) (by kernel_rfl) (by kernel_rfl) (f70_eq k)
noncomputable abbrev f70_m : Nat × Callee := (70, mk f70_pk f70_rk f70_F)
abbrev f71_pk : List Kd := [.box [.own (.int .u8) false, .view (.int .i64)], .view (.sl (.int .i64)), .view (.int .i64)]
abbrev f71_rk : Kd := .view (.int .i64)
noncomputable def f71_C (k : Nat) := cxX k [f26_m, f69_m, f113_m, f114_m, f115_m, (116, mk f116_pk f116_rk f116_O), (117, mk f117_pk f117_rk f117_O), (118, mk f118_pk f118_rk f118_O), f112_m]
noncomputable def f71_A : Nat → Ann := fun id => bif Nat.beq id 17 then ⟨[69, 70, 68, 11, 8, 0, 41, 40, 39], []⟩ else bif Nat.beq id 10 then ⟨[40, 41, 39, 8, 0], []⟩ else ⟨[], []⟩
abbrev f71_T2 := Int × Int × List Int × Int × Int × List (List Int) × Int × List Int × Int × Int × Int × Int × Int × List (Int × Int × Int × Unit) × Int
abbrev f71_K2 := f71_T2 → Option (Int × (List Int × Int × Unit) × Unit)
abbrev f71_T1 := Int × Int × List (List Int) × Int × List Int × Int × Int × List (Int × Int × Int × Unit) × Int
abbrev f71_K1 := f71_T1 → Option (Int × (List Int × Int × Unit) × Unit)
noncomputable def f71_S2 : f71_T2 → St
  | (v0, v1, v2, v3, v4, v5, v6, v7, v8, v9, v10, v11, v12, v13, v14) => St.mk (envOf [(nat_lit 69, avI v0), (nat_lit 70, avI v1), (nat_lit 68, avL v2), (nat_lit 11, AV.bx (nat_lit 8193) (nat_lit 0)), (nat_lit 8, AV.bx (nat_lit 8194) (nat_lit 0)), (nat_lit 0, AV.bx (nat_lit 0) (nat_lit 0)), (nat_lit 41, avI v3), (nat_lit 40, avI v4), (nat_lit 39, AV.val (PV.sl (Ty.int IntKind.i64).sl v5))]) (tblOf [(nat_lit 0, RS.live (Res.box [AV.own (nat_lit 8192), avI v6])), (nat_lit 8192, RS.live (Res.arr (Ty.int IntKind.u8) v7 false)), (nat_lit 8193, RS.live (Res.box [avI v8, avI v9, avI v10])), (nat_lit 8194, RS.live (Res.box [avI v11, avI v12, AV.val (PV.sl ((Ty.int IntKind.i64).pair ((Ty.int IntKind.i64).pair ((Ty.int IntKind.i64).pair Ty.unit))) v13), avI v14]))])
noncomputable def f71_raw2 (k : Nat) (L1 : f71_K1) (L2 : f71_K2) : f71_K2
  | (v0, v1, v2, v3, v4, v5, v6, v7, v8, v9, v10, v11, v12, v13, v14) => bif decide (v1 < v0) then bif decide ((0 : Int) ≤ v1 ∧ v1 < Int.ofNat v2.length) then (f117_O k (v11, ())).bind fun y => bif v8 == y.1 then (f112_F k ((v7, v6, ()), v2.getD v1.toNat 0, v9, ())).bind fun y => L2 (v0, IntKind.i64.wrap (v1 + (1 : Int)), v2, v3, v4, v5, y.2.1.2.1, y.2.1.1, v8, v9, v10, v11, v12, v13, v14) else (f118_O k (v2.getD v1.toNat 0, ())).bind fun y => bif decide ((0 : Int) ≤ v8) then (f69_F k ((v7, v6, ()), Int.fdiv y.1.1 ((2 : Int) ^ min v8.toNat (64 : Nat)), ())).bind fun y_1 => bif decide ((0 : Int) ≤ v8) then (f26_F k ((y_1.2.1.1, y_1.2.1.2.1, ()), IntKind.i64.wrap (Int.ofNat (BitVec.ofInt (64 : Nat) y.1.1 &&& BitVec.ofInt (64 : Nat) (IntKind.i64.wrap (IntKind.i64.wrap ((1 : Int) * (2 : Int) ^ min v8.toNat (64 : Nat)) - (1 : Int)))).toNat), v8, ())).bind fun y => L2 (v0, IntKind.i64.wrap (v1 + (1 : Int)), v2, v3, v4, v5, y.2.1.2.1, y.2.1.1, v8, v9, v10, v11, v12, v13, v14) else none else none else none else L1 (v4, IntKind.i64.wrap (v3 + (1 : Int)), v5, v6, v7, v11, v12, v13, v14)
noncomputable def f71_L2 (k : Nat) (L1 : f71_K1) : f71_K2 := iter (fun L2 => f71_raw2 k L1 L2) k
noncomputable def f71_at2 (k : Nat) (n1 : Nat) (n : Nat) (v : f71_T2) : Option (Int × (List Int × Int × Unit) × Unit) :=
  loopAt (f71_C k) f71_A [0] [1, 1, 1, 1, 1, 1, 0, 1, 0, 0, 1, 1, 0, 0, 1, 1, 1, 1, 1, 0] [n1] (cdX Tryz.f71) (lvX (f71_C k) Tryz.f71 f71_pk f71_rk [AV.bx (nat_lit 0) (nat_lit 0)] [[]]) n (f71_S2 v)
noncomputable def f71_S1 : f71_T1 → St
  | (v0, v1, v2, v3, v4, v5, v6, v7, v8) => St.mk (envOf [(nat_lit 40, avI v0), (nat_lit 41, avI v1), (nat_lit 39, AV.val (PV.sl (Ty.int IntKind.i64).sl v2)), (nat_lit 8, AV.bx (nat_lit 8193) (nat_lit 0)), (nat_lit 0, AV.bx (nat_lit 0) (nat_lit 0))]) (tblOf [(nat_lit 0, RS.live (Res.box [AV.own (nat_lit 8192), avI v3])), (nat_lit 8192, RS.live (Res.arr (Ty.int IntKind.u8) v4 false)), (nat_lit 8193, RS.live (Res.box [avI v5, avI v6, AV.val (PV.sl ((Ty.int IntKind.i64).pair ((Ty.int IntKind.i64).pair ((Ty.int IntKind.i64).pair Ty.unit))) v7), avI v8]))])
noncomputable def f71_raw1 (k : Nat) (L2 : f71_K2) (L1 : f71_K1) : f71_K1
  | (v0, v1, v2, v3, v4, v5, v6, v7, v8) => bif decide (v1 < v0) then bif decide ((0 : Int) ≤ v1 ∧ v1 < Int.ofNat v2.length) then bif decide ((0 : Int) ≤ v1 ∧ v1 < Int.ofNat v7.length) then (f116_O k (v5, ())).bind fun y => (f26_F k ((v4, v3, ()), (v7.getD v1.toNat (0, 0, 0, ())).1, y.1, ())).bind fun y => (f117_O k (v5, ())).bind fun y_1 => bif (v7.getD v1.toNat (0, 0, 0, ())).1 == y_1.1 then (f26_F k ((y.2.1.1, y.2.1.2.1, ()), (v7.getD v1.toNat (0, 0, 0, ())).2.1, 5, ())).bind fun y => L2 (Int.ofNat (List.length (v2.getD v1.toNat [])), (0 : Int), v2.getD v1.toNat [], v1, v0, v2, y.2.1.2.1, y.2.1.1, (v7.getD v1.toNat (0, 0, 0, ())).1, (v7.getD v1.toNat (0, 0, 0, ())).2.1, (v7.getD v1.toNat (0, 0, 0, ())).2.2.1, v5, v6, v7, v8) else L2 (Int.ofNat (List.length (v2.getD v1.toNat [])), (0 : Int), v2.getD v1.toNat [], v1, v0, v2, y.2.1.2.1, y.2.1.1, (v7.getD v1.toNat (0, 0, 0, ())).1, (v7.getD v1.toNat (0, 0, 0, ())).2.1, (v7.getD v1.toNat (0, 0, 0, ())).2.2.1, v5, v6, v7, v8) else none else none else some (0, (v4, v3, ()), ())
noncomputable def f71_L1 (k : Nat) : f71_K1 := iter (fun L1 => f71_raw1 k (f71_L2 k L1) L1) k
noncomputable def f71_at1 (k : Nat) (n : Nat) (v : f71_T1) : Option (Int × (List Int × Int × Unit) × Unit) :=
  loopAt (f71_C k) f71_A [0] [1, 1, 1, 1, 1, 1, 0, 1, 0] [] (cdX Tryz.f71) (lvX (f71_C k) Tryz.f71 f71_pk f71_rk [AV.bx (nat_lit 0) (nat_lit 0)] [[]]) n (f71_S1 v)
noncomputable def f71_raw0 (k : Nat) (L1 : f71_K1) : (List Int × Int × Unit) × List Int × Int × Unit → Option (Int × (List Int × Int × Unit) × Unit)
  | ((a0, a1, ()), a2, a3, ()) => (f113_F k (a2, a3, ())).bind fun y => bif y.1 != (0 : Int) then some (y.1, (a0, a1, ()), ()) else (f114_F k (a2, a3, ())).bind fun y => (f26_F k ((a0, a1, ()), y.1.1, 2, ())).bind fun y_1 => (f26_F k ((y_1.2.1.1, y_1.2.1.2.1, ()), y.1.2.1, 4, ())).bind fun y_2 => (f115_F k (a2, a3, y.1.2.1, ())).bind fun y_3 => L1 (Int.ofNat (List.length y_3.1), (0 : Int), y_3.1, y_2.2.1.2.1, y_2.2.1.1, y.1.1, y.1.2.1, y.1.2.2.1, y.1.2.2.2.1)
noncomputable def f71_F (k : Nat) := f71_raw0 k (f71_L1 k)
theorem f71_law2 (k : Nat) (n1 : Nat) : ∀ n, f71_at2 k n1 n = iter (fun L2 => f71_raw2 k (f71_at1 k n1) L2) n :=
  iter_law (fun v => by kernel_rfl) (fun n v => by
    show f71_at2 k n1 (n + 1) v = f71_raw2 k (f71_at1 k n1) (f71_at2 k n1 n) v
    obtain ⟨v0, v1, v2, v3, v4, v5, v6, v7, v8, v9, v10, v11, v12, v13, v14⟩ := v
    kernel_rfl)
theorem f71_law1 (k : Nat) : ∀ n, f71_at1 k n = iter (fun L1 => f71_raw1 k (f71_L2 k L1) L1) n :=
  iter_law (fun v => by kernel_rfl) (fun n v => by
    show f71_at1 k (n + 1) v = f71_raw1 k (f71_L2 k (f71_at1 k n)) (f71_at1 k n) v
    rw [show (f71_L2 k (f71_at1 k n)) = f71_at2 k n k from (f71_law2 k n k).symm]
    obtain ⟨v0, v1, v2, v3, v4, v5, v6, v7, v8⟩ := v
    kernel_rfl)
theorem f71_eq (k : Nat) (x : Kd.dens f71_pk) : runX (f71_C k) f71_A Tryz.f71 f71_pk f71_rk x = f71_F k x := by
  show _ = f71_raw0 k (f71_L1 k) x
  rw [show f71_L1 k = f71_at1 k k from (f71_law1 k k).symm]
  obtain ⟨⟨a0, ⟨a1, ⟨⟩⟩⟩, ⟨a2, ⟨a3, ⟨⟩⟩⟩⟩ := x
  kernel_rfl
theorem f71_ctr (k : Nat) : Ctr Tryz.prog k 71 (mk f71_pk f71_rk f71_F) :=
  lawX (fn := Tryz.f71) (phi_ok (ctr_cons (f26_ctr k) (ctr_cons (f69_ctr k) (ctr_cons (f113_ctr k) (ctr_cons (f114_ctr k) (ctr_cons (f115_ctr k) (ctr_cons (f116_octr k) (ctr_cons (f117_octr k) (ctr_cons (f118_octr k) (ctr_cons (f112_ctr k) ctr_nil)))))))))) (by kernel_rfl) (by kernel_rfl) (by kernel_rfl) (by kernel_rfl) (f71_eq k)
noncomputable abbrev f71_m : Nat × Callee := (71, mk f71_pk f71_rk f71_F)
abbrev f31_pk : List Kd := [.box [.own (.int .u8) false, .view (.int .i64)], .view (.sl (.int .i64)), .view (.int .i64)]
abbrev f31_rk : Kd := .view (.int .i64)
noncomputable def f31_C (k : Nat) := cxX k [f26_m, f67_m, f68_m, f69_m, f70_m, f71_m]
noncomputable def f31_raw0 (k : Nat) : (List Int × Int × Unit) × List Int × Int × Unit → Option (Int × (List Int × Int × Unit) × Unit)
  | ((a0, a1, ()), a2, a3, ()) => (f67_F k (a2, a3, ())).bind fun y => bif y.1 != (0 : Int) then some (y.1, (a0, a1, ()), ()) else (f68_F k (a2, a3, ())).bind fun y => (f26_F k ((a0, a1, ()), y.1.1, 7, ())).bind fun y_1 => bif decide ((0 : Int) < y.1.2.1) then (f26_F k ((y_1.2.1.1, y_1.2.1.2.1, ()), 1, 1, ())).bind fun y_2 => (f69_F k ((y_2.2.1.1, y_2.2.1.2.1, ()), IntKind.i64.wrap (y.1.2.1 - (1 : Int)), ())).bind fun y_3 => bif y.1.1 == (0 : Int) then bif decide ((0 : Int) ≤ (0 : Int) ∧ (0 : Int) ≤ (1 : Int) ∧ (1 : Int) ≤ Int.ofNat (List.length y.1.2.2.2.1)) then (f70_F k ((y_3.2.1.1, y_3.2.1.2.1, ()), List.drop (0 : Nat) (List.take (1 : Nat) y.1.2.2.2.1), y.1.2.2.1, ())).bind fun y => some (0, (y.2.1.1, y.2.1.2.1, ()), ()) else none else bif y.1.1 == (1 : Int) then (f70_F k ((y_3.2.1.1, y_3.2.1.2.1, ()), y.1.2.2.2.1, y.1.2.2.1, ())).bind fun y => some (0, (y.2.1.1, y.2.1.2.1, ()), ()) else bif decide ((0 : Int) ≤ (0 : Int) ∧ (0 : Int) ≤ Int.ofNat (List.length y.1.2.2.2.2.1.1) ∧ Int.ofNat (List.length y.1.2.2.2.2.1.1) ≤ Int.ofNat (List.length y.1.2.2.2.1)) then (f70_F k ((y_3.2.1.1, y_3.2.1.2.1, ()), List.drop (0 : Nat) (List.take (Int.ofNat (List.length y.1.2.2.2.2.1.1)).toNat y.1.2.2.2.1), y.1.2.2.1, ())).bind fun y_4 => bif decide ((31 : Int) < y.1.1) then (f26_F k ((y_4.2.1.1, y_4.2.1.2.1, ()), 11, 4, ())).bind fun y_5 => (f26_F k ((y_5.2.1.1, y_5.2.1.2.1, ()), y.1.2.2.2.2.1.2.1, 5, ())).bind fun y_6 => (f70_F k ((y_6.2.1.1, y_6.2.1.2.1, ()), y.1.2.2.2.2.1.1, 12, ())).bind fun y_7 => (f71_F k ((y_7.2.1.1, y_7.2.1.2.1, ()), y.1.2.2.2.2.2.1, Int.ofNat (List.length y.1.2.2.2.2.1.1), ())).bind fun y => some (y.1, (y.2.1.1, y.2.1.2.1, ()), ()) else (f71_F k ((y_4.2.1.1, y_4.2.1.2.1, ()), y.1.2.2.2.2.2.1, Int.ofNat (List.length y.1.2.2.2.2.1.1), ())).bind fun y => some (y.1, (y.2.1.1, y.2.1.2.1, ()), ()) else none else (f26_F k ((y_1.2.1.1, y_1.2.1.2.1, ()), 0, 1, ())).bind fun y_2 => bif y.1.1 == (0 : Int) then bif decide ((0 : Int) ≤ (0 : Int) ∧ (0 : Int) ≤ (1 : Int) ∧ (1 : Int) ≤ Int.ofNat (List.length y.1.2.2.2.1)) then (f70_F k ((y_2.2.1.1, y_2.2.1.2.1, ()), List.drop (0 : Nat) (List.take (1 : Nat) y.1.2.2.2.1), y.1.2.2.1, ())).bind fun y => some (0, (y.2.1.1, y.2.1.2.1, ()), ()) else none else bif y.1.1 == (1 : Int) then (f70_F k ((y_2.2.1.1, y_2.2.1.2.1, ()), y.1.2.2.2.1, y.1.2.2.1, ())).bind fun y => some (0, (y.2.1.1, y.2.1.2.1, ()), ()) else bif decide ((0 : Int) ≤ (0 : Int) ∧ (0 : Int) ≤ Int.ofNat (List.length y.1.2.2.2.2.1.1) ∧ Int.ofNat (List.length y.1.2.2.2.2.1.1) ≤ Int.ofNat (List.length y.1.2.2.2.1)) then (f70_F k ((y_2.2.1.1, y_2.2.1.2.1, ()), List.drop (0 : Nat) (List.take (Int.ofNat (List.length y.1.2.2.2.2.1.1)).toNat y.1.2.2.2.1), y.1.2.2.1, ())).bind fun y_3 => bif decide ((31 : Int) < y.1.1) then (f26_F k ((y_3.2.1.1, y_3.2.1.2.1, ()), 11, 4, ())).bind fun y_4 => (f26_F k ((y_4.2.1.1, y_4.2.1.2.1, ()), y.1.2.2.2.2.1.2.1, 5, ())).bind fun y_5 => (f70_F k ((y_5.2.1.1, y_5.2.1.2.1, ()), y.1.2.2.2.2.1.1, 12, ())).bind fun y_6 => (f71_F k ((y_6.2.1.1, y_6.2.1.2.1, ()), y.1.2.2.2.2.2.1, Int.ofNat (List.length y.1.2.2.2.2.1.1), ())).bind fun y => some (y.1, (y.2.1.1, y.2.1.2.1, ()), ()) else (f71_F k ((y_3.2.1.1, y_3.2.1.2.1, ()), y.1.2.2.2.2.2.1, Int.ofNat (List.length y.1.2.2.2.2.1.1), ())).bind fun y => some (y.1, (y.2.1.1, y.2.1.2.1, ()), ()) else none
noncomputable def f31_F (k : Nat) := f31_raw0 k
theorem f31_eq (k : Nat) (x : Kd.dens f31_pk) : runX (f31_C k) nA Tryz.f31 f31_pk f31_rk x = f31_F k x := by
  show _ = f31_raw0 k x
  obtain ⟨⟨a0, ⟨a1, ⟨⟩⟩⟩, ⟨a2, ⟨a3, ⟨⟩⟩⟩⟩ := x
  kernel_rfl
theorem f31_ctr (k : Nat) : Ctr Tryz.prog k 31 (mk f31_pk f31_rk f31_F) :=
  lawX (fn := Tryz.f31) (phi_ok (ctr_cons (f26_ctr k) (ctr_cons (f67_ctr k) (ctr_cons (f68_ctr k) (ctr_cons (f69_ctr k) (ctr_cons (f70_ctr k) (ctr_cons (f71_ctr k) ctr_nil))))))) (by kernel_rfl) (by kernel_rfl) (by kernel_rfl) (by kernel_rfl) (f31_eq k)
noncomputable abbrev f31_m : Nat × Callee := (31, mk f31_pk f31_rk f31_F)
abbrev f32_pk : List Kd := [.box [.own (.int .u8) false, .view (.int .i64)]]
abbrev f32_rk : Kd := .view (.int .i64)
noncomputable def f32_C (k : Nat) := cxX k []
def f32_raw0 (k : Nat) : (List Int × Int × Unit) × Unit → Option (Int × (List Int × Int × Unit) × Unit)
  | ((a0, a1, ()), ()) => some (IntKind.i64.wrap (Int.ofNat (BitVec.ofInt (64 : Nat) (IntKind.i64.wrap ((0 : Int) - a1)) &&& BitVec.ofInt (64 : Nat) (7 : Int)).toNat), (a0, IntKind.i64.wrap (a1 + IntKind.i64.wrap (Int.ofNat (BitVec.ofInt (64 : Nat) (IntKind.i64.wrap ((0 : Int) - a1)) &&& BitVec.ofInt (64 : Nat) (7 : Int)).toNat)), ()), ())
def f32_F (k : Nat) := f32_raw0 k
theorem f32_eq (k : Nat) (x : Kd.dens f32_pk) : runX (f32_C k) nA Tryz.f32 f32_pk f32_rk x = f32_F k x := by
  show _ = f32_raw0 k x
  obtain ⟨⟨a0, ⟨a1, ⟨⟩⟩⟩, ⟨⟩⟩ := x
  kernel_rfl
theorem f32_ctr (k : Nat) : Ctr Tryz.prog k 32 (mk f32_pk f32_rk f32_F) :=
  lawX (fn := Tryz.f32) (phi_ok ctr_nil) (by kernel_rfl) (by kernel_rfl) (by kernel_rfl) (by kernel_rfl) (f32_eq k)
noncomputable abbrev f32_m : Nat × Callee := (32, mk f32_pk f32_rk f32_F)
abbrev f33_pk : List Kd := [.view (.sl (.int .u8))]
abbrev f33_rk : Kd := .view (.int .i64)
noncomputable def f33_C (k : Nat) := cxX k [f65_m]
def f33_raw0 (k : Nat) : List Int × Unit → Option (Int × Unit)
  | (a0, ()) => (f65_F k (a0, 16, 32773, ())).bind fun y => some (y.1, ())
def f33_F (k : Nat) := f33_raw0 k
theorem f33_eq (k : Nat) (x : Kd.dens f33_pk) : runX (f33_C k) nA Tryz.f33 f33_pk f33_rk x = f33_F k x := by
  show _ = f33_raw0 k x
  obtain ⟨a0, ⟨⟩⟩ := x
  kernel_rfl
theorem f33_ctr (k : Nat) : Ctr Tryz.prog k 33 (mk f33_pk f33_rk f33_F) :=
  lawX (fn := Tryz.f33) (phi_ok (ctr_cons (f65_ctr k) ctr_nil)) (by kernel_rfl) (by kernel_rfl) (by kernel_rfl) (by kernel_rfl) (f33_eq k)
noncomputable abbrev f33_m : Nat × Callee := (33, mk f33_pk f33_rk f33_F)
abbrev f14_pk : List Kd := [.view shapeT, .view frameT]
abbrev f14_rk : Kd := .tup [.own (.int .u8) false, .view (.int .i64)]
noncomputable def f14_C (k : Nat) := cxX k [f23_m, f24_m, f25_m, f26_m, f27_m, f28_m, f29_m, f30_m, f31_m, f32_m, f33_m]
def f14_A : Nat → Ann := fun id => bif Nat.beq id 27 then ⟨[87, 88, 86, 12, 7], []⟩ else bif Nat.beq id 20 then ⟨[61, 62, 60, 12, 10, 11, 2, 8, 7], []⟩ else ⟨[], []⟩
abbrev f14_T2 := Int × Int × List Int × List (List Int) × Int × List Int
abbrev f14_K2 := f14_T2 → Option ((List Int × Int × Unit) × Unit)
abbrev f14_T1 := Int × Int × List Int × Int × Int × Int × List (List Int) × Int × List Int × Int × Int × Int
abbrev f14_K1 := f14_T1 → Option ((List Int × Int × Unit) × Unit)
def f14_S2 : f14_T2 → St
  | (v0, v1, v2, v3, v4, v5) => St.mk (envOf [(nat_lit 87, avI v0), (nat_lit 88, avI v1), (nat_lit 86, avL v2), (nat_lit 12, AV.bx (nat_lit 8192) (nat_lit 0)), (nat_lit 7, AV.val (PV.sl (Ty.int IntKind.i64).sl v3))]) (tblOf [(nat_lit 8192, RS.live (Res.box [AV.own (nat_lit 8193), avI v4])), (nat_lit 8193, RS.live (Res.arr (Ty.int IntKind.u8) v5 false))])
noncomputable def f14_raw2 (k : Nat) (L2 : f14_K2) : f14_K2
  | (v0, v1, v2, v3, v4, v5) => bif decide (v1 < v0) then bif decide ((0 : Int) ≤ v1 ∧ v1 < Int.ofNat v2.length) then bif decide ((0 : Int) ≤ v1 ∧ v1 < Int.ofNat v3.length) then (f31_F k ((v5, v4, ()), v3.getD v1.toNat [], v2.getD v1.toNat 0, ())).bind fun y => bif y.1 != (0 : Int) then some (([], y.1, ()), ()) else L2 (v0, IntKind.i64.wrap (v1 + (1 : Int)), v2, v3, y.2.1.2.1, y.2.1.1) else none else none else (f32_F k ((v5, v4, ()), ())).bind fun y => (f29_F k ((y.2.1.1, y.2.1.2.1, ()), ())).bind fun y => (f33_F k (y.1, ())).bind fun y_1 => (f26_F k ((y.2.1.1, y.2.1.2.1, ()), y_1.1, 16, ())).bind fun y => (f29_F k ((y.2.1.1, y.2.1.2.1, ()), ())).bind fun y => some ((y.1, 0, ()), ())
noncomputable def f14_L2 (k : Nat) : f14_K2 := iter (fun L2 => f14_raw2 k L2) k
noncomputable def f14_at2 (k : Nat) (n : Nat) (v : f14_T2) : Option ((List Int × Int × Unit) × Unit) :=
  loopAt (f14_C k) f14_A [] [1, 1, 1, 1, 1, 1, 1, 1, 1, 1, 1, 1, 1, 1, 1, 1, 1, 0, 1, 0] [] (cdX Tryz.f14) (lvX (f14_C k) Tryz.f14 f14_pk f14_rk [] []) n (f14_S2 v)
def f14_S1 : f14_T1 → St
  | (v0, v1, v2, v3, v4, v5, v6, v7, v8, v9, v10, v11) => St.mk (envOf [(nat_lit 61, avI v0), (nat_lit 62, avI v1), (nat_lit 60, AV.val (PV.sl (Ty.int IntKind.u8) v2)), (nat_lit 12, AV.bx (nat_lit 8192) (nat_lit 0)), (nat_lit 10, avI v3), (nat_lit 11, avI v4), (nat_lit 2, AV.bx (nat_lit 8194) (nat_lit 0)), (nat_lit 8, avI v5), (nat_lit 7, AV.val (PV.sl (Ty.int IntKind.i64).sl v6))]) (tblOf [(nat_lit 8192, RS.live (Res.box [AV.own (nat_lit 8193), avI v7])), (nat_lit 8193, RS.live (Res.arr (Ty.int IntKind.u8) v8 false)), (nat_lit 8194, RS.live (Res.box [avI v9, avI v10, avI v11]))])
def f14_raw1 (k : Nat) (L2 : f14_K2) (L1 : f14_K1) : f14_K1
  | (v0, v1, v2, v3, v4, v5, v6, v7, v8, v9, v10, v11) => bif decide (v1 < v0) then bif decide ((0 : Int) ≤ v1 ∧ v1 < Int.ofNat v2.length) then (f26_F k ((v8, v7, ()), IntKind.i64.wrap (v2.getD v1.toNat 0), 8, ())).bind fun y => L1 (v0, IntKind.i64.wrap (v1 + (1 : Int)), v2, v3, v4, v5, v6, y.2.1.2.1, y.2.1.1, v9, v10, v11) else none else (f26_F k ((v8, v7, ()), IntKind.i64.wrap (v3 - (1 : Int)), IntKind.i64.wrap ((8 : Int) * IntKind.i64.wrap (IntKind.i64.wrap (v4 - (6 : Int)) + (1 : Int))), ())).bind fun y => (f29_F k ((y.2.1.1, y.2.1.2.1, ()), ())).bind fun y => (f28_F k (y.1, ())).bind fun y_1 => (f26_F k ((y.2.1.1, y.2.1.2.1, ()), y_1.1, 8, ())).bind fun y => (f30_F k ((v9, v10, v11, ()), v5, ())).bind fun y_2 => L2 (Int.ofNat (List.length y_2.1), (0 : Int), y_2.1, v6, y.2.1.2.1, y.2.1.1)
noncomputable def f14_L1 (k : Nat) : f14_K1 := iter (fun L1 => f14_raw1 k (f14_L2 k) L1) k
noncomputable def f14_at1 (k : Nat) (n : Nat) (v : f14_T1) : Option ((List Int × Int × Unit) × Unit) :=
  loopAt (f14_C k) f14_A [] [1, 1, 1, 1, 1, 1, 1, 1, 1, 1, 1, 1, 1, 1, 0, 1, 0] [] (cdX Tryz.f14) (lvX (f14_C k) Tryz.f14 f14_pk f14_rk [] []) n (f14_S1 v)
def f14_raw0 (k : Nat) (L1 : f14_K1) : (Int × Int × Int × Unit) × (Int × List (List Int) × Unit) × Unit → Option ((List Int × Int × Unit) × Unit)
  | ((a0, a1, a2, ()), (a3, a4, ()), ()) => (f23_F k ((a0, a1, a2, ()), (a3, a4, ()), ())).bind fun y => bif y.1 != (0 : Int) then some (([], y.1, ()), ()) else (f24_F k ((a3, a4, ()), ())).bind fun y => bif y.1.2.2.1 != (0 : Int) then some (([], y.1.2.2.1, ()), ()) else bif decide ((0 : Int) ≤ (0 : Int) ∧ (0 : Int) < Int.ofNat (List.length y.1.1)) then bif decide ((256 : Int) < Int.ofNat (List.length (List.getD y.1.1 (0 : Nat) []))) then (f25_F k ()).bind fun y_1 => (f26_F k ((y_1.1.1, y_1.1.2.1, ()), 16382, 14, ())).bind fun y_2 => (f26_F k ((y_2.2.1.1, y_2.2.1.2.1, ()), 7, 6, ())).bind fun y_3 => (f26_F k ((y_3.2.1.1, y_3.2.1.2.1, ()), y.1.2.1, 8, ())).bind fun y_4 => (f26_F k ((y_4.2.1.1, y_4.2.1.2.1, ()), 0, 4, ())).bind fun y_5 => (f27_F k (a3, ())).bind fun y_6 => bif y_6.1.2.1 != (0 : Int) then some (([], y_6.1.2.1, ()), ()) else L1 (Int.ofNat (List.length y_6.1.1), (0 : Int), y_6.1.1, Int.ofNat (List.length (List.getD y.1.1 (0 : Nat) [])), (7 : Int), y.1.2.1, y.1.1, y_5.2.1.2.1, y_5.2.1.1, a0, a1, a2) else (f25_F k ()).bind fun y_1 => (f26_F k ((y_1.1.1, y_1.1.2.1, ()), 16382, 14, ())).bind fun y_2 => (f26_F k ((y_2.2.1.1, y_2.2.1.2.1, ()), 6, 6, ())).bind fun y_3 => (f26_F k ((y_3.2.1.1, y_3.2.1.2.1, ()), y.1.2.1, 8, ())).bind fun y_4 => (f26_F k ((y_4.2.1.1, y_4.2.1.2.1, ()), 0, 4, ())).bind fun y_5 => (f27_F k (a3, ())).bind fun y_6 => bif y_6.1.2.1 != (0 : Int) then some (([], y_6.1.2.1, ()), ()) else L1 (Int.ofNat (List.length y_6.1.1), (0 : Int), y_6.1.1, Int.ofNat (List.length (List.getD y.1.1 (0 : Nat) [])), (6 : Int), y.1.2.1, y.1.1, y_5.2.1.2.1, y_5.2.1.1, a0, a1, a2) else none
noncomputable def f14_F (k : Nat) := f14_raw0 k (f14_L1 k)
theorem f14_law2 (k : Nat) : ∀ n, f14_at2 k n = iter (fun L2 => f14_raw2 k L2) n :=
  iter_law (fun v => by kernel_rfl) (fun n v => by
    show f14_at2 k (n + 1) v = f14_raw2 k (f14_at2 k n) v
    obtain ⟨v0, v1, v2, v3, v4, v5⟩ := v
    kernel_rfl)
theorem f14_law1 (k : Nat) : ∀ n, f14_at1 k n = iter (fun L1 => f14_raw1 k (f14_L2 k) L1) n :=
  iter_law (fun v => by kernel_rfl) (fun n v => by
    show f14_at1 k (n + 1) v = f14_raw1 k (f14_L2 k) (f14_at1 k n) v
    rw [show (f14_L2 k) = f14_at2 k k from (f14_law2 k k).symm]
    obtain ⟨v0, v1, v2, v3, v4, v5, v6, v7, v8, v9, v10, v11⟩ := v
    kernel_rfl)
theorem f14_eq (k : Nat) (x : Kd.dens f14_pk) : runX (f14_C k) f14_A Tryz.f14 f14_pk f14_rk x = f14_F k x := by
  show _ = f14_raw0 k (f14_L1 k) x
  rw [show f14_L1 k = f14_at1 k k from (f14_law1 k k).symm]
  obtain ⟨⟨a0, ⟨a1, ⟨a2, ⟨⟩⟩⟩⟩, ⟨⟨a3, ⟨a4, ⟨⟩⟩⟩, ⟨⟩⟩⟩ := x
  kernel_rfl
theorem f14_ctr (k : Nat) : Ctr Tryz.prog k 14 (mk f14_pk f14_rk f14_F) :=
  lawX (fn := Tryz.f14) (phi_ok (ctr_cons (f23_ctr k) (ctr_cons (f24_ctr k) (ctr_cons (f25_ctr k) (ctr_cons (f26_ctr k) (ctr_cons (f27_ctr k) (ctr_cons (f28_ctr k) (ctr_cons (f29_ctr k) (ctr_cons (f30_ctr k) (ctr_cons (f31_ctr k) (ctr_cons (f32_ctr k) (ctr_cons (f33_ctr k) ctr_nil)))))))))))) (by kernel_rfl) (by kernel_rfl) (by kernel_rfl) (by kernel_rfl) (f14_eq k)
noncomputable abbrev f14_m : Nat × Callee := (14, mk f14_pk f14_rk f14_F)
abbrev f44_pk : List Kd := [.view (.sl (.int .u8))]
abbrev f44_rk : Kd := .box [.view (.sl (.int .u8)), .view (.int .i64)]
noncomputable def f44_C (k : Nat) := cxX k [f66_m]
def f44_raw0 (k : Nat) : List Int × Unit → Option ((List Int × Int × Unit) × Unit)
  | (a0, ()) => (f66_F k (a0, ())).bind fun y => some ((y.1, 0, ()), ())
def f44_F (k : Nat) := f44_raw0 k
theorem f44_eq (k : Nat) (x : Kd.dens f44_pk) : runX (f44_C k) nA Tryz.f44 f44_pk f44_rk x = f44_F k x := by
  show _ = f44_raw0 k x
  obtain ⟨a0, ⟨⟩⟩ := x
  kernel_rfl
theorem f44_ctr (k : Nat) : Ctr Tryz.prog k 44 (mk f44_pk f44_rk f44_F) :=
  lawX (fn := Tryz.f44) (phi_ok (ctr_cons (f66_ctr k) ctr_nil)) (by kernel_rfl) (by kernel_rfl) (by kernel_rfl) (by kernel_rfl) (f44_eq k)
noncomputable abbrev f44_m : Nat × Callee := (44, mk f44_pk f44_rk f44_F)
abbrev f51_pk : List Kd := [.box [.view (.sl (.int .u8)), .view (.int .i64)]]
abbrev f51_rk : Kd := .view (.int .i64)
noncomputable def f51_C (k : Nat) := cxX k []
def f51_raw0 (k : Nat) : (List Int × Int × Unit) × Unit → Option (Int × (List Int × Int × Unit) × Unit)
  | ((a0, a1, ()), ()) => some (a1, (a0, a1, ()), ())
def f51_F (k : Nat) := f51_raw0 k
theorem f51_eq (k : Nat) (x : Kd.dens f51_pk) : runX (f51_C k) nA Tryz.f51 f51_pk f51_rk x = f51_F k x := by
  show _ = f51_raw0 k x
  obtain ⟨⟨a0, ⟨a1, ⟨⟩⟩⟩, ⟨⟩⟩ := x
  kernel_rfl
theorem f51_ctr (k : Nat) : Ctr Tryz.prog k 51 (mk f51_pk f51_rk f51_F) :=
  lawX (fn := Tryz.f51) (phi_ok ctr_nil) (by kernel_rfl) (by kernel_rfl) (by kernel_rfl) (by kernel_rfl) (f51_eq k)
noncomputable abbrev f51_m : Nat × Callee := (51, mk f51_pk f51_rk f51_F)
abbrev f82_pk : List Kd := [.box [.view (.sl (.int .u8)), .ref [.view (.sl (.int .u8)), .view (.int .i64)], .view (.int .i64)], .view .bool, .view (.int .i64)]
abbrev f82_rk : Kd := .tup []
noncomputable def f82_C (k : Nat) := cxX k []
def f82_raw0 (k : Nat) : (List Int × (List Int × Int × Unit) × Int × Unit) × Bool × Int × Unit → Option (Unit × (List Int × (List Int × Int × Unit) × Int × Unit) × Unit)
  | ((a0, (a1, a2, ()), a3, ()), a4, a5, ()) => bif a3 == (0 : Int) then bif !a4 then some ((), (a0, (a1, a2, ()), a5, ()), ()) else some ((), (a0, (a1, a2, ()), a3, ()), ()) else some ((), (a0, (a1, a2, ()), a3, ()), ())
def f82_F (k : Nat) := f82_raw0 k
theorem f82_eq (k : Nat) (x : Kd.dens f82_pk) : runX (f82_C k) nA Tryz.f82 f82_pk f82_rk x = f82_F k x := by
  show _ = f82_raw0 k x
  obtain ⟨⟨a0, ⟨⟨a1, ⟨a2, ⟨⟩⟩⟩, ⟨a3, ⟨⟩⟩⟩⟩, ⟨a4, ⟨a5, ⟨⟩⟩⟩⟩ := x
  kernel_rfl
theorem f82_ctr (k : Nat) : Ctr Tryz.prog k 82 (mk f82_pk f82_rk f82_F) :=
  lawX (fn := Tryz.f82) (phi_ok ctr_nil) (by kernel_rfl) (by kernel_rfl) (by kernel_rfl) (by kernel_rfl) (f82_eq k)
noncomputable abbrev f82_m : Nat × Callee := (82, mk f82_pk f82_rk f82_F)
abbrev f90_pk : List Kd := [.box [.view (.sl (.int .u8)), .view (.int .i64)], .view (.int .i64)]
abbrev f90_rk : Kd := .view (.int .i64)
noncomputable def f90_C (k : Nat) := cxX k []
def f90_raw0 (k : Nat) : (List Int × Int × Unit) × Int × Unit → Option (Int × (List Int × Int × Unit) × Unit)
  | ((a0, a1, ()), a2, ()) => bif decide ((0 : Int) ≤ IntKind.i64.wrap (a2.tdiv (8 : Int)) ∧ IntKind.i64.wrap (a2.tdiv (8 : Int)) < Int.ofNat a0.length) then bif decide ((0 : Int) ≤ IntKind.i64.wrap ((7 : Int) - a2.tmod (8 : Int))) then some (IntKind.i64.wrap (Int.ofNat (BitVec.ofInt (64 : Nat) (IntKind.i64.wrap (Int.fdiv (a0.getD (IntKind.i64.wrap (a2.tdiv (8 : Int))).toNat 0) ((2 : Int) ^ min (IntKind.i64.wrap ((7 : Int) - a2.tmod (8 : Int))).toNat (8 : Nat)))) &&& BitVec.ofInt (64 : Nat) (1 : Int)).toNat), (a0, a1, ()), ()) else none else none
def f90_F (k : Nat) := f90_raw0 k
theorem f90_eq (k : Nat) (x : Kd.dens f90_pk) : runX (f90_C k) nA Tryz.f90 f90_pk f90_rk x = f90_F k x := by
  show _ = f90_raw0 k x
  obtain ⟨⟨a0, ⟨a1, ⟨⟩⟩⟩, ⟨a2, ⟨⟩⟩⟩ := x
  kernel_rfl
theorem f90_ctr (k : Nat) : Ctr Tryz.prog k 90 (mk f90_pk f90_rk f90_F) :=
  lawX (fn := Tryz.f90) (phi_ok ctr_nil) (by kernel_rfl) (by kernel_rfl) (by kernel_rfl) (by kernel_rfl) (f90_eq k)
noncomputable abbrev f90_m : Nat × Callee := (90, mk f90_pk f90_rk f90_F)
abbrev f167_pk : List Kd := [.box [.view (.sl (.int .u8)), .view (.int .i64)]]
abbrev f167_rk : Kd := .view (.int .i64)
noncomputable def f167_C (k : Nat) := cxX k []
def f167_raw0 (k : Nat) : (List Int × Int × Unit) × Unit → Option (Int × (List Int × Int × Unit) × Unit)
  | ((a0, a1, ()), ()) => some (IntKind.i64.wrap (IntKind.i64.wrap ((8 : Int) * Int.ofNat a0.length) - a1), (a0, a1, ()), ())
def f167_F (k : Nat) := f167_raw0 k
theorem f167_eq (k : Nat) (x : Kd.dens f167_pk) : runX (f167_C k) nA Tryz.f167 f167_pk f167_rk x = f167_F k x := by
  show _ = f167_raw0 k x
  obtain ⟨⟨a0, ⟨a1, ⟨⟩⟩⟩, ⟨⟩⟩ := x
  kernel_rfl
theorem f167_ctr (k : Nat) : Ctr Tryz.prog k 167 (mk f167_pk f167_rk f167_F) :=
  lawX (fn := Tryz.f167) (phi_ok ctr_nil) (by kernel_rfl) (by kernel_rfl) (by kernel_rfl) (by kernel_rfl) (f167_eq k)
noncomputable abbrev f167_m : Nat × Callee := (167, mk f167_pk f167_rk f167_F)
abbrev f126_pk : List Kd := [.box [.view (.sl (.int .u8)), .view (.int .i64)], .view (.int .i64)]
abbrev f126_rk : Kd := .tup [.view (.int .i64), .view (.int .i64)]
noncomputable def f126_C (k : Nat) := cxX k [f62_m, f90_m, f167_m]
def f126_A : Nat → Ann := fun id => bif Nat.beq id 7 then ⟨[19, 20, 6, 0], []⟩ else ⟨[], []⟩
abbrev f126_T1 := Int × Int × Int × List Int × Int
abbrev f126_K1 := f126_T1 → Option ((Int × Int × Unit) × (List Int × Int × Unit) × Unit)
def f126_S1 : f126_T1 → St
  | (v0, v1, v2, v3, v4) => St.mk (envOf [(nat_lit 19, avI v0), (nat_lit 20, avI v1), (nat_lit 6, avI v2), (nat_lit 0, AV.bx (nat_lit 0) (nat_lit 0))]) (tblOf [(nat_lit 0, RS.live (Res.box [AV.val (PV.sl (Ty.int IntKind.u8) v3), avI v4]))])
def f126_raw1 (k : Nat) (L1 : f126_K1) : f126_K1
  | (v0, v1, v2, v3, v4) => bif decide (v1 < v0) then (f90_F k ((v3, v4, ()), v4, ())).bind fun y => L1 (v0, IntKind.i64.wrap (v1 + (1 : Int)), IntKind.i64.wrap (Int.ofNat (BitVec.ofInt (64 : Nat) (IntKind.i64.wrap (v2 * (2 : Int))) ||| BitVec.ofInt (64 : Nat) y.1).toNat), y.2.1.1, IntKind.i64.wrap (y.2.1.2.1 + (1 : Int))) else some ((v2, 0, ()), (v3, v4, ()), ())
def f126_L1 (k : Nat) : f126_K1 := iter (fun L1 => f126_raw1 k L1) k
noncomputable def f126_at1 (k : Nat) (n : Nat) (v : f126_T1) : Option ((Int × Int × Unit) × (List Int × Int × Unit) × Unit) :=
  loopAt (f126_C k) f126_A [0] [1, 1, 1, 0, 1, 0] [] (cdX Tryz.f126) (lvX (f126_C k) Tryz.f126 f126_pk f126_rk [AV.bx (nat_lit 0) (nat_lit 0)] [[]]) n (f126_S1 v)
def f126_raw0 (k : Nat) (L1 : f126_K1) : (List Int × Int × Unit) × Int × Unit → Option ((Int × Int × Unit) × (List Int × Int × Unit) × Unit)
  | ((a0, a1, ()), a2, ()) => (f62_F k (a2, ())).bind fun y => bif y.1 then some ((0, 1, ()), (a0, a1, ()), ()) else (f167_F k ((a0, a1, ()), ())).bind fun y => bif decide (y.1 < a2) then some ((0, 10, ()), (y.2.1.1, y.2.1.2.1, ()), ()) else L1 (a2, (0 : Int), (0 : Int), y.2.1.1, y.2.1.2.1)
def f126_F (k : Nat) := f126_raw0 k (f126_L1 k)
theorem f126_law1 (k : Nat) : ∀ n, f126_at1 k n = iter (fun L1 => f126_raw1 k L1) n :=
  iter_law (fun v => by kernel_rfl) (fun n v => by
    show f126_at1 k (n + 1) v = f126_raw1 k (f126_at1 k n) v
    obtain ⟨v0, v1, v2, v3, v4⟩ := v
    kernel_rfl)
theorem f126_eq (k : Nat) (x : Kd.dens f126_pk) : runX (f126_C k) f126_A Tryz.f126 f126_pk f126_rk x = f126_F k x := by
  show _ = f126_raw0 k (f126_L1 k) x
  rw [show f126_L1 k = f126_at1 k k from (f126_law1 k k).symm]
  obtain ⟨⟨a0, ⟨a1, ⟨⟩⟩⟩, ⟨a2, ⟨⟩⟩⟩ := x
  kernel_rfl
theorem f126_ctr (k : Nat) : Ctr Tryz.prog k 126 (mk f126_pk f126_rk f126_F) :=
  lawX (fn := Tryz.f126) (phi_ok (ctr_cons (f62_ctr k) (ctr_cons (f90_ctr k) (ctr_cons (f167_ctr k) ctr_nil)))) (by kernel_rfl) (by kernel_rfl) (by kernel_rfl) (by kernel_rfl) (f126_eq k)
noncomputable abbrev f126_m : Nat × Callee := (126, mk f126_pk f126_rk f126_F)
abbrev f83_pk : List Kd := [.box [.view (.sl (.int .u8)), .ref [.view (.sl (.int .u8)), .view (.int .i64)], .view (.int .i64)], .view (.int .i64)]
abbrev f83_rk : Kd := .view (.int .i64)
noncomputable def f83_C (k : Nat) := cxX k [f126_m]
def f83_raw0 (k : Nat) : (List Int × (List Int × Int × Unit) × Int × Unit) × Int × Unit → Option (Int × (List Int × (List Int × Int × Unit) × Int × Unit) × Unit)
  | ((a0, (a1, a2, ()), a3, ()), a4, ()) => bif a3 == (0 : Int) then (f126_F k ((a1, a2, ()), a4, ())).bind fun y => some (y.1.1, (a0, (y.2.1.1, y.2.1.2.1, ()), y.1.2.1, ()), ()) else some (0, (a0, (a1, a2, ()), a3, ()), ())
def f83_F (k : Nat) := f83_raw0 k
theorem f83_eq (k : Nat) (x : Kd.dens f83_pk) : runX (f83_C k) nA Tryz.f83 f83_pk f83_rk x = f83_F k x := by
  show _ = f83_raw0 k x
  obtain ⟨⟨a0, ⟨⟨a1, ⟨a2, ⟨⟩⟩⟩, ⟨a3, ⟨⟩⟩⟩⟩, ⟨a4, ⟨⟩⟩⟩ := x
  kernel_rfl
theorem f83_ctr (k : Nat) : Ctr Tryz.prog k 83 (mk f83_pk f83_rk f83_F) :=
  lawX (fn := Tryz.f83) (phi_ok (ctr_cons (f126_ctr k) ctr_nil)) (by kernel_rfl) (by kernel_rfl) (by kernel_rfl) (by kernel_rfl) (f83_eq k)
noncomputable abbrev f83_m : Nat × Callee := (83, mk f83_pk f83_rk f83_F)
abbrev f48_pk : List Kd := [.box [.view (.sl (.int .u8)), .ref [.view (.sl (.int .u8)), .view (.int .i64)], .view (.int .i64)], .view (.int .i64), .fn 28]
abbrev f48_rk : Kd := .tup []
noncomputable def f48_C (k : Nat) := cxX k [f51_m, f82_m, f83_m, f28_m]
def f48_raw0 (k : Nat) : (List Int × (List Int × Int × Unit) × Int × Unit) × Int × Unit × Unit → Option (Unit × (List Int × (List Int × Int × Unit) × Int × Unit) × Unit)
  | ((a0, (a1, a2, ()), a3, ()), a4, (), ()) => (f51_F k ((a1, a2, ()), ())).bind fun y => (f83_F k ((a0, (y.2.1.1, y.2.1.2.1, ()), a3, ()), a4, ())).bind fun y_1 => bif y_1.2.1.2.2.1 != (0 : Int) then (f82_F k ((y_1.2.1.1, (y_1.2.1.2.1.1, y_1.2.1.2.1.2.1, ()), y_1.2.1.2.2.1, ()), true, 16, ())).bind fun y => some ((), (y.2.1.1, (y.2.1.2.1.1, y.2.1.2.1.2.1, ()), y.2.1.2.2.1, ()), ()) else bif decide ((0 : Int) ≤ (0 : Int) ∧ (0 : Int) ≤ IntKind.i64.wrap (Int.tdiv y.1 (8 : Int)) ∧ IntKind.i64.wrap (Int.tdiv y.1 (8 : Int)) ≤ Int.ofNat (List.length y_1.2.1.1)) then (f28_F k (List.drop (0 : Nat) (List.take (IntKind.i64.wrap (Int.tdiv y.1 (8 : Int))).toNat y_1.2.1.1), ())).bind fun y => (f82_F k ((y_1.2.1.1, (y_1.2.1.2.1.1, y_1.2.1.2.1.2.1, ()), y_1.2.1.2.2.1, ()), y_1.1 == y.1, 16, ())).bind fun y => some ((), (y.2.1.1, (y.2.1.2.1.1, y.2.1.2.1.2.1, ()), y.2.1.2.2.1, ()), ()) else none
def f48_F (k : Nat) := f48_raw0 k
theorem f48_eq (k : Nat) (x : Kd.dens f48_pk) : runX (f48_C k) nA Tryz.f48 f48_pk f48_rk x = f48_F k x := by
  show _ = f48_raw0 k x
  obtain ⟨⟨a0, ⟨⟨a1, ⟨a2, ⟨⟩⟩⟩, ⟨a3, ⟨⟩⟩⟩⟩, ⟨a4, ⟨⟨⟩, ⟨⟩⟩⟩⟩ := x
  kernel_rfl
theorem f48_ctr (k : Nat) : Ctr Tryz.prog k 48 (mk f48_pk f48_rk f48_F) :=
  lawX (fn := Tryz.f48) (phi_ok (ctr_cons (f51_ctr k) (ctr_cons (f82_ctr k) (ctr_cons (f83_ctr k) (ctr_cons (f28_ctr k) ctr_nil))))) (by kernel_rfl) (by kernel_rfl) (by kernel_rfl) (by kernel_rfl) (f48_eq k)
noncomputable abbrev f48_m : Nat × Callee := (48, mk f48_pk f48_rk f48_F)
abbrev f84_pk : List Kd := [.view shapeT, .view (.int .i64)]
abbrev f84_rk : Kd := .view .bool
noncomputable def f84_C (k : Nat) := cxX k []
def f84_raw0 (k : Nat) : (Int × Int × Int × Unit) × Int × Unit → Option (Bool × Unit)
  | ((a0, a1, a2, ()), a3, ()) => bif a0 == (1 : Int) then some (a3 == (0 : Int), ()) else bif a3 == (1 : Int) then some (true, ()) else bif decide ((8 : Int) ≤ a3) then some (decide (a3 ≤ (10 : Int)), ()) else some (false, ())
def f84_F (k : Nat) := f84_raw0 k
theorem f84_eq (k : Nat) (x : Kd.dens f84_pk) : runX (f84_C k) nA Tryz.f84 f84_pk f84_rk x = f84_F k x := by
  show _ = f84_raw0 k x
  obtain ⟨⟨a0, ⟨a1, ⟨a2, ⟨⟩⟩⟩⟩, ⟨a3, ⟨⟩⟩⟩ := x
  kernel_rfl
theorem f84_ctr (k : Nat) : Ctr Tryz.prog k 84 (mk f84_pk f84_rk f84_F) :=
  lawX (fn := Tryz.f84) (phi_ok ctr_nil) (by kernel_rfl) (by kernel_rfl) (by kernel_rfl) (by kernel_rfl) (f84_eq k)
noncomputable abbrev f84_m : Nat × Callee := (84, mk f84_pk f84_rk f84_F)
abbrev f186_pk : List Kd := [.view (.int .u8)]
abbrev f186_rk : Kd := .view (.int .i64)
noncomputable def f186_C (k : Nat) := cxX k []
def f186_raw0 (k : Nat) : Int × Unit → Option (Int × Unit)
  | (a0, ()) => bif decide ((0 : Int) ≤ a0 ∧ a0 < (256 : Int)) then some (IntKind.i64.wrap (Int.ofNat ((ByteArray.mk (([0, 1, 2, 2, 3, 3, 3, 3, 4, 4, 4, 4, 4, 4, 4, 4, 5, 5, 5, 5, 5, 5, 5, 5, 5, 5, 5, 5, 5, 5, 5, 5, 6, 6, 6, 6, 6, 6, 6, 6, 6, 6, 6, 6, 6, 6, 6, 6, 6, 6, 6, 6, 6, 6, 6, 6, 6, 6, 6, 6, 6, 6, 6, 6].append [7, 7, 7, 7, 7, 7, 7, 7, 7, 7, 7, 7, 7, 7, 7, 7, 7, 7, 7, 7, 7, 7, 7, 7, 7, 7, 7, 7, 7, 7, 7, 7, 7, 7, 7, 7, 7, 7, 7, 7, 7, 7, 7, 7, 7, 7, 7, 7, 7, 7, 7, 7, 7, 7, 7, 7, 7, 7, 7, 7, 7, 7, 7, 7]).append ([8, 8, 8, 8, 8, 8, 8, 8, 8, 8, 8, 8, 8, 8, 8, 8, 8, 8, 8, 8, 8, 8, 8, 8, 8, 8, 8, 8, 8, 8, 8, 8, 8, 8, 8, 8, 8, 8, 8, 8, 8, 8, 8, 8, 8, 8, 8, 8, 8, 8, 8, 8, 8, 8, 8, 8, 8, 8, 8, 8, 8, 8, 8, 8].append [8, 8, 8, 8, 8, 8, 8, 8, 8, 8, 8, 8, 8, 8, 8, 8, 8, 8, 8, 8, 8, 8, 8, 8, 8, 8, 8, 8, 8, 8, 8, 8, 8, 8, 8, 8, 8, 8, 8, 8, 8, 8, 8, 8, 8, 8, 8, 8, 8, 8, 8, 8, 8, 8, 8, 8, 8, 8, 8, 8, 8, 8, 8, 8])).toArray).data.toList.getD a0.toNat 0).toNat), ()) else none
def f186_F (k : Nat) := f186_raw0 k
theorem f186_eq (k : Nat) (x : Kd.dens f186_pk) : runX (f186_C k) nA Tryz.f186 f186_pk f186_rk x = f186_F k x := by
  show _ = f186_raw0 k x
  obtain ⟨a0, ⟨⟩⟩ := x
  kernel_rfl
theorem f186_ctr (k : Nat) : Ctr Tryz.prog k 186 (mk f186_pk f186_rk f186_F) :=
  lawX (fn := Tryz.f186) (phi_ok ctr_nil) (by kernel_rfl) (by kernel_rfl) (by kernel_rfl) (by kernel_rfl) (f186_eq k)
noncomputable abbrev f186_m : Nat × Callee := (186, mk f186_pk f186_rk f186_F)
abbrev f168_pk : List Kd := [.view (.int .u8)]
abbrev f168_rk : Kd := .view (.int .i64)
noncomputable def f168_C (k : Nat) := cxX k [f186_m]
def f168_raw0 (k : Nat) : Int × Unit → Option (Int × Unit)
  | (a0, ()) => (f186_F k (a0, ())).bind fun y => some (IntKind.i64.wrap ((8 : Int) - y.1), ())
def f168_F (k : Nat) := f168_raw0 k
theorem f168_eq (k : Nat) (x : Kd.dens f168_pk) : runX (f168_C k) nA Tryz.f168 f168_pk f168_rk x = f168_F k x := by
  show _ = f168_raw0 k x
  obtain ⟨a0, ⟨⟩⟩ := x
  kernel_rfl
theorem f168_ctr (k : Nat) : Ctr Tryz.prog k 168 (mk f168_pk f168_rk f168_F) :=
  lawX (fn := Tryz.f168) (phi_ok (ctr_cons (f186_ctr k) ctr_nil)) (by kernel_rfl) (by kernel_rfl) (by kernel_rfl) (by kernel_rfl) (f168_eq k)
noncomputable abbrev f168_m : Nat × Callee := (168, mk f168_pk f168_rk f168_F)
abbrev f127_pk : List Kd := [.view (.sl (.int .u8))]
abbrev f127_rk : Kd := .tup [.view (.int .i64), .view (.int .i64), .view (.int .i64)]
noncomputable def f127_C (k : Nat) := cxX k [f64_m, f168_m]
def f127_A : Nat → Ann := fun id => bif Nat.beq id 10 then ⟨[8, 5, 0, 6, 7], []⟩ else ⟨[], []⟩
abbrev f127_T1 := Int × Int × List Int × Int × Int
abbrev f127_K1 := f127_T1 → Option ((Int × Int × Int × Unit) × Unit)
def f127_S1 : f127_T1 → St
  | (v0, v1, v2, v3, v4) => St.mk (envOf [(nat_lit 8, avI v0), (nat_lit 5, avI v1), (nat_lit 0, AV.val (PV.sl (Ty.int IntKind.u8) v2)), (nat_lit 6, avI v3), (nat_lit 7, avI v4)]) (tblOf [])
def f127_raw1 (k : Nat) (L1 : f127_K1) : f127_K1
  | (v0, v1, v2, v3, v4) => bif decide (v0 < v1) then bif decide (v0 < Int.ofNat v2.length) then bif decide ((0 : Int) ≤ v0 ∧ v0 < Int.ofNat v2.length) then bif Int.fdiv (v2.getD v0.toNat 0) (64 : Int) != (2 : Int) then some ((0, 0, 2, ()), ()) else bif decide ((0 : Int) ≤ v0 ∧ v0 < Int.ofNat v2.length) then L1 (IntKind.i64.wrap (v0 + (1 : Int)), v1, v2, IntKind.i64.wrap (Int.ofNat (BitVec.ofInt (64 : Nat) (IntKind.i64.wrap (v3 * (64 : Int))) ||| BitVec.ofInt (64 : Nat) (IntKind.i64.wrap (Int.ofNat (BitVec.ofInt (64 : Nat) (IntKind.i64.wrap (v2.getD v0.toNat 0)) &&& BitVec.ofInt (64 : Nat) (63 : Int)).toNat))).toNat), IntKind.i64.wrap (Int.ofNat (BitVec.ofInt (64 : Nat) (IntKind.i64.wrap (v4 * (64 : Int))) ||| BitVec.ofInt (64 : Nat) (IntKind.i64.wrap (Int.ofNat (BitVec.ofInt (64 : Nat) (IntKind.i64.wrap (v2.getD v0.toNat 0)) &&& BitVec.ofInt (64 : Nat) (63 : Int)).toNat))).toNat)) else none else none else L1 (IntKind.i64.wrap (v0 + (1 : Int)), v1, v2, IntKind.i64.wrap (Int.ofNat (BitVec.ofInt (64 : Nat) (IntKind.i64.wrap (v3 * (64 : Int))) ||| BitVec.ofInt (64 : Nat) (0 : Int)).toNat), IntKind.i64.wrap (Int.ofNat (BitVec.ofInt (64 : Nat) (IntKind.i64.wrap (v4 * (64 : Int))) ||| BitVec.ofInt (64 : Nat) (63 : Int)).toNat)) else (f64_F k (IntKind.i64.wrap (v1 - (1 : Int)), ())).bind fun y => bif decide ((0 : Int) ≤ y.1) then bif decide (v4 < IntKind.i64.wrap ((1 : Int) * (2 : Int) ^ min (Int.toNat y.1) (64 : Nat))) then some ((0, 0, 2, ()), ()) else bif decide (Int.ofNat v2.length < v1) then some ((0, 0, 10, ()), ()) else some ((v3, v1, 0, ()), ()) else none
def f127_L1 (k : Nat) : f127_K1 := iter (fun L1 => f127_raw1 k L1) k
noncomputable def f127_at1 (k : Nat) (n : Nat) (v : f127_T1) : Option ((Int × Int × Int × Unit) × Unit) :=
  loopAt (f127_C k) f127_A [] [1, 1, 1, 1, 1, 0, 1, 0] [] (cdX Tryz.f127) (lvX (f127_C k) Tryz.f127 f127_pk f127_rk [] []) n (f127_S1 v)
def f127_raw0 (k : Nat) (L1 : f127_K1) : List Int × Unit → Option ((Int × Int × Int × Unit) × Unit)
  | (a0, ()) => bif Int.ofNat a0.length == (0 : Int) then some ((0, 0, 10, ()), ()) else bif decide ((0 : Int) ≤ (0 : Int) ∧ (0 : Int) < Int.ofNat a0.length) then (f168_F k (IntKind.u8.wrap (Int.ofNat (BitVec.ofInt (8 : Nat) (255 : Int) ^^^ BitVec.ofInt (8 : Nat) (a0.getD (0 : Nat) 0)).toNat), ())).bind fun y => bif y.1 == (0 : Int) then bif decide ((0 : Int) ≤ (0 : Int) ∧ (0 : Int) < Int.ofNat a0.length) then some ((IntKind.i64.wrap (a0.getD (0 : Nat) 0), 1, 0, ()), ()) else none else bif y.1 == (1 : Int) then some ((0, 0, 2, ()), ()) else bif decide ((7 : Int) < y.1) then some ((0, 0, 2, ()), ()) else bif decide ((0 : Int) ≤ (0 : Int) ∧ (0 : Int) < Int.ofNat a0.length) then bif decide ((0 : Int) ≤ y.1) then bif decide ((0 : Int) ≤ (0 : Int) ∧ (0 : Int) < Int.ofNat a0.length) then bif decide ((0 : Int) ≤ y.1) then L1 ((1 : Int), y.1, a0, IntKind.i64.wrap (Int.ofNat (BitVec.ofInt (64 : Nat) (IntKind.i64.wrap (a0.getD (0 : Nat) 0)) &&& BitVec.ofInt (64 : Nat) (Int.fdiv (127 : Int) ((2 : Int) ^ min (Int.toNat y.1) (64 : Nat)))).toNat), IntKind.i64.wrap (Int.ofNat (BitVec.ofInt (64 : Nat) (IntKind.i64.wrap (a0.getD (0 : Nat) 0)) &&& BitVec.ofInt (64 : Nat) (Int.fdiv (127 : Int) ((2 : Int) ^ min (Int.toNat y.1) (64 : Nat)))).toNat)) else none else none else none else none else none
def f127_F (k : Nat) := f127_raw0 k (f127_L1 k)
theorem f127_law1 (k : Nat) : ∀ n, f127_at1 k n = iter (fun L1 => f127_raw1 k L1) n :=
  iter_law (fun v => by kernel_rfl) (fun n v => by
    show f127_at1 k (n + 1) v = f127_raw1 k (f127_at1 k n) v
    obtain ⟨v0, v1, v2, v3, v4⟩ := v
    kernel_rfl)
theorem f127_eq (k : Nat) (x : Kd.dens f127_pk) : runX (f127_C k) f127_A Tryz.f127 f127_pk f127_rk x = f127_F k x := by
  show _ = f127_raw0 k (f127_L1 k) x
  rw [show f127_L1 k = f127_at1 k k from (f127_law1 k k).symm]
  obtain ⟨a0, ⟨⟩⟩ := x
  kernel_rfl
theorem f127_ctr (k : Nat) : Ctr Tryz.prog k 127 (mk f127_pk f127_rk f127_F) :=
  lawX (fn := Tryz.f127) (phi_ok (ctr_cons (f64_ctr k) (ctr_cons (f168_ctr k) ctr_nil))) (by kernel_rfl) (by kernel_rfl) (by kernel_rfl) (by kernel_rfl) (f127_eq k)
noncomputable abbrev f127_m : Nat × Callee := (127, mk f127_pk f127_rk f127_F)
abbrev f85_pk : List Kd := [.box [.view (.sl (.int .u8)), .ref [.view (.sl (.int .u8)), .view (.int .i64)], .view (.int .i64)]]
abbrev f85_rk : Kd := .view (.int .i64)
noncomputable def f85_C (k : Nat) := cxX k [f51_m, f82_m, f83_m, f127_m]
def f85_A : Nat → Ann := fun id => bif Nat.beq id 6 then ⟨[31, 32, 0, 3], []⟩ else ⟨[], []⟩
abbrev f85_T1 := Int × Int × Int × List Int × Int × List Int × Int
abbrev f85_K1 := f85_T1 → Option (Int × (List Int × (List Int × Int × Unit) × Int × Unit) × Unit)
def f85_S1 : f85_T1 → St
  | (v0, v1, v2, v3, v4, v5, v6) => St.mk (envOf [(nat_lit 31, avI v0), (nat_lit 32, avI v1), (nat_lit 0, AV.bx (nat_lit 0) (nat_lit 0)), (nat_lit 3, avI v2)]) (tblOf [(nat_lit 0, RS.live (Res.box [AV.val (PV.sl (Ty.int IntKind.u8) v3), AV.bx (nat_lit 1) (nat_lit 0), avI v4])), (nat_lit 1, RS.live (Res.box [AV.val (PV.sl (Ty.int IntKind.u8) v5), avI v6]))])
def f85_raw1 (k : Nat) (L1 : f85_K1) : f85_K1
  | (v0, v1, v2, v3, v4, v5, v6) => bif decide (v1 < v0) then (f83_F k ((v3, (v5, v6, ()), v4, ()), 8, ())).bind fun y => L1 (v0, IntKind.i64.wrap (v1 + (1 : Int)), v2, y.2.1.1, y.2.1.2.2.1, y.2.1.2.1.1, y.2.1.2.1.2.1) else (f82_F k ((v3, (v5, v6, ()), v4, ()), decide (v2 ≤ (2147483647 : Int)), 2, ())).bind fun y => some (v2, (y.2.1.1, (y.2.1.2.1.1, y.2.1.2.1.2.1, ()), y.2.1.2.2.1, ()), ())
def f85_L1 (k : Nat) : f85_K1 := iter (fun L1 => f85_raw1 k L1) k
noncomputable def f85_at1 (k : Nat) (n : Nat) (v : f85_T1) : Option (Int × (List Int × (List Int × Int × Unit) × Int × Unit) × Unit) :=
  loopAt (f85_C k) f85_A [0, 1] [1, 1, 1, 1, 0, 1, 0] [] (cdX Tryz.f85) (lvX (f85_C k) Tryz.f85 f85_pk f85_rk [AV.bx (nat_lit 0) (nat_lit 0)] [[1]]) n (f85_S1 v)
def f85_raw0 (k : Nat) (L1 : f85_K1) : (List Int × (List Int × Int × Unit) × Int × Unit) × Unit → Option (Int × (List Int × (List Int × Int × Unit) × Int × Unit) × Unit)
  | ((a0, (a1, a2, ()), a3, ()), ()) => bif a3 != (0 : Int) then some (0, (a0, (a1, a2, ()), a3, ()), ()) else (f51_F k ((a1, a2, ()), ())).bind fun y => bif decide ((0 : Int) ≤ IntKind.i64.wrap (Int.tdiv y.1 (8 : Int)) ∧ IntKind.i64.wrap (Int.tdiv y.1 (8 : Int)) ≤ Int.ofNat a0.length ∧ Int.ofNat a0.length ≤ Int.ofNat a0.length) then (f127_F k (List.drop (IntKind.i64.wrap (Int.tdiv y.1 (8 : Int))).toNat (List.take (Int.ofNat a0.length).toNat a0), ())).bind fun y_1 => L1 (y_1.1.2.1, (0 : Int), y_1.1.1, a0, y_1.1.2.2.1, y.2.1.1, y.2.1.2.1) else none
def f85_F (k : Nat) := f85_raw0 k (f85_L1 k)
theorem f85_law1 (k : Nat) : ∀ n, f85_at1 k n = iter (fun L1 => f85_raw1 k L1) n :=
  iter_law (fun v => by kernel_rfl) (fun n v => by
    show f85_at1 k (n + 1) v = f85_raw1 k (f85_at1 k n) v
    obtain ⟨v0, v1, v2, v3, v4, v5, v6⟩ := v
    kernel_rfl)
theorem f85_eq (k : Nat) (x : Kd.dens f85_pk) : runX (f85_C k) f85_A Tryz.f85 f85_pk f85_rk x = f85_F k x := by
  show _ = f85_raw0 k (f85_L1 k) x
  rw [show f85_L1 k = f85_at1 k k from (f85_law1 k k).symm]
  obtain ⟨⟨a0, ⟨⟨a1, ⟨a2, ⟨⟩⟩⟩, ⟨a3, ⟨⟩⟩⟩⟩, ⟨⟩⟩ := x
  kernel_rfl
theorem f85_ctr (k : Nat) : Ctr Tryz.prog k 85 (mk f85_pk f85_rk f85_F) :=
  lawX (fn := Tryz.f85) (phi_ok (ctr_cons (f51_ctr k) (ctr_cons (f82_ctr k) (ctr_cons (f83_ctr k) (ctr_cons (f127_ctr k) ctr_nil))))) (by kernel_rfl) (by kernel_rfl) (by kernel_rfl) (by kernel_rfl) (f85_eq k)
noncomputable abbrev f85_m : Nat × Callee := (85, mk f85_pk f85_rk f85_F)
abbrev f45_pk : List Kd := [.box [.view (.sl (.int .u8)), .ref [.view (.sl (.int .u8)), .view (.int .i64)], .view (.int .i64)], .view shapeT]
abbrev f45_rk : Kd := .tup [.view (.int .i64), .view (.int .i64), .view (.int .i64)]
noncomputable def f45_C (k : Nat) := cxX k [f48_m, f82_m, f83_m, f84_m, f85_m]
def f45_raw0 (k : Nat) : (List Int × (List Int × Int × Unit) × Int × Unit) × (Int × Int × Int × Unit) × Unit → Option ((Int × Int × Int × Unit) × (List Int × (List Int × Int × Unit) × Int × Unit) × Unit)
  | ((a0, (a1, a2, ()), a3, ()), (a4, a5, a6, ()), ()) => (f83_F k ((a0, (a1, a2, ()), a3, ()), 15, ())).bind fun y => (f82_F k ((y.2.1.1, (y.2.1.2.1.1, y.2.1.2.1.2.1, ()), y.2.1.2.2.1, ()), y.1 == (32764 : Int), 11, ())).bind fun y => (f83_F k ((y.2.1.1, (y.2.1.2.1.1, y.2.1.2.1.2.1, ()), y.2.1.2.2.1, ()), 1, ())).bind fun y => (f82_F k ((y.2.1.1, (y.2.1.2.1.1, y.2.1.2.1.2.1, ()), y.2.1.2.2.1, ()), y.1 == (0 : Int), 2, ())).bind fun y => (f83_F k ((y.2.1.1, (y.2.1.2.1.1, y.2.1.2.1.2.1, ()), y.2.1.2.2.1, ()), 4, ())).bind fun y => bif y.1 == (6 : Int) then (f82_F k ((y.2.1.1, (y.2.1.2.1.1, y.2.1.2.1.2.1, ()), y.2.1.2.2.1, ()), true, 2, ())).bind fun y_1 => (f83_F k ((y_1.2.1.1, (y_1.2.1.2.1.1, y_1.2.1.2.1.2.1, ()), y_1.2.1.2.2.1, ()), 4, ())).bind fun y_2 => (f82_F k ((y_2.2.1.1, (y_2.2.1.2.1.1, y_2.2.1.2.1.2.1, ()), y_2.2.1.2.2.1, ()), y_2.1 == (0 : Int), 2, ())).bind fun y_3 => (f83_F k ((y_3.2.1.1, (y_3.2.1.2.1.1, y_3.2.1.2.1.2.1, ()), y_3.2.1.2.2.1, ()), 4, ())).bind fun y_4 => (f84_F k ((a4, a5, a6, ()), y_4.1, ())).bind fun y_5 => (f82_F k ((y_4.2.1.1, (y_4.2.1.2.1.1, y_4.2.1.2.1.2.1, ()), y_4.2.1.2.2.1, ()), y_5.1, 2, ())).bind fun y_6 => (f83_F k ((y_6.2.1.1, (y_6.2.1.2.1.1, y_6.2.1.2.1.2.1, ()), y_6.2.1.2.2.1, ()), 4, ())).bind fun y_7 => (f82_F k ((y_7.2.1.1, (y_7.2.1.2.1.1, y_7.2.1.2.1.2.1, ()), y_7.2.1.2.2.1, ()), y_7.1 == (0 : Int), 2, ())).bind fun y_8 => (f85_F k ((y_8.2.1.1, (y_8.2.1.2.1.1, y_8.2.1.2.1.2.1, ()), y_8.2.1.2.2.1, ()), ())).bind fun y_9 => bif y_9.2.1.2.2.1 == (0 : Int) then (f83_F k ((y_9.2.1.1, (y_9.2.1.2.1.1, y_9.2.1.2.1.2.1, ()), y_9.2.1.2.2.1, ()), IntKind.i64.wrap ((8 : Int) * IntKind.i64.wrap (IntKind.i64.wrap (y.1 - (6 : Int)) + (1 : Int))), ())).bind fun y => (f82_F k ((y.2.1.1, (y.2.1.2.1.1, y.2.1.2.1.2.1, ()), y.2.1.2.2.1, ()), decide (IntKind.i64.wrap (y.1 + (1 : Int)) ≤ (512 : Int)), 1, ())).bind fun y_10 => (f48_F k ((y_10.2.1.1, (y_10.2.1.2.1.1, y_10.2.1.2.1.2.1, ()), y_10.2.1.2.2.1, ()), 8, (), ())).bind fun y_11 => some ((y_4.1, y_9.1, IntKind.i64.wrap (y.1 + (1 : Int)), ()), (y_11.2.1.1, (y_11.2.1.2.1.1, y_11.2.1.2.1.2.1, ()), y_11.2.1.2.2.1, ()), ()) else (f82_F k ((y_9.2.1.1, (y_9.2.1.2.1.1, y_9.2.1.2.1.2.1, ()), y_9.2.1.2.2.1, ()), decide ((0 : Int) ≤ (512 : Int)), 1, ())).bind fun y => (f48_F k ((y.2.1.1, (y.2.1.2.1.1, y.2.1.2.1.2.1, ()), y.2.1.2.2.1, ()), 8, (), ())).bind fun y => some ((y_4.1, y_9.1, 0, ()), (y.2.1.1, (y.2.1.2.1.1, y.2.1.2.1.2.1, ()), y.2.1.2.2.1, ()), ()) else (f82_F k ((y.2.1.1, (y.2.1.2.1.1, y.2.1.2.1.2.1, ()), y.2.1.2.2.1, ()), y.1 == (7 : Int), 2, ())).bind fun y_1 => (f83_F k ((y_1.2.1.1, (y_1.2.1.2.1.1, y_1.2.1.2.1.2.1, ()), y_1.2.1.2.2.1, ()), 4, ())).bind fun y_2 => (f82_F k ((y_2.2.1.1, (y_2.2.1.2.1.1, y_2.2.1.2.1.2.1, ()), y_2.2.1.2.2.1, ()), y_2.1 == (0 : Int), 2, ())).bind fun y_3 => (f83_F k ((y_3.2.1.1, (y_3.2.1.2.1.1, y_3.2.1.2.1.2.1, ()), y_3.2.1.2.2.1, ()), 4, ())).bind fun y_4 => (f84_F k ((a4, a5, a6, ()), y_4.1, ())).bind fun y_5 => (f82_F k ((y_4.2.1.1, (y_4.2.1.2.1.1, y_4.2.1.2.1.2.1, ()), y_4.2.1.2.2.1, ()), y_5.1, 2, ())).bind fun y_6 => (f83_F k ((y_6.2.1.1, (y_6.2.1.2.1.1, y_6.2.1.2.1.2.1, ()), y_6.2.1.2.2.1, ()), 4, ())).bind fun y_7 => (f82_F k ((y_7.2.1.1, (y_7.2.1.2.1.1, y_7.2.1.2.1.2.1, ()), y_7.2.1.2.2.1, ()), y_7.1 == (0 : Int), 2, ())).bind fun y_8 => (f85_F k ((y_8.2.1.1, (y_8.2.1.2.1.1, y_8.2.1.2.1.2.1, ()), y_8.2.1.2.2.1, ()), ())).bind fun y_9 => bif y_9.2.1.2.2.1 == (0 : Int) then (f83_F k ((y_9.2.1.1, (y_9.2.1.2.1.1, y_9.2.1.2.1.2.1, ()), y_9.2.1.2.2.1, ()), IntKind.i64.wrap ((8 : Int) * IntKind.i64.wrap (IntKind.i64.wrap (y.1 - (6 : Int)) + (1 : Int))), ())).bind fun y => (f82_F k ((y.2.1.1, (y.2.1.2.1.1, y.2.1.2.1.2.1, ()), y.2.1.2.2.1, ()), decide (IntKind.i64.wrap (y.1 + (1 : Int)) ≤ (512 : Int)), 1, ())).bind fun y_10 => (f48_F k ((y_10.2.1.1, (y_10.2.1.2.1.1, y_10.2.1.2.1.2.1, ()), y_10.2.1.2.2.1, ()), 8, (), ())).bind fun y_11 => some ((y_4.1, y_9.1, IntKind.i64.wrap (y.1 + (1 : Int)), ()), (y_11.2.1.1, (y_11.2.1.2.1.1, y_11.2.1.2.1.2.1, ()), y_11.2.1.2.2.1, ()), ()) else (f82_F k ((y_9.2.1.1, (y_9.2.1.2.1.1, y_9.2.1.2.1.2.1, ()), y_9.2.1.2.2.1, ()), decide ((0 : Int) ≤ (512 : Int)), 1, ())).bind fun y => (f48_F k ((y.2.1.1, (y.2.1.2.1.1, y.2.1.2.1.2.1, ()), y.2.1.2.2.1, ()), 8, (), ())).bind fun y => some ((y_4.1, y_9.1, 0, ()), (y.2.1.1, (y.2.1.2.1.1, y.2.1.2.1.2.1, ()), y.2.1.2.2.1, ()), ())
def f45_F (k : Nat) := f45_raw0 k
theorem f45_eq (k : Nat) (x : Kd.dens f45_pk) : runX (f45_C k) nA Tryz.f45 f45_pk f45_rk x = f45_F k x := by
  show _ = f45_raw0 k x
  obtain ⟨⟨a0, ⟨⟨a1, ⟨a2, ⟨⟩⟩⟩, ⟨a3, ⟨⟩⟩⟩⟩, ⟨⟨a4, ⟨a5, ⟨a6, ⟨⟩⟩⟩⟩, ⟨⟩⟩⟩ := x
  kernel_rfl
theorem f45_ctr (k : Nat) : Ctr Tryz.prog k 45 (mk f45_pk f45_rk f45_F) :=
  lawX (fn := Tryz.f45) (phi_ok (ctr_cons (f48_ctr k) (ctr_cons (f82_ctr k) (ctr_cons (f83_ctr k) (ctr_cons (f84_ctr k) (ctr_cons (f85_ctr k) ctr_nil)))))) (by kernel_rfl) (by kernel_rfl) (by kernel_rfl) (by kernel_rfl) (f45_eq k)
noncomputable abbrev f45_m : Nat × Callee := (45, mk f45_pk f45_rk f45_F)
abbrev f128_pk : List Kd := [.box [.ref [.view (.sl (.int .u8)), .view (.int .i64)], .view (.int .i64)], .view .bool]
abbrev f128_rk : Kd := .tup []
noncomputable def f128_C (k : Nat) := cxX k []
def f128_raw0 (k : Nat) : ((List Int × Int × Unit) × Int × Unit) × Bool × Unit → Option (Unit × ((List Int × Int × Unit) × Int × Unit) × Unit)
  | (((a0, a1, ()), a2, ()), a3, ()) => bif a2 == (0 : Int) then bif !a3 then some ((), ((a0, a1, ()), 2, ()), ()) else some ((), ((a0, a1, ()), a2, ()), ()) else some ((), ((a0, a1, ()), a2, ()), ())
def f128_F (k : Nat) := f128_raw0 k
theorem f128_eq (k : Nat) (x : Kd.dens f128_pk) : runX (f128_C k) nA Tryz.f128 f128_pk f128_rk x = f128_F k x := by
  show _ = f128_raw0 k x
  obtain ⟨⟨⟨a0, ⟨a1, ⟨⟩⟩⟩, ⟨a2, ⟨⟩⟩⟩, ⟨a3, ⟨⟩⟩⟩ := x
  kernel_rfl
theorem f128_ctr (k : Nat) : Ctr Tryz.prog k 128 (mk f128_pk f128_rk f128_F) :=
  lawX (fn := Tryz.f128) (phi_ok ctr_nil) (by kernel_rfl) (by kernel_rfl) (by kernel_rfl) (by kernel_rfl) (f128_eq k)
noncomputable abbrev f128_m : Nat × Callee := (128, mk f128_pk f128_rk f128_F)
abbrev f129_pk : List Kd := [.box [.ref [.view (.sl (.int .u8)), .view (.int .i64)], .view (.int .i64)], .view (.int .i64)]
abbrev f129_rk : Kd := .view (.int .i64)
noncomputable def f129_C (k : Nat) := cxX k [f126_m]
def f129_raw0 (k : Nat) : ((List Int × Int × Unit) × Int × Unit) × Int × Unit → Option (Int × ((List Int × Int × Unit) × Int × Unit) × Unit)
  | (((a0, a1, ()), a2, ()), a3, ()) => bif a2 == (0 : Int) then (f126_F k ((a0, a1, ()), a3, ())).bind fun y => some (y.1.1, ((y.2.1.1, y.2.1.2.1, ()), y.1.2.1, ()), ()) else some (0, ((a0, a1, ()), a2, ()), ())
def f129_F (k : Nat) := f129_raw0 k
theorem f129_eq (k : Nat) (x : Kd.dens f129_pk) : runX (f129_C k) nA Tryz.f129 f129_pk f129_rk x = f129_F k x := by
  show _ = f129_raw0 k x
  obtain ⟨⟨⟨a0, ⟨a1, ⟨⟩⟩⟩, ⟨a2, ⟨⟩⟩⟩, ⟨a3, ⟨⟩⟩⟩ := x
  kernel_rfl
theorem f129_ctr (k : Nat) : Ctr Tryz.prog k 129 (mk f129_pk f129_rk f129_F) :=
  lawX (fn := Tryz.f129) (phi_ok (ctr_cons (f126_ctr k) ctr_nil)) (by kernel_rfl) (by kernel_rfl) (by kernel_rfl) (by kernel_rfl) (f129_eq k)
noncomputable abbrev f129_m : Nat × Callee := (129, mk f129_pk f129_rk f129_F)
abbrev f130_pk : List Kd := [.view (.int .i64)]
abbrev f130_rk : Kd := .view .bool
noncomputable def f130_C (k : Nat) := cxX k []
def f130_raw0 (k : Nat) : Int × Unit → Option (Bool × Unit)
  | (a0, ()) => bif a0 == (0 : Int) then some (true, ()) else bif a0 == (1 : Int) then some (true, ()) else bif decide ((8 : Int) ≤ a0) then bif decide (a0 ≤ (12 : Int)) then some (true, ()) else bif decide ((31 : Int) < a0) then some (decide (a0 ≤ (39 : Int)), ()) else some (false, ()) else bif decide ((31 : Int) < a0) then some (decide (a0 ≤ (39 : Int)), ()) else some (false, ())
def f130_F (k : Nat) := f130_raw0 k
theorem f130_eq (k : Nat) (x : Kd.dens f130_pk) : runX (f130_C k) nA Tryz.f130 f130_pk f130_rk x = f130_F k x := by
  show _ = f130_raw0 k x
  obtain ⟨a0, ⟨⟩⟩ := x
  kernel_rfl
theorem f130_ctr (k : Nat) : Ctr Tryz.prog k 130 (mk f130_pk f130_rk f130_F) :=
  lawX (fn := Tryz.f130) (phi_ok ctr_nil) (by kernel_rfl) (by kernel_rfl) (by kernel_rfl) (by kernel_rfl) (f130_eq k)
noncomputable abbrev f130_m : Nat × Callee := (130, mk f130_pk f130_rk f130_F)
abbrev f131_pk : List Kd := [.box [.view (.sl (.int .u8)), .view (.int .i64)]]
abbrev f131_rk : Kd := .tup [.view (.int .i64), .view (.int .i64)]
noncomputable def f131_C (k : Nat) := cxX k [f90_m]
def f131_A : Nat → Ann := fun id => bif Nat.beq id 4 then ⟨[4, 0], []⟩ else ⟨[], []⟩
abbrev f131_T1 := Int × List Int × Int
abbrev f131_K1 := f131_T1 → Option ((Int × Int × Unit) × (List Int × Int × Unit) × Unit)
def f131_S1 : f131_T1 → St
  | (v0, v1, v2) => St.mk (envOf [(nat_lit 4, avI v0), (nat_lit 0, AV.bx (nat_lit 0) (nat_lit 0))]) (tblOf [(nat_lit 0, RS.live (Res.box [AV.val (PV.sl (Ty.int IntKind.u8) v1), avI v2]))])
def f131_raw1 (k : Nat) (L1 : f131_K1) : f131_K1
  | (v0, v1, v2) => bif decide (v0 < IntKind.i64.wrap ((8 : Int) * Int.ofNat v1.length)) then (f90_F k ((v1, v2, ()), v0, ())).bind fun y => bif y.1 == (1 : Int) then some ((IntKind.i64.wrap (v0 - y.2.1.2.1), 0, ()), (y.2.1.1, IntKind.i64.wrap (v0 + (1 : Int)), ()), ()) else L1 (IntKind.i64.wrap (v0 + (1 : Int)), y.2.1.1, y.2.1.2.1) else some ((0, 10, ()), (v1, v2, ()), ())
def f131_L1 (k : Nat) : f131_K1 := iter (fun L1 => f131_raw1 k L1) k
noncomputable def f131_at1 (k : Nat) (n : Nat) (v : f131_T1) : Option ((Int × Int × Unit) × (List Int × Int × Unit) × Unit) :=
  loopAt (f131_C k) f131_A [0] [1, 1, 0, 1, 0] [] (cdX Tryz.f131) (lvX (f131_C k) Tryz.f131 f131_pk f131_rk [AV.bx (nat_lit 0) (nat_lit 0)] [[]]) n (f131_S1 v)
def f131_raw0 (k : Nat) (L1 : f131_K1) : (List Int × Int × Unit) × Unit → Option ((Int × Int × Unit) × (List Int × Int × Unit) × Unit)
  | ((a0, a1, ()), ()) => L1 (a1, a0, a1)
def f131_F (k : Nat) := f131_raw0 k (f131_L1 k)
theorem f131_law1 (k : Nat) : ∀ n, f131_at1 k n = iter (fun L1 => f131_raw1 k L1) n :=
  iter_law (fun v => by kernel_rfl) (fun n v => by
    show f131_at1 k (n + 1) v = f131_raw1 k (f131_at1 k n) v
    obtain ⟨v0, v1, v2⟩ := v
    kernel_rfl)
theorem f131_eq (k : Nat) (x : Kd.dens f131_pk) : runX (f131_C k) f131_A Tryz.f131 f131_pk f131_rk x = f131_F k x := by
  show _ = f131_raw0 k (f131_L1 k) x
  rw [show f131_L1 k = f131_at1 k k from (f131_law1 k k).symm]
  obtain ⟨⟨a0, ⟨a1, ⟨⟩⟩⟩, ⟨⟩⟩ := x
  kernel_rfl
theorem f131_ctr (k : Nat) : Ctr Tryz.prog k 131 (mk f131_pk f131_rk f131_F) :=
  lawX (fn := Tryz.f131) (phi_ok (ctr_cons (f90_ctr k) ctr_nil)) (by kernel_rfl) (by kernel_rfl) (by kernel_rfl) (by kernel_rfl) (f131_eq k)
noncomputable abbrev f131_m : Nat × Callee := (131, mk f131_pk f131_rk f131_F)
abbrev f87_pk : List Kd := [.box [.ref [.view (.sl (.int .u8)), .view (.int .i64)], .view (.int .i64)], .view (.int .i64)]
abbrev f87_rk : Kd := .tup [.view (.int .i64), .view (.int .i64)]
noncomputable def f87_C (k : Nat) := cxX k [f128_m, f129_m, f130_m, f131_m]
def f87_raw0 (k : Nat) : ((List Int × Int × Unit) × Int × Unit) × Int × Unit → Option ((Int × Int × Unit) × ((List Int × Int × Unit) × Int × Unit) × Unit)
  | (((a0, a1, ()), a2, ()), a3, ()) => (f129_F k (((a0, a1, ()), a2, ()), 1, ())).bind fun y => (f128_F k (((y.2.1.1.1, y.2.1.1.2.1, ()), y.2.1.2.1, ()), y.1 == (0 : Int), ())).bind fun y => (f129_F k (((y.2.1.1.1, y.2.1.1.2.1, ()), y.2.1.2.1, ()), 6, ())).bind fun y => (f130_F k (y.1, ())).bind fun y_1 => (f128_F k (((y.2.1.1.1, y.2.1.1.2.1, ()), y.2.1.2.1, ()), y_1.1, ())).bind fun y_2 => (f129_F k (((y_2.2.1.1.1, y_2.2.1.1.2.1, ()), y_2.2.1.2.1, ()), 1, ())).bind fun y_3 => bif y_3.1 == (1 : Int) then bif y_3.2.1.2.1 == (0 : Int) then (f131_F k ((y_3.2.1.1.1, y_3.2.1.1.2.1, ()), ())).bind fun y_4 => (f128_F k (((y_4.2.1.1, y_4.2.1.2.1, ()), y_4.1.2.1, ()), decide (IntKind.i64.wrap (y_4.1.1 + (1 : Int)) < a3), ())).bind fun y_5 => some ((y.1, IntKind.i64.wrap (y_4.1.1 + (1 : Int)), ()), ((y_5.2.1.1.1, y_5.2.1.1.2.1, ()), y_5.2.1.2.1, ()), ()) else (f128_F k (((y_3.2.1.1.1, y_3.2.1.1.2.1, ()), y_3.2.1.2.1, ()), decide ((0 : Int) < a3), ())).bind fun y_4 => some ((y.1, 0, ()), ((y_4.2.1.1.1, y_4.2.1.1.2.1, ()), y_4.2.1.2.1, ()), ()) else (f128_F k (((y_3.2.1.1.1, y_3.2.1.1.2.1, ()), y_3.2.1.2.1, ()), decide ((0 : Int) < a3), ())).bind fun y_4 => some ((y.1, 0, ()), ((y_4.2.1.1.1, y_4.2.1.1.2.1, ()), y_4.2.1.2.1, ()), ())
def f87_F (k : Nat) := f87_raw0 k
theorem f87_eq (k : Nat) (x : Kd.dens f87_pk) : runX (f87_C k) nA Tryz.f87 f87_pk f87_rk x = f87_F k x := by
  show _ = f87_raw0 k x
  obtain ⟨⟨⟨a0, ⟨a1, ⟨⟩⟩⟩, ⟨a2, ⟨⟩⟩⟩, ⟨a3, ⟨⟩⟩⟩ := x
  kernel_rfl
theorem f87_ctr (k : Nat) : Ctr Tryz.prog k 87 (mk f87_pk f87_rk f87_F) :=
  lawX (fn := Tryz.f87) (phi_ok (ctr_cons (f128_ctr k) (ctr_cons (f129_ctr k) (ctr_cons (f130_ctr k) (ctr_cons (f131_ctr k) ctr_nil))))) (by kernel_rfl) (by kernel_rfl) (by kernel_rfl) (by kernel_rfl) (f87_eq k)
noncomputable abbrev f87_m : Nat × Callee := (87, mk f87_pk f87_rk f87_F)
abbrev f187_pk : List Kd := [.view (.int .u32), .view (.int .u32)]
abbrev f187_rk : Kd := .tup [.view (.int .u32), .view (.int .u32)]
noncomputable def f187_C (k : Nat) := cxX k []
def f187_raw0 (k : Nat) : Int × Int × Unit → Option ((Int × Int × Unit) × Unit)
  | (a0, a1, ()) => some ((IntKind.u32.wrap ((IntKind.u64.wrap (IntKind.u64.wrap a0 * IntKind.u64.wrap a1)).fdiv (4294967296 : Int)), IntKind.u32.wrap (IntKind.u64.wrap (IntKind.u64.wrap a0 * IntKind.u64.wrap a1)), ()), ())
def f187_F (k : Nat) := f187_raw0 k
theorem f187_eq (k : Nat) (x : Kd.dens f187_pk) : runX (f187_C k) nA Tryz.f187 f187_pk f187_rk x = f187_F k x := by
  show _ = f187_raw0 k x
  obtain ⟨a0, ⟨a1, ⟨⟩⟩⟩ := x
  kernel_rfl
theorem f187_ctr (k : Nat) : Ctr Tryz.prog k 187 (mk f187_pk f187_rk f187_F) :=
  lawX (fn := Tryz.f187) (phi_ok ctr_nil) (by kernel_rfl) (by kernel_rfl) (by kernel_rfl) (by kernel_rfl) (f187_eq k)
noncomputable abbrev f187_m : Nat × Callee := (187, mk f187_pk f187_rk f187_F)
abbrev f188_pk : List Kd := [.view (.int .u64), .view (.int .u64)]
abbrev f188_rk : Kd := .tup [.view (.int .u64), .view (.int .u64)]
noncomputable def f188_C (k : Nat) := cxX k []
def f188_raw0 (k : Nat) : Int × Int × Unit → Option ((Int × Int × Unit) × Unit)
  | (a0, a1, ()) => some ((IntKind.u64.wrap (IntKind.u64.wrap (IntKind.u64.wrap (a0.fdiv (4294967296 : Int) * a1.fdiv (4294967296 : Int)) + (IntKind.u64.wrap (IntKind.u64.wrap (a0.fdiv (4294967296 : Int) * IntKind.u64.wrap (Int.ofNat (BitVec.ofInt (64 : Nat) a1 &&& BitVec.ofInt (64 : Nat) (4294967295 : Int)).toNat)) + (IntKind.u64.wrap (IntKind.u64.wrap (Int.ofNat (BitVec.ofInt (64 : Nat) a0 &&& BitVec.ofInt (64 : Nat) (4294967295 : Int)).toNat) * IntKind.u64.wrap (Int.ofNat (BitVec.ofInt (64 : Nat) a1 &&& BitVec.ofInt (64 : Nat) (4294967295 : Int)).toNat))).fdiv (4294967296 : Int))).fdiv (4294967296 : Int)) + (IntKind.u64.wrap (IntKind.u64.wrap (Int.ofNat (BitVec.ofInt (64 : Nat) (IntKind.u64.wrap (IntKind.u64.wrap (a0.fdiv (4294967296 : Int) * IntKind.u64.wrap (Int.ofNat (BitVec.ofInt (64 : Nat) a1 &&& BitVec.ofInt (64 : Nat) (4294967295 : Int)).toNat)) + (IntKind.u64.wrap (IntKind.u64.wrap (Int.ofNat (BitVec.ofInt (64 : Nat) a0 &&& BitVec.ofInt (64 : Nat) (4294967295 : Int)).toNat) * IntKind.u64.wrap (Int.ofNat (BitVec.ofInt (64 : Nat) a1 &&& BitVec.ofInt (64 : Nat) (4294967295 : Int)).toNat))).fdiv (4294967296 : Int))) &&& BitVec.ofInt (64 : Nat) (4294967295 : Int)).toNat) + IntKind.u64.wrap (IntKind.u64.wrap (Int.ofNat (BitVec.ofInt (64 : Nat) a0 &&& BitVec.ofInt (64 : Nat) (4294967295 : Int)).toNat) * a1.fdiv (4294967296 : Int)))).fdiv (4294967296 : Int)), IntKind.u64.wrap (a0 * a1), ()), ())
def f188_F (k : Nat) := f188_raw0 k
theorem f188_eq (k : Nat) (x : Kd.dens f188_pk) : runX (f188_C k) nA Tryz.f188 f188_pk f188_rk x = f188_F k x := by
  show _ = f188_raw0 k x
  obtain ⟨a0, ⟨a1, ⟨⟩⟩⟩ := x
  kernel_rfl
theorem f188_ctr (k : Nat) : Ctr Tryz.prog k 188 (mk f188_pk f188_rk f188_F) :=
  lawX (fn := Tryz.f188) (phi_ok ctr_nil) (by kernel_rfl) (by kernel_rfl) (by kernel_rfl) (by kernel_rfl) (f188_eq k)
noncomputable abbrev f188_m : Nat × Callee := (188, mk f188_pk f188_rk f188_F)
abbrev f169_pk : List Kd := [.view (.int .u64), .view (.int .u64)]
abbrev f169_rk : Kd := .tup [.view (.int .u64), .view (.int .u64)]
noncomputable def f169_C (k : Nat) := cxX k [f187_m, f188_m]
def f169_raw0 (k : Nat) : Int × Int × Unit → Option ((Int × Int × Unit) × Unit)
  | (a0, a1, ()) => (f188_F k (a0, a1, ())).bind fun y => some ((y.1.1, y.1.2.1, ()), ())
def f169_F (k : Nat) := f169_raw0 k
theorem f169_eq (k : Nat) (x : Kd.dens f169_pk) : runX (f169_C k) nA Tryz.f169 f169_pk f169_rk x = f169_F k x := by
  show _ = f169_raw0 k x
  obtain ⟨a0, ⟨a1, ⟨⟩⟩⟩ := x
  kernel_rfl
theorem f169_ctr (k : Nat) : Ctr Tryz.prog k 169 (mk f169_pk f169_rk f169_F) :=
  lawX (fn := Tryz.f169) (phi_ok (ctr_cons (f187_ctr k) (ctr_cons (f188_ctr k) ctr_nil))) (by kernel_rfl) (by kernel_rfl) (by kernel_rfl) (by kernel_rfl) (f169_eq k)
noncomputable abbrev f169_m : Nat × Callee := (169, mk f169_pk f169_rk f169_F)
abbrev f132_pk : List Kd := [.view (.sl (.int .i64)), .view (.int .i64)]
abbrev f132_rk : Kd := .view (.sl (.int .i64))
noncomputable def f132_C (k : Nat) := cxX k [f169_m] (fun r => bif Nat.beq r 999999 then [1] else [])
def f132_A : Nat → Ann := fun id => bif Nat.beq id 8 then ⟨[8, 7], []⟩ else ⟨[], []⟩
abbrev f132_T1 := Int × List Int
abbrev f132_K1 := f132_T1 → Option (List Int × Unit)
def f132_S1 : f132_T1 → St
  | (v0, v1) => St.mk (envOf [(nat_lit 8, avI v0), (nat_lit 7, AV.own (nat_lit 8192))]) (tblOf [(nat_lit 8192, RS.live (Res.arr (Ty.int IntKind.i64) v1 false))])
def f132_raw1 (k : Nat) (L1 : f132_K1) : f132_K1
  | (v0, v1) => bif decide (v0 < Int.ofNat v1.length) then bif decide ((0 : Int) ≤ v0 ∧ v0 ≤ Int.ofNat v1.length ∧ Int.ofNat v1.length ≤ Int.ofNat v1.length) then bif decide ((0 : Int) ≤ (0 : Int) ∧ (0 : Int) ≤ v0 ∧ v0 ≤ Int.ofNat v1.length) then bif decide (v0.toNat ≤ (Int.ofNat v1.length).toNat ∧ (Int.ofNat v1.length).toNat ≤ v1.length) then bif decide ((0 : Nat) ≤ v0.toNat ∧ v0.toNat ≤ v1.length) then L1 (IntKind.i64.wrap (v0 + Int.ofNat (min (List.drop (0 : Nat) (List.take v0.toNat v1)).length ((Int.ofNat v1.length).toNat - v0.toNat))), List.take v0.toNat v1 ++ List.take ((Int.ofNat v1.length).toNat - v0.toNat) (List.drop (0 : Nat) (List.take v0.toNat v1)) ++ List.drop (v0.toNat + min (List.drop (0 : Nat) (List.take v0.toNat v1)).length ((Int.ofNat v1.length).toNat - v0.toNat)) v1) else none else none else none else none else some (v1, ())
def f132_L1 (k : Nat) : f132_K1 := iter (fun L1 => f132_raw1 k L1) k
noncomputable def f132_at1 (k : Nat) (n : Nat) (v : f132_T1) : Option (List Int × Unit) :=
  loopAt (f132_C k) f132_A [] [1, 1, 1, 1, 1, 1, 0, 0] [] (cdX Tryz.f132) (lvX (f132_C k) Tryz.f132 f132_pk f132_rk [] []) n (f132_S1 v)
def f132_raw0 (k : Nat) (L1 : f132_K1) : List Int × Int × Unit → Option (List Int × Unit)
  | (a0, a1, ()) => bif decide (a1 < (0 : Int)) then none else (f169_F k (IntKind.u64.wrap (Int.ofNat a0.length), IntKind.u64.wrap a1, ())).bind fun y => bif decide ((0 : Int) < y.1.1) then none else bif decide ((9223372036854775807 : Int) < y.1.2.1) then none else bif decide ((0 : Int) ≤ IntKind.i64.wrap y.1.2.1 ∧ IntKind.i64.wrap y.1.2.1 ≤ IntKind.i64.wrap y.1.2.1 ∧ IntKind.i64.wrap y.1.2.1 < (4294967296 : Int)) then L1 (Int.ofNat (min a0.length ((List.replicate (IntKind.i64.wrap y.1.2.1).toNat (0 : Int)).length - (0 : Nat))), List.take (0 : Nat) (List.replicate (IntKind.i64.wrap y.1.2.1).toNat (0 : Int)) ++ List.take ((List.replicate (IntKind.i64.wrap y.1.2.1).toNat (0 : Int)).length - (0 : Nat)) a0 ++ List.drop ((0 : Nat) + min a0.length ((List.replicate (IntKind.i64.wrap y.1.2.1).toNat (0 : Int)).length - (0 : Nat))) (List.replicate (IntKind.i64.wrap y.1.2.1).toNat (0 : Int))) else none
def f132_F (k : Nat) := f132_raw0 k (f132_L1 k)
theorem f132_law1 (k : Nat) : ∀ n, f132_at1 k n = iter (fun L1 => f132_raw1 k L1) n :=
  iter_law (fun v => by kernel_rfl) (fun n v => by
    show f132_at1 k (n + 1) v = f132_raw1 k (f132_at1 k n) v
    obtain ⟨v0, v1⟩ := v
    kernel_rfl)
theorem f132_eq (k : Nat) (x : Kd.dens f132_pk) : runX (f132_C k) f132_A Tryz.f132 f132_pk f132_rk x = f132_F k x := by
  show _ = f132_raw0 k (f132_L1 k) x
  rw [show f132_L1 k = f132_at1 k k from (f132_law1 k k).symm]
  obtain ⟨a0, ⟨a1, ⟨⟩⟩⟩ := x
  kernel_rfl
theorem f132_ctr (k : Nat) : Ctr Tryz.prog k 132 (mk f132_pk f132_rk f132_F) :=
  lawX (fn := Tryz.f132) (phi_ok (ctr_cons (f169_ctr k) ctr_nil)) (by kernel_rfl) (by kernel_rfl) (by kernel_rfl) (by kernel_rfl) (f132_eq k)
noncomputable abbrev f132_m : Nat × Callee := (132, mk f132_pk f132_rk f132_F)
abbrev f170_pk : List Kd := [.box [.view (.sl (.int .u8)), .view (.int .i64)], .view (.int .i64)]
abbrev f170_rk : Kd := .tup [.view (.int .i64), .view (.int .i64)]
noncomputable def f170_C (k : Nat) := cxX k [f126_m]
def f170_raw0 (k : Nat) : (List Int × Int × Unit) × Int × Unit → Option ((Int × Int × Unit) × (List Int × Int × Unit) × Unit)
  | ((a0, a1, ()), a2, ()) => (f126_F k ((a0, a1, ()), a2, ())).bind fun y => bif y.1.2.1 == (0 : Int) then bif decide ((0 : Int) < a2) then bif decide ((0 : Int) ≤ IntKind.i64.wrap (a2 - (1 : Int))) then bif Int.fdiv y.1.1 ((2 : Int) ^ min (IntKind.i64.wrap (a2 - (1 : Int))).toNat (64 : Nat)) == (1 : Int) then bif decide ((0 : Int) ≤ a2) then some ((IntKind.i64.wrap (y.1.1 - IntKind.i64.wrap ((1 : Int) * (2 : Int) ^ min a2.toNat (64 : Nat))), y.1.2.1, ()), (y.2.1.1, y.2.1.2.1, ()), ()) else none else some ((y.1.1, y.1.2.1, ()), (y.2.1.1, y.2.1.2.1, ()), ()) else none else some ((y.1.1, y.1.2.1, ()), (y.2.1.1, y.2.1.2.1, ()), ()) else some ((y.1.1, y.1.2.1, ()), (y.2.1.1, y.2.1.2.1, ()), ())
def f170_F (k : Nat) := f170_raw0 k
theorem f170_eq (k : Nat) (x : Kd.dens f170_pk) : runX (f170_C k) nA Tryz.f170 f170_pk f170_rk x = f170_F k x := by
  show _ = f170_raw0 k x
  obtain ⟨⟨a0, ⟨a1, ⟨⟩⟩⟩, ⟨a2, ⟨⟩⟩⟩ := x
  kernel_rfl
theorem f170_ctr (k : Nat) : Ctr Tryz.prog k 170 (mk f170_pk f170_rk f170_F) :=
  lawX (fn := Tryz.f170) (phi_ok (ctr_cons (f126_ctr k) ctr_nil)) (by kernel_rfl) (by kernel_rfl) (by kernel_rfl) (by kernel_rfl) (f170_eq k)
noncomputable abbrev f170_m : Nat × Callee := (170, mk f170_pk f170_rk f170_F)
abbrev f133_pk : List Kd := [.box [.ref [.view (.sl (.int .u8)), .view (.int .i64)], .view (.int .i64)], .view (.int .i64), .view (.int .i64)]
abbrev f133_rk : Kd := .view (.sl (.int .i64))
noncomputable def f133_C (k : Nat) := cxX k [f170_m]
def f133_A : Nat → Ann := fun id => bif Nat.beq id 3 then ⟨[9, 10, 0, 2, 7], [.slot 7 ((Ty.int IntKind.i64))]⟩ else ⟨[], []⟩
abbrev f133_T1 := Int × Int × Int × Int × List Int × Int × List Int
abbrev f133_K1 := f133_T1 → Option (List Int × ((List Int × Int × Unit) × Int × Unit) × Unit)
def f133_S1 : f133_T1 → St
  | (v0, v1, v2, v3, v4, v5, v6) => St.mk (envOf [(nat_lit 9, avI v0), (nat_lit 10, avI v1), (nat_lit 0, AV.bx (nat_lit 0) (nat_lit 0)), (nat_lit 2, avI v2), (nat_lit 7, AV.own (nat_lit 8192))]) (tblOf [(nat_lit 0, RS.live (Res.box [AV.bx (nat_lit 1) (nat_lit 0), avI v3])), (nat_lit 1, RS.live (Res.box [AV.val (PV.sl (Ty.int IntKind.u8) v4), avI v5])), (nat_lit 8192, RS.live (Res.arr (Ty.int IntKind.i64) v6 false))])
def f133_raw1 (k : Nat) (L1 : f133_K1) : f133_K1
  | (v0, v1, v2, v3, v4, v5, v6) => bif decide (v1 < v0) then bif v3 == (0 : Int) then (f170_F k ((v4, v5, ()), v2, ())).bind fun y => bif decide (v6.length + [y.1.1].length < (2147483648 : Nat)) then L1 (v0, IntKind.i64.wrap (v1 + (1 : Int)), v2, y.1.2.1, y.2.1.1, y.2.1.2.1, v6 ++ [y.1.1]) else none else bif decide (v6.length + (1 : Nat) < (2147483648 : Nat)) then L1 (v0, IntKind.i64.wrap (v1 + (1 : Int)), v2, v3, v4, v5, v6 ++ [(0 : Int)]) else none else some (v6, ((v4, v5, ()), v3, ()), ())
def f133_L1 (k : Nat) : f133_K1 := iter (fun L1 => f133_raw1 k L1) k
noncomputable def f133_at1 (k : Nat) (n : Nat) (v : f133_T1) : Option (List Int × ((List Int × Int × Unit) × Int × Unit) × Unit) :=
  loopAt (f133_C k) f133_A [0, 1] [1, 1, 0, 1, 0] [] (cdX Tryz.f133) (lvX (f133_C k) Tryz.f133 f133_pk f133_rk [AV.bx (nat_lit 0) (nat_lit 0)] [[1]]) n (f133_S1 v)
def f133_raw0 (k : Nat) (L1 : f133_K1) : ((List Int × Int × Unit) × Int × Unit) × Int × Int × Unit → Option (List Int × ((List Int × Int × Unit) × Int × Unit) × Unit)
  | (((a0, a1, ()), a2, ()), a3, a4, ()) => L1 (a3, (0 : Int), a4, a2, a0, a1, [])
def f133_F (k : Nat) := f133_raw0 k (f133_L1 k)
theorem f133_law1 (k : Nat) : ∀ n, f133_at1 k n = iter (fun L1 => f133_raw1 k L1) n :=
  iter_law (fun v => by kernel_rfl) (fun n v => by
    show f133_at1 k (n + 1) v = f133_raw1 k (f133_at1 k n) v
    obtain ⟨v0, v1, v2, v3, v4, v5, v6⟩ := v
    kernel_rfl)
theorem f133_eq (k : Nat) (x : Kd.dens f133_pk) : runX (f133_C k) f133_A Tryz.f133 f133_pk f133_rk x = f133_F k x := by
  show _ = f133_raw0 k (f133_L1 k) x
  rw [show f133_L1 k = f133_at1 k k from (f133_law1 k k).symm]
  obtain ⟨⟨⟨a0, ⟨a1, ⟨⟩⟩⟩, ⟨a2, ⟨⟩⟩⟩, ⟨a3, ⟨a4, ⟨⟩⟩⟩⟩ := x
  kernel_rfl
theorem f133_ctr (k : Nat) : Ctr Tryz.prog k 133 (mk f133_pk f133_rk f133_F) :=
  lawX (fn := Tryz.f133) (phi_ok (ctr_cons (f170_ctr k) ctr_nil)) (by kernel_rfl) (by kernel_rfl) (by kernel_rfl) (by kernel_rfl) (f133_eq k)
noncomputable abbrev f133_m : Nat × Callee := (133, mk f133_pk f133_rk f133_F)
abbrev f195_pk : List Kd := [.view (.int .i64)]
abbrev f195_rk : Kd := .tup [.view (.int .i64), .view (.int .i64)]
noncomputable def f195_C (k : Nat) := cxX k []
def f195_raw0 (k : Nat) : Int × Unit → Option ((Int × Int × Unit) × Unit)
  | (a0, ()) => bif decide (a0 < (0 : Int)) then some ((0, 12, ()), ()) else bif decide ((2199023255552 : Int) < a0) then some ((0, 12, ()), ()) else some ((IntKind.i64.wrap (Int.ofNat (BitVec.ofInt (64 : Nat) (a0.fdiv (2 : Int)) ^^^ BitVec.ofInt (64 : Nat) (IntKind.i64.wrap ((0 : Int) - IntKind.i64.wrap (Int.ofNat (BitVec.ofInt (64 : Nat) a0 &&& BitVec.ofInt (64 : Nat) (1 : Int)).toNat)))).toNat), 0, ()), ())
def f195_F (k : Nat) := f195_raw0 k
theorem f195_eq (k : Nat) (x : Kd.dens f195_pk) : runX (f195_C k) nA Tryz.f195 f195_pk f195_rk x = f195_F k x := by
  show _ = f195_raw0 k x
  obtain ⟨a0, ⟨⟩⟩ := x
  kernel_rfl
theorem f195_ctr (k : Nat) : Ctr Tryz.prog k 195 (mk f195_pk f195_rk f195_F) :=
  lawX (fn := Tryz.f195) (phi_ok ctr_nil) (by kernel_rfl) (by kernel_rfl) (by kernel_rfl) (by kernel_rfl) (f195_eq k)
noncomputable abbrev f195_m : Nat × Callee := (195, mk f195_pk f195_rk f195_F)
abbrev f190_pk : List Kd := [.box [.view (.sl (.int .u8)), .view (.int .i64)], .view (.int .i64)]
abbrev f190_rk : Kd := .tup [.view (.int .i64), .view (.int .i64)]
noncomputable def f190_C (k : Nat) := cxX k [f126_m, f131_m, f195_m]
def f190_raw0 (k : Nat) : (List Int × Int × Unit) × Int × Unit → Option ((Int × Int × Unit) × (List Int × Int × Unit) × Unit)
  | ((a0, a1, ()), a2, ()) => (f131_F k ((a0, a1, ()), ())).bind fun y => bif y.1.2.1 != (0 : Int) then some ((0, y.1.2.1, ()), (y.2.1.1, y.2.1.2.1, ()), ()) else (f126_F k ((y.2.1.1, y.2.1.2.1, ()), a2, ())).bind fun y_1 => bif y_1.1.2.1 != (0 : Int) then some ((0, y_1.1.2.1, ()), (y_1.2.1.1, y_1.2.1.2.1, ()), ()) else bif decide ((0 : Int) ≤ a2) then bif decide ((4294967295 : Int) ≤ IntKind.i64.wrap (Int.ofNat (BitVec.ofInt (64 : Nat) (IntKind.i64.wrap (y.1.1 * (2 : Int) ^ min a2.toNat (64 : Nat))) ||| BitVec.ofInt (64 : Nat) y_1.1.1).toNat)) then some ((0, 12, ()), (y_1.2.1.1, y_1.2.1.2.1, ()), ()) else (f195_F k (IntKind.i64.wrap (Int.ofNat (BitVec.ofInt (64 : Nat) (IntKind.i64.wrap (y.1.1 * (2 : Int) ^ min a2.toNat (64 : Nat))) ||| BitVec.ofInt (64 : Nat) y_1.1.1).toNat), ())).bind fun y => some ((y.1.1, y.1.2.1, ()), (y_1.2.1.1, y_1.2.1.2.1, ()), ()) else none
def f190_F (k : Nat) := f190_raw0 k
theorem f190_eq (k : Nat) (x : Kd.dens f190_pk) : runX (f190_C k) nA Tryz.f190 f190_pk f190_rk x = f190_F k x := by
  show _ = f190_raw0 k x
  obtain ⟨⟨a0, ⟨a1, ⟨⟩⟩⟩, ⟨a2, ⟨⟩⟩⟩ := x
  kernel_rfl
theorem f190_ctr (k : Nat) : Ctr Tryz.prog k 190 (mk f190_pk f190_rk f190_F) :=
  lawX (fn := Tryz.f190) (phi_ok (ctr_cons (f126_ctr k) (ctr_cons (f131_ctr k) (ctr_cons (f195_ctr k) ctr_nil)))) (by kernel_rfl) (by kernel_rfl) (by kernel_rfl) (by kernel_rfl) (f190_eq k)
noncomputable abbrev f190_m : Nat × Callee := (190, mk f190_pk f190_rk f190_F)
abbrev f189_pk : List Kd := [.box [.ref [.view (.sl (.int .u8)), .view (.int .i64)]], .box [.view (.int .i64)]]
abbrev f189_rk : Kd := .tup [.view (.int .i64), .view (.int .i64)]
noncomputable def f189_C (k : Nat) := cxX k [f190_m]
def f189_raw0 (k : Nat) : ((List Int × Int × Unit) × Unit) × (Int × Unit) × Unit → Option ((Int × Int × Unit) × ((List Int × Int × Unit) × Unit) × (Int × Unit) × Unit)
  | (((a0, a1, ()), ()), (a2, ()), ()) => (f190_F k ((a0, a1, ()), a2, ())).bind fun y => some ((y.1.1, y.1.2.1, ()), ((y.2.1.1, y.2.1.2.1, ()), ()), (a2, ()), ())
def f189_F (k : Nat) := f189_raw0 k
theorem f189_eq (k : Nat) (x : Kd.dens f189_pk) : runX (f189_C k) nA Tryz.f189 f189_pk f189_rk x = f189_F k x := by
  show _ = f189_raw0 k x
  obtain ⟨⟨⟨a0, ⟨a1, ⟨⟩⟩⟩, ⟨⟩⟩, ⟨⟨a2, ⟨⟩⟩, ⟨⟩⟩⟩ := x
  kernel_rfl
theorem f189_ctr (k : Nat) : Ctr Tryz.prog k 189 (mk f189_pk f189_rk f189_F) :=
  lawX (fn := Tryz.f189) (phi_ok (ctr_cons (f190_ctr k) ctr_nil)) (by kernel_rfl) (by kernel_rfl) (by kernel_rfl) (by kernel_rfl) (f189_eq k)
noncomputable abbrev f189_m : Nat × Callee := (189, mk f189_pk f189_rk f189_F)
abbrev f191_pk : List Kd := [.box [.ref [.view (.sl (.int .u8)), .view (.int .i64)]], .box [.view (.int .i64)]]
abbrev f191_rk : Kd := .tup [.view (.int .i64), .view (.int .i64)]
noncomputable def f191_C (k : Nat) := cxX k [f170_m]
def f191_raw0 (k : Nat) : ((List Int × Int × Unit) × Unit) × (Int × Unit) × Unit → Option ((Int × Int × Unit) × ((List Int × Int × Unit) × Unit) × (Int × Unit) × Unit)
  | (((a0, a1, ()), ()), (a2, ()), ()) => (f170_F k ((a0, a1, ()), a2, ())).bind fun y => some ((y.1.1, y.1.2.1, ()), ((y.2.1.1, y.2.1.2.1, ()), ()), (a2, ()), ())
def f191_F (k : Nat) := f191_raw0 k
theorem f191_eq (k : Nat) (x : Kd.dens f191_pk) : runX (f191_C k) nA Tryz.f191 f191_pk f191_rk x = f191_F k x := by
  show _ = f191_raw0 k x
  obtain ⟨⟨⟨a0, ⟨a1, ⟨⟩⟩⟩, ⟨⟩⟩, ⟨⟨a2, ⟨⟩⟩, ⟨⟩⟩⟩ := x
  kernel_rfl
theorem f191_ctr (k : Nat) : Ctr Tryz.prog k 191 (mk f191_pk f191_rk f191_F) :=
  lawX (fn := Tryz.f191) (phi_ok (ctr_cons (f170_ctr k) ctr_nil)) (by kernel_rfl) (by kernel_rfl) (by kernel_rfl) (by kernel_rfl) (f191_eq k)
noncomputable abbrev f191_m : Nat × Callee := (191, mk f191_pk f191_rk f191_F)
abbrev f171_pk : List Kd := [.box [.view (.sl (.int .u8)), .view (.int .i64)], .view (.int .i64), .view (.int .i64)]
abbrev f171_rk : Kd := .tup [.view (.sl (.int .i64)), .view (.int .i64)]
noncomputable def f171_C (k : Nat) := cxX k [(116, mk f116_pk f116_rk f116_O), (117, mk f117_pk f117_rk f117_O), f126_m, f189_m, f191_m]
noncomputable def f171_A : Nat → Ann := fun id => bif Nat.beq id 12 then ⟨[40, 41, 10, 13], [.slot 13 ((Ty.int IntKind.i64))]⟩ else ⟨[], []⟩
abbrev f171_T1 := Int × Int × List Int × Int × Int × List Int
abbrev f171_K1 := f171_T1 → Option ((List Int × Int × Unit) × (List Int × Int × Unit) × Unit)
abbrev f171_T2 := Int × Int × List Int × Int × Int × List Int
abbrev f171_K2 := f171_T2 → Option ((List Int × Int × Unit) × (List Int × Int × Unit) × Unit)
noncomputable def f171_S1 : f171_T1 → St
  | (v0, v1, v2, v3, v4, v5) => St.mk (envOf [(nat_lit 40, avI v0), (nat_lit 41, avI v1), (nat_lit 10, AV.clo (nat_lit 191) [AV.bx (nat_lit 8192) (nat_lit 0), AV.bx (nat_lit 8193) (nat_lit 0)]), (nat_lit 13, AV.own (nat_lit 8194))]) (tblOf [(nat_lit 0, RS.live (Res.box [AV.val (PV.sl (Ty.int IntKind.u8) v2), avI v3])), (nat_lit 8192, RS.live (Res.box [AV.bx (nat_lit 0) (nat_lit 0)])), (nat_lit 8193, RS.live (Res.box [avI v4])), (nat_lit 8194, RS.live (Res.arr (Ty.int IntKind.i64) v5 false))])
noncomputable def f171_raw1 (k : Nat) (L1 : f171_K1) : f171_K1
  | (v0, v1, v2, v3, v4, v5) => bif decide (v1 < v0) then (f191_F k (((v2, v3, ()), ()), (v4, ()), ())).bind fun y => bif y.1.2.1 != (0 : Int) then some (([], y.1.2.1, ()), (y.2.1.1.1, y.2.1.1.2.1, ()), ()) else bif decide (v5.length + [y.1.1].length < (2147483648 : Nat)) then L1 (v0, IntKind.i64.wrap (v1 + (1 : Int)), y.2.1.1.1, y.2.1.1.2.1, y.2.2.1.1, v5 ++ [y.1.1]) else none else some ((v5, 0, ()), (v2, v3, ()), ())
noncomputable def f171_L1 (k : Nat) : f171_K1 := iter (fun L1 => f171_raw1 k L1) k
noncomputable def f171_at1 (k : Nat) (n : Nat) (v : f171_T1) : Option ((List Int × Int × Unit) × (List Int × Int × Unit) × Unit) :=
  loopAt (f171_C k) f171_A [0] [1, 1, 1, 1, 1, 1, 0, 1, 0] [] (cdX Tryz.f171) (lvX (f171_C k) Tryz.f171 f171_pk f171_rk [AV.bx (nat_lit 0) (nat_lit 0)] [[]]) n (f171_S1 v)
noncomputable def f171_S2 : f171_T1 → St
  | (v0, v1, v2, v3, v4, v5) => St.mk (envOf [(nat_lit 40, avI v0), (nat_lit 41, avI v1), (nat_lit 10, AV.clo (nat_lit 189) [AV.bx (nat_lit 8192) (nat_lit 0), AV.bx (nat_lit 8193) (nat_lit 0)]), (nat_lit 13, AV.own (nat_lit 8194))]) (tblOf [(nat_lit 0, RS.live (Res.box [AV.val (PV.sl (Ty.int IntKind.u8) v2), avI v3])), (nat_lit 8192, RS.live (Res.box [AV.bx (nat_lit 0) (nat_lit 0)])), (nat_lit 8193, RS.live (Res.box [avI v4])), (nat_lit 8194, RS.live (Res.arr (Ty.int IntKind.i64) v5 false))])
noncomputable def f171_raw2 (k : Nat) (L2 : f171_K1) : f171_K1
  | (v0, v1, v2, v3, v4, v5) => bif decide (v1 < v0) then (f189_F k (((v2, v3, ()), ()), (v4, ()), ())).bind fun y => bif y.1.2.1 != (0 : Int) then some (([], y.1.2.1, ()), (y.2.1.1.1, y.2.1.1.2.1, ()), ()) else bif decide (v5.length + [y.1.1].length < (2147483648 : Nat)) then L2 (v0, IntKind.i64.wrap (v1 + (1 : Int)), y.2.1.1.1, y.2.1.1.2.1, y.2.2.1.1, v5 ++ [y.1.1]) else none else some ((v5, 0, ()), (v2, v3, ()), ())
noncomputable def f171_L2 (k : Nat) : f171_K1 := iter (fun L2 => f171_raw2 k L2) k
noncomputable def f171_at2 (k : Nat) (n : Nat) (v : f171_T1) : Option ((List Int × Int × Unit) × (List Int × Int × Unit) × Unit) :=
  loopAt (f171_C k) f171_A [0] [1, 1, 1, 1, 1, 1, 0, 1, 0] [] (cdX Tryz.f171) (lvX (f171_C k) Tryz.f171 f171_pk f171_rk [AV.bx (nat_lit 0) (nat_lit 0)] [[]]) n (f171_S2 v)
noncomputable def f171_raw0 (k : Nat) (L1 : f171_K1) (L2 : f171_K1) : (List Int × Int × Unit) × Int × Int × Unit → Option ((List Int × Int × Unit) × (List Int × Int × Unit) × Unit)
  | ((a0, a1, ()), a2, a3, ()) => (f116_O k (a2, ())).bind fun y => (f126_F k ((a0, a1, ()), y.1, ())).bind fun y => bif y.1.2.1 != (0 : Int) then some (([], y.1.2.1, ()), (y.2.1.1, y.2.1.2.1, ()), ()) else (f117_O k (a2, ())).bind fun y_1 => bif y.1.1 == y_1.1 then (f126_F k ((y.2.1.1, y.2.1.2.1, ()), 5, ())).bind fun y => bif y.1.2.1 != (0 : Int) then some (([], y.1.2.1, ()), (y.2.1.1, y.2.1.2.1, ()), ()) else L1 (a3, (0 : Int), y.2.1.1, y.2.1.2.1, y.1.1, []) else L2 (a3, (0 : Int), y.2.1.1, y.2.1.2.1, y.1.1, [])
noncomputable def f171_F (k : Nat) := f171_raw0 k (f171_L1 k) (f171_L2 k)
theorem f171_law1 (k : Nat) : ∀ n, f171_at1 k n = iter (fun L1 => f171_raw1 k L1) n :=
  iter_law (fun v => by kernel_rfl) (fun n v => by
    show f171_at1 k (n + 1) v = f171_raw1 k (f171_at1 k n) v
    obtain ⟨v0, v1, v2, v3, v4, v5⟩ := v
    kernel_rfl)
theorem f171_law2 (k : Nat) : ∀ n, f171_at2 k n = iter (fun L2 => f171_raw2 k L2) n :=
  iter_law (fun v => by kernel_rfl) (fun n v => by
    show f171_at2 k (n + 1) v = f171_raw2 k (f171_at2 k n) v
    obtain ⟨v0, v1, v2, v3, v4, v5⟩ := v
    kernel_rfl)
theorem f171_eq (k : Nat) (x : Kd.dens f171_pk) : runX (f171_C k) f171_A Tryz.f171 f171_pk f171_rk x = f171_F k x := by
  show _ = f171_raw0 k (f171_L1 k) (f171_L2 k) x
  rw [show f171_L1 k = f171_at1 k k from (f171_law1 k k).symm, show f171_L2 k = f171_at2 k k from (f171_law2 k k).symm]
  obtain ⟨⟨a0, ⟨a1, ⟨⟩⟩⟩, ⟨a2, ⟨a3, ⟨⟩⟩⟩⟩ := x
  kernel_rfl
theorem f171_ctr (k : Nat) : Ctr Tryz.prog k 171 (mk f171_pk f171_rk f171_F) :=
  lawX (fn := Tryz.f171) (phi_ok (ctr_cons (f116_octr k) (ctr_cons (f117_octr k) (ctr_cons (f126_ctr k) (ctr_cons (f189_ctr k) (ctr_cons (f191_ctr k) ctr_nil)))))) (by kernel_rfl) (by kernel_rfl) (by kernel_rfl) (by kernel_rfl) (f171_eq k)
noncomputable abbrev f171_m : Nat × Callee := (171, mk f171_pk f171_rk f171_F)
abbrev f134_pk : List Kd := [.box [.view (.sl (.int .u8)), .view (.int .i64)], .view (.int .i64), .view (.int .i64)]
abbrev f134_rk : Kd := .tup [.view (.sl (.int .i64)), .view (.int .i64)]
noncomputable def f134_C (k : Nat) := cxX k [f126_m, f154_m, f156_m, f171_m]
def f134_A : Nat → Ann := fun id => bif Nat.beq id 15 then ⟨[52, 53, 1, 10, 2, 0, 8, 11], [.slot 11 ((Ty.int IntKind.i64))]⟩ else ⟨[], []⟩
abbrev f134_T1 := Int × Int × Int × Int × Int × Int × List Int × Int × List Int
abbrev f134_K1 := f134_T1 → Option ((List Int × Int × Unit) × (List Int × Int × Unit) × Unit)
def f134_S1 : f134_T1 → St
  | (v0, v1, v2, v3, v4, v5, v6, v7, v8) => St.mk (envOf [(nat_lit 52, avI v0), (nat_lit 53, avI v1), (nat_lit 1, avI v2), (nat_lit 10, avI v3), (nat_lit 2, avI v4), (nat_lit 0, AV.bx (nat_lit 0) (nat_lit 0)), (nat_lit 8, avI v5), (nat_lit 11, AV.own (nat_lit 8192))]) (tblOf [(nat_lit 0, RS.live (Res.box [AV.val (PV.sl (Ty.int IntKind.u8) v6), avI v7])), (nat_lit 8192, RS.live (Res.arr (Ty.int IntKind.i64) v8 false))])
noncomputable def f134_raw1 (k : Nat) (L1 : f134_K1) : f134_K1
  | (v0, v1, v2, v3, v4, v5, v6, v7, v8) => bif decide (v1 < v0) then bif decide ((0 : Int) ≤ v3) then bif v1 == (0 : Int) then (f171_F k ((v6, v7, ()), v5, IntKind.i64.wrap (v2.fdiv ((2 : Int) ^ min v3.toNat (64 : Nat)) - v4), ())).bind fun y => bif y.1.2.1 != (0 : Int) then some (([], y.1.2.1, ()), (y.2.1.1, y.2.1.2.1, ()), ()) else bif decide (v8.length + List.length y.1.1 < (2147483648 : Nat)) then L1 (v0, IntKind.i64.wrap (v1 + (1 : Int)), v2, v3, v4, v5, y.2.1.1, y.2.1.2.1, v8 ++ y.1.1) else none else (f171_F k ((v6, v7, ()), v5, v2.fdiv ((2 : Int) ^ min v3.toNat (64 : Nat)), ())).bind fun y => bif y.1.2.1 != (0 : Int) then some (([], y.1.2.1, ()), (y.2.1.1, y.2.1.2.1, ()), ()) else bif decide (v8.length + List.length y.1.1 < (2147483648 : Nat)) then L1 (v0, IntKind.i64.wrap (v1 + (1 : Int)), v2, v3, v4, v5, y.2.1.1, y.2.1.2.1, v8 ++ y.1.1) else none else none else some ((v8, 0, ()), (v6, v7, ()), ())
noncomputable def f134_L1 (k : Nat) : f134_K1 := iter (fun L1 => f134_raw1 k L1) k
noncomputable def f134_at1 (k : Nat) (n : Nat) (v : f134_T1) : Option ((List Int × Int × Unit) × (List Int × Int × Unit) × Unit) :=
  loopAt (f134_C k) f134_A [0] [1, 1, 1, 1, 1, 1, 1, 0, 1, 0] [] (cdX Tryz.f134) (lvX (f134_C k) Tryz.f134 f134_pk f134_rk [AV.bx (nat_lit 0) (nat_lit 0)] [[]]) n (f134_S1 v)
def f134_raw0 (k : Nat) (L1 : f134_K1) : (List Int × Int × Unit) × Int × Int × Unit → Option ((List Int × Int × Unit) × (List Int × Int × Unit) × Unit)
  | ((a0, a1, ()), a2, a3, ()) => (f154_F k (a2, a3, ())).bind fun y => bif !y.1 then some (([], 1, ()), (a0, a1, ()), ()) else (f126_F k ((a0, a1, ()), 2, ())).bind fun y => bif y.1.2.1 != (0 : Int) then some (([], y.1.2.1, ()), (y.2.1.1, y.2.1.2.1, ()), ()) else bif decide ((1 : Int) < y.1.1) then some (([], 2, ()), (y.2.1.1, y.2.1.2.1, ()), ()) else (f126_F k ((y.2.1.1, y.2.1.2.1, ()), 4, ())).bind fun y_1 => bif y_1.1.2.1 != (0 : Int) then some (([], y_1.1.2.1, ()), (y_1.2.1.1, y_1.2.1.2.1, ()), ()) else (f156_F k (a2, a3, y_1.1.1, ())).bind fun y_2 => bif !y_2.1 then some (([], 2, ()), (y_1.2.1.1, y_1.2.1.2.1, ()), ()) else bif decide ((0 : Int) ≤ y_1.1.1) then L1 (IntKind.i64.wrap ((1 : Int) * (2 : Int) ^ min (Int.toNat y_1.1.1) (64 : Nat)), (0 : Int), a2, y_1.1.1, a3, y.1.1, y_1.2.1.1, y_1.2.1.2.1, []) else none
noncomputable def f134_F (k : Nat) := f134_raw0 k (f134_L1 k)
theorem f134_law1 (k : Nat) : ∀ n, f134_at1 k n = iter (fun L1 => f134_raw1 k L1) n :=
  iter_law (fun v => by kernel_rfl) (fun n v => by
    show f134_at1 k (n + 1) v = f134_raw1 k (f134_at1 k n) v
    obtain ⟨v0, v1, v2, v3, v4, v5, v6, v7, v8⟩ := v
    kernel_rfl)
theorem f134_eq (k : Nat) (x : Kd.dens f134_pk) : runX (f134_C k) f134_A Tryz.f134 f134_pk f134_rk x = f134_F k x := by
  show _ = f134_raw0 k (f134_L1 k) x
  rw [show f134_L1 k = f134_at1 k k from (f134_law1 k k).symm]
  obtain ⟨⟨a0, ⟨a1, ⟨⟩⟩⟩, ⟨a2, ⟨a3, ⟨⟩⟩⟩⟩ := x
  kernel_rfl
theorem f134_ctr (k : Nat) : Ctr Tryz.prog k 134 (mk f134_pk f134_rk f134_F) :=
  lawX (fn := Tryz.f134) (phi_ok (ctr_cons (f126_ctr k) (ctr_cons (f154_ctr k) (ctr_cons (f156_ctr k) (ctr_cons (f171_ctr k) ctr_nil))))) (by kernel_rfl) (by kernel_rfl) (by kernel_rfl) (by kernel_rfl) (f134_eq k)
noncomputable abbrev f134_m : Nat × Callee := (134, mk f134_pk f134_rk f134_F)
abbrev f135_pk : List Kd := [.view modelT, .view (.sl (.int .i64)), .view (.sl (.int .i64))]
abbrev f135_rk : Kd := .tup [.view (.sl (.int .i64)), .view (.int .i64)]
noncomputable def f135_C (k : Nat) := cxX k [f10403_m, f150_m, f153_m, f172_m, f173_m]
def f135_A : Nat → Ann := fun id => bif Nat.beq id 9 then ⟨[32, 33, 31, 3, 8], [.«show» 8]⟩ else ⟨[], []⟩
abbrev f135_T1 := Int × Int × List Int × List Int × Int × List Int
abbrev f135_K1 := f135_T1 → Option ((List Int × Int × Unit) × Unit)
def f135_S1 : f135_T1 → St
  | (v0, v1, v2, v3, v4, v5) => St.mk (envOf [(nat_lit 32, avI v0), (nat_lit 33, avI v1), (nat_lit 31, avL v2), (nat_lit 3, AV.bx (nat_lit 8192) (nat_lit 0)), (nat_lit 8, AV.own (nat_lit 8193))]) (tblOf [(nat_lit 8192, RS.live (Res.box [avL v3, avI v4])), (nat_lit 8193, RS.live (Res.arr (Ty.int IntKind.i64) v5 true))])
def f135_raw1 (k : Nat) (L1 : f135_K1) : f135_K1
  | (v0, v1, v2, v3, v4, v5) => bif decide (v1 < v0) then bif decide ((0 : Int) ≤ v1 ∧ v1 < Int.ofNat v2.length) then (f173_F k ((v3, v4, ()), v5, ())).bind fun y => (f150_F k (IntKind.i64.wrap (v2.getD v1.toNat 0 + y.1), ())).bind fun y_1 => bif y_1.1 then some (([], 12, ()), ()) else bif decide (v5.length + [IntKind.i64.wrap (v2.getD v1.toNat 0 + y.1)].length < (2147483648 : Nat)) then L1 (v0, IntKind.i64.wrap (v1 + (1 : Int)), v2, v3, v4, v5 ++ [IntKind.i64.wrap (v2.getD v1.toNat 0 + y.1)]) else none else none else some ((v5, 0, ()), ())
def f135_L1 (k : Nat) : f135_K1 := iter (fun L1 => f135_raw1 k L1) k
noncomputable def f135_at1 (k : Nat) (n : Nat) (v : f135_T1) : Option ((List Int × Int × Unit) × Unit) :=
  loopAt (f135_C k) f135_A [] [1, 1, 1, 0, 1, 0] [] (cdX Tryz.f135) (lvX (f135_C k) Tryz.f135 f135_pk f135_rk [] []) n (f135_S1 v)
def f135_raw0 (k : Nat) (L1 : f135_K1) : (List Int × Int × Unit) × List Int × List Int × Unit → Option ((List Int × Int × Unit) × Unit)
  | ((a0, a1, ()), a2, a3, ()) => (f172_F k ((a0, a1, ()), ())).bind fun y => bif y.1 != (0 : Int) then some (([], 2, ()), ()) else bif Int.ofNat a2.length != Int.ofNat a0.length then some (([], 1, ()), ()) else (f10403_F k (a2, (), ())).bind fun y => bif y.1 then some (([], 12, ()), ()) else (f10403_F k (a3, (), ())).bind fun y => bif y.1 then some (([], 12, ()), ()) else (f153_F k (a2, ())).bind fun y => L1 (Int.ofNat a3.length, (0 : Int), a3, a0, a1, y.1)
def f135_F (k : Nat) := f135_raw0 k (f135_L1 k)
theorem f135_law1 (k : Nat) : ∀ n, f135_at1 k n = iter (fun L1 => f135_raw1 k L1) n :=
  iter_law (fun v => by kernel_rfl) (fun n v => by
    show f135_at1 k (n + 1) v = f135_raw1 k (f135_at1 k n) v
    obtain ⟨v0, v1, v2, v3, v4, v5⟩ := v
    kernel_rfl)
theorem f135_eq (k : Nat) (x : Kd.dens f135_pk) : runX (f135_C k) f135_A Tryz.f135 f135_pk f135_rk x = f135_F k x := by
  show _ = f135_raw0 k (f135_L1 k) x
  rw [show f135_L1 k = f135_at1 k k from (f135_law1 k k).symm]
  obtain ⟨⟨a0, ⟨a1, ⟨⟩⟩⟩, ⟨a2, ⟨a3, ⟨⟩⟩⟩⟩ := x
  kernel_rfl
theorem f135_ctr (k : Nat) : Ctr Tryz.prog k 135 (mk f135_pk f135_rk f135_F) :=
  lawX (fn := Tryz.f135) (phi_ok (ctr_cons (f10403_ctr k) (ctr_cons (f150_ctr k) (ctr_cons (f153_ctr k) (ctr_cons (f172_ctr k) (ctr_cons (f173_ctr k) ctr_nil)))))) (by kernel_rfl) (by kernel_rfl) (by kernel_rfl) (by kernel_rfl) (f135_eq k)
noncomputable abbrev f135_m : Nat × Callee := (135, mk f135_pk f135_rk f135_F)
abbrev f88_pk : List Kd := [.box [.ref [.view (.sl (.int .u8)), .view (.int .i64)], .view (.int .i64)], .view (.int .i64), .view (.int .i64), .view (.int .i64)]
abbrev f88_rk : Kd := .view (.sl (.int .i64))
noncomputable def f88_C (k : Nat) := cxX k [f109_m, f128_m, f129_m, f132_m, f133_m, f134_m, f135_m]
noncomputable def f88_raw0 (k : Nat) : ((List Int × Int × Unit) × Int × Unit) × Int × Int × Int × Unit → Option (List Int × ((List Int × Int × Unit) × Int × Unit) × Unit)
  | (((a0, a1, ()), a2, ()), a3, a4, a5, ()) => bif a3 == (0 : Int) then (f133_F k (((a0, a1, ()), a2, ()), 1, a5, ())).bind fun y => (f132_F k (y.1, a4, ())).bind fun y_1 => some (y_1.1, ((y.2.1.1.1, y.2.1.1.2.1, ()), y.2.1.2.1, ()), ()) else bif a3 == (1 : Int) then (f133_F k (((a0, a1, ()), a2, ()), a4, a5, ())).bind fun y => some (y.1, ((y.2.1.1.1, y.2.1.1.2.1, ()), y.2.1.2.1, ()), ()) else bif decide ((31 : Int) < a3) then (f128_F k (((a0, a1, ()), a2, ()), decide (IntKind.i64.wrap (a3 - (31 : Int)) ≤ a4), ())).bind fun y => bif y.2.1.2.1 != (0 : Int) then some ([], ((y.2.1.1.1, y.2.1.1.2.1, ()), y.2.1.2.1, ()), ()) else (f133_F k (((y.2.1.1.1, y.2.1.1.2.1, ()), y.2.1.2.1, ()), IntKind.i64.wrap (a3 - (31 : Int)), a5, ())).bind fun y => (f109_F k (if (4 : Int) < IntKind.i64.wrap (a3 - (31 : Int)) then (4 : Int) else IntKind.i64.wrap (a3 - (31 : Int)), ())).bind fun y_1 => bif decide ((31 : Int) < a3) then (f129_F k (((y.2.1.1.1, y.2.1.1.2.1, ()), y.2.1.2.1, ()), 4, ())).bind fun y_2 => (f128_F k (((y_2.2.1.1.1, y_2.2.1.1.2.1, ()), y_2.2.1.2.1, ()), y_2.1 == (11 : Int), ())).bind fun y_3 => (f129_F k (((y_3.2.1.1.1, y_3.2.1.1.2.1, ()), y_3.2.1.2.1, ()), 5, ())).bind fun y_4 => (f128_F k (((y_4.2.1.1.1, y_4.2.1.1.2.1, ()), y_4.2.1.2.1, ()), decide (y_4.1 ≤ (15 : Int)), ())).bind fun y_5 => (f133_F k (((y_5.2.1.1.1, y_5.2.1.1.2.1, ()), y_5.2.1.2.1, ()), IntKind.i64.wrap (a3 - (31 : Int)), 12, ())).bind fun y_6 => bif y_6.2.1.2.1 != (0 : Int) then some ([], ((y_6.2.1.1.1, y_6.2.1.1.2.1, ()), y_6.2.1.2.1, ()), ()) else (f134_F k ((y_6.2.1.1.1, y_6.2.1.1.2.1, ()), a4, IntKind.i64.wrap (a3 - (31 : Int)), ())).bind fun y_7 => bif y_7.1.2.1 != (0 : Int) then some ([], ((y_7.2.1.1, y_7.2.1.2.1, ()), y_7.1.2.1, ()), ()) else (f135_F k ((y_6.1, y_4.1, ()), y.1, y_7.1.1, ())).bind fun y => some (y.1.1, ((y_7.2.1.1, y_7.2.1.2.1, ()), y.1.2.1, ()), ()) else bif y.2.1.2.1 != (0 : Int) then some ([], ((y.2.1.1.1, y.2.1.1.2.1, ()), y.2.1.2.1, ()), ()) else (f134_F k ((y.2.1.1.1, y.2.1.1.2.1, ()), a4, IntKind.i64.wrap (a3 - (31 : Int)), ())).bind fun y_2 => bif y_2.1.2.1 != (0 : Int) then some ([], ((y_2.2.1.1, y_2.2.1.2.1, ()), y_2.1.2.1, ()), ()) else (f135_F k ((y_1.1.1.1, y_1.1.1.2.1, ()), y.1, y_2.1.1, ())).bind fun y => some (y.1.1, ((y_2.2.1.1, y_2.2.1.2.1, ()), y.1.2.1, ()), ()) else (f128_F k (((a0, a1, ()), a2, ()), decide (IntKind.i64.wrap (a3 - (8 : Int)) ≤ a4), ())).bind fun y => bif y.2.1.2.1 != (0 : Int) then some ([], ((y.2.1.1.1, y.2.1.1.2.1, ()), y.2.1.2.1, ()), ()) else (f133_F k (((y.2.1.1.1, y.2.1.1.2.1, ()), y.2.1.2.1, ()), IntKind.i64.wrap (a3 - (8 : Int)), a5, ())).bind fun y => (f109_F k (if (4 : Int) < IntKind.i64.wrap (a3 - (8 : Int)) then (4 : Int) else IntKind.i64.wrap (a3 - (8 : Int)), ())).bind fun y_1 => bif decide ((31 : Int) < a3) then (f129_F k (((y.2.1.1.1, y.2.1.1.2.1, ()), y.2.1.2.1, ()), 4, ())).bind fun y_2 => (f128_F k (((y_2.2.1.1.1, y_2.2.1.1.2.1, ()), y_2.2.1.2.1, ()), y_2.1 == (11 : Int), ())).bind fun y_3 => (f129_F k (((y_3.2.1.1.1, y_3.2.1.1.2.1, ()), y_3.2.1.2.1, ()), 5, ())).bind fun y_4 => (f128_F k (((y_4.2.1.1.1, y_4.2.1.1.2.1, ()), y_4.2.1.2.1, ()), decide (y_4.1 ≤ (15 : Int)), ())).bind fun y_5 => (f133_F k (((y_5.2.1.1.1, y_5.2.1.1.2.1, ()), y_5.2.1.2.1, ()), IntKind.i64.wrap (a3 - (8 : Int)), 12, ())).bind fun y_6 => bif y_6.2.1.2.1 != (0 : Int) then some ([], ((y_6.2.1.1.1, y_6.2.1.1.2.1, ()), y_6.2.1.2.1, ()), ()) else (f134_F k ((y_6.2.1.1.1, y_6.2.1.1.2.1, ()), a4, IntKind.i64.wrap (a3 - (8 : Int)), ())).bind fun y_7 => bif y_7.1.2.1 != (0 : Int) then some ([], ((y_7.2.1.1, y_7.2.1.2.1, ()), y_7.1.2.1, ()), ()) else (f135_F k ((y_6.1, y_4.1, ()), y.1, y_7.1.1, ())).bind fun y => some (y.1.1, ((y_7.2.1.1, y_7.2.1.2.1, ()), y.1.2.1, ()), ()) else bif y.2.1.2.1 != (0 : Int) then some ([], ((y.2.1.1.1, y.2.1.1.2.1, ()), y.2.1.2.1, ()), ()) else (f134_F k ((y.2.1.1.1, y.2.1.1.2.1, ()), a4, IntKind.i64.wrap (a3 - (8 : Int)), ())).bind fun y_2 => bif y_2.1.2.1 != (0 : Int) then some ([], ((y_2.2.1.1, y_2.2.1.2.1, ()), y_2.1.2.1, ()), ()) else (f135_F k ((y_1.1.1.1, y_1.1.1.2.1, ()), y.1, y_2.1.1, ())).bind fun y => some (y.1.1, ((y_2.2.1.1, y_2.2.1.2.1, ()), y.1.2.1, ()), ())
noncomputable def f88_F (k : Nat) := f88_raw0 k
theorem f88_eq (k : Nat) (x : Kd.dens f88_pk) : runX (f88_C k) nA Tryz.f88 f88_pk f88_rk x = f88_F k x := by
  show _ = f88_raw0 k x
  obtain ⟨⟨⟨a0, ⟨a1, ⟨⟩⟩⟩, ⟨a2, ⟨⟩⟩⟩, ⟨a3, ⟨a4, ⟨a5, ⟨⟩⟩⟩⟩⟩ := x
  kernel_rfl
theorem f88_ctr (k : Nat) : Ctr Tryz.prog k 88 (mk f88_pk f88_rk f88_F) :=
  lawX (fn := Tryz.f88) (phi_ok (ctr_cons (f109_ctr k) (ctr_cons (f128_ctr k) (ctr_cons (f129_ctr k) (ctr_cons (f132_ctr k) (ctr_cons (f133_ctr k) (ctr_cons (f134_ctr k) (ctr_cons (f135_ctr k) ctr_nil)))))))) (by kernel_rfl) (by kernel_rfl) (by kernel_rfl) (by kernel_rfl) (f88_eq k)
noncomputable abbrev f88_m : Nat × Callee := (88, mk f88_pk f88_rk f88_F)
abbrev f46_pk : List Kd := [.box [.view (.sl (.int .u8)), .view (.int .i64)], .view (.int .i64), .view (.int .i64)]
abbrev f46_rk : Kd := .tup [.view (.sl (.int .i64)), .view (.int .i64)]
noncomputable def f46_C (k : Nat) := cxX k [f86_m, f87_m, f88_m, f89_m]
def f46_A : Nat → Ann := fun id => bif Nat.beq id 12 then ⟨[58, 59, 57, 2, 10, 12], [.slot 12 ((Ty.int IntKind.i64))]⟩ else ⟨[], []⟩
abbrev f46_T1 := Int × Int × List Int × Int × Int × List Int × Int × List Int
abbrev f46_K1 := f46_T1 → Option ((List Int × Int × Unit) × (List Int × Int × Unit) × Unit)
end Go.Sh
