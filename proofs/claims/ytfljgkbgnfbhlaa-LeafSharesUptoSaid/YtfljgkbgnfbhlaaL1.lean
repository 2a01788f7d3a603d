/-
  What the functions compute.
-/
import Derived.Test.YtfljgkbgnfbhlaaM17
import Derived.Test.YtfljgkbgnfbhlaaProg
set_option linter.unusedVariables false
namespace Go.Sh
open Go Go.Proofs
abbrev pairT : Ty := .pair .str (.pair .str .unit)
abbrev nodeT : Ty := .pair .bool (.pair (.int .i64) (.pair (.sl pairT) .unit))
theorem prog_mixed : Try.prog.follows .mixedOrders = true := by kernel_rfl
abbrev f31_pk : List Kd := [.view pairT]
abbrev f31_rk : Kd := .view (.int .i64)
noncomputable def f31_code : Code := Try.f31.body.getD .skip
noncomputable def f31_C (k : Nat) : Ctx := { P := Try.prog, Φ := phi [], k := k, live := fun _ => [64] }
def f31_A : Nat → Ann := fun _ => ⟨[], []⟩
def f31_raw0 (k : Nat) : (ByteArray × ByteArray × Unit) × Unit → Option (Int × Unit)
  | ((a0, a1, ()), ()) => some (IntKind.i64.wrap (IntKind.i64.wrap ((2 : Int) + Int.ofNat a0.size) + Int.ofNat a1.size), ())
def f31_F (k : Nat) : (ByteArray × ByteArray × Unit) × Unit → Option (Int × Unit) := f31_raw0 k
theorem f31_eq (k : Nat) (x : Kd.dens f31_pk) : runF (f31_C k) f31_A Try.f31.ntmps f31_code Try.f31.results.toList f31_pk f31_rk (encs f31_pk x) (decR f31_pk f31_rk) = f31_F k x := by
  show _ = f31_raw0 k x
  obtain ⟨⟨a0, ⟨a1, ⟨⟩⟩⟩, ⟨⟩⟩ := x
  kernel_rfl
theorem f31_fits : fitsC Try.prog Try.f31.ntmps f31_code = true := by kernel_rfl
theorem f31_ctr (k : Nat) : Ctr Try.prog k 31 (mk f31_pk f31_rk f31_F) :=
  fun_law (C := f31_C k) (phi_ok ctr_nil) prog_mixed (A := f31_A) (fn := Try.f31) (code := f31_code) (by kernel_rfl) (by kernel_rfl) (by kernel_rfl) f31_fits (fun x y h => (f31_eq k x).trans h)
abbrev f30_pk : List Kd := [.view (.sl pairT)]
abbrev f30_rk : Kd := .view (.int .i64)
noncomputable def f30_code : Code := Try.f30.body.getD .skip
noncomputable def f30_C (k : Nat) : Ctx := { P := Try.prog, Φ := phi [(31, mk f31_pk f31_rk f31_F)], k := k, live := fun _ => [64] }
def f30_A : Nat → Ann := fun id => bif Nat.beq id 3 then ⟨[7, 8, 6, 3], []⟩ else ⟨[], []⟩
def f30_S1 : Int × Int × List (ByteArray × ByteArray × Unit) × Int → St
  | (v0, v1, v2, v3) => St.mk (envOf [(nat_lit 7, AV.val (PV.v (Value.int IntKind.i64 v0))), (nat_lit 8, AV.val (PV.v (Value.int IntKind.i64 v1))), (nat_lit 6, AV.val (PV.sl (Ty.str.pair (Ty.str.pair Ty.unit)) v2)), (nat_lit 3, AV.val (PV.v (Value.int IntKind.i64 v3)))]) (tblOf [])
def f30_raw1 (k : Nat) (L1 : Int × Int × List (ByteArray × ByteArray × Unit) × Int → Option (Int × Unit)) : Int × Int × List (ByteArray × ByteArray × Unit) × Int → Option (Int × Unit)
  | (v0, v1, v2, v3) => bif decide (v1 < v0) then bif decide ((0 : Int) ≤ v1 ∧ v1 < Int.ofNat v2.length) then (f31_F k (((v2.getD v1.toNat (ByteArray.mk #[], ByteArray.mk #[], ())).1, (v2.getD v1.toNat (ByteArray.mk #[], ByteArray.mk #[], ())).2.1, ()), ())).bind fun y => L1 (v0, IntKind.i64.wrap (v1 + (1 : Int)), v2, IntKind.i64.wrap (v3 + y.1)) else none else some (v3, ())
def f30_L1 (k : Nat) : Int × Int × List (ByteArray × ByteArray × Unit) × Int → Option (Int × Unit) := iter (fun L1 => f30_raw1 k L1) k
noncomputable def f30_at1 (k : Nat) (n : Nat) (v : Int × Int × List (ByteArray × ByteArray × Unit) × Int) : Option (Int × Unit) :=
  loopAt (f30_C k) f30_A [] [1, 1, 0, 1, 0] [] f30_code (leaveK (f30_C k) Try.f30.results.toList f30_pk [] f30_rk (decR f30_pk f30_rk)) n (f30_S1 v)
theorem f30_law1 (k : Nat) : ∀ n, f30_at1 k n = iter (fun L1 => f30_raw1 k L1) n :=
  iter_law (fun v => by kernel_rfl) (fun n v => by
    show f30_at1 k (n + 1) v = f30_raw1 k (f30_at1 k n) v
    obtain ⟨v0, v1, v2, v3⟩ := v
    kernel_rfl)
def f30_raw0 (k : Nat) (L1 : Int × Int × List (ByteArray × ByteArray × Unit) × Int → Option (Int × Unit)) : List (ByteArray × ByteArray × Unit) × Unit → Option (Int × Unit)
  | (a0, ()) => L1 (Int.ofNat a0.length, (0 : Int), a0, (0 : Int))
def f30_F (k : Nat) : List (ByteArray × ByteArray × Unit) × Unit → Option (Int × Unit) := f30_raw0 k (f30_L1 k)
theorem f30_eq (k : Nat) (x : Kd.dens f30_pk) : runF (f30_C k) f30_A Try.f30.ntmps f30_code Try.f30.results.toList f30_pk f30_rk (encs f30_pk x) (decR f30_pk f30_rk) = f30_F k x := by
  show _ = f30_raw0 k (f30_L1 k) x
  rw [show f30_L1 k = f30_at1 k k from (f30_law1 k k).symm]
  obtain ⟨a0, ⟨⟩⟩ := x
  kernel_rfl
theorem f30_fits : fitsC Try.prog Try.f30.ntmps f30_code = true := by kernel_rfl
theorem f30_ctr (k : Nat) : Ctr Try.prog k 30 (mk f30_pk f30_rk f30_F) :=
  fun_law (C := f30_C k) (phi_ok (ctr_cons (f31_ctr k) ctr_nil)) prog_mixed (A := f30_A) (fn := Try.f30) (code := f30_code) (by kernel_rfl) (by kernel_rfl) (by kernel_rfl) f30_fits (fun x y h => (f30_eq k x).trans h)
abbrev f19_pk : List Kd := [.view nodeT]
abbrev f19_rk : Kd := .view (.int .i64)
noncomputable def f19_code : Code := Try.f19.body.getD .skip
noncomputable def f19_C (k : Nat) : Ctx := { P := Try.prog, Φ := phi [(30, mk f30_pk f30_rk f30_F)], k := k, live := fun _ => [64] }
def f19_A : Nat → Ann := fun _ => ⟨[], []⟩
def f19_raw0 (k : Nat) : (Bool × Int × List (ByteArray × ByteArray × Unit) × Unit) × Unit → Option (Int × Unit)
  | ((a0, a1, a2, ()), ()) => bif a0 then (f30_F k (a2, ())).bind fun y => some (IntKind.i64.wrap ((6 : Int) + y.1), ()) else (f30_F k (a2, ())).bind fun y => some (IntKind.i64.wrap ((2 : Int) + y.1), ())
def f19_F (k : Nat) : (Bool × Int × List (ByteArray × ByteArray × Unit) × Unit) × Unit → Option (Int × Unit) := f19_raw0 k
theorem f19_eq (k : Nat) (x : Kd.dens f19_pk) : runF (f19_C k) f19_A Try.f19.ntmps f19_code Try.f19.results.toList f19_pk f19_rk (encs f19_pk x) (decR f19_pk f19_rk) = f19_F k x := by
  show _ = f19_raw0 k x
  obtain ⟨⟨a0, ⟨a1, ⟨a2, ⟨⟩⟩⟩⟩, ⟨⟩⟩ := x
  kernel_rfl
theorem f19_fits : fitsC Try.prog Try.f19.ntmps f19_code = true := by kernel_rfl
theorem f19_ctr (k : Nat) : Ctr Try.prog k 19 (mk f19_pk f19_rk f19_F) :=
  fun_law (C := f19_C k) (phi_ok (ctr_cons (f30_ctr k) ctr_nil)) prog_mixed (A := f19_A) (fn := Try.f19) (code := f19_code) (by kernel_rfl) (by kernel_rfl) (by kernel_rfl) f19_fits (fun x y h => (f19_eq k x).trans h)
abbrev f26_pk : List Kd := [.view pairT]
abbrev f26_rk : Kd := .view (.int .i64)
noncomputable def f26_code : Code := Try.f26.body.getD .skip
noncomputable def f26_C (k : Nat) : Ctx := { P := Try.prog, Φ := phi [], k := k, live := fun _ => [64] }
def f26_A : Nat → Ann := fun id => bif Nat.beq id 3 then ⟨[5, 3, 1], []⟩ else ⟨[], []⟩
def f26_S1 : Int × Int × ByteArray × ByteArray → St
  | (v0, v1, v2, v3) => St.mk (envOf [(nat_lit 5, AV.val (PV.v (Value.int IntKind.i64 v0))), (nat_lit 3, AV.val (PV.v (Value.int IntKind.i64 v1))), (nat_lit 1, AV.bx (nat_lit 8192) (nat_lit 0))]) (tblOf [(nat_lit 8192, RS.live (Res.box [AV.val (PV.v (Value.string v2)), AV.val (PV.v (Value.string v3))]))])
def f26_raw1 (k : Nat) (L1 : Int × Int × ByteArray × ByteArray → Option (Int × Unit)) : Int × Int × ByteArray × ByteArray → Option (Int × Unit)
  | (v0, v1, v2, v3) => bif decide (v0 < (4 : Int)) then bif decide ((0 : Int) ≤ v0 ∧ v0 < Int.ofNat v3.size) then L1 (IntKind.i64.wrap (v0 + (1 : Int)), IntKind.i64.wrap (Int.ofNat (BitVec.ofInt (64 : Nat) (IntKind.i64.wrap (v1 * (256 : Int))) ||| BitVec.ofInt (64 : Nat) (IntKind.i64.wrap (Int.ofNat (v3.data.toList.getD v0.toNat (OfNat.ofNat (0 : Nat))).toNat))).toNat), v2, v3) else none else some (v1, ())
def f26_L1 (k : Nat) : Int × Int × ByteArray × ByteArray → Option (Int × Unit) := iter (fun L1 => f26_raw1 k L1) k
noncomputable def f26_at1 (k : Nat) (n : Nat) (v : Int × Int × ByteArray × ByteArray) : Option (Int × Unit) :=
  loopAt (f26_C k) f26_A [] [1, 1, 0, 1, 0] [] f26_code (leaveK (f26_C k) Try.f26.results.toList f26_pk [] f26_rk (decR f26_pk f26_rk)) n (f26_S1 v)
theorem f26_law1 (k : Nat) : ∀ n, f26_at1 k n = iter (fun L1 => f26_raw1 k L1) n :=
  iter_law (fun v => by kernel_rfl) (fun n v => by
    show f26_at1 k (n + 1) v = f26_raw1 k (f26_at1 k n) v
    obtain ⟨v0, v1, v2, v3⟩ := v
    kernel_rfl)
def f26_raw0 (k : Nat) (L1 : Int × Int × ByteArray × ByteArray → Option (Int × Unit)) : (ByteArray × ByteArray × Unit) × Unit → Option (Int × Unit)
  | ((a0, a1, ()), ()) => L1 ((0 : Int), (0 : Int), a0, a1)
def f26_F (k : Nat) : (ByteArray × ByteArray × Unit) × Unit → Option (Int × Unit) := f26_raw0 k (f26_L1 k)
theorem f26_eq (k : Nat) (x : Kd.dens f26_pk) : runF (f26_C k) f26_A Try.f26.ntmps f26_code Try.f26.results.toList f26_pk f26_rk (encs f26_pk x) (decR f26_pk f26_rk) = f26_F k x := by
  show _ = f26_raw0 k (f26_L1 k) x
  rw [show f26_L1 k = f26_at1 k k from (f26_law1 k k).symm]
  obtain ⟨⟨a0, ⟨a1, ⟨⟩⟩⟩, ⟨⟩⟩ := x
  kernel_rfl
theorem f26_fits : fitsC Try.prog Try.f26.ntmps f26_code = true := by kernel_rfl
theorem f26_ctr (k : Nat) : Ctr Try.prog k 26 (mk f26_pk f26_rk f26_F) :=
  fun_law (C := f26_C k) (phi_ok ctr_nil) prog_mixed (A := f26_A) (fn := Try.f26) (code := f26_code) (by kernel_rfl) (by kernel_rfl) (by kernel_rfl) f26_fits (fun x y h => (f26_eq k x).trans h)
abbrev f27_pk : List Kd := [.view (.int .i64)]
abbrev f27_rk : Kd := .view .str
noncomputable def f27_code : Code := Try.f27.body.getD .skip
noncomputable def f27_C (k : Nat) : Ctx := { P := Try.prog, Φ := phi [], k := k, live := fun _ => [64] }
def f27_A : Nat → Ann := fun _ => ⟨[], []⟩
def f27_raw0 (k : Nat) : Int × Unit → Option (ByteArray × Unit)
  | (a0, ()) => some (ByteArray.mk (List.map (fun n => UInt8.ofNat n.toNat) [IntKind.u8.wrap (a0.fdiv (16777216 : Int)), IntKind.u8.wrap (a0.fdiv (65536 : Int)), IntKind.u8.wrap (a0.fdiv (256 : Int)), IntKind.u8.wrap a0]).toArray, ())
def f27_F (k : Nat) : Int × Unit → Option (ByteArray × Unit) := f27_raw0 k
theorem f27_eq (k : Nat) (x : Kd.dens f27_pk) : runF (f27_C k) f27_A Try.f27.ntmps f27_code Try.f27.results.toList f27_pk f27_rk (encs f27_pk x) (decR f27_pk f27_rk) = f27_F k x := by
  show _ = f27_raw0 k x
  obtain ⟨a0, ⟨⟩⟩ := x
  kernel_rfl
theorem f27_fits : fitsC Try.prog Try.f27.ntmps f27_code = true := by kernel_rfl
theorem f27_ctr (k : Nat) : Ctr Try.prog k 27 (mk f27_pk f27_rk f27_F) :=
  fun_law (C := f27_C k) (phi_ok ctr_nil) prog_mixed (A := f27_A) (fn := Try.f27) (code := f27_code) (by kernel_rfl) (by kernel_rfl) (by kernel_rfl) f27_fits (fun x y h => (f27_eq k x).trans h)
abbrev f14_pk : List Kd := [.view (.int .i64)]
abbrev f14_rk : Kd := .view .str
noncomputable def f14_code : Code := Try.f14.body.getD .skip
noncomputable def f14_C (k : Nat) : Ctx := { P := Try.prog, Φ := phi [], k := k, live := fun _ => [64] }
def f14_A : Nat → Ann := fun _ => ⟨[], []⟩
def f14_raw0 (k : Nat) : Int × Unit → Option (ByteArray × Unit)
  | (a0, ()) => some (ByteArray.mk (List.map (fun n => UInt8.ofNat n.toNat) [IntKind.u8.wrap (a0.fdiv (16777216 : Int)), IntKind.u8.wrap (a0.fdiv (65536 : Int)), IntKind.u8.wrap (a0.fdiv (256 : Int)), IntKind.u8.wrap a0]).toArray, ())
def f14_F (k : Nat) : Int × Unit → Option (ByteArray × Unit) := f14_raw0 k
theorem f14_eq (k : Nat) (x : Kd.dens f14_pk) : runF (f14_C k) f14_A Try.f14.ntmps f14_code Try.f14.results.toList f14_pk f14_rk (encs f14_pk x) (decR f14_pk f14_rk) = f14_F k x := by
  show _ = f14_raw0 k x
  obtain ⟨a0, ⟨⟩⟩ := x
  kernel_rfl
theorem f14_fits : fitsC Try.prog Try.f14.ntmps f14_code = true := by kernel_rfl
theorem f14_ctr (k : Nat) : Ctr Try.prog k 14 (mk f14_pk f14_rk f14_F) :=
  fun_law (C := f14_C k) (phi_ok ctr_nil) prog_mixed (A := f14_A) (fn := Try.f14) (code := f14_code) (by kernel_rfl) (by kernel_rfl) (by kernel_rfl) f14_fits (fun x y h => (f14_eq k x).trans h)
abbrev f24_pk : List Kd := [.view .str]
abbrev f24_rk : Kd := .view (.int .i64)
noncomputable def f24_code : Code := Try.f24.body.getD .skip
noncomputable def f24_C (k : Nat) : Ctx := { P := Try.prog, Φ := phi [], k := k, live := fun _ => [64] }
def f24_A : Nat → Ann := fun _ => ⟨[], []⟩
def f24_raw0 (k : Nat) : ByteArray × Unit → Option (Int × Unit)
  | (a0, ()) => bif decide ((0 : Int) ≤ (0 : Int) ∧ (0 : Int) < Int.ofNat a0.size) then bif decide ((0 : Int) ≤ (1 : Int) ∧ (1 : Int) < Int.ofNat a0.size) then bif decide ((0 : Int) ≤ (2 : Int) ∧ (2 : Int) < Int.ofNat a0.size) then bif decide ((0 : Int) ≤ (3 : Int) ∧ (3 : Int) < Int.ofNat a0.size) then some (IntKind.i64.wrap (IntKind.i64.wrap (IntKind.i64.wrap (IntKind.i64.wrap (IntKind.i64.wrap (Int.ofNat (a0.data.toList.getD (0 : Nat) (OfNat.ofNat (0 : Nat))).toNat) * (16777216 : Int)) + IntKind.i64.wrap (IntKind.i64.wrap (Int.ofNat (a0.data.toList.getD (1 : Nat) (OfNat.ofNat (0 : Nat))).toNat) * (65536 : Int))) + IntKind.i64.wrap (IntKind.i64.wrap (Int.ofNat (a0.data.toList.getD (2 : Nat) (OfNat.ofNat (0 : Nat))).toNat) * (256 : Int))) + IntKind.i64.wrap (Int.ofNat (a0.data.toList.getD (3 : Nat) (OfNat.ofNat (0 : Nat))).toNat)), ()) else none else none else none else none
def f24_F (k : Nat) : ByteArray × Unit → Option (Int × Unit) := f24_raw0 k
theorem f24_eq (k : Nat) (x : Kd.dens f24_pk) : runF (f24_C k) f24_A Try.f24.ntmps f24_code Try.f24.results.toList f24_pk f24_rk (encs f24_pk x) (decR f24_pk f24_rk) = f24_F k x := by
  show _ = f24_raw0 k x
  obtain ⟨a0, ⟨⟩⟩ := x
  kernel_rfl
theorem f24_fits : fitsC Try.prog Try.f24.ntmps f24_code = true := by kernel_rfl
theorem f24_ctr (k : Nat) : Ctr Try.prog k 24 (mk f24_pk f24_rk f24_F) :=
  fun_law (C := f24_C k) (phi_ok ctr_nil) prog_mixed (A := f24_A) (fn := Try.f24) (code := f24_code) (by kernel_rfl) (by kernel_rfl) (by kernel_rfl) f24_fits (fun x y h => (f24_eq k x).trans h)
abbrev f13_pk : List Kd := [.view .str, .view (.int .i64)]
abbrev f13_rk : Kd := .view pairT
noncomputable def f13_code : Code := Try.f13.body.getD .skip
noncomputable def f13_C (k : Nat) : Ctx := { P := Try.prog, Φ := phi [(27, mk f27_pk f27_rk f27_F)], k := k, live := fun _ => [64] }
def f13_A : Nat → Ann := fun _ => ⟨[], []⟩
def f13_raw0 (k : Nat) : ByteArray × Int × Unit → Option ((ByteArray × ByteArray × Unit) × Unit)
  | (a0, a1, ()) => (f27_F k (a1, ())).bind fun y => some ((a0, y.1, ()), ())
def f13_F (k : Nat) : ByteArray × Int × Unit → Option ((ByteArray × ByteArray × Unit) × Unit) := f13_raw0 k
theorem f13_eq (k : Nat) (x : Kd.dens f13_pk) : runF (f13_C k) f13_A Try.f13.ntmps f13_code Try.f13.results.toList f13_pk f13_rk (encs f13_pk x) (decR f13_pk f13_rk) = f13_F k x := by
  show _ = f13_raw0 k x
  obtain ⟨a0, ⟨a1, ⟨⟩⟩⟩ := x
  kernel_rfl
theorem f13_fits : fitsC Try.prog Try.f13.ntmps f13_code = true := by kernel_rfl
theorem f13_ctr (k : Nat) : Ctr Try.prog k 13 (mk f13_pk f13_rk f13_F) :=
  fun_law (C := f13_C k) (phi_ok (ctr_cons (f27_ctr k) ctr_nil)) prog_mixed (A := f13_A) (fn := Try.f13) (code := f13_code) (by kernel_rfl) (by kernel_rfl) (by kernel_rfl) f13_fits (fun x y h => (f13_eq k x).trans h)
abbrev f25_pk : List Kd := [.view nodeT]
abbrev f25_rk : Kd := .view .bool
noncomputable def f25_code : Code := Try.f25.body.getD .skip
noncomputable def f25_C (k : Nat) : Ctx := { P := Try.prog, Φ := phi [(26, mk f26_pk f26_rk f26_F)], k := k, live := fun _ => [64] }
def f25_A : Nat → Ann := fun id => bif Nat.beq id 4 then ⟨[35, 36, 34, 1], []⟩ else ⟨[], []⟩
def f25_S1 : Int × Int × List (ByteArray × ByteArray × Unit) × Bool × Int × List (ByteArray × ByteArray × Unit) → St
  | (v0, v1, v2, v3, v4, v5) => St.mk (envOf [(nat_lit 35, AV.val (PV.v (Value.int IntKind.i64 v0))), (nat_lit 36, AV.val (PV.v (Value.int IntKind.i64 v1))), (nat_lit 34, AV.val (PV.sl (Ty.str.pair (Ty.str.pair Ty.unit)) v2)), (nat_lit 1, AV.bx (nat_lit 8192) (nat_lit 0))]) (tblOf [(nat_lit 8192, RS.live (Res.box [AV.val (PV.v (Value.bool v3)), AV.val (PV.v (Value.int IntKind.i64 v4)), AV.val (PV.sl (Ty.str.pair (Ty.str.pair Ty.unit)) v5)]))])
def f25_raw1 (k : Nat) (L1 : Int × Int × List (ByteArray × ByteArray × Unit) × Bool × Int × List (ByteArray × ByteArray × Unit) → Option (Bool × Unit)) : Int × Int × List (ByteArray × ByteArray × Unit) × Bool × Int × List (ByteArray × ByteArray × Unit) → Option (Bool × Unit)
  | (v0, v1, v2, v3, v4, v5) => bif decide (v1 < v0) then bif decide ((0 : Int) ≤ v1 ∧ v1 < Int.ofNat v2.length) then bif ByteArray.toList (v2.getD v1.toNat (ByteArray.mk #[], ByteArray.mk #[], ())).1 == (ByteArray.mk #[]).toList then some (false, ()) else bif decide ((32 : Int) < Int.ofNat (ByteArray.size (v2.getD v1.toNat (ByteArray.mk #[], ByteArray.mk #[], ())).1)) then some (false, ()) else bif decide ((0 : Int) < v1) then bif decide ((0 : Int) ≤ IntKind.i64.wrap (v1 - (1 : Int)) ∧ IntKind.i64.wrap (v1 - (1 : Int)) < Int.ofNat v5.length) then bif Op.bytesLess (ByteArray.toList (v2.getD v1.toNat (ByteArray.mk #[], ByteArray.mk #[], ())).1) (ByteArray.toList (v5.getD (IntKind.i64.wrap (v1 - (1 : Int))).toNat (ByteArray.mk #[], ByteArray.mk #[], ())).1) || ByteArray.toList (v2.getD v1.toNat (ByteArray.mk #[], ByteArray.mk #[], ())).1 == ByteArray.toList (v5.getD (IntKind.i64.wrap (v1 - (1 : Int))).toNat (ByteArray.mk #[], ByteArray.mk #[], ())).1 then some (false, ()) else bif v3 then bif Int.ofNat (ByteArray.size (v2.getD v1.toNat (ByteArray.mk #[], ByteArray.mk #[], ())).2.1) != (4 : Int) then some (false, ()) else (f26_F k (((v2.getD v1.toNat (ByteArray.mk #[], ByteArray.mk #[], ())).1, (v2.getD v1.toNat (ByteArray.mk #[], ByteArray.mk #[], ())).2.1, ()), ())).bind fun y => bif y.1 == (0 : Int) then some (false, ()) else bif !v3 then bif decide ((48 : Int) < Int.ofNat (ByteArray.size (v2.getD v1.toNat (ByteArray.mk #[], ByteArray.mk #[], ())).2.1)) then some (false, ()) else L1 (v0, IntKind.i64.wrap (v1 + (1 : Int)), v2, v3, v4, v5) else L1 (v0, IntKind.i64.wrap (v1 + (1 : Int)), v2, v3, v4, v5) else bif !v3 then bif decide ((48 : Int) < Int.ofNat (ByteArray.size (v2.getD v1.toNat (ByteArray.mk #[], ByteArray.mk #[], ())).2.1)) then some (false, ()) else L1 (v0, IntKind.i64.wrap (v1 + (1 : Int)), v2, v3, v4, v5) else L1 (v0, IntKind.i64.wrap (v1 + (1 : Int)), v2, v3, v4, v5) else none else bif v3 then bif Int.ofNat (ByteArray.size (v2.getD v1.toNat (ByteArray.mk #[], ByteArray.mk #[], ())).2.1) != (4 : Int) then some (false, ()) else (f26_F k (((v2.getD v1.toNat (ByteArray.mk #[], ByteArray.mk #[], ())).1, (v2.getD v1.toNat (ByteArray.mk #[], ByteArray.mk #[], ())).2.1, ()), ())).bind fun y => bif y.1 == (0 : Int) then some (false, ()) else bif !v3 then bif decide ((48 : Int) < Int.ofNat (ByteArray.size (v2.getD v1.toNat (ByteArray.mk #[], ByteArray.mk #[], ())).2.1)) then some (false, ()) else L1 (v0, IntKind.i64.wrap (v1 + (1 : Int)), v2, v3, v4, v5) else L1 (v0, IntKind.i64.wrap (v1 + (1 : Int)), v2, v3, v4, v5) else bif !v3 then bif decide ((48 : Int) < Int.ofNat (ByteArray.size (v2.getD v1.toNat (ByteArray.mk #[], ByteArray.mk #[], ())).2.1)) then some (false, ()) else L1 (v0, IntKind.i64.wrap (v1 + (1 : Int)), v2, v3, v4, v5) else L1 (v0, IntKind.i64.wrap (v1 + (1 : Int)), v2, v3, v4, v5) else none else some (true, ())
def f25_L1 (k : Nat) : Int × Int × List (ByteArray × ByteArray × Unit) × Bool × Int × List (ByteArray × ByteArray × Unit) → Option (Bool × Unit) := iter (fun L1 => f25_raw1 k L1) k
noncomputable def f25_at1 (k : Nat) (n : Nat) (v : Int × Int × List (ByteArray × ByteArray × Unit) × Bool × Int × List (ByteArray × ByteArray × Unit)) : Option (Bool × Unit) :=
  loopAt (f25_C k) f25_A [] [1, 1, 0, 1, 0] [] f25_code (leaveK (f25_C k) Try.f25.results.toList f25_pk [] f25_rk (decR f25_pk f25_rk)) n (f25_S1 v)
theorem f25_law1 (k : Nat) : ∀ n, f25_at1 k n = iter (fun L1 => f25_raw1 k L1) n :=
  iter_law (fun v => by kernel_rfl) (fun n v => by
    show f25_at1 k (n + 1) v = f25_raw1 k (f25_at1 k n) v
    obtain ⟨v0, v1, v2, v3, v4, v5⟩ := v
    kernel_rfl)
def f25_raw0 (k : Nat) (L1 : Int × Int × List (ByteArray × ByteArray × Unit) × Bool × Int × List (ByteArray × ByteArray × Unit) → Option (Bool × Unit)) : (Bool × Int × List (ByteArray × ByteArray × Unit) × Unit) × Unit → Option (Bool × Unit)
  | ((a0, a1, a2, ()), ()) => bif decide ((255 : Int) < Int.ofNat a2.length) then some (false, ()) else bif !a0 then bif a1 != (0 : Int) then some (false, ()) else bif a0 then bif decide (a1 < (1 : Int)) then some (false, ()) else bif decide ((4294967296 : Int) ≤ a1) then some (false, ()) else L1 (Int.ofNat a2.length, (0 : Int), a2, a0, a1, a2) else L1 (Int.ofNat a2.length, (0 : Int), a2, a0, a1, a2) else bif a0 then bif decide (a1 < (1 : Int)) then some (false, ()) else bif decide ((4294967296 : Int) ≤ a1) then some (false, ()) else L1 (Int.ofNat a2.length, (0 : Int), a2, a0, a1, a2) else L1 (Int.ofNat a2.length, (0 : Int), a2, a0, a1, a2)
def f25_F (k : Nat) : (Bool × Int × List (ByteArray × ByteArray × Unit) × Unit) × Unit → Option (Bool × Unit) := f25_raw0 k (f25_L1 k)
theorem f25_eq (k : Nat) (x : Kd.dens f25_pk) : runF (f25_C k) f25_A Try.f25.ntmps f25_code Try.f25.results.toList f25_pk f25_rk (encs f25_pk x) (decR f25_pk f25_rk) = f25_F k x := by
  show _ = f25_raw0 k (f25_L1 k) x
  rw [show f25_L1 k = f25_at1 k k from (f25_law1 k k).symm]
  obtain ⟨⟨a0, ⟨a1, ⟨a2, ⟨⟩⟩⟩⟩, ⟨⟩⟩ := x
  kernel_rfl
theorem f25_fits : fitsC Try.prog Try.f25.ntmps f25_code = true := by kernel_rfl
theorem f25_ctr (k : Nat) : Ctr Try.prog k 25 (mk f25_pk f25_rk f25_F) :=
  fun_law (C := f25_C k) (phi_ok (ctr_cons (f26_ctr k) ctr_nil)) prog_mixed (A := f25_A) (fn := Try.f25) (code := f25_code) (by kernel_rfl) (by kernel_rfl) (by kernel_rfl) f25_fits (fun x y h => (f25_eq k x).trans h)
abbrev f11_pk : List Kd := [.view nodeT, .view .str]
abbrev f11_rk : Kd := .tup [.view (.int .i64), .view (.int .i64), .view (.int .i64)]
noncomputable def f11_code : Code := Try.f11.body.getD .skip
noncomputable def f11_C (k : Nat) : Ctx := { P := Try.prog, Φ := phi [(25, mk f25_pk f25_rk f25_F), (26, mk f26_pk f26_rk f26_F)], k := k, live := fun _ => [64] }
def f11_A : Nat → Ann := fun id => bif Nat.beq id 6 then ⟨[7, 2, 1], []⟩ else ⟨[], []⟩
def f11_S1 : Int × ByteArray × Bool × Int × List (ByteArray × ByteArray × Unit) → St
  | (v0, v1, v2, v3, v4) => St.mk (envOf [(nat_lit 7, AV.val (PV.v (Value.int IntKind.i64 v0))), (nat_lit 2, AV.bx (nat_lit 8192) (nat_lit 0)), (nat_lit 1, AV.val (PV.v (Value.string v1)))]) (tblOf [(nat_lit 8192, RS.live (Res.box [AV.val (PV.v (Value.bool v2)), AV.val (PV.v (Value.int IntKind.i64 v3)), AV.val (PV.sl (Ty.str.pair (Ty.str.pair Ty.unit)) v4)]))])
def f11_raw1 (k : Nat) (L1 : Int × ByteArray × Bool × Int × List (ByteArray × ByteArray × Unit) → Option ((Int × Int × Int × Unit) × Unit)) : Int × ByteArray × Bool × Int × List (ByteArray × ByteArray × Unit) → Option ((Int × Int × Int × Unit) × Unit)
  | (v0, v1, v2, v3, v4) => bif decide (v0 < Int.ofNat v4.length) then bif decide ((0 : Int) ≤ v0 ∧ v0 < Int.ofNat v4.length) then bif Op.bytesLess (ByteArray.toList (v4.getD v0.toNat (ByteArray.mk #[], ByteArray.mk #[], ())).1) v1.toList || ByteArray.toList (v4.getD v0.toNat (ByteArray.mk #[], ByteArray.mk #[], ())).1 == v1.toList then L1 (IntKind.i64.wrap (v0 + (1 : Int)), v1, v2, v3, v4) else bif v0 == (0 : Int) then some ((OfNat.ofNat (0 : Nat), v3, OfNat.ofNat (0 : Nat), ()), ()) else bif decide ((0 : Int) ≤ IntKind.i64.wrap (v0 - (1 : Int)) ∧ IntKind.i64.wrap (v0 - (1 : Int)) < Int.ofNat v4.length) then (f26_F k (((v4.getD (IntKind.i64.wrap (v0 - (1 : Int))).toNat (ByteArray.mk #[], ByteArray.mk #[], ())).1, (v4.getD (IntKind.i64.wrap (v0 - (1 : Int))).toNat (ByteArray.mk #[], ByteArray.mk #[], ())).2.1, ()), ())).bind fun y => some ((v0, y.1, OfNat.ofNat (0 : Nat), ()), ()) else none else none else bif v0 == (0 : Int) then some ((OfNat.ofNat (0 : Nat), v3, OfNat.ofNat (0 : Nat), ()), ()) else bif decide ((0 : Int) ≤ IntKind.i64.wrap (v0 - (1 : Int)) ∧ IntKind.i64.wrap (v0 - (1 : Int)) < Int.ofNat v4.length) then (f26_F k (((v4.getD (IntKind.i64.wrap (v0 - (1 : Int))).toNat (ByteArray.mk #[], ByteArray.mk #[], ())).1, (v4.getD (IntKind.i64.wrap (v0 - (1 : Int))).toNat (ByteArray.mk #[], ByteArray.mk #[], ())).2.1, ()), ())).bind fun y => some ((v0, y.1, OfNat.ofNat (0 : Nat), ()), ()) else none
def f11_L1 (k : Nat) : Int × ByteArray × Bool × Int × List (ByteArray × ByteArray × Unit) → Option ((Int × Int × Int × Unit) × Unit) := iter (fun L1 => f11_raw1 k L1) k
noncomputable def f11_at1 (k : Nat) (n : Nat) (v : Int × ByteArray × Bool × Int × List (ByteArray × ByteArray × Unit)) : Option ((Int × Int × Int × Unit) × Unit) :=
  loopAt (f11_C k) f11_A [] [1, 1, 1, 0, 0] [] f11_code (leaveK (f11_C k) Try.f11.results.toList f11_pk [] f11_rk (decR f11_pk f11_rk)) n (f11_S1 v)
theorem f11_law1 (k : Nat) : ∀ n, f11_at1 k n = iter (fun L1 => f11_raw1 k L1) n :=
  iter_law (fun v => by kernel_rfl) (fun n v => by
    show f11_at1 k (n + 1) v = f11_raw1 k (f11_at1 k n) v
    obtain ⟨v0, v1, v2, v3, v4⟩ := v
    kernel_rfl)
def f11_raw0 (k : Nat) (L1 : Int × ByteArray × Bool × Int × List (ByteArray × ByteArray × Unit) → Option ((Int × Int × Int × Unit) × Unit)) : (Bool × Int × List (ByteArray × ByteArray × Unit) × Unit) × ByteArray × Unit → Option ((Int × Int × Int × Unit) × Unit)
  | ((a0, a1, a2, ()), a3, ()) => (f25_F k ((a0, a1, a2, ()), ())).bind fun y => bif !y.1 then some ((OfNat.ofNat (0 : Nat), OfNat.ofNat (0 : Nat), OfNat.ofNat (2 : Nat), ()), ()) else bif !a0 then some ((OfNat.ofNat (0 : Nat), OfNat.ofNat (0 : Nat), OfNat.ofNat (1 : Nat), ()), ()) else L1 ((0 : Int), a3, a0, a1, a2)
def f11_F (k : Nat) : (Bool × Int × List (ByteArray × ByteArray × Unit) × Unit) × ByteArray × Unit → Option ((Int × Int × Int × Unit) × Unit) := f11_raw0 k (f11_L1 k)
theorem f11_eq (k : Nat) (x : Kd.dens f11_pk) : runF (f11_C k) f11_A Try.f11.ntmps f11_code Try.f11.results.toList f11_pk f11_rk (encs f11_pk x) (decR f11_pk f11_rk) = f11_F k x := by
  show _ = f11_raw0 k (f11_L1 k) x
  rw [show f11_L1 k = f11_at1 k k from (f11_law1 k k).symm]
  obtain ⟨⟨a0, ⟨a1, ⟨a2, ⟨⟩⟩⟩⟩, ⟨a3, ⟨⟩⟩⟩ := x
  kernel_rfl
theorem f11_fits : fitsC Try.prog Try.f11.ntmps f11_code = true := by kernel_rfl
theorem f11_ctr (k : Nat) : Ctr Try.prog k 11 (mk f11_pk f11_rk f11_F) :=
  fun_law (C := f11_C k) (phi_ok (ctr_cons (f25_ctr k) (ctr_cons (f26_ctr k) ctr_nil))) prog_mixed (A := f11_A) (fn := Try.f11) (code := f11_code) (by kernel_rfl) (by kernel_rfl) (by kernel_rfl) f11_fits (fun x y h => (f11_eq k x).trans h)
abbrev f22_pk : List Kd := [.view nodeT]
abbrev f22_rk : Kd := .view .bool
noncomputable def f22_code : Code := Try.f22.body.getD .skip
noncomputable def f22_C (k : Nat) : Ctx := { P := Try.prog, Φ := phi [], k := k, live := fun _ => [64] }
def f22_A : Nat → Ann := fun id => bif Nat.beq id 4 then ⟨[3, 1], []⟩ else ⟨[], []⟩
def f22_S1 : Int × Bool × Int × List (ByteArray × ByteArray × Unit) → St
  | (v0, v1, v2, v3) => St.mk (envOf [(nat_lit 3, AV.val (PV.v (Value.int IntKind.i64 v0))), (nat_lit 1, AV.bx (nat_lit 8192) (nat_lit 0))]) (tblOf [(nat_lit 8192, RS.live (Res.box [AV.val (PV.v (Value.bool v1)), AV.val (PV.v (Value.int IntKind.i64 v2)), AV.val (PV.sl (Ty.str.pair (Ty.str.pair Ty.unit)) v3)]))])
def f22_raw1 (k : Nat) (L1 : Int × Bool × Int × List (ByteArray × ByteArray × Unit) → Option (Bool × Unit)) : Int × Bool × Int × List (ByteArray × ByteArray × Unit) → Option (Bool × Unit)
  | (v0, v1, v2, v3) => bif decide (v0 < Int.ofNat v3.length) then bif decide ((0 : Int) ≤ v0 ∧ v0 < Int.ofNat v3.length) then bif ByteArray.toList (v3.getD v0.toNat (ByteArray.mk #[], ByteArray.mk #[], ())).1 == (ByteArray.mk #[]).toList then some (false, ()) else bif decide ((32 : Int) < Int.ofNat (ByteArray.size (v3.getD v0.toNat (ByteArray.mk #[], ByteArray.mk #[], ())).1)) then some (false, ()) else bif decide ((0 : Int) < v0) then bif decide ((0 : Int) ≤ IntKind.i64.wrap (v0 - (1 : Int)) ∧ IntKind.i64.wrap (v0 - (1 : Int)) < Int.ofNat v3.length) then bif Op.bytesLess (ByteArray.toList (v3.getD v0.toNat (ByteArray.mk #[], ByteArray.mk #[], ())).1) (ByteArray.toList (v3.getD (IntKind.i64.wrap (v0 - (1 : Int))).toNat (ByteArray.mk #[], ByteArray.mk #[], ())).1) || ByteArray.toList (v3.getD v0.toNat (ByteArray.mk #[], ByteArray.mk #[], ())).1 == ByteArray.toList (v3.getD (IntKind.i64.wrap (v0 - (1 : Int))).toNat (ByteArray.mk #[], ByteArray.mk #[], ())).1 then some (false, ()) else bif !v1 then bif decide ((48 : Int) < Int.ofNat (ByteArray.size (v3.getD v0.toNat (ByteArray.mk #[], ByteArray.mk #[], ())).2.1)) then some (false, ()) else bif v1 then bif Int.ofNat (ByteArray.size (v3.getD v0.toNat (ByteArray.mk #[], ByteArray.mk #[], ())).2.1) != (4 : Int) then some (false, ()) else bif ByteArray.toList (v3.getD v0.toNat (ByteArray.mk #[], ByteArray.mk #[], ())).2.1 == (ByteArray.mk #[OfNat.ofNat (0 : Nat), OfNat.ofNat (0 : Nat), OfNat.ofNat (0 : Nat), OfNat.ofNat (0 : Nat)]).toList then some (false, ()) else L1 (IntKind.i64.wrap (v0 + (1 : Int)), v1, v2, v3) else L1 (IntKind.i64.wrap (v0 + (1 : Int)), v1, v2, v3) else bif v1 then bif Int.ofNat (ByteArray.size (v3.getD v0.toNat (ByteArray.mk #[], ByteArray.mk #[], ())).2.1) != (4 : Int) then some (false, ()) else bif ByteArray.toList (v3.getD v0.toNat (ByteArray.mk #[], ByteArray.mk #[], ())).2.1 == (ByteArray.mk #[OfNat.ofNat (0 : Nat), OfNat.ofNat (0 : Nat), OfNat.ofNat (0 : Nat), OfNat.ofNat (0 : Nat)]).toList then some (false, ()) else L1 (IntKind.i64.wrap (v0 + (1 : Int)), v1, v2, v3) else L1 (IntKind.i64.wrap (v0 + (1 : Int)), v1, v2, v3) else none else bif !v1 then bif decide ((48 : Int) < Int.ofNat (ByteArray.size (v3.getD v0.toNat (ByteArray.mk #[], ByteArray.mk #[], ())).2.1)) then some (false, ()) else bif v1 then bif Int.ofNat (ByteArray.size (v3.getD v0.toNat (ByteArray.mk #[], ByteArray.mk #[], ())).2.1) != (4 : Int) then some (false, ()) else bif ByteArray.toList (v3.getD v0.toNat (ByteArray.mk #[], ByteArray.mk #[], ())).2.1 == (ByteArray.mk #[OfNat.ofNat (0 : Nat), OfNat.ofNat (0 : Nat), OfNat.ofNat (0 : Nat), OfNat.ofNat (0 : Nat)]).toList then some (false, ()) else L1 (IntKind.i64.wrap (v0 + (1 : Int)), v1, v2, v3) else L1 (IntKind.i64.wrap (v0 + (1 : Int)), v1, v2, v3) else bif v1 then bif Int.ofNat (ByteArray.size (v3.getD v0.toNat (ByteArray.mk #[], ByteArray.mk #[], ())).2.1) != (4 : Int) then some (false, ()) else bif ByteArray.toList (v3.getD v0.toNat (ByteArray.mk #[], ByteArray.mk #[], ())).2.1 == (ByteArray.mk #[OfNat.ofNat (0 : Nat), OfNat.ofNat (0 : Nat), OfNat.ofNat (0 : Nat), OfNat.ofNat (0 : Nat)]).toList then some (false, ()) else L1 (IntKind.i64.wrap (v0 + (1 : Int)), v1, v2, v3) else L1 (IntKind.i64.wrap (v0 + (1 : Int)), v1, v2, v3) else none else some (true, ())
def f22_L1 (k : Nat) : Int × Bool × Int × List (ByteArray × ByteArray × Unit) → Option (Bool × Unit) := iter (fun L1 => f22_raw1 k L1) k
noncomputable def f22_at1 (k : Nat) (n : Nat) (v : Int × Bool × Int × List (ByteArray × ByteArray × Unit)) : Option (Bool × Unit) :=
  loopAt (f22_C k) f22_A [] [1, 1, 0, 1, 0] [] f22_code (leaveK (f22_C k) Try.f22.results.toList f22_pk [] f22_rk (decR f22_pk f22_rk)) n (f22_S1 v)
theorem f22_law1 (k : Nat) : ∀ n, f22_at1 k n = iter (fun L1 => f22_raw1 k L1) n :=
  iter_law (fun v => by kernel_rfl) (fun n v => by
    show f22_at1 k (n + 1) v = f22_raw1 k (f22_at1 k n) v
    obtain ⟨v0, v1, v2, v3⟩ := v
    kernel_rfl)
def f22_raw0 (k : Nat) (L1 : Int × Bool × Int × List (ByteArray × ByteArray × Unit) → Option (Bool × Unit)) : (Bool × Int × List (ByteArray × ByteArray × Unit) × Unit) × Unit → Option (Bool × Unit)
  | ((a0, a1, a2, ()), ()) => bif decide ((255 : Int) < Int.ofNat a2.length) then some (false, ()) else bif !a0 then bif a1 != (0 : Int) then some (false, ()) else bif a0 then bif decide (a1 < (1 : Int)) then some (false, ()) else bif decide ((4294967296 : Int) ≤ a1) then some (false, ()) else L1 ((0 : Int), a0, a1, a2) else L1 ((0 : Int), a0, a1, a2) else bif a0 then bif decide (a1 < (1 : Int)) then some (false, ()) else bif decide ((4294967296 : Int) ≤ a1) then some (false, ()) else L1 ((0 : Int), a0, a1, a2) else L1 ((0 : Int), a0, a1, a2)
def f22_F (k : Nat) : (Bool × Int × List (ByteArray × ByteArray × Unit) × Unit) × Unit → Option (Bool × Unit) := f22_raw0 k (f22_L1 k)
theorem f22_eq (k : Nat) (x : Kd.dens f22_pk) : runF (f22_C k) f22_A Try.f22.ntmps f22_code Try.f22.results.toList f22_pk f22_rk (encs f22_pk x) (decR f22_pk f22_rk) = f22_F k x := by
  show _ = f22_raw0 k (f22_L1 k) x
  rw [show f22_L1 k = f22_at1 k k from (f22_law1 k k).symm]
  obtain ⟨⟨a0, ⟨a1, ⟨a2, ⟨⟩⟩⟩⟩, ⟨⟩⟩ := x
  kernel_rfl
theorem f22_fits : fitsC Try.prog Try.f22.ntmps f22_code = true := by kernel_rfl
theorem f22_ctr (k : Nat) : Ctr Try.prog k 22 (mk f22_pk f22_rk f22_F) :=
  fun_law (C := f22_C k) (phi_ok ctr_nil) prog_mixed (A := f22_A) (fn := Try.f22) (code := f22_code) (by kernel_rfl) (by kernel_rfl) (by kernel_rfl) f22_fits (fun x y h => (f22_eq k x).trans h)
abbrev f10_pk : List Kd := [.view nodeT, .view .str]
abbrev f10_rk : Kd := .tup [.view (.int .i64), .view (.int .i64), .view (.int .i64)]
noncomputable def f10_code : Code := Try.f10.body.getD .skip
noncomputable def f10_C (k : Nat) : Ctx := { P := Try.prog, Φ := phi [(22, mk f22_pk f22_rk f22_F), (24, mk f24_pk f24_rk f24_F)], k := k, live := fun _ => [64] }
def f10_A : Nat → Ann := fun id => bif Nat.beq id 6 then ⟨[7, 2, 1, 8], []⟩ else ⟨[], []⟩
def f10_S1 : Int × ByteArray × Int × Bool × Int × List (ByteArray × ByteArray × Unit) → St
  | (v0, v1, v2, v3, v4, v5) => St.mk (envOf [(nat_lit 7, AV.val (PV.v (Value.int IntKind.i64 v0))), (nat_lit 2, AV.bx (nat_lit 8192) (nat_lit 0)), (nat_lit 1, AV.val (PV.v (Value.string v1))), (nat_lit 8, AV.val (PV.v (Value.int IntKind.i64 v2)))]) (tblOf [(nat_lit 8192, RS.live (Res.box [AV.val (PV.v (Value.bool v3)), AV.val (PV.v (Value.int IntKind.i64 v4)), AV.val (PV.sl (Ty.str.pair (Ty.str.pair Ty.unit)) v5)]))])
def f10_raw1 (k : Nat) (L1 : Int × ByteArray × Int × Bool × Int × List (ByteArray × ByteArray × Unit) → Option ((Int × Int × Int × Unit) × Unit)) : Int × ByteArray × Int × Bool × Int × List (ByteArray × ByteArray × Unit) → Option ((Int × Int × Int × Unit) × Unit)
  | (v0, v1, v2, v3, v4, v5) => bif decide (v0 < Int.ofNat v5.length) then bif decide ((0 : Int) ≤ v0 ∧ v0 < Int.ofNat v5.length) then bif Op.bytesLess (ByteArray.toList (v5.getD v0.toNat (ByteArray.mk #[], ByteArray.mk #[], ())).1) v1.toList || ByteArray.toList (v5.getD v0.toNat (ByteArray.mk #[], ByteArray.mk #[], ())).1 == v1.toList then bif decide ((0 : Int) ≤ v0 ∧ v0 < Int.ofNat v5.length) then (f24_F k ((v5.getD v0.toNat (ByteArray.mk #[], ByteArray.mk #[], ())).2.1, ())).bind fun y => L1 (IntKind.i64.wrap (v0 + (1 : Int)), v1, y.1, v3, v4, v5) else none else some ((v0, v2, OfNat.ofNat (0 : Nat), ()), ()) else none else some ((v0, v2, OfNat.ofNat (0 : Nat), ()), ())
def f10_L1 (k : Nat) : Int × ByteArray × Int × Bool × Int × List (ByteArray × ByteArray × Unit) → Option ((Int × Int × Int × Unit) × Unit) := iter (fun L1 => f10_raw1 k L1) k
noncomputable def f10_at1 (k : Nat) (n : Nat) (v : Int × ByteArray × Int × Bool × Int × List (ByteArray × ByteArray × Unit)) : Option ((Int × Int × Int × Unit) × Unit) :=
  loopAt (f10_C k) f10_A [] [1, 1, 1, 1, 0, 0] [] f10_code (leaveK (f10_C k) Try.f10.results.toList f10_pk [] f10_rk (decR f10_pk f10_rk)) n (f10_S1 v)
theorem f10_law1 (k : Nat) : ∀ n, f10_at1 k n = iter (fun L1 => f10_raw1 k L1) n :=
  iter_law (fun v => by kernel_rfl) (fun n v => by
    show f10_at1 k (n + 1) v = f10_raw1 k (f10_at1 k n) v
    obtain ⟨v0, v1, v2, v3, v4, v5⟩ := v
    kernel_rfl)
def f10_raw0 (k : Nat) (L1 : Int × ByteArray × Int × Bool × Int × List (ByteArray × ByteArray × Unit) → Option ((Int × Int × Int × Unit) × Unit)) : (Bool × Int × List (ByteArray × ByteArray × Unit) × Unit) × ByteArray × Unit → Option ((Int × Int × Int × Unit) × Unit)
  | ((a0, a1, a2, ()), a3, ()) => (f22_F k ((a0, a1, a2, ()), ())).bind fun y => bif !y.1 then some ((OfNat.ofNat (0 : Nat), OfNat.ofNat (0 : Nat), OfNat.ofNat (2 : Nat), ()), ()) else bif !a0 then some ((OfNat.ofNat (0 : Nat), OfNat.ofNat (0 : Nat), OfNat.ofNat (1 : Nat), ()), ()) else L1 ((0 : Int), a3, a1, a0, a1, a2)
def f10_F (k : Nat) : (Bool × Int × List (ByteArray × ByteArray × Unit) × Unit) × ByteArray × Unit → Option ((Int × Int × Int × Unit) × Unit) := f10_raw0 k (f10_L1 k)
theorem f10_eq (k : Nat) (x : Kd.dens f10_pk) : runF (f10_C k) f10_A Try.f10.ntmps f10_code Try.f10.results.toList f10_pk f10_rk (encs f10_pk x) (decR f10_pk f10_rk) = f10_F k x := by
  show _ = f10_raw0 k (f10_L1 k) x
  rw [show f10_L1 k = f10_at1 k k from (f10_law1 k k).symm]
  obtain ⟨⟨a0, ⟨a1, ⟨a2, ⟨⟩⟩⟩⟩, ⟨a3, ⟨⟩⟩⟩ := x
  kernel_rfl
theorem f10_fits : fitsC Try.prog Try.f10.ntmps f10_code = true := by kernel_rfl
theorem f10_ctr (k : Nat) : Ctr Try.prog k 10 (mk f10_pk f10_rk f10_F) :=
  fun_law (C := f10_C k) (phi_ok (ctr_cons (f22_ctr k) (ctr_cons (f24_ctr k) ctr_nil))) prog_mixed (A := f10_A) (fn := Try.f10) (code := f10_code) (by kernel_rfl) (by kernel_rfl) (by kernel_rfl) f10_fits (fun x y h => (f10_eq k x).trans h)
abbrev f38_pk : List Kd := [.view pairT]
abbrev f38_rk : Kd := .view (.int .i64)
noncomputable def f38_code : Code := Try.f38.body.getD .skip
noncomputable def f38_C (k : Nat) : Ctx := { P := Try.prog, Φ := phi [], k := k, live := fun _ => [64] }
def f38_A : Nat → Ann := fun _ => ⟨[], []⟩
def f38_raw0 (k : Nat) : (ByteArray × ByteArray × Unit) × Unit → Option (Int × Unit)
  | ((a0, a1, ()), ()) => some (IntKind.i64.wrap (IntKind.i64.wrap ((2 : Int) + Int.ofNat a0.size) + Int.ofNat a1.size), ())
def f38_F (k : Nat) : (ByteArray × ByteArray × Unit) × Unit → Option (Int × Unit) := f38_raw0 k
theorem f38_eq (k : Nat) (x : Kd.dens f38_pk) : runF (f38_C k) f38_A Try.f38.ntmps f38_code Try.f38.results.toList f38_pk f38_rk (encs f38_pk x) (decR f38_pk f38_rk) = f38_F k x := by
  show _ = f38_raw0 k x
  obtain ⟨⟨a0, ⟨a1, ⟨⟩⟩⟩, ⟨⟩⟩ := x
  kernel_rfl
theorem f38_fits : fitsC Try.prog Try.f38.ntmps f38_code = true := by kernel_rfl
theorem f38_ctr (k : Nat) : Ctr Try.prog k 38 (mk f38_pk f38_rk f38_F) :=
  fun_law (C := f38_C k) (phi_ok ctr_nil) prog_mixed (A := f38_A) (fn := Try.f38) (code := f38_code) (by kernel_rfl) (by kernel_rfl) (by kernel_rfl) f38_fits (fun x y h => (f38_eq k x).trans h)
abbrev f32_pk : List Kd := [.view (.sl pairT)]
abbrev f32_rk : Kd := .view (.int .i64)
noncomputable def f32_code : Code := Try.f32.body.getD .skip
noncomputable def f32_C (k : Nat) : Ctx := { P := Try.prog, Φ := phi [(38, mk f38_pk f38_rk f38_F)], k := k, live := fun _ => [64] }
def f32_A : Nat → Ann := fun id => bif Nat.beq id 3 then ⟨[4, 0, 3], []⟩ else ⟨[], []⟩
def f32_S1 : Int × List (ByteArray × ByteArray × Unit) × Int → St
  | (v0, v1, v2) => St.mk (envOf [(nat_lit 4, AV.val (PV.v (Value.int IntKind.i64 v0))), (nat_lit 0, AV.val (PV.sl (Ty.str.pair (Ty.str.pair Ty.unit)) v1)), (nat_lit 3, AV.val (PV.v (Value.int IntKind.i64 v2)))]) (tblOf [])
def f32_raw1 (k : Nat) (L1 : Int × List (ByteArray × ByteArray × Unit) × Int → Option (Int × Unit)) : Int × List (ByteArray × ByteArray × Unit) × Int → Option (Int × Unit)
  | (v0, v1, v2) => bif decide (v0 < Int.ofNat v1.length) then bif decide ((0 : Int) ≤ v0 ∧ v0 < Int.ofNat v1.length) then (f38_F k (((v1.getD v0.toNat (ByteArray.mk #[], ByteArray.mk #[], ())).1, (v1.getD v0.toNat (ByteArray.mk #[], ByteArray.mk #[], ())).2.1, ()), ())).bind fun y => L1 (IntKind.i64.wrap (v0 + (1 : Int)), v1, IntKind.i64.wrap (v2 + y.1)) else none else some (v2, ())
def f32_L1 (k : Nat) : Int × List (ByteArray × ByteArray × Unit) × Int → Option (Int × Unit) := iter (fun L1 => f32_raw1 k L1) k
noncomputable def f32_at1 (k : Nat) (n : Nat) (v : Int × List (ByteArray × ByteArray × Unit) × Int) : Option (Int × Unit) :=
  loopAt (f32_C k) f32_A [] [1, 1, 0, 1, 0] [] f32_code (leaveK (f32_C k) Try.f32.results.toList f32_pk [] f32_rk (decR f32_pk f32_rk)) n (f32_S1 v)
theorem f32_law1 (k : Nat) : ∀ n, f32_at1 k n = iter (fun L1 => f32_raw1 k L1) n :=
  iter_law (fun v => by kernel_rfl) (fun n v => by
    show f32_at1 k (n + 1) v = f32_raw1 k (f32_at1 k n) v
    obtain ⟨v0, v1, v2⟩ := v
    kernel_rfl)
def f32_raw0 (k : Nat) (L1 : Int × List (ByteArray × ByteArray × Unit) × Int → Option (Int × Unit)) : List (ByteArray × ByteArray × Unit) × Unit → Option (Int × Unit)
  | (a0, ()) => L1 ((0 : Int), a0, (0 : Int))
def f32_F (k : Nat) : List (ByteArray × ByteArray × Unit) × Unit → Option (Int × Unit) := f32_raw0 k (f32_L1 k)
theorem f32_eq (k : Nat) (x : Kd.dens f32_pk) : runF (f32_C k) f32_A Try.f32.ntmps f32_code Try.f32.results.toList f32_pk f32_rk (encs f32_pk x) (decR f32_pk f32_rk) = f32_F k x := by
  show _ = f32_raw0 k (f32_L1 k) x
  rw [show f32_L1 k = f32_at1 k k from (f32_law1 k k).symm]
  obtain ⟨a0, ⟨⟩⟩ := x
  kernel_rfl
theorem f32_fits : fitsC Try.prog Try.f32.ntmps f32_code = true := by kernel_rfl
theorem f32_ctr (k : Nat) : Ctr Try.prog k 32 (mk f32_pk f32_rk f32_F) :=
  fun_law (C := f32_C k) (phi_ok (ctr_cons (f38_ctr k) ctr_nil)) prog_mixed (A := f32_A) (fn := Try.f32) (code := f32_code) (by kernel_rfl) (by kernel_rfl) (by kernel_rfl) f32_fits (fun x y h => (f32_eq k x).trans h)
abbrev f28_pk : List Kd := [.view (.sl pairT)]
abbrev f28_rk : Kd := .own pairT false
noncomputable def f28_code : Code := Try.f28.body.getD .skip
noncomputable def f28_C (k : Nat) : Ctx := { P := Try.prog, Φ := phi [], k := k, live := fun _ => [64] }
def f28_A : Nat → Ann := fun _ => ⟨[], []⟩
def f28_raw0 (k : Nat) : List (ByteArray × ByteArray × Unit) × Unit → Option (List (ByteArray × ByteArray × Unit) × Unit)
  | (a0, ()) => bif decide ((0 : Nat) + a0.length < (2147483648 : Nat)) then some ([] ++ a0, ()) else none
def f28_F (k : Nat) : List (ByteArray × ByteArray × Unit) × Unit → Option (List (ByteArray × ByteArray × Unit) × Unit) := f28_raw0 k
theorem f28_eq (k : Nat) (x : Kd.dens f28_pk) : runF (f28_C k) f28_A Try.f28.ntmps f28_code Try.f28.results.toList f28_pk f28_rk (encs f28_pk x) (decR f28_pk f28_rk) = f28_F k x := by
  show _ = f28_raw0 k x
  obtain ⟨a0, ⟨⟩⟩ := x
  kernel_rfl
theorem f28_fits : fitsC Try.prog Try.f28.ntmps f28_code = true := by kernel_rfl
theorem f28_ctr (k : Nat) : Ctr Try.prog k 28 (mk f28_pk f28_rk f28_F) :=
  fun_law (C := f28_C k) (phi_ok ctr_nil) prog_mixed (A := f28_A) (fn := Try.f28) (code := f28_code) (by kernel_rfl) (by kernel_rfl) (by kernel_rfl) f28_fits (fun x y h => (f28_eq k x).trans h)
abbrev f29_pk : List Kd := [.view (.sl pairT)]
abbrev f29_rk : Kd := .own pairT false
def f29_F (k : Nat) : List (ByteArray × ByteArray × Unit) × Unit → Option (List (ByteArray × ByteArray × Unit) × Unit) := fun x => cloneF x
noncomputable def f29_C (k : Nat) : Ctx := { P := Try.prog, Φ := phi [], k := k, live := fun _ => [64] }
noncomputable def f29_b : Code := bodyOf Try.f29
theorem f29_ctr (k : Nat) : Ctr Try.prog k 29 (mk f29_pk f29_rk f29_F) :=
  clone_ctr (C := f29_C k) (A := fun _ => ⟨[], []⟩) (phi_ok ctr_nil) prog_mixed (f := 29) (fn := Try.f29) (o0 := operAt (partC [0] f29_b) 0) (o1 := operAt (partC [1, 0, 0] f29_b) 0) (o2 := operAt (partC [1, 0, 0] f29_b) 1)
    (r0 := 0) (r1 := 1) (X := partC [1, 0, 1, 0] f29_b) (Y := partC [1, 1] f29_b) (T := 22) (E := 34) (U := 22) (t := pairT)
    (by kernel_rfl) (by kernel_rfl) (by kernel_rfl) (by kernel_rfl) (by kernel_rfl) (of_decide_eq_true (by kernel_rfl)) (by kernel_rfl) ⟨by kernel_rfl, by kernel_rfl, by kernel_rfl⟩ ⟨by kernel_rfl, by kernel_rfl, by kernel_rfl⟩ ⟨by kernel_rfl, by kernel_rfl, by kernel_rfl⟩ (fun xs => by kernel_rfl) (by kernel_rfl)
abbrev f12_pk : List Kd := [.view nodeT]
abbrev f12_rk : Kd := .view nodeT
noncomputable def f12_code : Code := Try.f12.body.getD .skip
noncomputable def f12_C (k : Nat) : Ctx := { P := Try.prog, Φ := phi [], k := k, live := fun _ => [64] }
def f12_A : Nat → Ann := fun _ => ⟨[], []⟩
def f12_raw0 (k : Nat) : (Bool × Int × List (ByteArray × ByteArray × Unit) × Unit) × Unit → Option ((Bool × Int × List (ByteArray × ByteArray × Unit) × Unit) × Unit)
  | ((a0, a1, a2, ()), ()) => bif decide ((0 : Int) ≤ (0 : Int) ∧ (0 : Int) ≤ IntKind.i64.wrap (Int.ofNat a2.length + (2 : Int)) ∧ IntKind.i64.wrap (Int.ofNat a2.length + (2 : Int)) < (4294967296 : Int)) then bif decide ((0 : Nat) + a2.length < (2147483648 : Nat)) then some ((a0, a1, List.replicate (0 : Nat) (ByteArray.mk #[], ByteArray.mk #[], ()) ++ a2, ()), ()) else none else none
def f12_F (k : Nat) : (Bool × Int × List (ByteArray × ByteArray × Unit) × Unit) × Unit → Option ((Bool × Int × List (ByteArray × ByteArray × Unit) × Unit) × Unit) := f12_raw0 k
theorem f12_eq (k : Nat) (x : Kd.dens f12_pk) : runF (f12_C k) f12_A Try.f12.ntmps f12_code Try.f12.results.toList f12_pk f12_rk (encs f12_pk x) (decR f12_pk f12_rk) = f12_F k x := by
  show _ = f12_raw0 k x
  obtain ⟨⟨a0, ⟨a1, ⟨a2, ⟨⟩⟩⟩⟩, ⟨⟩⟩ := x
  kernel_rfl
theorem f12_fits : fitsC Try.prog Try.f12.ntmps f12_code = true := by kernel_rfl
theorem f12_ctr (k : Nat) : Ctr Try.prog k 12 (mk f12_pk f12_rk f12_F) :=
  fun_law (C := f12_C k) (phi_ok ctr_nil) prog_mixed (A := f12_A) (fn := Try.f12) (code := f12_code) (by kernel_rfl) (by kernel_rfl) (by kernel_rfl) f12_fits (fun x y h => (f12_eq k x).trans h)
abbrev f18_pk : List Kd := [.view nodeT]
abbrev f18_rk : Kd := .view nodeT
noncomputable def f18_code : Code := Try.f18.body.getD .skip
noncomputable def f18_C (k : Nat) : Ctx := { P := Try.prog, Φ := phi [], k := k, live := fun _ => [64] }
def f18_A : Nat → Ann := fun _ => ⟨[], []⟩
def f18_raw0 (k : Nat) : (Bool × Int × List (ByteArray × ByteArray × Unit) × Unit) × Unit → Option ((Bool × Int × List (ByteArray × ByteArray × Unit) × Unit) × Unit)
  | ((a0, a1, a2, ()), ()) => some ((a0, a1, a2, ()), ())
def f18_F (k : Nat) : (Bool × Int × List (ByteArray × ByteArray × Unit) × Unit) × Unit → Option ((Bool × Int × List (ByteArray × ByteArray × Unit) × Unit) × Unit) := f18_raw0 k
theorem f18_eq (k : Nat) (x : Kd.dens f18_pk) : runF (f18_C k) f18_A Try.f18.ntmps f18_code Try.f18.results.toList f18_pk f18_rk (encs f18_pk x) (decR f18_pk f18_rk) = f18_F k x := by
  show _ = f18_raw0 k x
  obtain ⟨⟨a0, ⟨a1, ⟨a2, ⟨⟩⟩⟩⟩, ⟨⟩⟩ := x
  kernel_rfl
theorem f18_fits : fitsC Try.prog Try.f18.ntmps f18_code = true := by kernel_rfl
theorem f18_ctr (k : Nat) : Ctr Try.prog k 18 (mk f18_pk f18_rk f18_F) :=
  fun_law (C := f18_C k) (phi_ok ctr_nil) prog_mixed (A := f18_A) (fn := Try.f18) (code := f18_code) (by kernel_rfl) (by kernel_rfl) (by kernel_rfl) f18_fits (fun x y h => (f18_eq k x).trans h)
abbrev f17_pk : List Kd := [.view nodeT, .view nodeT]
abbrev f17_rk : Kd := .view .bool
noncomputable def f17_code : Code := Try.f17.body.getD .skip
noncomputable def f17_C (k : Nat) : Ctx := { P := Try.prog, Φ := phi [], k := k, live := fun _ => [64] }
def f17_A : Nat → Ann := fun id => bif Nat.beq id 4 then ⟨[5, 2, 3], []⟩ else ⟨[], []⟩
def f17_S1 : Int × Bool × Int × List (ByteArray × ByteArray × Unit) × Bool × Int × List (ByteArray × ByteArray × Unit) → St
  | (v0, v1, v2, v3, v4, v5, v6) => St.mk (envOf [(nat_lit 5, AV.val (PV.v (Value.int IntKind.i64 v0))), (nat_lit 2, AV.bx (nat_lit 8192) (nat_lit 0)), (nat_lit 3, AV.bx (nat_lit 8193) (nat_lit 0))]) (tblOf [(nat_lit 8192, RS.live (Res.box [AV.val (PV.v (Value.bool v1)), AV.val (PV.v (Value.int IntKind.i64 v2)), AV.val (PV.sl (Ty.str.pair (Ty.str.pair Ty.unit)) v3)])), (nat_lit 8193, RS.live (Res.box [AV.val (PV.v (Value.bool v4)), AV.val (PV.v (Value.int IntKind.i64 v5)), AV.val (PV.sl (Ty.str.pair (Ty.str.pair Ty.unit)) v6)]))])
def f17_raw1 (k : Nat) (L1 : Int × Bool × Int × List (ByteArray × ByteArray × Unit) × Bool × Int × List (ByteArray × ByteArray × Unit) → Option (Bool × Unit)) : Int × Bool × Int × List (ByteArray × ByteArray × Unit) × Bool × Int × List (ByteArray × ByteArray × Unit) → Option (Bool × Unit)
  | (v0, v1, v2, v3, v4, v5, v6) => bif decide (v0 < Int.ofNat v3.length) then bif decide ((0 : Int) ≤ v0 ∧ v0 < Int.ofNat v3.length) then bif decide ((0 : Int) ≤ v0 ∧ v0 < Int.ofNat v6.length) then bif !(decide ((v3.getD v0.toNat (ByteArray.mk #[], ByteArray.mk #[], ())).1 = (v6.getD v0.toNat (ByteArray.mk #[], ByteArray.mk #[], ())).1) && (decide ((v3.getD v0.toNat (ByteArray.mk #[], ByteArray.mk #[], ())).2.1 = (v6.getD v0.toNat (ByteArray.mk #[], ByteArray.mk #[], ())).2.1) && true)) then some (false, ()) else L1 (IntKind.i64.wrap (v0 + (1 : Int)), v1, v2, v3, v4, v5, v6) else none else none else some (true, ())
def f17_L1 (k : Nat) : Int × Bool × Int × List (ByteArray × ByteArray × Unit) × Bool × Int × List (ByteArray × ByteArray × Unit) → Option (Bool × Unit) := iter (fun L1 => f17_raw1 k L1) k
noncomputable def f17_at1 (k : Nat) (n : Nat) (v : Int × Bool × Int × List (ByteArray × ByteArray × Unit) × Bool × Int × List (ByteArray × ByteArray × Unit)) : Option (Bool × Unit) :=
  loopAt (f17_C k) f17_A [] [1, 1, 0, 1, 0] [] f17_code (leaveK (f17_C k) Try.f17.results.toList f17_pk [] f17_rk (decR f17_pk f17_rk)) n (f17_S1 v)
theorem f17_law1 (k : Nat) : ∀ n, f17_at1 k n = iter (fun L1 => f17_raw1 k L1) n :=
  iter_law (fun v => by kernel_rfl) (fun n v => by
    show f17_at1 k (n + 1) v = f17_raw1 k (f17_at1 k n) v
    obtain ⟨v0, v1, v2, v3, v4, v5, v6⟩ := v
    kernel_rfl)
def f17_raw0 (k : Nat) (L1 : Int × Bool × Int × List (ByteArray × ByteArray × Unit) × Bool × Int × List (ByteArray × ByteArray × Unit) → Option (Bool × Unit)) : (Bool × Int × List (ByteArray × ByteArray × Unit) × Unit) × (Bool × Int × List (ByteArray × ByteArray × Unit) × Unit) × Unit → Option (Bool × Unit)
  | ((a0, a1, a2, ()), (a3, a4, a5, ()), ()) => bif !a0 == a3 then some (false, ()) else bif a1 != a4 then some (false, ()) else bif Int.ofNat a2.length != Int.ofNat a5.length then some (false, ()) else L1 ((0 : Int), a0, a1, a2, a3, a4, a5)
def f17_F (k : Nat) : (Bool × Int × List (ByteArray × ByteArray × Unit) × Unit) × (Bool × Int × List (ByteArray × ByteArray × Unit) × Unit) × Unit → Option (Bool × Unit) := f17_raw0 k (f17_L1 k)
theorem f17_eq (k : Nat) (x : Kd.dens f17_pk) : runF (f17_C k) f17_A Try.f17.ntmps f17_code Try.f17.results.toList f17_pk f17_rk (encs f17_pk x) (decR f17_pk f17_rk) = f17_F k x := by
  show _ = f17_raw0 k (f17_L1 k) x
  rw [show f17_L1 k = f17_at1 k k from (f17_law1 k k).symm]
  obtain ⟨⟨a0, ⟨a1, ⟨a2, ⟨⟩⟩⟩⟩, ⟨⟨a3, ⟨a4, ⟨a5, ⟨⟩⟩⟩⟩, ⟨⟩⟩⟩ := x
  kernel_rfl
theorem f17_fits : fitsC Try.prog Try.f17.ntmps f17_code = true := by kernel_rfl
theorem f17_ctr (k : Nat) : Ctr Try.prog k 17 (mk f17_pk f17_rk f17_F) :=
  fun_law (C := f17_C k) (phi_ok ctr_nil) prog_mixed (A := f17_A) (fn := Try.f17) (code := f17_code) (by kernel_rfl) (by kernel_rfl) (by kernel_rfl) f17_fits (fun x y h => (f17_eq k x).trans h)
abbrev f15_pk : List Kd := [.view nodeT, .view .str, .view nodeT]
abbrev f15_rk : Kd := .tup [.view nodeT, .view (.int .i64)]
noncomputable def f15_code : Code := Try.f15.body.getD .skip
noncomputable def f15_C (k : Nat) : Ctx := { P := Try.prog, Φ := phi [(22, mk f22_pk f22_rk f22_F), (28, mk f28_pk f28_rk f28_F), (14, mk f14_pk f14_rk f14_F)], k := k, live := fun _ => [64] }
def f15_A : Nat → Ann := fun _ => ⟨[], []⟩
def f15_raw0 (k : Nat) : (Bool × Int × List (ByteArray × ByteArray × Unit) × Unit) × ByteArray × (Bool × Int × List (ByteArray × ByteArray × Unit) × Unit) × Unit → Option (((Bool × Int × List (ByteArray × ByteArray × Unit) × Unit) × Int × Unit) × Unit)
  | ((a0, a1, a2, ()), a3, (a4, a5, a6, ()), ()) => bif !a0 == a4 then some (((false, (0 : Int), [], ()), OfNat.ofNat (1 : Nat), ()), ()) else (f22_F k ((a0, a1, a2, ()), ())).bind fun y => bif !y.1 then some (((false, (0 : Int), [], ()), OfNat.ofNat (2 : Nat), ()), ()) else (f22_F k ((a4, a5, a6, ()), ())).bind fun y => bif !y.1 then some (((false, (0 : Int), [], ()), OfNat.ofNat (2 : Nat), ()), ()) else (f28_F k (a2, ())).bind fun y => bif a0 then (f14_F k (a5, ())).bind fun y_1 => bif decide (List.length y.1 + [(a3, y_1.1, ())].length < (2147483648 : Nat)) then bif decide ((y.1 ++ [(a3, y_1.1, ())]).length + a6.length < (2147483648 : Nat)) then (f22_F k ((a0, a1, y.1 ++ [(a3, y_1.1, ())] ++ a6, ()), ())).bind fun y_2 => bif !y_2.1 then some (((false, (0 : Int), [], ()), OfNat.ofNat (2 : Nat), ()), ()) else some (((a0, a1, y.1 ++ [(a3, y_1.1, ())] ++ a6, ()), OfNat.ofNat (0 : Nat), ()), ()) else none else none else bif decide (List.length y.1 + a6.length < (2147483648 : Nat)) then (f22_F k ((a0, a1, y.1 ++ a6, ()), ())).bind fun y_1 => bif !y_1.1 then some (((false, (0 : Int), [], ()), OfNat.ofNat (2 : Nat), ()), ()) else some (((a0, a1, y.1 ++ a6, ()), OfNat.ofNat (0 : Nat), ()), ()) else none
def f15_F (k : Nat) : (Bool × Int × List (ByteArray × ByteArray × Unit) × Unit) × ByteArray × (Bool × Int × List (ByteArray × ByteArray × Unit) × Unit) × Unit → Option (((Bool × Int × List (ByteArray × ByteArray × Unit) × Unit) × Int × Unit) × Unit) := f15_raw0 k
theorem f15_eq (k : Nat) (x : Kd.dens f15_pk) : runF (f15_C k) f15_A Try.f15.ntmps f15_code Try.f15.results.toList f15_pk f15_rk (encs f15_pk x) (decR f15_pk f15_rk) = f15_F k x := by
  show _ = f15_raw0 k x
  obtain ⟨⟨a0, ⟨a1, ⟨a2, ⟨⟩⟩⟩⟩, ⟨a3, ⟨⟨a4, ⟨a5, ⟨a6, ⟨⟩⟩⟩⟩, ⟨⟩⟩⟩⟩ := x
  kernel_rfl
theorem f15_fits : fitsC Try.prog Try.f15.ntmps f15_code = true := by kernel_rfl
theorem f15_ctr (k : Nat) : Ctr Try.prog k 15 (mk f15_pk f15_rk f15_F) :=
  fun_law (C := f15_C k) (phi_ok (ctr_cons (f22_ctr k) (ctr_cons (f28_ctr k) (ctr_cons (f14_ctr k) ctr_nil)))) prog_mixed (A := f15_A) (fn := Try.f15) (code := f15_code) (by kernel_rfl) (by kernel_rfl) (by kernel_rfl) f15_fits (fun x y h => (f15_eq k x).trans h)
abbrev f21_pk : List Kd := [.view nodeT]
abbrev f21_rk : Kd := .tup [.view nodeT, .view .str, .view nodeT, .view (.int .i64)]
noncomputable def f21_code : Code := Try.f21.body.getD .skip
noncomputable def f21_C (k : Nat) : Ctx := { P := Try.prog, Φ := phi [(22, mk f22_pk f22_rk f22_F), (32, mk f32_pk f32_rk f32_F), (28, mk f28_pk f28_rk f28_F), (24, mk f24_pk f24_rk f24_F)], k := k, live := fun _ => [64] }
def f21_A : Nat → Ann := fun id => bif Nat.beq id 9 then ⟨[7, 6, 1, 2, 4], []⟩ else ⟨[], []⟩
def f21_S1 : Int × Int × Bool × Int × List (ByteArray × ByteArray × Unit) × Bool × Int × Bool × Int → St
  | (v0, v1, v2, v3, v4, v5, v6, v7, v8) => St.mk (envOf [(nat_lit 7, AV.val (PV.v (Value.int IntKind.i64 v0))), (nat_lit 6, AV.val (PV.v (Value.int IntKind.i64 v1))), (nat_lit 1, AV.bx (nat_lit 8192) (nat_lit 0)), (nat_lit 2, AV.bx (nat_lit 8193) (nat_lit 0)), (nat_lit 4, AV.bx (nat_lit 8194) (nat_lit 0))]) (tblOf [(nat_lit 8192, RS.live (Res.box [AV.val (PV.v (Value.bool v2)), AV.val (PV.v (Value.int IntKind.i64 v3)), AV.val (PV.sl (Ty.str.pair (Ty.str.pair Ty.unit)) v4)])), (nat_lit 8193, RS.live (Res.box [AV.val (PV.v (Value.bool v5)), AV.val (PV.v (Value.int IntKind.i64 v6)), AV.val (PV.v (Value.slice none (0 : Nat) (0 : Nat)))])), (nat_lit 8194, RS.live (Res.box [AV.val (PV.v (Value.bool v7)), AV.val (PV.v (Value.int IntKind.i64 v8)), AV.val (PV.v (Value.slice none (0 : Nat) (0 : Nat)))]))])
def f21_raw1 (k : Nat) (L1 : Int × Int × Bool × Int × List (ByteArray × ByteArray × Unit) × Bool × Int × Bool × Int → Option (((Bool × Int × List (ByteArray × ByteArray × Unit) × Unit) × ByteArray × (Bool × Int × List (ByteArray × ByteArray × Unit) × Unit) × Int × Unit) × Unit)) : Int × Int × Bool × Int × List (ByteArray × ByteArray × Unit) × Bool × Int × Bool × Int → Option (((Bool × Int × List (ByteArray × ByteArray × Unit) × Unit) × ByteArray × (Bool × Int × List (ByteArray × ByteArray × Unit) × Unit) × Int × Unit) × Unit)
  | (v0, v1, v2, v3, v4, v5, v6, v7, v8) => bif decide (v0 < v1) then bif decide ((0 : Int) ≤ (0 : Int) ∧ (0 : Int) ≤ v0 ∧ v0 ≤ Int.ofNat v4.length) then (f32_F k (List.drop (0 : Nat) (List.take v0.toNat v4), ())).bind fun y => (f32_F k (v4, ())).bind fun y_1 => bif decide (IntKind.i64.wrap ((2 : Int) * y.1) < y_1.1) then L1 (IntKind.i64.wrap (v0 + (1 : Int)), v1, v2, v3, v4, v5, v6, v7, v8) else bif decide ((0 : Int) ≤ (0 : Int) ∧ (0 : Int) ≤ v0 ∧ v0 ≤ Int.ofNat v4.length) then (f28_F k (List.drop (0 : Nat) (List.take v0.toNat v4), ())).bind fun y => bif decide ((0 : Int) ≤ v0 ∧ v0 < Int.ofNat v4.length) then bif !v2 then bif decide ((0 : Int) ≤ v0 ∧ v0 ≤ Int.ofNat v4.length ∧ Int.ofNat v4.length ≤ Int.ofNat v4.length) then (f28_F k (List.drop v0.toNat (List.take (Int.ofNat v4.length).toNat v4), ())).bind fun y_2 => some (((v2, v3, y.1, ()), (v4.getD v0.toNat (ByteArray.mk #[], ByteArray.mk #[], ())).1, (false, (0 : Int), y_2.1, ()), OfNat.ofNat (0 : Nat), ()), ()) else none else bif decide ((0 : Int) ≤ v0 ∧ v0 < Int.ofNat v4.length) then (f24_F k ((v4.getD v0.toNat (ByteArray.mk #[], ByteArray.mk #[], ())).2.1, ())).bind fun y_2 => bif decide ((0 : Int) ≤ IntKind.i64.wrap (v0 + (1 : Int)) ∧ IntKind.i64.wrap (v0 + (1 : Int)) ≤ Int.ofNat v4.length ∧ Int.ofNat v4.length ≤ Int.ofNat v4.length) then (f28_F k (List.drop (IntKind.i64.wrap (v0 + (1 : Int))).toNat (List.take (Int.ofNat v4.length).toNat v4), ())).bind fun y_3 => some (((v2, v3, y.1, ()), (v4.getD v0.toNat (ByteArray.mk #[], ByteArray.mk #[], ())).1, (true, y_2.1, y_3.1, ()), OfNat.ofNat (0 : Nat), ()), ()) else none else none else none else none else none else bif decide ((0 : Int) ≤ (0 : Int) ∧ (0 : Int) ≤ v0 ∧ v0 ≤ Int.ofNat v4.length) then (f28_F k (List.drop (0 : Nat) (List.take v0.toNat v4), ())).bind fun y => bif decide ((0 : Int) ≤ v0 ∧ v0 < Int.ofNat v4.length) then bif !v2 then bif decide ((0 : Int) ≤ v0 ∧ v0 ≤ Int.ofNat v4.length ∧ Int.ofNat v4.length ≤ Int.ofNat v4.length) then (f28_F k (List.drop v0.toNat (List.take (Int.ofNat v4.length).toNat v4), ())).bind fun y_1 => some (((v2, v3, y.1, ()), (v4.getD v0.toNat (ByteArray.mk #[], ByteArray.mk #[], ())).1, (false, (0 : Int), y_1.1, ()), OfNat.ofNat (0 : Nat), ()), ()) else none else bif decide ((0 : Int) ≤ v0 ∧ v0 < Int.ofNat v4.length) then (f24_F k ((v4.getD v0.toNat (ByteArray.mk #[], ByteArray.mk #[], ())).2.1, ())).bind fun y_1 => bif decide ((0 : Int) ≤ IntKind.i64.wrap (v0 + (1 : Int)) ∧ IntKind.i64.wrap (v0 + (1 : Int)) ≤ Int.ofNat v4.length ∧ Int.ofNat v4.length ≤ Int.ofNat v4.length) then (f28_F k (List.drop (IntKind.i64.wrap (v0 + (1 : Int))).toNat (List.take (Int.ofNat v4.length).toNat v4), ())).bind fun y_2 => some (((v2, v3, y.1, ()), (v4.getD v0.toNat (ByteArray.mk #[], ByteArray.mk #[], ())).1, (true, y_1.1, y_2.1, ()), OfNat.ofNat (0 : Nat), ()), ()) else none else none else none else none
def f21_L1 (k : Nat) : Int × Int × Bool × Int × List (ByteArray × ByteArray × Unit) × Bool × Int × Bool × Int → Option (((Bool × Int × List (ByteArray × ByteArray × Unit) × Unit) × ByteArray × (Bool × Int × List (ByteArray × ByteArray × Unit) × Unit) × Int × Unit) × Unit) := iter (fun L1 => f21_raw1 k L1) k
noncomputable def f21_at1 (k : Nat) (n : Nat) (v : Int × Int × Bool × Int × List (ByteArray × ByteArray × Unit) × Bool × Int × Bool × Int) : Option (((Bool × Int × List (ByteArray × ByteArray × Unit) × Unit) × ByteArray × (Bool × Int × List (ByteArray × ByteArray × Unit) × Unit) × Int × Unit) × Unit) :=
  loopAt (f21_C k) f21_A [] [1, 1, 1, 1, 1, 1, 0, 0] [] f21_code (leaveK (f21_C k) Try.f21.results.toList f21_pk [] f21_rk (decR f21_pk f21_rk)) n (f21_S1 v)
theorem f21_law1 (k : Nat) : ∀ n, f21_at1 k n = iter (fun L1 => f21_raw1 k L1) n :=
  iter_law (fun v => by kernel_rfl) (fun n v => by
    show f21_at1 k (n + 1) v = f21_raw1 k (f21_at1 k n) v
    obtain ⟨v0, v1, v2, v3, v4, v5, v6, v7, v8⟩ := v
    kernel_rfl)
def f21_raw0 (k : Nat) (L1 : Int × Int × Bool × Int × List (ByteArray × ByteArray × Unit) × Bool × Int × Bool × Int → Option (((Bool × Int × List (ByteArray × ByteArray × Unit) × Unit) × ByteArray × (Bool × Int × List (ByteArray × ByteArray × Unit) × Unit) × Int × Unit) × Unit)) : (Bool × Int × List (ByteArray × ByteArray × Unit) × Unit) × Unit → Option (((Bool × Int × List (ByteArray × ByteArray × Unit) × Unit) × ByteArray × (Bool × Int × List (ByteArray × ByteArray × Unit) × Unit) × Int × Unit) × Unit)
  | ((a0, a1, a2, ()), ()) => (f22_F k ((a0, a1, a2, ()), ())).bind fun y => bif !y.1 then some (((false, (0 : Int), [], ()), ByteArray.mk #[], (false, (0 : Int), [], ()), OfNat.ofNat (2 : Nat), ()), ()) else bif a0 then bif decide (IntKind.i64.wrap (IntKind.i64.wrap (Int.ofNat a2.length - (1 : Int)) - (1 : Int)) < (1 : Int)) then some (((false, (0 : Int), [], ()), ByteArray.mk #[], (false, (0 : Int), [], ()), OfNat.ofNat (1 : Nat), ()), ()) else L1 ((1 : Int), IntKind.i64.wrap (IntKind.i64.wrap (Int.ofNat a2.length - (1 : Int)) - (1 : Int)), a0, a1, a2, false, (0 : Int), false, (0 : Int)) else bif decide (IntKind.i64.wrap (Int.ofNat a2.length - (1 : Int)) < (1 : Int)) then some (((false, (0 : Int), [], ()), ByteArray.mk #[], (false, (0 : Int), [], ()), OfNat.ofNat (1 : Nat), ()), ()) else L1 ((1 : Int), IntKind.i64.wrap (Int.ofNat a2.length - (1 : Int)), a0, a1, a2, false, (0 : Int), false, (0 : Int))
def f21_F (k : Nat) : (Bool × Int × List (ByteArray × ByteArray × Unit) × Unit) × Unit → Option (((Bool × Int × List (ByteArray × ByteArray × Unit) × Unit) × ByteArray × (Bool × Int × List (ByteArray × ByteArray × Unit) × Unit) × Int × Unit) × Unit) := f21_raw0 k (f21_L1 k)
theorem f21_eq (k : Nat) (x : Kd.dens f21_pk) : runF (f21_C k) f21_A Try.f21.ntmps f21_code Try.f21.results.toList f21_pk f21_rk (encs f21_pk x) (decR f21_pk f21_rk) = f21_F k x := by
  show _ = f21_raw0 k (f21_L1 k) x
  rw [show f21_L1 k = f21_at1 k k from (f21_law1 k k).symm]
  obtain ⟨⟨a0, ⟨a1, ⟨a2, ⟨⟩⟩⟩⟩, ⟨⟩⟩ := x
  kernel_rfl
theorem f21_fits : fitsC Try.prog Try.f21.ntmps f21_code = true := by kernel_rfl
theorem f21_ctr (k : Nat) : Ctr Try.prog k 21 (mk f21_pk f21_rk f21_F) :=
  fun_law (C := f21_C k) (phi_ok (ctr_cons (f22_ctr k) (ctr_cons (f32_ctr k) (ctr_cons (f28_ctr k) (ctr_cons (f24_ctr k) ctr_nil))))) prog_mixed (A := f21_A) (fn := Try.f21) (code := f21_code) (by kernel_rfl) (by kernel_rfl) (by kernel_rfl) f21_fits (fun x y h => (f21_eq k x).trans h)
abbrev f16_pk : List Kd := [.view nodeT, .view .str, .view nodeT]
abbrev f16_rk : Kd := .tup [.view nodeT, .view (.int .i64)]
noncomputable def f16_code : Code := Try.f16.body.getD .skip
noncomputable def f16_C (k : Nat) : Ctx := { P := Try.prog, Φ := phi [(25, mk f25_pk f25_rk f25_F), (29, mk f29_pk f29_rk f29_F), (13, mk f13_pk f13_rk f13_F)], k := k, live := fun _ => [64] }
def f16_A : Nat → Ann := fun _ => ⟨[], []⟩
def f16_raw0 (k : Nat) : (Bool × Int × List (ByteArray × ByteArray × Unit) × Unit) × ByteArray × (Bool × Int × List (ByteArray × ByteArray × Unit) × Unit) × Unit → Option (((Bool × Int × List (ByteArray × ByteArray × Unit) × Unit) × Int × Unit) × Unit)
  | ((a0, a1, a2, ()), a3, (a4, a5, a6, ()), ()) => bif !a0 == a4 then some (((false, (0 : Int), [], ()), OfNat.ofNat (1 : Nat), ()), ()) else (f25_F k ((a0, a1, a2, ()), ())).bind fun y => bif !y.1 then some (((false, (0 : Int), [], ()), OfNat.ofNat (2 : Nat), ()), ()) else (f25_F k ((a4, a5, a6, ()), ())).bind fun y => bif !y.1 then some (((false, (0 : Int), [], ()), OfNat.ofNat (2 : Nat), ()), ()) else (f29_F k (a2, ())).bind fun y => bif a0 then (f13_F k (a3, a5, ())).bind fun y_1 => bif decide (List.length y.1 + [(y_1.1.1, y_1.1.2.1, ())].length < (2147483648 : Nat)) then bif decide ((y.1 ++ [(y_1.1.1, y_1.1.2.1, ())]).length + a6.length < (2147483648 : Nat)) then (f25_F k ((a0, a1, y.1 ++ [(y_1.1.1, y_1.1.2.1, ())] ++ a6, ()), ())).bind fun y_2 => bif !y_2.1 then some (((false, (0 : Int), [], ()), OfNat.ofNat (2 : Nat), ()), ()) else some (((a0, a1, y.1 ++ [(y_1.1.1, y_1.1.2.1, ())] ++ a6, ()), OfNat.ofNat (0 : Nat), ()), ()) else none else none else bif decide (List.length y.1 + a6.length < (2147483648 : Nat)) then (f25_F k ((a0, a1, y.1 ++ a6, ()), ())).bind fun y_1 => bif !y_1.1 then some (((false, (0 : Int), [], ()), OfNat.ofNat (2 : Nat), ()), ()) else some (((a0, a1, y.1 ++ a6, ()), OfNat.ofNat (0 : Nat), ()), ()) else none
def f16_F (k : Nat) : (Bool × Int × List (ByteArray × ByteArray × Unit) × Unit) × ByteArray × (Bool × Int × List (ByteArray × ByteArray × Unit) × Unit) × Unit → Option (((Bool × Int × List (ByteArray × ByteArray × Unit) × Unit) × Int × Unit) × Unit) := f16_raw0 k
theorem f16_eq (k : Nat) (x : Kd.dens f16_pk) : runF (f16_C k) f16_A Try.f16.ntmps f16_code Try.f16.results.toList f16_pk f16_rk (encs f16_pk x) (decR f16_pk f16_rk) = f16_F k x := by
  show _ = f16_raw0 k x
  obtain ⟨⟨a0, ⟨a1, ⟨a2, ⟨⟩⟩⟩⟩, ⟨a3, ⟨⟨a4, ⟨a5, ⟨a6, ⟨⟩⟩⟩⟩, ⟨⟩⟩⟩⟩ := x
  kernel_rfl
theorem f16_fits : fitsC Try.prog Try.f16.ntmps f16_code = true := by kernel_rfl
theorem f16_ctr (k : Nat) : Ctr Try.prog k 16 (mk f16_pk f16_rk f16_F) :=
  fun_law (C := f16_C k) (phi_ok (ctr_cons (f25_ctr k) (ctr_cons (f29_ctr k) (ctr_cons (f13_ctr k) ctr_nil)))) prog_mixed (A := f16_A) (fn := Try.f16) (code := f16_code) (by kernel_rfl) (by kernel_rfl) (by kernel_rfl) f16_fits (fun x y h => (f16_eq k x).trans h)
abbrev f20_pk : List Kd := [.view nodeT]
abbrev f20_rk : Kd := .tup [.view nodeT, .view .str, .view nodeT, .view (.int .i64)]
noncomputable def f20_code : Code := Try.f20.body.getD .skip
noncomputable def f20_C (k : Nat) : Ctx := { P := Try.prog, Φ := phi [(25, mk f25_pk f25_rk f25_F), (30, mk f30_pk f30_rk f30_F), (31, mk f31_pk f31_rk f31_F), (29, mk f29_pk f29_rk f29_F), (26, mk f26_pk f26_rk f26_F)], k := k, live := fun _ => [64] }
def f20_A : Nat → Ann := fun id => bif Nat.beq id 10 then ⟨[8, 6, 9, 7, 1, 2, 4], []⟩ else ⟨[], []⟩
def f20_S1 : Int × Int × Int × Int × Bool × Int × List (ByteArray × ByteArray × Unit) × Bool × Int × Bool × Int → St
  | (v0, v1, v2, v3, v4, v5, v6, v7, v8, v9, v10) => St.mk (envOf [(nat_lit 8, AV.val (PV.v (Value.int IntKind.i64 v0))), (nat_lit 6, AV.val (PV.v (Value.int IntKind.i64 v1))), (nat_lit 9, AV.val (PV.v (Value.int IntKind.i64 v2))), (nat_lit 7, AV.val (PV.v (Value.int IntKind.i64 v3))), (nat_lit 1, AV.bx (nat_lit 8192) (nat_lit 0)), (nat_lit 2, AV.bx (nat_lit 8193) (nat_lit 0)), (nat_lit 4, AV.bx (nat_lit 8194) (nat_lit 0))]) (tblOf [(nat_lit 8192, RS.live (Res.box [AV.val (PV.v (Value.bool v4)), AV.val (PV.v (Value.int IntKind.i64 v5)), AV.val (PV.sl (Ty.str.pair (Ty.str.pair Ty.unit)) v6)])), (nat_lit 8193, RS.live (Res.box [AV.val (PV.v (Value.bool v7)), AV.val (PV.v (Value.int IntKind.i64 v8)), AV.val (PV.v (Value.slice none (0 : Nat) (0 : Nat)))])), (nat_lit 8194, RS.live (Res.box [AV.val (PV.v (Value.bool v9)), AV.val (PV.v (Value.int IntKind.i64 v10)), AV.val (PV.v (Value.slice none (0 : Nat) (0 : Nat)))]))])
def f20_raw1 (k : Nat) (L1 : Int × Int × Int × Int × Bool × Int × List (ByteArray × ByteArray × Unit) × Bool × Int × Bool × Int → Option (((Bool × Int × List (ByteArray × ByteArray × Unit) × Unit) × ByteArray × (Bool × Int × List (ByteArray × ByteArray × Unit) × Unit) × Int × Unit) × Unit)) : Int × Int × Int × Int × Bool × Int × List (ByteArray × ByteArray × Unit) × Bool × Int × Bool × Int → Option (((Bool × Int × List (ByteArray × ByteArray × Unit) × Unit) × ByteArray × (Bool × Int × List (ByteArray × ByteArray × Unit) × Unit) × Int × Unit) × Unit)
  | (v0, v1, v2, v3, v4, v5, v6, v7, v8, v9, v10) => bif decide (v0 < v1) then bif decide (IntKind.i64.wrap ((2 : Int) * v2) < v3) then bif decide ((0 : Int) ≤ v0 ∧ v0 < Int.ofNat v6.length) then (f31_F k (((v6.getD v0.toNat (ByteArray.mk #[], ByteArray.mk #[], ())).1, (v6.getD v0.toNat (ByteArray.mk #[], ByteArray.mk #[], ())).2.1, ()), ())).bind fun y => L1 (IntKind.i64.wrap (v0 + (1 : Int)), v1, IntKind.i64.wrap (v2 + y.1), v3, v4, v5, v6, v7, v8, v9, v10) else none else bif decide ((0 : Int) ≤ (0 : Int) ∧ (0 : Int) ≤ v0 ∧ v0 ≤ Int.ofNat v6.length) then (f29_F k (List.drop (0 : Nat) (List.take v0.toNat v6), ())).bind fun y => bif decide ((0 : Int) ≤ v0 ∧ v0 < Int.ofNat v6.length) then bif v4 then (f26_F k (((v6.getD v0.toNat (ByteArray.mk #[], ByteArray.mk #[], ())).1, (v6.getD v0.toNat (ByteArray.mk #[], ByteArray.mk #[], ())).2.1, ()), ())).bind fun y_1 => bif decide ((0 : Int) ≤ IntKind.i64.wrap (v0 + (1 : Int)) ∧ IntKind.i64.wrap (v0 + (1 : Int)) ≤ Int.ofNat v6.length ∧ Int.ofNat v6.length ≤ Int.ofNat v6.length) then (f29_F k (List.drop (IntKind.i64.wrap (v0 + (1 : Int))).toNat (List.take (Int.ofNat v6.length).toNat v6), ())).bind fun y_2 => some (((v4, v5, y.1, ()), (v6.getD v0.toNat (ByteArray.mk #[], ByteArray.mk #[], ())).1, (true, y_1.1, y_2.1, ()), OfNat.ofNat (0 : Nat), ()), ()) else none else bif decide ((0 : Int) ≤ v0 ∧ v0 ≤ Int.ofNat v6.length ∧ Int.ofNat v6.length ≤ Int.ofNat v6.length) then (f29_F k (List.drop v0.toNat (List.take (Int.ofNat v6.length).toNat v6), ())).bind fun y_1 => some (((v4, v5, y.1, ()), (v6.getD v0.toNat (ByteArray.mk #[], ByteArray.mk #[], ())).1, (false, (0 : Int), y_1.1, ()), OfNat.ofNat (0 : Nat), ()), ()) else none else none else none else bif decide ((0 : Int) ≤ (0 : Int) ∧ (0 : Int) ≤ v0 ∧ v0 ≤ Int.ofNat v6.length) then (f29_F k (List.drop (0 : Nat) (List.take v0.toNat v6), ())).bind fun y => bif decide ((0 : Int) ≤ v0 ∧ v0 < Int.ofNat v6.length) then bif v4 then (f26_F k (((v6.getD v0.toNat (ByteArray.mk #[], ByteArray.mk #[], ())).1, (v6.getD v0.toNat (ByteArray.mk #[], ByteArray.mk #[], ())).2.1, ()), ())).bind fun y_1 => bif decide ((0 : Int) ≤ IntKind.i64.wrap (v0 + (1 : Int)) ∧ IntKind.i64.wrap (v0 + (1 : Int)) ≤ Int.ofNat v6.length ∧ Int.ofNat v6.length ≤ Int.ofNat v6.length) then (f29_F k (List.drop (IntKind.i64.wrap (v0 + (1 : Int))).toNat (List.take (Int.ofNat v6.length).toNat v6), ())).bind fun y_2 => some (((v4, v5, y.1, ()), (v6.getD v0.toNat (ByteArray.mk #[], ByteArray.mk #[], ())).1, (true, y_1.1, y_2.1, ()), OfNat.ofNat (0 : Nat), ()), ()) else none else bif decide ((0 : Int) ≤ v0 ∧ v0 ≤ Int.ofNat v6.length ∧ Int.ofNat v6.length ≤ Int.ofNat v6.length) then (f29_F k (List.drop v0.toNat (List.take (Int.ofNat v6.length).toNat v6), ())).bind fun y_1 => some (((v4, v5, y.1, ()), (v6.getD v0.toNat (ByteArray.mk #[], ByteArray.mk #[], ())).1, (false, (0 : Int), y_1.1, ()), OfNat.ofNat (0 : Nat), ()), ()) else none else none else none
def f20_L1 (k : Nat) : Int × Int × Int × Int × Bool × Int × List (ByteArray × ByteArray × Unit) × Bool × Int × Bool × Int → Option (((Bool × Int × List (ByteArray × ByteArray × Unit) × Unit) × ByteArray × (Bool × Int × List (ByteArray × ByteArray × Unit) × Unit) × Int × Unit) × Unit) := iter (fun L1 => f20_raw1 k L1) k
noncomputable def f20_at1 (k : Nat) (n : Nat) (v : Int × Int × Int × Int × Bool × Int × List (ByteArray × ByteArray × Unit) × Bool × Int × Bool × Int) : Option (((Bool × Int × List (ByteArray × ByteArray × Unit) × Unit) × ByteArray × (Bool × Int × List (ByteArray × ByteArray × Unit) × Unit) × Int × Unit) × Unit) :=
  loopAt (f20_C k) f20_A [] [1, 1, 1, 1, 1, 1, 1, 0, 0] [] f20_code (leaveK (f20_C k) Try.f20.results.toList f20_pk [] f20_rk (decR f20_pk f20_rk)) n (f20_S1 v)
theorem f20_law1 (k : Nat) : ∀ n, f20_at1 k n = iter (fun L1 => f20_raw1 k L1) n :=
  iter_law (fun v => by kernel_rfl) (fun n v => by
    show f20_at1 k (n + 1) v = f20_raw1 k (f20_at1 k n) v
    obtain ⟨v0, v1, v2, v3, v4, v5, v6, v7, v8, v9, v10⟩ := v
    kernel_rfl)
def f20_raw0 (k : Nat) (L1 : Int × Int × Int × Int × Bool × Int × List (ByteArray × ByteArray × Unit) × Bool × Int × Bool × Int → Option (((Bool × Int × List (ByteArray × ByteArray × Unit) × Unit) × ByteArray × (Bool × Int × List (ByteArray × ByteArray × Unit) × Unit) × Int × Unit) × Unit)) : (Bool × Int × List (ByteArray × ByteArray × Unit) × Unit) × Unit → Option (((Bool × Int × List (ByteArray × ByteArray × Unit) × Unit) × ByteArray × (Bool × Int × List (ByteArray × ByteArray × Unit) × Unit) × Int × Unit) × Unit)
  | ((a0, a1, a2, ()), ()) => (f25_F k ((a0, a1, a2, ()), ())).bind fun y => bif !y.1 then some (((false, (0 : Int), [], ()), ByteArray.mk #[], (false, (0 : Int), [], ()), OfNat.ofNat (2 : Nat), ()), ()) else bif a0 then bif decide (IntKind.i64.wrap (IntKind.i64.wrap (Int.ofNat a2.length - (1 : Int)) - (1 : Int)) < (1 : Int)) then some (((false, (0 : Int), [], ()), ByteArray.mk #[], (false, (0 : Int), [], ()), OfNat.ofNat (1 : Nat), ()), ()) else (f30_F k (a2, ())).bind fun y => bif decide ((0 : Int) ≤ (0 : Int) ∧ (0 : Int) < Int.ofNat a2.length) then (f31_F k (((a2.getD (0 : Nat) (ByteArray.mk #[], ByteArray.mk #[], ())).1, (a2.getD (0 : Nat) (ByteArray.mk #[], ByteArray.mk #[], ())).2.1, ()), ())).bind fun y_1 => L1 ((1 : Int), IntKind.i64.wrap (IntKind.i64.wrap (Int.ofNat a2.length - (1 : Int)) - (1 : Int)), y_1.1, y.1, a0, a1, a2, false, (0 : Int), false, (0 : Int)) else none else bif decide (IntKind.i64.wrap (Int.ofNat a2.length - (1 : Int)) < (1 : Int)) then some (((false, (0 : Int), [], ()), ByteArray.mk #[], (false, (0 : Int), [], ()), OfNat.ofNat (1 : Nat), ()), ()) else (f30_F k (a2, ())).bind fun y => bif decide ((0 : Int) ≤ (0 : Int) ∧ (0 : Int) < Int.ofNat a2.length) then (f31_F k (((a2.getD (0 : Nat) (ByteArray.mk #[], ByteArray.mk #[], ())).1, (a2.getD (0 : Nat) (ByteArray.mk #[], ByteArray.mk #[], ())).2.1, ()), ())).bind fun y_1 => L1 ((1 : Int), IntKind.i64.wrap (Int.ofNat a2.length - (1 : Int)), y_1.1, y.1, a0, a1, a2, false, (0 : Int), false, (0 : Int)) else none
def f20_F (k : Nat) : (Bool × Int × List (ByteArray × ByteArray × Unit) × Unit) × Unit → Option (((Bool × Int × List (ByteArray × ByteArray × Unit) × Unit) × ByteArray × (Bool × Int × List (ByteArray × ByteArray × Unit) × Unit) × Int × Unit) × Unit) := f20_raw0 k (f20_L1 k)
theorem f20_eq (k : Nat) (x : Kd.dens f20_pk) : runF (f20_C k) f20_A Try.f20.ntmps f20_code Try.f20.results.toList f20_pk f20_rk (encs f20_pk x) (decR f20_pk f20_rk) = f20_F k x := by
  show _ = f20_raw0 k (f20_L1 k) x
  rw [show f20_L1 k = f20_at1 k k from (f20_law1 k k).symm]
  obtain ⟨⟨a0, ⟨a1, ⟨a2, ⟨⟩⟩⟩⟩, ⟨⟩⟩ := x
  kernel_rfl
theorem f20_fits : fitsC Try.prog Try.f20.ntmps f20_code = true := by kernel_rfl
theorem f20_ctr (k : Nat) : Ctr Try.prog k 20 (mk f20_pk f20_rk f20_F) :=
  fun_law (C := f20_C k) (phi_ok (ctr_cons (f25_ctr k) (ctr_cons (f30_ctr k) (ctr_cons (f31_ctr k) (ctr_cons (f29_ctr k) (ctr_cons (f26_ctr k) ctr_nil)))))) prog_mixed (A := f20_A) (fn := Try.f20) (code := f20_code) (by kernel_rfl) (by kernel_rfl) (by kernel_rfl) f20_fits (fun x y h => (f20_eq k x).trans h)
abbrev f39_pk : List Kd := [.bld 64]
abbrev f39_rk : Kd := .tup []
def f39_F (k : Nat) : List Int × Unit → Option (Unit × List Int × Unit) := fun x => some ((), x.1, ())
def bldRho : Go.Shelf.Ren := ⟨fun n => match n with | 240 => 39 | 276 => 40 | 169 => 37 | _ => 0, fun n => match n with | 0 => 0 | 3 => 3 | 4 => 4 | 5 => 5 | 9 => 9 | 20 => 20 | 70 => 62 | 72 => 64 | 37 => 52 | 127 => 73 | 164 => 74 | _ => 0, fun n => n⟩
theorem bldLays : Go.Proofs.Lays.n240 Try.prog bldRho := by
  constructor <;> first | kernel_rfl | (intro w; rfl)
theorem bldX : Go.Proofs.Builder.X72 Try.prog bldRho := ⟨by kernel_rfl, by kernel_rfl⟩
theorem f39_ctr (k : Nat) : Ctr Try.prog k 39 (mk f39_pk f39_rk f39_F) := copyCheck_ctr bldLays bldX (fn := Try.f39) rfl (by kernel_rfl) (by kernel_rfl) (by kernel_rfl)
abbrev f37_pk : List Kd := [.use 64]
abbrev f37_rk : Kd := .view .str
def f37_F (k : Nat) : List Int × Unit → Option (ByteArray × Unit) := fun x => strF x
theorem bldLays2 : Go.Proofs.Lays.n169 Try.prog bldRho := by
  constructor <;> first | kernel_rfl | (intro w; rfl)
theorem bldX2 : Go.Proofs.Builder.Extra Try.prog bldRho := { bldX with t5 := by kernel_rfl, a5 := fun w => by rfl, z5 := fun w => by rfl, v5 := fun w => by rfl, infoByte := by kernel_rfl, cellsByte := by kernel_rfl, sizeByte := by kernel_rfl, neB5 := by decide }
theorem f37_ctr (k : Nat) : Ctr Try.prog k 37 (mk f37_pk f37_rk f37_F) := string_ctr bldLays2 bldX2 rfl (fn := Try.f37) rfl (by kernel_rfl) (by kernel_rfl) (by kernel_rfl)
abbrev f36_pk : List Kd := [.bld 64]
abbrev f36_rk : Kd := .view (.int .i64)
noncomputable def f36_code : Code := Try.f36.body.getD .skip
noncomputable def f36_C (k : Nat) : Ctx := { P := Try.prog, Φ := phi [], k := k, live := fun _ => [64] }
def f36_A : Nat → Ann := fun _ => ⟨[], []⟩
def f36_raw0 (k : Nat) : List Int × Unit → Option (Int × List Int × Unit)
  | (a0, ()) => some (Int.ofNat a0.length, a0, ())
def f36_F (k : Nat) : List Int × Unit → Option (Int × List Int × Unit) := f36_raw0 k
theorem f36_eq (k : Nat) (x : Kd.dens f36_pk) : runF (f36_C k) f36_A Try.f36.ntmps f36_code Try.f36.results.toList f36_pk f36_rk (encs f36_pk x) (decR f36_pk f36_rk) = f36_F k x := by
  show _ = f36_raw0 k x
  obtain ⟨a0, ⟨⟩⟩ := x
  kernel_rfl
theorem f36_fits : fitsC Try.prog Try.f36.ntmps f36_code = true := by kernel_rfl
theorem f36_ctr (k : Nat) : Ctr Try.prog k 36 (mk f36_pk f36_rk f36_F) :=
  fun_law (C := f36_C k) (phi_ok ctr_nil) prog_mixed (A := f36_A) (fn := Try.f36) (code := f36_code) (by kernel_rfl) (by kernel_rfl) (by kernel_rfl) f36_fits (fun x y h => (f36_eq k x).trans h)
abbrev f33_pk : List Kd := [.bld 64, .view (.int .u8)]
abbrev f33_rk : Kd := .view .raw
noncomputable def f33_code : Code := Try.f33.body.getD .skip
noncomputable def f33_C (k : Nat) : Ctx := { P := Try.prog, Φ := phi [(39, mk f39_pk f39_rk f39_F)], k := k, live := fun _ => [64] }
def f33_A : Nat → Ann := fun _ => ⟨[], []⟩
def f33_raw0 (k : Nat) : List Int × Int × Unit → Option (Value × List Int × Unit)
  | (a0, a1, ()) => (f39_F k (a0, ())).bind fun y => bif decide (List.length y.2.1 + [a1].length < (2147483648 : Nat)) then some (Value.nilIface, y.2.1 ++ [a1], ()) else none
def f33_F (k : Nat) : List Int × Int × Unit → Option (Value × List Int × Unit) := f33_raw0 k
theorem f33_eq (k : Nat) (x : Kd.dens f33_pk) : runF (f33_C k) f33_A Try.f33.ntmps f33_code Try.f33.results.toList f33_pk f33_rk (encs f33_pk x) (decR f33_pk f33_rk) = f33_F k x := by
  show _ = f33_raw0 k x
  obtain ⟨a0, ⟨a1, ⟨⟩⟩⟩ := x
  kernel_rfl
theorem f33_fits : fitsC Try.prog Try.f33.ntmps f33_code = true := by kernel_rfl
theorem f33_ctr (k : Nat) : Ctr Try.prog k 33 (mk f33_pk f33_rk f33_F) :=
  fun_law (C := f33_C k) (phi_ok (ctr_cons (f39_ctr k) ctr_nil)) prog_mixed (A := f33_A) (fn := Try.f33) (code := f33_code) (by kernel_rfl) (by kernel_rfl) (by kernel_rfl) f33_fits (fun x y h => (f33_eq k x).trans h)
abbrev f34_pk : List Kd := [.bld 64, .view .str]
abbrev f34_rk : Kd := .tup [.view (.int .i64), .view .raw]
noncomputable def f34_code : Code := Try.f34.body.getD .skip
noncomputable def f34_C (k : Nat) : Ctx := { P := Try.prog, Φ := phi [(39, mk f39_pk f39_rk f39_F)], k := k, live := fun _ => [64] }
def f34_A : Nat → Ann := fun _ => ⟨[], []⟩
def f34_raw0 (k : Nat) : List Int × ByteArray × Unit → Option ((Int × Value × Unit) × List Int × Unit)
  | (a0, a1, ()) => (f39_F k (a0, ())).bind fun y => bif decide (List.length y.2.1 + (List.map (fun b => Int.ofNat b.toNat) a1.data.toList).length < (2147483648 : Nat)) then some ((Int.ofNat a1.size, Value.nilIface, ()), y.2.1 ++ List.map (fun b => Int.ofNat b.toNat) a1.data.toList, ()) else none
def f34_F (k : Nat) : List Int × ByteArray × Unit → Option ((Int × Value × Unit) × List Int × Unit) := f34_raw0 k
theorem f34_eq (k : Nat) (x : Kd.dens f34_pk) : runF (f34_C k) f34_A Try.f34.ntmps f34_code Try.f34.results.toList f34_pk f34_rk (encs f34_pk x) (decR f34_pk f34_rk) = f34_F k x := by
  show _ = f34_raw0 k x
  obtain ⟨a0, ⟨a1, ⟨⟩⟩⟩ := x
  kernel_rfl
theorem f34_fits : fitsC Try.prog Try.f34.ntmps f34_code = true := by kernel_rfl
theorem f34_ctr (k : Nat) : Ctr Try.prog k 34 (mk f34_pk f34_rk f34_F) :=
  fun_law (C := f34_C k) (phi_ok (ctr_cons (f39_ctr k) ctr_nil)) prog_mixed (A := f34_A) (fn := Try.f34) (code := f34_code) (by kernel_rfl) (by kernel_rfl) (by kernel_rfl) f34_fits (fun x y h => (f34_eq k x).trans h)
abbrev f35_pk : List Kd := [.bld 64, .view (.sl (.int .u8))]
abbrev f35_rk : Kd := .tup [.view (.int .i64), .view .raw]
noncomputable def f35_code : Code := Try.f35.body.getD .skip
noncomputable def f35_C (k : Nat) : Ctx := { P := Try.prog, Φ := phi [(39, mk f39_pk f39_rk f39_F)], k := k, live := fun _ => [64] }
def f35_A : Nat → Ann := fun _ => ⟨[], []⟩
def f35_raw0 (k : Nat) : List Int × List Int × Unit → Option ((Int × Value × Unit) × List Int × Unit)
  | (a0, a1, ()) => (f39_F k (a0, ())).bind fun y => bif decide (List.length y.2.1 + a1.length < (2147483648 : Nat)) then some ((Int.ofNat a1.length, Value.nilIface, ()), y.2.1 ++ a1, ()) else none
def f35_F (k : Nat) : List Int × List Int × Unit → Option ((Int × Value × Unit) × List Int × Unit) := f35_raw0 k
theorem f35_eq (k : Nat) (x : Kd.dens f35_pk) : runF (f35_C k) f35_A Try.f35.ntmps f35_code Try.f35.results.toList f35_pk f35_rk (encs f35_pk x) (decR f35_pk f35_rk) = f35_F k x := by
  show _ = f35_raw0 k x
  obtain ⟨a0, ⟨a1, ⟨⟩⟩⟩ := x
  kernel_rfl
theorem f35_fits : fitsC Try.prog Try.f35.ntmps f35_code = true := by kernel_rfl
theorem f35_ctr (k : Nat) : Ctr Try.prog k 35 (mk f35_pk f35_rk f35_F) :=
  fun_law (C := f35_C k) (phi_ok (ctr_cons (f39_ctr k) ctr_nil)) prog_mixed (A := f35_A) (fn := Try.f35) (code := f35_code) (by kernel_rfl) (by kernel_rfl) (by kernel_rfl) f35_fits (fun x y h => (f35_eq k x).trans h)
abbrev f23_pk : List Kd := [.view nodeT]
abbrev f23_rk : Kd := .tup [.view .str, .view (.int .i64)]
noncomputable def f23_code : Code := Try.f23.body.getD .skip
noncomputable def f23_C (k : Nat) : Ctx := { P := Try.prog, Φ := phi [(25, mk f25_pk f25_rk f25_F), (19, mk f19_pk f19_rk f19_F), (27, mk f27_pk f27_rk f27_F), (33, mk f33_pk f33_rk f33_F), (34, mk f34_pk f34_rk f34_F), (35, mk f35_pk f35_rk f35_F), (36, mk f36_pk f36_rk f36_F), (37, mk f37_pk f37_rk f37_F)], k := k, live := fun _ => [64] }
def f23_A : Nat → Ann := fun id => bif Nat.beq id 14 then ⟨[33, 34, 32, 4], []⟩ else ⟨[], []⟩
def f23_S1 : Int × Int × List (ByteArray × ByteArray × Unit) × List Int → St
  | (v0, v1, v2, v3) => St.mk (envOf [(nat_lit 33, AV.val (PV.v (Value.int IntKind.i64 v0))), (nat_lit 34, AV.val (PV.v (Value.int IntKind.i64 v1))), (nat_lit 32, AV.val (PV.sl (Ty.str.pair (Ty.str.pair Ty.unit)) v2)), (nat_lit 4, AV.bx (nat_lit 8192) (nat_lit 0))]) (tblOf [(nat_lit 8192, RS.live (Res.box [AV.me (nat_lit 8192) (nat_lit 64), AV.own (nat_lit 8193)])), (nat_lit 8193, RS.live (Res.arr (Ty.int IntKind.u8) v3 false))])
def f23_raw1 (k : Nat) (L1 : Int × Int × List (ByteArray × ByteArray × Unit) × List Int → Option ((ByteArray × Int × Unit) × Unit)) : Int × Int × List (ByteArray × ByteArray × Unit) × List Int → Option ((ByteArray × Int × Unit) × Unit)
  | (v0, v1, v2, v3) => bif decide (v1 < v0) then bif decide ((0 : Int) ≤ v1 ∧ v1 < Int.ofNat v2.length) then (f33_F k (v3, IntKind.u8.wrap (Int.ofNat (ByteArray.size (v2.getD v1.toNat (ByteArray.mk #[], ByteArray.mk #[], ())).1)), ())).bind fun y => (f33_F k (y.2.1, IntKind.u8.wrap (Int.ofNat (ByteArray.size (v2.getD v1.toNat (ByteArray.mk #[], ByteArray.mk #[], ())).2.1)), ())).bind fun y => (f34_F k (y.2.1, (v2.getD v1.toNat (ByteArray.mk #[], ByteArray.mk #[], ())).1, ())).bind fun y => (f34_F k (y.2.1, (v2.getD v1.toNat (ByteArray.mk #[], ByteArray.mk #[], ())).2.1, ())).bind fun y => L1 (v0, IntKind.i64.wrap (v1 + (1 : Int)), v2, y.2.1) else none else (f36_F k (v3, ())).bind fun y => bif decide ((0 : Int) ≤ IntKind.i64.wrap ((256 : Int) - y.1) ∧ IntKind.i64.wrap ((256 : Int) - y.1) ≤ IntKind.i64.wrap ((256 : Int) - y.1) ∧ IntKind.i64.wrap ((256 : Int) - y.1) < (4294967296 : Int)) then (f35_F k (y.2.1, List.replicate (IntKind.i64.wrap ((256 : Int) - y.1)).toNat (0 : Int), ())).bind fun y => (f37_F k (y.2.1, ())).bind fun y => some ((y.1, OfNat.ofNat (0 : Nat), ()), ()) else none
def f23_L1 (k : Nat) : Int × Int × List (ByteArray × ByteArray × Unit) × List Int → Option ((ByteArray × Int × Unit) × Unit) := iter (fun L1 => f23_raw1 k L1) k
noncomputable def f23_at1 (k : Nat) (n : Nat) (v : Int × Int × List (ByteArray × ByteArray × Unit) × List Int) : Option ((ByteArray × Int × Unit) × Unit) :=
  loopAt (f23_C k) f23_A [] [1, 1, 1, 1, 1, 1, 1, 1, 0, 1, 0] [] f23_code (leaveK (f23_C k) Try.f23.results.toList f23_pk [] f23_rk (decR f23_pk f23_rk)) n (f23_S1 v)
theorem f23_law1 (k : Nat) : ∀ n, f23_at1 k n = iter (fun L1 => f23_raw1 k L1) n :=
  iter_law (fun v => by kernel_rfl) (fun n v => by
    show f23_at1 k (n + 1) v = f23_raw1 k (f23_at1 k n) v
    obtain ⟨v0, v1, v2, v3⟩ := v
    kernel_rfl)
def f23_raw0 (k : Nat) (L1 : Int × Int × List (ByteArray × ByteArray × Unit) × List Int → Option ((ByteArray × Int × Unit) × Unit)) : (Bool × Int × List (ByteArray × ByteArray × Unit) × Unit) × Unit → Option ((ByteArray × Int × Unit) × Unit)
  | ((a0, a1, a2, ()), ()) => (f25_F k ((a0, a1, a2, ()), ())).bind fun y => bif !y.1 then some ((ByteArray.mk #[], OfNat.ofNat (2 : Nat), ()), ()) else (f19_F k ((a0, a1, a2, ()), ())).bind fun y => bif decide ((256 : Int) < y.1) then some ((ByteArray.mk #[], OfNat.ofNat (14 : Nat), ()), ()) else bif a0 then (f33_F k ([], OfNat.ofNat (2 : Nat), ())).bind fun y => (f33_F k (y.2.1, IntKind.u8.wrap (Int.ofNat a2.length), ())).bind fun y => bif a0 then (f27_F k (a1, ())).bind fun y_1 => (f34_F k (y.2.1, y_1.1, ())).bind fun y => L1 (Int.ofNat a2.length, (0 : Int), a2, y.2.1) else L1 (Int.ofNat a2.length, (0 : Int), a2, y.2.1) else (f33_F k ([], OfNat.ofNat (1 : Nat), ())).bind fun y => (f33_F k (y.2.1, IntKind.u8.wrap (Int.ofNat a2.length), ())).bind fun y => bif a0 then (f27_F k (a1, ())).bind fun y_1 => (f34_F k (y.2.1, y_1.1, ())).bind fun y => L1 (Int.ofNat a2.length, (0 : Int), a2, y.2.1) else L1 (Int.ofNat a2.length, (0 : Int), a2, y.2.1)
def f23_F (k : Nat) : (Bool × Int × List (ByteArray × ByteArray × Unit) × Unit) × Unit → Option ((ByteArray × Int × Unit) × Unit) := f23_raw0 k (f23_L1 k)
theorem f23_eq (k : Nat) (x : Kd.dens f23_pk) : runF (f23_C k) f23_A Try.f23.ntmps f23_code Try.f23.results.toList f23_pk f23_rk (encs f23_pk x) (decR f23_pk f23_rk) = f23_F k x := by
  show _ = f23_raw0 k (f23_L1 k) x
  rw [show f23_L1 k = f23_at1 k k from (f23_law1 k k).symm]
  obtain ⟨⟨a0, ⟨a1, ⟨a2, ⟨⟩⟩⟩⟩, ⟨⟩⟩ := x
  kernel_rfl
theorem f23_fits : fitsC Try.prog Try.f23.ntmps f23_code = true := by kernel_rfl
theorem f23_ctr (k : Nat) : Ctr Try.prog k 23 (mk f23_pk f23_rk f23_F) :=
  fun_law (C := f23_C k) (phi_ok (ctr_cons (f25_ctr k) (ctr_cons (f19_ctr k) (ctr_cons (f27_ctr k) (ctr_cons (f33_ctr k) (ctr_cons (f34_ctr k) (ctr_cons (f35_ctr k) (ctr_cons (f36_ctr k) (ctr_cons (f37_ctr k) ctr_nil))))))))) prog_mixed (A := f23_A) (fn := Try.f23) (code := f23_code) (by kernel_rfl) (by kernel_rfl) (by kernel_rfl) f23_fits (fun x y h => (f23_eq k x).trans h)
abbrev f9_pk : List Kd := []
abbrev f9_rk : Kd := .view .bool
noncomputable def f9_code : Code := Try.f9.body.getD .skip
noncomputable def f9_C (k : Nat) : Ctx := { P := Try.prog, Φ := phi [(23, mk f23_pk f23_rk f23_F)], k := k, live := fun _ => [64] }
def f9_A : Nat → Ann := fun _ => ⟨[], []⟩
def f9_raw0 (k : Nat) : Unit → Option (Bool × Unit)
  | () => (f23_F k ((false, (0 : Int), [(ByteArray.mk #[OfNat.ofNat (97 : Nat)], ByteArray.mk #[OfNat.ofNat (49 : Nat)], ())], ()), ())).bind fun y => bif y.1.2.1 == (0 : Int) then bif Int.ofNat (ByteArray.size y.1.1) == (256 : Int) then bif decide ((0 : Int) ≤ (0 : Int) ∧ (0 : Int) ≤ (7 : Int) ∧ (7 : Int) ≤ Int.ofNat (ByteArray.size y.1.1)) then some ((ByteArray.extract y.1.1 (0 : Nat) (7 : Nat)).toList == (ByteArray.mk #[OfNat.ofNat (1 : Nat), OfNat.ofNat (1 : Nat), OfNat.ofNat (1 : Nat), OfNat.ofNat (1 : Nat), OfNat.ofNat (97 : Nat), OfNat.ofNat (49 : Nat), OfNat.ofNat (0 : Nat)]).toList, ()) else none else some (false, ()) else some (false, ())
def f9_F (k : Nat) : Unit → Option (Bool × Unit) := f9_raw0 k
theorem f9_eq (k : Nat) (x : Kd.dens f9_pk) : runF (f9_C k) f9_A Try.f9.ntmps f9_code Try.f9.results.toList f9_pk f9_rk (encs f9_pk x) (decR f9_pk f9_rk) = f9_F k x := by
  show _ = f9_raw0 k x
  obtain ⟨⟩ := x
  kernel_rfl
theorem f9_fits : fitsC Try.prog Try.f9.ntmps f9_code = true := by kernel_rfl
theorem f9_ctr (k : Nat) : Ctr Try.prog k 9 (mk f9_pk f9_rk f9_F) :=
  fun_law (C := f9_C k) (phi_ok (ctr_cons (f23_ctr k) ctr_nil)) prog_mixed (A := f9_A) (fn := Try.f9) (code := f9_code) (by kernel_rfl) (by kernel_rfl) (by kernel_rfl) f9_fits (fun x y h => (f9_eq k x).trans h)
abbrev f3_pk : List Kd := [.view nodeT, .view .str, .view (.int .i64)]
abbrev f3_rk : Kd := .view .bool
noncomputable def f3_code : Code := Try.f3.body.getD .skip
noncomputable def f3_C (k : Nat) : Ctx := { P := Try.prog, Φ := phi [(9, mk f9_pk f9_rk f9_F), (10, mk f10_pk f10_rk f10_F), (12, mk f12_pk f12_rk f12_F), (11, mk f11_pk f11_rk f11_F), (13, mk f13_pk f13_rk f13_F), (14, mk f14_pk f14_rk f14_F)], k := k, live := fun _ => [64] }
def f3_A : Nat → Ann := fun _ => ⟨[], []⟩
def f3_raw0 (k : Nat) : (Bool × Int × List (ByteArray × ByteArray × Unit) × Unit) × ByteArray × Int × Unit → Option (Bool × Unit)
  | ((a0, a1, a2, ()), a3, a4, ()) => (f9_F k ()).bind fun y => bif !y.1 then some (false, ()) else (f10_F k ((a0, a1, a2, ()), a3, ())).bind fun y => (f12_F k ((a0, a1, a2, ()), ())).bind fun y_1 => (f11_F k ((y_1.1.1, y_1.1.2.1, y_1.1.2.2.1, ()), a3, ())).bind fun y_2 => bif y.1.1 != y_2.1.1 then some (false, ()) else bif y.1.2.1 != y_2.1.2.1 then some (false, ()) else bif y.1.2.2.1 != y_2.1.2.2.1 then some (false, ()) else (f13_F k (ByteArray.mk #[OfNat.ofNat (107 : Nat)], IntKind.i64.wrap ((1 : Int) + IntKind.i64.wrap ((IntKind.u64.wrap a4).tmod (4294967295 : Int))), ())).bind fun y => (f11_F k ((true, (5 : Int), [(y.1.1, y.1.2.1, ())], ()), ByteArray.mk #[OfNat.ofNat (107 : Nat)], ())).bind fun y_3 => (f11_F k ((true, (5 : Int), [(y.1.1, y.1.2.1, ())], ()), ByteArray.mk #[OfNat.ofNat (106 : Nat)], ())).bind fun y_4 => bif y_3.1.2.2.1 == (0 : Int) then bif y_4.1.2.2.1 == (0 : Int) then bif y_3.1.1 == (1 : Int) then bif y_3.1.2.1 == IntKind.i64.wrap ((1 : Int) + IntKind.i64.wrap ((IntKind.u64.wrap a4).tmod (4294967295 : Int))) then bif y_4.1.1 == (0 : Int) then bif y_4.1.2.1 == (5 : Int) then (f14_F k (IntKind.i64.wrap ((1 : Int) + IntKind.i64.wrap ((IntKind.u64.wrap a4).tmod (4294967295 : Int))), ())).bind fun y_5 => some (ByteArray.toList y.1.2.1 == ByteArray.toList y_5.1, ()) else some (false, ()) else some (false, ()) else some (false, ()) else some (false, ()) else some (false, ()) else some (false, ())
def f3_F (k : Nat) : (Bool × Int × List (ByteArray × ByteArray × Unit) × Unit) × ByteArray × Int × Unit → Option (Bool × Unit) := f3_raw0 k
theorem f3_eq (k : Nat) (x : Kd.dens f3_pk) : runF (f3_C k) f3_A Try.f3.ntmps f3_code Try.f3.results.toList f3_pk f3_rk (encs f3_pk x) (decR f3_pk f3_rk) = f3_F k x := by
  show _ = f3_raw0 k x
  obtain ⟨⟨a0, ⟨a1, ⟨a2, ⟨⟩⟩⟩⟩, ⟨a3, ⟨a4, ⟨⟩⟩⟩⟩ := x
  kernel_rfl
theorem f3_fits : fitsC Try.prog Try.f3.ntmps f3_code = true := by kernel_rfl
theorem f3_ctr (k : Nat) : Ctr Try.prog k 3 (mk f3_pk f3_rk f3_F) :=
  fun_law (C := f3_C k) (phi_ok (ctr_cons (f9_ctr k) (ctr_cons (f10_ctr k) (ctr_cons (f12_ctr k) (ctr_cons (f11_ctr k) (ctr_cons (f13_ctr k) (ctr_cons (f14_ctr k) ctr_nil))))))) prog_mixed (A := f3_A) (fn := Try.f3) (code := f3_code) (by kernel_rfl) (by kernel_rfl) (by kernel_rfl) f3_fits (fun x y h => (f3_eq k x).trans h)
abbrev f4_pk : List Kd := [.view nodeT, .view .str, .view nodeT]
abbrev f4_rk : Kd := .view .bool
noncomputable def f4_code : Code := Try.f4.body.getD .skip
noncomputable def f4_C (k : Nat) : Ctx := { P := Try.prog, Φ := phi [(9, mk f9_pk f9_rk f9_F), (15, mk f15_pk f15_rk f15_F), (12, mk f12_pk f12_rk f12_F), (16, mk f16_pk f16_rk f16_F), (18, mk f18_pk f18_rk f18_F), (17, mk f17_pk f17_rk f17_F)], k := k, live := fun _ => [64] }
def f4_A : Nat → Ann := fun _ => ⟨[], []⟩
def f4_raw0 (k : Nat) : (Bool × Int × List (ByteArray × ByteArray × Unit) × Unit) × ByteArray × (Bool × Int × List (ByteArray × ByteArray × Unit) × Unit) × Unit → Option (Bool × Unit)
  | ((a0, a1, a2, ()), a3, (a4, a5, a6, ()), ()) => (f9_F k ()).bind fun y => bif !y.1 then some (false, ()) else (f15_F k ((a0, a1, a2, ()), a3, (a4, a5, a6, ()), ())).bind fun y => (f12_F k ((a0, a1, a2, ()), ())).bind fun y_1 => (f12_F k ((a4, a5, a6, ()), ())).bind fun y_2 => (f16_F k ((y_1.1.1, y_1.1.2.1, y_1.1.2.2.1, ()), a3, (y_2.1.1, y_2.1.2.1, y_2.1.2.2.1, ()), ())).bind fun y_3 => (f18_F k ((y_3.1.1.1, y_3.1.1.2.1, y_3.1.1.2.2.1, ()), ())).bind fun y_4 => (f17_F k ((y.1.1.1, y.1.1.2.1, y.1.1.2.2.1, ()), (y_4.1.1, y_4.1.2.1, y_4.1.2.2.1, ()), ())).bind fun y_5 => bif y_5.1 then some (y.1.2.1 == y_3.1.2.1, ()) else some (false, ())
def f4_F (k : Nat) : (Bool × Int × List (ByteArray × ByteArray × Unit) × Unit) × ByteArray × (Bool × Int × List (ByteArray × ByteArray × Unit) × Unit) × Unit → Option (Bool × Unit) := f4_raw0 k
theorem f4_eq (k : Nat) (x : Kd.dens f4_pk) : runF (f4_C k) f4_A Try.f4.ntmps f4_code Try.f4.results.toList f4_pk f4_rk (encs f4_pk x) (decR f4_pk f4_rk) = f4_F k x := by
  show _ = f4_raw0 k x
  obtain ⟨⟨a0, ⟨a1, ⟨a2, ⟨⟩⟩⟩⟩, ⟨a3, ⟨⟨a4, ⟨a5, ⟨a6, ⟨⟩⟩⟩⟩, ⟨⟩⟩⟩⟩ := x
  kernel_rfl
theorem f4_fits : fitsC Try.prog Try.f4.ntmps f4_code = true := by kernel_rfl
theorem f4_ctr (k : Nat) : Ctr Try.prog k 4 (mk f4_pk f4_rk f4_F) :=
  fun_law (C := f4_C k) (phi_ok (ctr_cons (f9_ctr k) (ctr_cons (f15_ctr k) (ctr_cons (f12_ctr k) (ctr_cons (f16_ctr k) (ctr_cons (f18_ctr k) (ctr_cons (f17_ctr k) ctr_nil))))))) prog_mixed (A := f4_A) (fn := Try.f4) (code := f4_code) (by kernel_rfl) (by kernel_rfl) (by kernel_rfl) f4_fits (fun x y h => (f4_eq k x).trans h)
abbrev f5_pk : List Kd := [.view nodeT]
abbrev f5_rk : Kd := .view .bool
noncomputable def f5_code : Code := Try.f5.body.getD .skip
noncomputable def f5_C (k : Nat) : Ctx := { P := Try.prog, Φ := phi [(9, mk f9_pk f9_rk f9_F), (12, mk f12_pk f12_rk f12_F), (19, mk f19_pk f19_rk f19_F), (20, mk f20_pk f20_rk f20_F)], k := k, live := fun _ => [64] }
def f5_A : Nat → Ann := fun _ => ⟨[], []⟩
def f5_raw0 (k : Nat) : (Bool × Int × List (ByteArray × ByteArray × Unit) × Unit) × Unit → Option (Bool × Unit)
  | ((a0, a1, a2, ()), ()) => (f9_F k ()).bind fun y => bif !y.1 then some (false, ()) else (f12_F k ((a0, a1, a2, ()), ())).bind fun y => (f19_F k ((y.1.1, y.1.2.1, y.1.2.2.1, ()), ())).bind fun y => (f12_F k ((a0, a1, a2, ()), ())).bind fun y_1 => (f20_F k ((y_1.1.1, y_1.1.2.1, y_1.1.2.2.1, ()), ())).bind fun y_2 => bif y_2.1.2.2.2.1 != (0 : Int) then some (true, ()) else bif decide (y.1 ≤ (256 : Int)) then some (true, ()) else bif a0 then (f19_F k ((y_2.1.1.1, y_2.1.1.2.1, y_2.1.1.2.2.1, ()), ())).bind fun y_3 => (f19_F k ((y_2.1.2.2.1.1, y_2.1.2.2.1.2.1, y_2.1.2.2.1.2.2.1, ()), ())).bind fun y_4 => bif decide ((56 : Int) ≤ y_3.1) then bif decide ((56 : Int) ≤ y_4.1) then bif decide ((340 : Int) < y.1) then some (true, ()) else bif decide (y_3.1 ≤ (256 : Int)) then some (decide (y_4.1 ≤ (256 : Int)), ()) else some (false, ()) else some (false, ()) else some (false, ()) else (f19_F k ((y_2.1.1.1, y_2.1.1.2.1, y_2.1.1.2.2.1, ()), ())).bind fun y_3 => (f19_F k ((y_2.1.2.2.1.1, y_2.1.2.2.1.2.1, y_2.1.2.2.1.2.2.1, ()), ())).bind fun y_4 => bif decide ((48 : Int) ≤ y_3.1) then bif decide ((48 : Int) ≤ y_4.1) then bif decide ((340 : Int) < y.1) then some (true, ()) else bif decide (y_3.1 ≤ (256 : Int)) then some (decide (y_4.1 ≤ (256 : Int)), ()) else some (false, ()) else some (false, ()) else some (false, ())
def f5_F (k : Nat) : (Bool × Int × List (ByteArray × ByteArray × Unit) × Unit) × Unit → Option (Bool × Unit) := f5_raw0 k
theorem f5_eq (k : Nat) (x : Kd.dens f5_pk) : runF (f5_C k) f5_A Try.f5.ntmps f5_code Try.f5.results.toList f5_pk f5_rk (encs f5_pk x) (decR f5_pk f5_rk) = f5_F k x := by
  show _ = f5_raw0 k x
  obtain ⟨⟨a0, ⟨a1, ⟨a2, ⟨⟩⟩⟩⟩, ⟨⟩⟩ := x
  kernel_rfl
theorem f5_fits : fitsC Try.prog Try.f5.ntmps f5_code = true := by kernel_rfl
theorem f5_ctr (k : Nat) : Ctr Try.prog k 5 (mk f5_pk f5_rk f5_F) :=
  fun_law (C := f5_C k) (phi_ok (ctr_cons (f9_ctr k) (ctr_cons (f12_ctr k) (ctr_cons (f19_ctr k) (ctr_cons (f20_ctr k) ctr_nil))))) prog_mixed (A := f5_A) (fn := Try.f5) (code := f5_code) (by kernel_rfl) (by kernel_rfl) (by kernel_rfl) f5_fits (fun x y h => (f5_eq k x).trans h)
abbrev f6_pk : List Kd := [.view nodeT]
abbrev f6_rk : Kd := .view .bool
noncomputable def f6_code : Code := Try.f6.body.getD .skip
noncomputable def f6_C (k : Nat) : Ctx := { P := Try.prog, Φ := phi [(9, mk f9_pk f9_rk f9_F), (21, mk f21_pk f21_rk f21_F), (12, mk f12_pk f12_rk f12_F), (20, mk f20_pk f20_rk f20_F), (18, mk f18_pk f18_rk f18_F), (17, mk f17_pk f17_rk f17_F), (16, mk f16_pk f16_rk f16_F)], k := k, live := fun _ => [64] }
def f6_A : Nat → Ann := fun id => bif Nat.beq id 18 then ⟨[14, 9, 8, 1], []⟩ else bif Nat.beq id 13 then ⟨[13, 7, 8, 9, 1], []⟩ else ⟨[], []⟩
def f6_S2 : Int × ByteArray × Bool × Int × List (ByteArray × ByteArray × Unit) × Bool × Int × List (ByteArray × ByteArray × Unit) → St
  | (v0, v1, v2, v3, v4, v5, v6, v7) => St.mk (envOf [(nat_lit 14, AV.val (PV.v (Value.int IntKind.i64 v0))), (nat_lit 9, AV.bx (nat_lit 8192) (nat_lit 0)), (nat_lit 8, AV.val (PV.v (Value.string v1))), (nat_lit 1, AV.bx (nat_lit 8193) (nat_lit 0))]) (tblOf [(nat_lit 8192, RS.live (Res.box [AV.val (PV.v (Value.bool v2)), AV.val (PV.v (Value.int IntKind.i64 v3)), AV.val (PV.sl (Ty.str.pair (Ty.str.pair Ty.unit)) v4)])), (nat_lit 8193, RS.live (Res.box [AV.val (PV.v (Value.bool v5)), AV.val (PV.v (Value.int IntKind.i64 v6)), AV.val (PV.sl (Ty.str.pair (Ty.str.pair Ty.unit)) v7)]))])
def f6_raw2 (k : Nat) (L2 : Int × ByteArray × Bool × Int × List (ByteArray × ByteArray × Unit) × Bool × Int × List (ByteArray × ByteArray × Unit) → Option (Bool × Unit)) : Int × ByteArray × Bool × Int × List (ByteArray × ByteArray × Unit) × Bool × Int × List (ByteArray × ByteArray × Unit) → Option (Bool × Unit)
  | (v0, v1, v2, v3, v4, v5, v6, v7) => bif decide (v0 < Int.ofNat v4.length) then bif decide ((0 : Int) ≤ v0 ∧ v0 < Int.ofNat v4.length) then bif Op.bytesLess (ByteArray.toList (v4.getD v0.toNat (ByteArray.mk #[], ByteArray.mk #[], ())).1) v1.toList then some (false, ()) else bif v5 then bif decide ((0 : Int) ≤ v0 ∧ v0 < Int.ofNat v4.length) then bif ByteArray.toList (v4.getD v0.toNat (ByteArray.mk #[], ByteArray.mk #[], ())).1 == v1.toList then some (false, ()) else L2 (IntKind.i64.wrap (v0 + (1 : Int)), v1, v2, v3, v4, v5, v6, v7) else none else L2 (IntKind.i64.wrap (v0 + (1 : Int)), v1, v2, v3, v4, v5, v6, v7) else none else some (true, ())
def f6_L2 (k : Nat) : Int × ByteArray × Bool × Int × List (ByteArray × ByteArray × Unit) × Bool × Int × List (ByteArray × ByteArray × Unit) → Option (Bool × Unit) := iter (fun L2 => f6_raw2 k L2) k
noncomputable def f6_at2 (k : Nat) (n : Nat) (v : Int × ByteArray × Bool × Int × List (ByteArray × ByteArray × Unit) × Bool × Int × List (ByteArray × ByteArray × Unit)) : Option (Bool × Unit) :=
  loopAt (f6_C k) f6_A [] [1, 1, 1, 1, 1, 1, 1, 1, 1, 0, 1, 0] [] f6_code (leaveK (f6_C k) Try.f6.results.toList f6_pk [] f6_rk (decR f6_pk f6_rk)) n (f6_S2 v)
theorem f6_law2 (k : Nat) : ∀ n, f6_at2 k n = iter (fun L2 => f6_raw2 k L2) n :=
  iter_law (fun v => by kernel_rfl) (fun n v => by
    show f6_at2 k (n + 1) v = f6_raw2 k (f6_at2 k n) v
    obtain ⟨v0, v1, v2, v3, v4, v5, v6, v7⟩ := v
    kernel_rfl)
def f6_S1 : Int × ByteArray × Bool × Int × List (ByteArray × ByteArray × Unit) × Bool × Int × List (ByteArray × ByteArray × Unit) × Bool × Int × List (ByteArray × ByteArray × Unit) → St
  | (v0, v1, v2, v3, v4, v5, v6, v7, v8, v9, v10) => St.mk (envOf [(nat_lit 13, AV.val (PV.v (Value.int IntKind.i64 v0))), (nat_lit 7, AV.bx (nat_lit 8192) (nat_lit 0)), (nat_lit 8, AV.val (PV.v (Value.string v1))), (nat_lit 9, AV.bx (nat_lit 8193) (nat_lit 0)), (nat_lit 1, AV.bx (nat_lit 8194) (nat_lit 0))]) (tblOf [(nat_lit 8192, RS.live (Res.box [AV.val (PV.v (Value.bool v2)), AV.val (PV.v (Value.int IntKind.i64 v3)), AV.val (PV.sl (Ty.str.pair (Ty.str.pair Ty.unit)) v4)])), (nat_lit 8193, RS.live (Res.box [AV.val (PV.v (Value.bool v5)), AV.val (PV.v (Value.int IntKind.i64 v6)), AV.val (PV.sl (Ty.str.pair (Ty.str.pair Ty.unit)) v7)])), (nat_lit 8194, RS.live (Res.box [AV.val (PV.v (Value.bool v8)), AV.val (PV.v (Value.int IntKind.i64 v9)), AV.val (PV.sl (Ty.str.pair (Ty.str.pair Ty.unit)) v10)]))])
def f6_raw1 (k : Nat) (L2 : Int × ByteArray × Bool × Int × List (ByteArray × ByteArray × Unit) × Bool × Int × List (ByteArray × ByteArray × Unit) → Option (Bool × Unit)) (L1 : Int × ByteArray × Bool × Int × List (ByteArray × ByteArray × Unit) × Bool × Int × List (ByteArray × ByteArray × Unit) × Bool × Int × List (ByteArray × ByteArray × Unit) → Option (Bool × Unit)) : Int × ByteArray × Bool × Int × List (ByteArray × ByteArray × Unit) × Bool × Int × List (ByteArray × ByteArray × Unit) × Bool × Int × List (ByteArray × ByteArray × Unit) → Option (Bool × Unit)
  | (v0, v1, v2, v3, v4, v5, v6, v7, v8, v9, v10) => bif decide (v0 < Int.ofNat v4.length) then bif decide ((0 : Int) ≤ v0 ∧ v0 < Int.ofNat v4.length) then bif !Op.bytesLess (ByteArray.toList (v4.getD v0.toNat (ByteArray.mk #[], ByteArray.mk #[], ())).1) v1.toList then some (false, ()) else L1 (IntKind.i64.wrap (v0 + (1 : Int)), v1, v2, v3, v4, v5, v6, v7, v8, v9, v10) else none else L2 ((0 : Int), v1, v5, v6, v7, v8, v9, v10)
def f6_L1 (k : Nat) : Int × ByteArray × Bool × Int × List (ByteArray × ByteArray × Unit) × Bool × Int × List (ByteArray × ByteArray × Unit) × Bool × Int × List (ByteArray × ByteArray × Unit) → Option (Bool × Unit) := iter (fun L1 => f6_raw1 k (f6_L2 k) L1) k
noncomputable def f6_at1 (k : Nat) (n : Nat) (v : Int × ByteArray × Bool × Int × List (ByteArray × ByteArray × Unit) × Bool × Int × List (ByteArray × ByteArray × Unit) × Bool × Int × List (ByteArray × ByteArray × Unit)) : Option (Bool × Unit) :=
  loopAt (f6_C k) f6_A [] [1, 1, 1, 1, 1, 1, 1, 1, 0, 1, 0] [] f6_code (leaveK (f6_C k) Try.f6.results.toList f6_pk [] f6_rk (decR f6_pk f6_rk)) n (f6_S1 v)
theorem f6_law1 (k : Nat) : ∀ n, f6_at1 k n = iter (fun L1 => f6_raw1 k (f6_L2 k) L1) n :=
  iter_law (fun v => by kernel_rfl) (fun n v => by
    show f6_at1 k (n + 1) v = f6_raw1 k (f6_L2 k) (f6_at1 k n) v
    rw [show (f6_L2 k) = f6_at2 k k from (f6_law2 k k).symm]
    obtain ⟨v0, v1, v2, v3, v4, v5, v6, v7, v8, v9, v10⟩ := v
    kernel_rfl)
def f6_raw0 (k : Nat) (L1 : Int × ByteArray × Bool × Int × List (ByteArray × ByteArray × Unit) × Bool × Int × List (ByteArray × ByteArray × Unit) × Bool × Int × List (ByteArray × ByteArray × Unit) → Option (Bool × Unit)) : (Bool × Int × List (ByteArray × ByteArray × Unit) × Unit) × Unit → Option (Bool × Unit)
  | ((a0, a1, a2, ()), ()) => (f9_F k ()).bind fun y => bif !y.1 then some (false, ()) else (f21_F k ((a0, a1, a2, ()), ())).bind fun y => (f12_F k ((a0, a1, a2, ()), ())).bind fun y_1 => (f20_F k ((y_1.1.1, y_1.1.2.1, y_1.1.2.2.1, ()), ())).bind fun y_2 => (f18_F k ((y_2.1.1.1, y_2.1.1.2.1, y_2.1.1.2.2.1, ()), ())).bind fun y_3 => (f17_F k ((y.1.1.1, y.1.1.2.1, y.1.1.2.2.1, ()), (y_3.1.1, y_3.1.2.1, y_3.1.2.2.1, ()), ())).bind fun y_4 => bif !y_4.1 then some (false, ()) else bif !ByteArray.toList y.1.2.1 == ByteArray.toList y_2.1.2.1 then some (false, ()) else (f18_F k ((y_2.1.2.2.1.1, y_2.1.2.2.1.2.1, y_2.1.2.2.1.2.2.1, ()), ())).bind fun y_5 => (f17_F k ((y.1.2.2.1.1, y.1.2.2.1.2.1, y.1.2.2.1.2.2.1, ()), (y_5.1.1, y_5.1.2.1, y_5.1.2.2.1, ()), ())).bind fun y_6 => bif !y_6.1 then some (false, ()) else bif y.1.2.2.2.1 != y_2.1.2.2.2.1 then some (false, ()) else bif y_2.1.2.2.2.1 != (0 : Int) then some (true, ()) else (f16_F k ((y_2.1.1.1, y_2.1.1.2.1, y_2.1.1.2.2.1, ()), y_2.1.2.1, (y_2.1.2.2.1.1, y_2.1.2.2.1.2.1, y_2.1.2.2.1.2.2.1, ()), ())).bind fun y => bif y.1.2.1 != (0 : Int) then some (false, ()) else (f18_F k ((y.1.1.1, y.1.1.2.1, y.1.1.2.2.1, ()), ())).bind fun y => (f17_F k ((y.1.1, y.1.2.1, y.1.2.2.1, ()), (a0, a1, a2, ()), ())).bind fun y => bif !y.1 then some (false, ()) else bif Int.ofNat (List.length y_2.1.1.2.2.1) == (0 : Int) then some (false, ()) else bif Int.ofNat (List.length y_2.1.2.2.1.2.2.1) == (0 : Int) then some (false, ()) else L1 ((0 : Int), y_2.1.2.1, y_2.1.1.1, y_2.1.1.2.1, y_2.1.1.2.2.1, y_2.1.2.2.1.1, y_2.1.2.2.1.2.1, y_2.1.2.2.1.2.2.1, a0, a1, a2)
def f6_F (k : Nat) : (Bool × Int × List (ByteArray × ByteArray × Unit) × Unit) × Unit → Option (Bool × Unit) := f6_raw0 k (f6_L1 k)
theorem f6_eq (k : Nat) (x : Kd.dens f6_pk) : runF (f6_C k) f6_A Try.f6.ntmps f6_code Try.f6.results.toList f6_pk f6_rk (encs f6_pk x) (decR f6_pk f6_rk) = f6_F k x := by
  show _ = f6_raw0 k (f6_L1 k) x
  rw [show f6_L1 k = f6_at1 k k from (f6_law1 k k).symm]
  obtain ⟨⟨a0, ⟨a1, ⟨a2, ⟨⟩⟩⟩⟩, ⟨⟩⟩ := x
  kernel_rfl
theorem f6_fits : fitsC Try.prog Try.f6.ntmps f6_code = true := by kernel_rfl
theorem f6_ctr (k : Nat) : Ctr Try.prog k 6 (mk f6_pk f6_rk f6_F) :=
  fun_law (C := f6_C k) (phi_ok (ctr_cons (f9_ctr k) (ctr_cons (f21_ctr k) (ctr_cons (f12_ctr k) (ctr_cons (f20_ctr k) (ctr_cons (f18_ctr k) (ctr_cons (f17_ctr k) (ctr_cons (f16_ctr k) ctr_nil)))))))) prog_mixed (A := f6_A) (fn := Try.f6) (code := f6_code) (by kernel_rfl) (by kernel_rfl) (by kernel_rfl) f6_fits (fun x y h => (f6_eq k x).trans h)
abbrev f8_pk : List Kd := [.view (.sl pairT), .view (.int .i64)]
abbrev f8_rk : Kd := .view .bool
noncomputable def f8_code : Code := Try.f8.body.getD .skip
noncomputable def f8_C (k : Nat) : Ctx := { P := Try.prog, Φ := phi [(9, mk f9_pk f9_rk f9_F), (22, mk f22_pk f22_rk f22_F), (16, mk f16_pk f16_rk f16_F), (20, mk f20_pk f20_rk f20_F), (12, mk f12_pk f12_rk f12_F), (18, mk f18_pk f18_rk f18_F), (17, mk f17_pk f17_rk f17_F), (19, mk f19_pk f19_rk f19_F), (23, mk f23_pk f23_rk f23_F)], k := k, live := fun _ => [64] }
def f8_A : Nat → Ann := fun _ => ⟨[], []⟩
def f8_raw0 (k : Nat) : List (ByteArray × ByteArray × Unit) × Int × Unit → Option (Bool × Unit)
  | (a0, a1, ()) => (f9_F k ()).bind fun y => bif !y.1 then some (false, ()) else bif decide ((0 : Int) ≤ (0 : Int) ∧ ((0 : Int) ≤ if (40 : Int) < Int.ofNat a0.length then (40 : Int) else Int.ofNat a0.length) ∧ (if (40 : Int) < Int.ofNat a0.length then (40 : Int) else Int.ofNat a0.length) ≤ Int.ofNat a0.length) then (f22_F k ((false, (0 : Int), List.drop (0 : Nat) (List.take (if (40 : Int) < Int.ofNat a0.length then (40 : Int) else Int.ofNat a0.length).toNat a0), ()), ())).bind fun y => bif !y.1 then some (true, ()) else bif decide (Int.ofNat (List.drop (0 : Nat) (List.take (if (40 : Int) < Int.ofNat a0.length then (40 : Int) else Int.ofNat a0.length).toNat a0)).length < (2 : Int)) then some (true, ()) else bif decide ¬IntKind.u64.wrap (IntKind.i64.wrap (Int.ofNat (List.drop (0 : Nat) (List.take (if (40 : Int) < Int.ofNat a0.length then (40 : Int) else Int.ofNat a0.length).toNat a0)).length - (1 : Int))) = (0 : Int) then bif decide ((0 : Int) ≤ (0 : Int) ∧ (0 : Int) ≤ IntKind.i64.wrap ((1 : Int) + IntKind.i64.wrap ((IntKind.u64.wrap a1).tmod (IntKind.u64.wrap (IntKind.i64.wrap (Int.ofNat (List.drop (0 : Nat) (List.take (if (40 : Int) < Int.ofNat a0.length then (40 : Int) else Int.ofNat a0.length).toNat a0)).length - (1 : Int)))))) ∧ IntKind.i64.wrap ((1 : Int) + IntKind.i64.wrap ((IntKind.u64.wrap a1).tmod (IntKind.u64.wrap (IntKind.i64.wrap (Int.ofNat (List.drop (0 : Nat) (List.take (if (40 : Int) < Int.ofNat a0.length then (40 : Int) else Int.ofNat a0.length).toNat a0)).length - (1 : Int)))))) ≤ Int.ofNat (List.drop (0 : Nat) (List.take (if (40 : Int) < Int.ofNat a0.length then (40 : Int) else Int.ofNat a0.length).toNat a0)).length) then bif decide ((0 : Int) ≤ IntKind.i64.wrap ((1 : Int) + IntKind.i64.wrap ((IntKind.u64.wrap a1).tmod (IntKind.u64.wrap (IntKind.i64.wrap (Int.ofNat (List.drop (0 : Nat) (List.take (if (40 : Int) < Int.ofNat a0.length then (40 : Int) else Int.ofNat a0.length).toNat a0)).length - (1 : Int)))))) ∧ IntKind.i64.wrap ((1 : Int) + IntKind.i64.wrap ((IntKind.u64.wrap a1).tmod (IntKind.u64.wrap (IntKind.i64.wrap (Int.ofNat (List.drop (0 : Nat) (List.take (if (40 : Int) < Int.ofNat a0.length then (40 : Int) else Int.ofNat a0.length).toNat a0)).length - (1 : Int)))))) ≤ Int.ofNat (List.drop (0 : Nat) (List.take (if (40 : Int) < Int.ofNat a0.length then (40 : Int) else Int.ofNat a0.length).toNat a0)).length ∧ Int.ofNat (List.drop (0 : Nat) (List.take (if (40 : Int) < Int.ofNat a0.length then (40 : Int) else Int.ofNat a0.length).toNat a0)).length ≤ Int.ofNat (List.drop (0 : Nat) (List.take (if (40 : Int) < Int.ofNat a0.length then (40 : Int) else Int.ofNat a0.length).toNat a0)).length) then (f12_F k ((false, (0 : Int), List.drop (0 : Nat) (List.take (IntKind.i64.wrap ((1 : Int) + IntKind.i64.wrap ((IntKind.u64.wrap a1).tmod (IntKind.u64.wrap (IntKind.i64.wrap (Int.ofNat (List.drop (0 : Nat) (List.take (if (40 : Int) < Int.ofNat a0.length then (40 : Int) else Int.ofNat a0.length).toNat a0)).length - (1 : Int))))))).toNat (List.drop (0 : Nat) (List.take (if (40 : Int) < Int.ofNat a0.length then (40 : Int) else Int.ofNat a0.length).toNat a0))), ()), ())).bind fun y => bif decide ((0 : Int) ≤ IntKind.i64.wrap ((1 : Int) + IntKind.i64.wrap ((IntKind.u64.wrap a1).tmod (IntKind.u64.wrap (IntKind.i64.wrap (Int.ofNat (List.drop (0 : Nat) (List.take (if (40 : Int) < Int.ofNat a0.length then (40 : Int) else Int.ofNat a0.length).toNat a0)).length - (1 : Int)))))) ∧ IntKind.i64.wrap ((1 : Int) + IntKind.i64.wrap ((IntKind.u64.wrap a1).tmod (IntKind.u64.wrap (IntKind.i64.wrap (Int.ofNat (List.drop (0 : Nat) (List.take (if (40 : Int) < Int.ofNat a0.length then (40 : Int) else Int.ofNat a0.length).toNat a0)).length - (1 : Int)))))) < Int.ofNat (List.drop (0 : Nat) (List.take (if (40 : Int) < Int.ofNat a0.length then (40 : Int) else Int.ofNat a0.length).toNat a0)).length) then (f12_F k ((false, (0 : Int), List.drop (IntKind.i64.wrap ((1 : Int) + IntKind.i64.wrap ((IntKind.u64.wrap a1).tmod (IntKind.u64.wrap (IntKind.i64.wrap (Int.ofNat (List.drop (0 : Nat) (List.take (if (40 : Int) < Int.ofNat a0.length then (40 : Int) else Int.ofNat a0.length).toNat a0)).length - (1 : Int))))))).toNat (List.take (Int.ofNat (List.drop (0 : Nat) (List.take (if (40 : Int) < Int.ofNat a0.length then (40 : Int) else Int.ofNat a0.length).toNat a0)).length).toNat (List.drop (0 : Nat) (List.take (if (40 : Int) < Int.ofNat a0.length then (40 : Int) else Int.ofNat a0.length).toNat a0))), ()), ())).bind fun y_1 => (f16_F k ((y.1.1, y.1.2.1, y.1.2.2.1, ()), ((List.drop (0 : Nat) (List.take (if (40 : Int) < Int.ofNat a0.length then (40 : Int) else Int.ofNat a0.length).toNat a0)).getD (IntKind.i64.wrap ((1 : Int) + IntKind.i64.wrap ((IntKind.u64.wrap a1).tmod (IntKind.u64.wrap (IntKind.i64.wrap (Int.ofNat (List.drop (0 : Nat) (List.take (if (40 : Int) < Int.ofNat a0.length then (40 : Int) else Int.ofNat a0.length).toNat a0)).length - (1 : Int))))))).toNat (ByteArray.mk #[], ByteArray.mk #[], ())).1, (y_1.1.1, y_1.1.2.1, y_1.1.2.2.1, ()), ())).bind fun y => (f20_F k ((y.1.1.1, y.1.1.2.1, y.1.1.2.2.1, ()), ())).bind fun y_2 => bif y.1.2.1 != (0 : Int) then some (false, ()) else bif y_2.1.2.2.2.1 != (0 : Int) then some (false, ()) else (f18_F k ((y.1.1.1, y.1.1.2.1, y.1.1.2.2.1, ()), ())).bind fun y_3 => (f17_F k ((y_3.1.1, y_3.1.2.1, y_3.1.2.2.1, ()), (false, (0 : Int), List.drop (0 : Nat) (List.take (if (40 : Int) < Int.ofNat a0.length then (40 : Int) else Int.ofNat a0.length).toNat a0), ()), ())).bind fun y_4 => bif !y_4.1 then some (false, ()) else bif decide ((0 : Int) ≤ (0 : Int) ∧ (0 : Int) < Int.ofNat (List.length y_2.1.2.2.1.2.2.1)) then bif !ByteArray.toList y_2.1.2.1 == ByteArray.toList (List.getD y_2.1.2.2.1.2.2.1 (0 : Nat) (ByteArray.mk #[], ByteArray.mk #[], ())).1 then some (false, ()) else (f16_F k ((y_2.1.1.1, y_2.1.1.2.1, y_2.1.1.2.2.1, ()), y_2.1.2.1, (y_2.1.2.2.1.1, y_2.1.2.2.1.2.1, y_2.1.2.2.1.2.2.1, ()), ())).bind fun y_5 => bif y_5.1.2.1 != (0 : Int) then some (false, ()) else (f18_F k ((y_5.1.1.1, y_5.1.1.2.1, y_5.1.1.2.2.1, ()), ())).bind fun y_6 => (f17_F k ((y_6.1.1, y_6.1.2.1, y_6.1.2.2.1, ()), (false, (0 : Int), List.drop (0 : Nat) (List.take (if (40 : Int) < Int.ofNat a0.length then (40 : Int) else Int.ofNat a0.length).toNat a0), ()), ())).bind fun y_7 => bif !y_7.1 then some (false, ()) else (f19_F k ((y.1.1.1, y.1.1.2.1, y.1.1.2.2.1, ()), ())).bind fun y_8 => bif decide ((256 : Int) < y_8.1) then (f19_F k ((y.1.1.1, y.1.1.2.1, y.1.1.2.2.1, ()), ())).bind fun y => bif decide (y.1 ≤ (340 : Int)) then (f23_F k ((y_2.1.1.1, y_2.1.1.2.1, y_2.1.1.2.2.1, ()), ())).bind fun y => (f23_F k ((y_2.1.2.2.1.1, y_2.1.2.2.1.2.1, y_2.1.2.2.1.2.2.1, ()), ())).bind fun y_9 => bif y.1.2.1 == (0 : Int) then bif y_9.1.2.1 == (0 : Int) then bif Int.ofNat (ByteArray.size y.1.1) == (256 : Int) then some (Int.ofNat (ByteArray.size y_9.1.1) == (256 : Int), ()) else some (false, ()) else some (false, ()) else some (false, ()) else some (true, ()) else some (true, ()) else none else none else none else none else none else none
def f8_F (k : Nat) : List (ByteArray × ByteArray × Unit) × Int × Unit → Option (Bool × Unit) := f8_raw0 k
theorem f8_eq (k : Nat) (x : Kd.dens f8_pk) : runF (f8_C k) f8_A Try.f8.ntmps f8_code Try.f8.results.toList f8_pk f8_rk (encs f8_pk x) (decR f8_pk f8_rk) = f8_F k x := by
  show _ = f8_raw0 k x
  obtain ⟨a0, ⟨a1, ⟨⟩⟩⟩ := x
  kernel_rfl
theorem f8_fits : fitsC Try.prog Try.f8.ntmps f8_code = true := by kernel_rfl
theorem f8_ctr (k : Nat) : Ctr Try.prog k 8 (mk f8_pk f8_rk f8_F) :=
  fun_law (C := f8_C k) (phi_ok (ctr_cons (f9_ctr k) (ctr_cons (f22_ctr k) (ctr_cons (f16_ctr k) (ctr_cons (f20_ctr k) (ctr_cons (f12_ctr k) (ctr_cons (f18_ctr k) (ctr_cons (f17_ctr k) (ctr_cons (f19_ctr k) (ctr_cons (f23_ctr k) ctr_nil)))))))))) prog_mixed (A := f8_A) (fn := Try.f8) (code := f8_code) (by kernel_rfl) (by kernel_rfl) (by kernel_rfl) f8_fits (fun x y h => (f8_eq k x).trans h)
end Go.Sh
