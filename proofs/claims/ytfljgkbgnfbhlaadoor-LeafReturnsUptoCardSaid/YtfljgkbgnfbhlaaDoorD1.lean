/-
  What the functions compute.
-/
import Derived.Test.YtfljgkbgnfbhlaaDoorM17
import Derived.Test.YtfljgkbgnfbhlaaDoorProg
set_option linter.unusedVariables false
namespace Go.Sh
open Go Go.Proofs
abbrev pairT : Ty := .pair .str (.pair .str .unit)
abbrev nodeT : Ty := .pair .bool (.pair (.int .i64) (.pair (.sl pairT) .unit))
theorem prog_mixed : Tryd.prog.follows .mixedOrders = true := by kernel_rfl
abbrev f31_pk : List Kd := [.view pairT]
abbrev f31_rk : Kd := .view (.int .i64)
noncomputable def f31_code : Code := Tryd.f37.body.getD .skip
noncomputable def f31_C (k : Nat) : Ctx := { P := Tryd.prog, Φ := phi [], k := k, live := fun _ => [48] }
def f31_A : Nat → Ann := fun _ => ⟨[], []⟩
def f31_raw0 (k : Nat) : (ByteArray × ByteArray × Unit) × Unit → Option (Int × Unit)
  | ((a0, a1, ()), ()) => some (IntKind.i64.wrap (IntKind.i64.wrap ((2 : Int) + Int.ofNat a0.size) + Int.ofNat a1.size), ())
def f31_F (k : Nat) : (ByteArray × ByteArray × Unit) × Unit → Option (Int × Unit) := f31_raw0 k
theorem f31_eq (k : Nat) (x : Kd.dens f31_pk) : runF (f31_C k) f31_A Tryd.f37.ntmps f31_code Tryd.f37.results.toList f31_pk f31_rk (encs f31_pk x) (decR f31_pk f31_rk) = f31_F k x := by
  show _ = f31_raw0 k x
  obtain ⟨⟨a0, ⟨a1, ⟨⟩⟩⟩, ⟨⟩⟩ := x
  kernel_rfl
theorem f31_fits : fitsC Tryd.prog Tryd.f37.ntmps f31_code = true := by kernel_rfl
theorem f31_ctr (k : Nat) : Ctr Tryd.prog k 37 (mk f31_pk f31_rk f31_F) :=
  fun_law (C := f31_C k) (phi_ok ctr_nil) prog_mixed (A := f31_A) (fn := Tryd.f37) (code := f31_code) (by kernel_rfl) (by kernel_rfl) (by kernel_rfl) f31_fits (fun x y h => (f31_eq k x).trans h)
abbrev f30_pk : List Kd := [.view (.sl pairT)]
abbrev f30_rk : Kd := .view (.int .i64)
noncomputable def f30_code : Code := Tryd.f27.body.getD .skip
noncomputable def f30_C (k : Nat) : Ctx := { P := Tryd.prog, Φ := phi [(37, mk f31_pk f31_rk f31_F)], k := k, live := fun _ => [48] }
def f30_A : Nat → Ann := fun id => bif Nat.beq id 3 then ⟨[7, 8, 6, 3], []⟩ else ⟨[], []⟩
def f30_S1 : Int × Int × List (ByteArray × ByteArray × Unit) × Int → St
  | (v0, v1, v2, v3) => St.mk (envOf [(nat_lit 7, AV.val (PV.v (Value.int IntKind.i64 v0))), (nat_lit 8, AV.val (PV.v (Value.int IntKind.i64 v1))), (nat_lit 6, AV.val (PV.sl (Ty.str.pair (Ty.str.pair Ty.unit)) v2)), (nat_lit 3, AV.val (PV.v (Value.int IntKind.i64 v3)))]) (tblOf [])
def f30_raw1 (k : Nat) (L1 : Int × Int × List (ByteArray × ByteArray × Unit) × Int → Option (Int × Unit)) : Int × Int × List (ByteArray × ByteArray × Unit) × Int → Option (Int × Unit)
  | (v0, v1, v2, v3) => bif decide (v1 < v0) then bif decide ((0 : Int) ≤ v1 ∧ v1 < Int.ofNat v2.length) then (f31_F k (((v2.getD v1.toNat (ByteArray.mk #[], ByteArray.mk #[], ())).1, (v2.getD v1.toNat (ByteArray.mk #[], ByteArray.mk #[], ())).2.1, ()), ())).bind fun y => L1 (v0, IntKind.i64.wrap (v1 + (1 : Int)), v2, IntKind.i64.wrap (v3 + y.1)) else none else some (v3, ())
def f30_L1 (k : Nat) : Int × Int × List (ByteArray × ByteArray × Unit) × Int → Option (Int × Unit) := iter (fun L1 => f30_raw1 k L1) k
noncomputable def f30_at1 (k : Nat) (n : Nat) (v : Int × Int × List (ByteArray × ByteArray × Unit) × Int) : Option (Int × Unit) :=
  loopAt (f30_C k) f30_A [] [1, 1, 0, 1, 0] [] f30_code (leaveK (f30_C k) Tryd.f27.results.toList f30_pk [] f30_rk (decR f30_pk f30_rk)) n (f30_S1 v)
theorem f30_law1 (k : Nat) : ∀ n, f30_at1 k n = iter (fun L1 => f30_raw1 k L1) n :=
  iter_law (fun v => by kernel_rfl) (fun n v => by
    show f30_at1 k (n + 1) v = f30_raw1 k (f30_at1 k n) v
    obtain ⟨v0, v1, v2, v3⟩ := v
    kernel_rfl)
def f30_raw0 (k : Nat) (L1 : Int × Int × List (ByteArray × ByteArray × Unit) × Int → Option (Int × Unit)) : List (ByteArray × ByteArray × Unit) × Unit → Option (Int × Unit)
  | (a0, ()) => L1 (Int.ofNat a0.length, (0 : Int), a0, (0 : Int))
def f30_F (k : Nat) : List (ByteArray × ByteArray × Unit) × Unit → Option (Int × Unit) := f30_raw0 k (f30_L1 k)
theorem f30_eq (k : Nat) (x : Kd.dens f30_pk) : runF (f30_C k) f30_A Tryd.f27.ntmps f30_code Tryd.f27.results.toList f30_pk f30_rk (encs f30_pk x) (decR f30_pk f30_rk) = f30_F k x := by
  show _ = f30_raw0 k (f30_L1 k) x
  rw [show f30_L1 k = f30_at1 k k from (f30_law1 k k).symm]
  obtain ⟨a0, ⟨⟩⟩ := x
  kernel_rfl
theorem f30_fits : fitsC Tryd.prog Tryd.f27.ntmps f30_code = true := by kernel_rfl
theorem f30_ctr (k : Nat) : Ctr Tryd.prog k 27 (mk f30_pk f30_rk f30_F) :=
  fun_law (C := f30_C k) (phi_ok (ctr_cons (f31_ctr k) ctr_nil)) prog_mixed (A := f30_A) (fn := Tryd.f27) (code := f30_code) (by kernel_rfl) (by kernel_rfl) (by kernel_rfl) f30_fits (fun x y h => (f30_eq k x).trans h)
abbrev f19_pk : List Kd := [.view nodeT]
abbrev f19_rk : Kd := .view (.int .i64)
noncomputable def f19_code : Code := Tryd.f13.body.getD .skip
noncomputable def f19_C (k : Nat) : Ctx := { P := Tryd.prog, Φ := phi [(27, mk f30_pk f30_rk f30_F)], k := k, live := fun _ => [48] }
def f19_A : Nat → Ann := fun _ => ⟨[], []⟩
def f19_raw0 (k : Nat) : (Bool × Int × List (ByteArray × ByteArray × Unit) × Unit) × Unit → Option (Int × Unit)
  | ((a0, a1, a2, ()), ()) => bif a0 then (f30_F k (a2, ())).bind fun y => some (IntKind.i64.wrap ((6 : Int) + y.1), ()) else (f30_F k (a2, ())).bind fun y => some (IntKind.i64.wrap ((2 : Int) + y.1), ())
def f19_F (k : Nat) : (Bool × Int × List (ByteArray × ByteArray × Unit) × Unit) × Unit → Option (Int × Unit) := f19_raw0 k
theorem f19_eq (k : Nat) (x : Kd.dens f19_pk) : runF (f19_C k) f19_A Tryd.f13.ntmps f19_code Tryd.f13.results.toList f19_pk f19_rk (encs f19_pk x) (decR f19_pk f19_rk) = f19_F k x := by
  show _ = f19_raw0 k x
  obtain ⟨⟨a0, ⟨a1, ⟨a2, ⟨⟩⟩⟩⟩, ⟨⟩⟩ := x
  kernel_rfl
theorem f19_fits : fitsC Tryd.prog Tryd.f13.ntmps f19_code = true := by kernel_rfl
theorem f19_ctr (k : Nat) : Ctr Tryd.prog k 13 (mk f19_pk f19_rk f19_F) :=
  fun_law (C := f19_C k) (phi_ok (ctr_cons (f30_ctr k) ctr_nil)) prog_mixed (A := f19_A) (fn := Tryd.f13) (code := f19_code) (by kernel_rfl) (by kernel_rfl) (by kernel_rfl) f19_fits (fun x y h => (f19_eq k x).trans h)
abbrev f26_pk : List Kd := [.view pairT]
abbrev f26_rk : Kd := .view (.int .i64)
noncomputable def f26_code : Code := Tryd.f25.body.getD .skip
noncomputable def f26_C (k : Nat) : Ctx := { P := Tryd.prog, Φ := phi [], k := k, live := fun _ => [48] }
def f26_A : Nat → Ann := fun id => bif Nat.beq id 3 then ⟨[5, 3, 1], []⟩ else ⟨[], []⟩
def f26_S1 : Int × Int × ByteArray × ByteArray → St
  | (v0, v1, v2, v3) => St.mk (envOf [(nat_lit 5, AV.val (PV.v (Value.int IntKind.i64 v0))), (nat_lit 3, AV.val (PV.v (Value.int IntKind.i64 v1))), (nat_lit 1, AV.bx (nat_lit 8192) (nat_lit 0))]) (tblOf [(nat_lit 8192, RS.live (Res.box [AV.val (PV.v (Value.string v2)), AV.val (PV.v (Value.string v3))]))])
def f26_raw1 (k : Nat) (L1 : Int × Int × ByteArray × ByteArray → Option (Int × Unit)) : Int × Int × ByteArray × ByteArray → Option (Int × Unit)
  | (v0, v1, v2, v3) => bif decide (v0 < (4 : Int)) then bif decide ((0 : Int) ≤ v0 ∧ v0 < Int.ofNat v3.size) then L1 (IntKind.i64.wrap (v0 + (1 : Int)), IntKind.i64.wrap (Int.ofNat (BitVec.ofInt (64 : Nat) (IntKind.i64.wrap (v1 * (256 : Int))) ||| BitVec.ofInt (64 : Nat) (IntKind.i64.wrap (Int.ofNat (v3.data.toList.getD v0.toNat (OfNat.ofNat (0 : Nat))).toNat))).toNat), v2, v3) else none else some (v1, ())
def f26_L1 (k : Nat) : Int × Int × ByteArray × ByteArray → Option (Int × Unit) := iter (fun L1 => f26_raw1 k L1) k
noncomputable def f26_at1 (k : Nat) (n : Nat) (v : Int × Int × ByteArray × ByteArray) : Option (Int × Unit) :=
  loopAt (f26_C k) f26_A [] [1, 1, 0, 1, 0] [] f26_code (leaveK (f26_C k) Tryd.f25.results.toList f26_pk [] f26_rk (decR f26_pk f26_rk)) n (f26_S1 v)
theorem f26_law1 (k : Nat) : ∀ n, f26_at1 k n = iter (fun L1 => f26_raw1 k L1) n :=
  iter_law (fun v => by kernel_rfl) (fun n v => by
    show f26_at1 k (n + 1) v = f26_raw1 k (f26_at1 k n) v
    obtain ⟨v0, v1, v2, v3⟩ := v
    kernel_rfl)
def f26_raw0 (k : Nat) (L1 : Int × Int × ByteArray × ByteArray → Option (Int × Unit)) : (ByteArray × ByteArray × Unit) × Unit → Option (Int × Unit)
  | ((a0, a1, ()), ()) => L1 ((0 : Int), (0 : Int), a0, a1)
def f26_F (k : Nat) : (ByteArray × ByteArray × Unit) × Unit → Option (Int × Unit) := f26_raw0 k (f26_L1 k)
theorem f26_eq (k : Nat) (x : Kd.dens f26_pk) : runF (f26_C k) f26_A Tryd.f25.ntmps f26_code Tryd.f25.results.toList f26_pk f26_rk (encs f26_pk x) (decR f26_pk f26_rk) = f26_F k x := by
  show _ = f26_raw0 k (f26_L1 k) x
  rw [show f26_L1 k = f26_at1 k k from (f26_law1 k k).symm]
  obtain ⟨⟨a0, ⟨a1, ⟨⟩⟩⟩, ⟨⟩⟩ := x
  kernel_rfl
theorem f26_fits : fitsC Tryd.prog Tryd.f25.ntmps f26_code = true := by kernel_rfl
theorem f26_ctr (k : Nat) : Ctr Tryd.prog k 25 (mk f26_pk f26_rk f26_F) :=
  fun_law (C := f26_C k) (phi_ok ctr_nil) prog_mixed (A := f26_A) (fn := Tryd.f25) (code := f26_code) (by kernel_rfl) (by kernel_rfl) (by kernel_rfl) f26_fits (fun x y h => (f26_eq k x).trans h)
abbrev f27_pk : List Kd := [.view (.int .i64)]
abbrev f27_rk : Kd := .view .str
noncomputable def f27_code : Code := Tryd.f20.body.getD .skip
noncomputable def f27_C (k : Nat) : Ctx := { P := Tryd.prog, Φ := phi [], k := k, live := fun _ => [48] }
def f27_A : Nat → Ann := fun _ => ⟨[], []⟩
def f27_raw0 (k : Nat) : Int × Unit → Option (ByteArray × Unit)
  | (a0, ()) => some (ByteArray.mk (List.map (fun n => UInt8.ofNat n.toNat) [IntKind.u8.wrap (a0.fdiv (16777216 : Int)), IntKind.u8.wrap (a0.fdiv (65536 : Int)), IntKind.u8.wrap (a0.fdiv (256 : Int)), IntKind.u8.wrap a0]).toArray, ())
def f27_F (k : Nat) : Int × Unit → Option (ByteArray × Unit) := f27_raw0 k
theorem f27_eq (k : Nat) (x : Kd.dens f27_pk) : runF (f27_C k) f27_A Tryd.f20.ntmps f27_code Tryd.f20.results.toList f27_pk f27_rk (encs f27_pk x) (decR f27_pk f27_rk) = f27_F k x := by
  show _ = f27_raw0 k x
  obtain ⟨a0, ⟨⟩⟩ := x
  kernel_rfl
theorem f27_fits : fitsC Tryd.prog Tryd.f20.ntmps f27_code = true := by kernel_rfl
theorem f27_ctr (k : Nat) : Ctr Tryd.prog k 20 (mk f27_pk f27_rk f27_F) :=
  fun_law (C := f27_C k) (phi_ok ctr_nil) prog_mixed (A := f27_A) (fn := Tryd.f20) (code := f27_code) (by kernel_rfl) (by kernel_rfl) (by kernel_rfl) f27_fits (fun x y h => (f27_eq k x).trans h)
abbrev f14_pk : List Kd := [.view (.int .i64)]
abbrev f14_rk : Kd := .view .str
noncomputable def f14_code : Code := Tryd.f16.body.getD .skip
noncomputable def f14_C (k : Nat) : Ctx := { P := Tryd.prog, Φ := phi [], k := k, live := fun _ => [48] }
def f14_A : Nat → Ann := fun _ => ⟨[], []⟩
def f14_raw0 (k : Nat) : Int × Unit → Option (ByteArray × Unit)
  | (a0, ()) => some (ByteArray.mk (List.map (fun n => UInt8.ofNat n.toNat) [IntKind.u8.wrap (a0.fdiv (16777216 : Int)), IntKind.u8.wrap (a0.fdiv (65536 : Int)), IntKind.u8.wrap (a0.fdiv (256 : Int)), IntKind.u8.wrap a0]).toArray, ())
def f14_F (k : Nat) : Int × Unit → Option (ByteArray × Unit) := f14_raw0 k
theorem f14_eq (k : Nat) (x : Kd.dens f14_pk) : runF (f14_C k) f14_A Tryd.f16.ntmps f14_code Tryd.f16.results.toList f14_pk f14_rk (encs f14_pk x) (decR f14_pk f14_rk) = f14_F k x := by
  show _ = f14_raw0 k x
  obtain ⟨a0, ⟨⟩⟩ := x
  kernel_rfl
theorem f14_fits : fitsC Tryd.prog Tryd.f16.ntmps f14_code = true := by kernel_rfl
theorem f14_ctr (k : Nat) : Ctr Tryd.prog k 16 (mk f14_pk f14_rk f14_F) :=
  fun_law (C := f14_C k) (phi_ok ctr_nil) prog_mixed (A := f14_A) (fn := Tryd.f16) (code := f14_code) (by kernel_rfl) (by kernel_rfl) (by kernel_rfl) f14_fits (fun x y h => (f14_eq k x).trans h)
abbrev f24_pk : List Kd := [.view .str]
abbrev f24_rk : Kd := .view (.int .i64)
noncomputable def f24_code : Code := Tryd.f24.body.getD .skip
noncomputable def f24_C (k : Nat) : Ctx := { P := Tryd.prog, Φ := phi [], k := k, live := fun _ => [48] }
def f24_A : Nat → Ann := fun _ => ⟨[], []⟩
def f24_raw0 (k : Nat) : ByteArray × Unit → Option (Int × Unit)
  | (a0, ()) => bif decide ((0 : Int) ≤ (0 : Int) ∧ (0 : Int) < Int.ofNat a0.size) then bif decide ((0 : Int) ≤ (1 : Int) ∧ (1 : Int) < Int.ofNat a0.size) then bif decide ((0 : Int) ≤ (2 : Int) ∧ (2 : Int) < Int.ofNat a0.size) then bif decide ((0 : Int) ≤ (3 : Int) ∧ (3 : Int) < Int.ofNat a0.size) then some (IntKind.i64.wrap (IntKind.i64.wrap (IntKind.i64.wrap (IntKind.i64.wrap (IntKind.i64.wrap (Int.ofNat (a0.data.toList.getD (0 : Nat) (OfNat.ofNat (0 : Nat))).toNat) * (16777216 : Int)) + IntKind.i64.wrap (IntKind.i64.wrap (Int.ofNat (a0.data.toList.getD (1 : Nat) (OfNat.ofNat (0 : Nat))).toNat) * (65536 : Int))) + IntKind.i64.wrap (IntKind.i64.wrap (Int.ofNat (a0.data.toList.getD (2 : Nat) (OfNat.ofNat (0 : Nat))).toNat) * (256 : Int))) + IntKind.i64.wrap (Int.ofNat (a0.data.toList.getD (3 : Nat) (OfNat.ofNat (0 : Nat))).toNat)), ()) else none else none else none else none
def f24_F (k : Nat) : ByteArray × Unit → Option (Int × Unit) := f24_raw0 k
theorem f24_eq (k : Nat) (x : Kd.dens f24_pk) : runF (f24_C k) f24_A Tryd.f24.ntmps f24_code Tryd.f24.results.toList f24_pk f24_rk (encs f24_pk x) (decR f24_pk f24_rk) = f24_F k x := by
  show _ = f24_raw0 k x
  obtain ⟨a0, ⟨⟩⟩ := x
  kernel_rfl
theorem f24_fits : fitsC Tryd.prog Tryd.f24.ntmps f24_code = true := by kernel_rfl
theorem f24_ctr (k : Nat) : Ctr Tryd.prog k 24 (mk f24_pk f24_rk f24_F) :=
  fun_law (C := f24_C k) (phi_ok ctr_nil) prog_mixed (A := f24_A) (fn := Tryd.f24) (code := f24_code) (by kernel_rfl) (by kernel_rfl) (by kernel_rfl) f24_fits (fun x y h => (f24_eq k x).trans h)
abbrev f25_pk : List Kd := [.view nodeT]
abbrev f25_rk : Kd := .view .bool
noncomputable def f25_code : Code := Tryd.f17.body.getD .skip
noncomputable def f25_C (k : Nat) : Ctx := { P := Tryd.prog, Φ := phi [(25, mk f26_pk f26_rk f26_F)], k := k, live := fun _ => [48] }
def f25_A : Nat → Ann := fun id => bif Nat.beq id 4 then ⟨[35, 36, 34, 1], []⟩ else ⟨[], []⟩
def f25_S1 : Int × Int × List (ByteArray × ByteArray × Unit) × Bool × Int × List (ByteArray × ByteArray × Unit) → St
  | (v0, v1, v2, v3, v4, v5) => St.mk (envOf [(nat_lit 35, AV.val (PV.v (Value.int IntKind.i64 v0))), (nat_lit 36, AV.val (PV.v (Value.int IntKind.i64 v1))), (nat_lit 34, AV.val (PV.sl (Ty.str.pair (Ty.str.pair Ty.unit)) v2)), (nat_lit 1, AV.bx (nat_lit 8192) (nat_lit 0))]) (tblOf [(nat_lit 8192, RS.live (Res.box [AV.val (PV.v (Value.bool v3)), AV.val (PV.v (Value.int IntKind.i64 v4)), AV.val (PV.sl (Ty.str.pair (Ty.str.pair Ty.unit)) v5)]))])
def f25_raw1 (k : Nat) (L1 : Int × Int × List (ByteArray × ByteArray × Unit) × Bool × Int × List (ByteArray × ByteArray × Unit) → Option (Bool × Unit)) : Int × Int × List (ByteArray × ByteArray × Unit) × Bool × Int × List (ByteArray × ByteArray × Unit) → Option (Bool × Unit)
  | (v0, v1, v2, v3, v4, v5) => bif decide (v1 < v0) then bif decide ((0 : Int) ≤ v1 ∧ v1 < Int.ofNat v2.length) then bif ByteArray.toList (v2.getD v1.toNat (ByteArray.mk #[], ByteArray.mk #[], ())).1 == (ByteArray.mk #[]).toList then some (false, ()) else bif decide ((32 : Int) < Int.ofNat (ByteArray.size (v2.getD v1.toNat (ByteArray.mk #[], ByteArray.mk #[], ())).1)) then some (false, ()) else bif decide ((0 : Int) < v1) then bif decide ((0 : Int) ≤ IntKind.i64.wrap (v1 - (1 : Int)) ∧ IntKind.i64.wrap (v1 - (1 : Int)) < Int.ofNat v5.length) then bif Op.bytesLess (ByteArray.toList (v2.getD v1.toNat (ByteArray.mk #[], ByteArray.mk #[], ())).1) (ByteArray.toList (v5.getD (IntKind.i64.wrap (v1 - (1 : Int))).toNat (ByteArray.mk #[], ByteArray.mk #[], ())).1) || ByteArray.toList (v2.getD v1.toNat (ByteArray.mk #[], ByteArray.mk #[], ())).1 == ByteArray.toList (v5.getD (IntKind.i64.wrap (v1 - (1 : Int))).toNat (ByteArray.mk #[], ByteArray.mk #[], ())).1 then some (false, ()) else bif v3 then bif Int.ofNat (ByteArray.size (v2.getD v1.toNat (ByteArray.mk #[], ByteArray.mk #[], ())).2.1) != (4 : Int) then some (false, ()) else (f26_F k (((v2.getD v1.toNat (ByteArray.mk #[], ByteArray.mk #[], ())).1, (v2.getD v1.toNat (ByteArray.mk #[], ByteArray.mk #[], ())).2.1, ()), ())).bind fun y => bif y.1 == (0 : Int) then some (false, ()) else bif !v3 then bif decide ((48 : Int) < Int.ofNat (ByteArray.size (v2.getD v1.toNat (ByteArray.mk #[], ByteArray.mk #[], ())).2.1)) then some (false, ()) else L1 (v0, IntKind.i64.wrap (v1 + (1 : Int)), v2, v3, v4, v5) else L1 (v0, IntKind.i64.wrap (v1 + (1 : Int)), v2, v3, v4, v5) else bif !v3 then bif decide ((48 : Int) < Int.ofNat (ByteArray.size (v2.getD v1.toNat (ByteArray.mk #[], ByteArray.mk #[], ())).2.1)) then some (false, ()) else L1 (v0, IntKind.i64.wrap (v1 + (1 : Int)), v2, v3, v4, v5) else L1 (v0, IntKind.i64.wrap (v1 + (1 : Int)), v2, v3, v4, v5) else none else bif v3 then bif Int.ofNat (ByteArray.size (v2.getD v1.toNat (ByteArray.mk #[], ByteArray.mk #[], ())).2.1) != (4 : Int) then some (false, ()) else (f26_F k (((v2.getD v1.toNat (ByteArray.mk #[], ByteArray.mk #[], ())).1, (v2.getD v1.toNat (ByteArray.mk #[], ByteArray.mk #[], ())).2.1, ()), ())).bind fun y => bif y.1 == (0 : Int) then some (false, ()) else bif !v3 then bif decide ((48 : Int) < Int.ofNat (ByteArray.size (v2.getD v1.toNat (ByteArray.mk #[], ByteArray.mk #[], ())).2.1)) then some (false, ()) else L1 (v0, IntKind.i64.wrap (v1 + (1 : Int)), v2, v3, v4, v5) else L1 (v0, IntKind.i64.wrap (v1 + (1 : Int)), v2, v3, v4, v5) else bif !v3 then bif decide ((48 : Int) < Int.ofNat (ByteArray.size (v2.getD v1.toNat (ByteArray.mk #[], ByteArray.mk #[], ())).2.1)) then some (false, ()) else L1 (v0, IntKind.i64.wrap (v1 + (1 : Int)), v2, v3, v4, v5) else L1 (v0, IntKind.i64.wrap (v1 + (1 : Int)), v2, v3, v4, v5) else none else some (true, ())
def f25_L1 (k : Nat) : Int × Int × List (ByteArray × ByteArray × Unit) × Bool × Int × List (ByteArray × ByteArray × Unit) → Option (Bool × Unit) := iter (fun L1 => f25_raw1 k L1) k
noncomputable def f25_at1 (k : Nat) (n : Nat) (v : Int × Int × List (ByteArray × ByteArray × Unit) × Bool × Int × List (ByteArray × ByteArray × Unit)) : Option (Bool × Unit) :=
  loopAt (f25_C k) f25_A [] [1, 1, 0, 1, 0] [] f25_code (leaveK (f25_C k) Tryd.f17.results.toList f25_pk [] f25_rk (decR f25_pk f25_rk)) n (f25_S1 v)
theorem f25_law1 (k : Nat) : ∀ n, f25_at1 k n = iter (fun L1 => f25_raw1 k L1) n :=
  iter_law (fun v => by kernel_rfl) (fun n v => by
    show f25_at1 k (n + 1) v = f25_raw1 k (f25_at1 k n) v
    obtain ⟨v0, v1, v2, v3, v4, v5⟩ := v
    kernel_rfl)
def f25_raw0 (k : Nat) (L1 : Int × Int × List (ByteArray × ByteArray × Unit) × Bool × Int × List (ByteArray × ByteArray × Unit) → Option (Bool × Unit)) : (Bool × Int × List (ByteArray × ByteArray × Unit) × Unit) × Unit → Option (Bool × Unit)
  | ((a0, a1, a2, ()), ()) => bif decide ((255 : Int) < Int.ofNat a2.length) then some (false, ()) else bif !a0 then bif a1 != (0 : Int) then some (false, ()) else bif a0 then bif decide (a1 < (1 : Int)) then some (false, ()) else bif decide ((4294967296 : Int) ≤ a1) then some (false, ()) else L1 (Int.ofNat a2.length, (0 : Int), a2, a0, a1, a2) else L1 (Int.ofNat a2.length, (0 : Int), a2, a0, a1, a2) else bif a0 then bif decide (a1 < (1 : Int)) then some (false, ()) else bif decide ((4294967296 : Int) ≤ a1) then some (false, ()) else L1 (Int.ofNat a2.length, (0 : Int), a2, a0, a1, a2) else L1 (Int.ofNat a2.length, (0 : Int), a2, a0, a1, a2)
def f25_F (k : Nat) : (Bool × Int × List (ByteArray × ByteArray × Unit) × Unit) × Unit → Option (Bool × Unit) := f25_raw0 k (f25_L1 k)
theorem f25_eq (k : Nat) (x : Kd.dens f25_pk) : runF (f25_C k) f25_A Tryd.f17.ntmps f25_code Tryd.f17.results.toList f25_pk f25_rk (encs f25_pk x) (decR f25_pk f25_rk) = f25_F k x := by
  show _ = f25_raw0 k (f25_L1 k) x
  rw [show f25_L1 k = f25_at1 k k from (f25_law1 k k).symm]
  obtain ⟨⟨a0, ⟨a1, ⟨a2, ⟨⟩⟩⟩⟩, ⟨⟩⟩ := x
  kernel_rfl
theorem f25_fits : fitsC Tryd.prog Tryd.f17.ntmps f25_code = true := by kernel_rfl
theorem f25_ctr (k : Nat) : Ctr Tryd.prog k 17 (mk f25_pk f25_rk f25_F) :=
  fun_law (C := f25_C k) (phi_ok (ctr_cons (f26_ctr k) ctr_nil)) prog_mixed (A := f25_A) (fn := Tryd.f17) (code := f25_code) (by kernel_rfl) (by kernel_rfl) (by kernel_rfl) f25_fits (fun x y h => (f25_eq k x).trans h)
abbrev f22_pk : List Kd := [.view nodeT]
abbrev f22_rk : Kd := .view .bool
noncomputable def f22_code : Code := Tryd.f15.body.getD .skip
noncomputable def f22_C (k : Nat) : Ctx := { P := Tryd.prog, Φ := phi [], k := k, live := fun _ => [48] }
def f22_A : Nat → Ann := fun id => bif Nat.beq id 4 then ⟨[3, 1], []⟩ else ⟨[], []⟩
def f22_S1 : Int × Bool × Int × List (ByteArray × ByteArray × Unit) → St
  | (v0, v1, v2, v3) => St.mk (envOf [(nat_lit 3, AV.val (PV.v (Value.int IntKind.i64 v0))), (nat_lit 1, AV.bx (nat_lit 8192) (nat_lit 0))]) (tblOf [(nat_lit 8192, RS.live (Res.box [AV.val (PV.v (Value.bool v1)), AV.val (PV.v (Value.int IntKind.i64 v2)), AV.val (PV.sl (Ty.str.pair (Ty.str.pair Ty.unit)) v3)]))])
def f22_raw1 (k : Nat) (L1 : Int × Bool × Int × List (ByteArray × ByteArray × Unit) → Option (Bool × Unit)) : Int × Bool × Int × List (ByteArray × ByteArray × Unit) → Option (Bool × Unit)
  | (v0, v1, v2, v3) => bif decide (v0 < Int.ofNat v3.length) then bif decide ((0 : Int) ≤ v0 ∧ v0 < Int.ofNat v3.length) then bif ByteArray.toList (v3.getD v0.toNat (ByteArray.mk #[], ByteArray.mk #[], ())).1 == (ByteArray.mk #[]).toList then some (false, ()) else bif decide ((32 : Int) < Int.ofNat (ByteArray.size (v3.getD v0.toNat (ByteArray.mk #[], ByteArray.mk #[], ())).1)) then some (false, ()) else bif decide ((0 : Int) < v0) then bif decide ((0 : Int) ≤ IntKind.i64.wrap (v0 - (1 : Int)) ∧ IntKind.i64.wrap (v0 - (1 : Int)) < Int.ofNat v3.length) then bif Op.bytesLess (ByteArray.toList (v3.getD v0.toNat (ByteArray.mk #[], ByteArray.mk #[], ())).1) (ByteArray.toList (v3.getD (IntKind.i64.wrap (v0 - (1 : Int))).toNat (ByteArray.mk #[], ByteArray.mk #[], ())).1) || ByteArray.toList (v3.getD v0.toNat (ByteArray.mk #[], ByteArray.mk #[], ())).1 == ByteArray.toList (v3.getD (IntKind.i64.wrap (v0 - (1 : Int))).toNat (ByteArray.mk #[], ByteArray.mk #[], ())).1 then some (false, ()) else bif !v1 then bif decide ((48 : Int) < Int.ofNat (ByteArray.size (v3.getD v0.toNat (ByteArray.mk #[], ByteArray.mk #[], ())).2.1)) then some (false, ()) else bif v1 then bif Int.ofNat (ByteArray.size (v3.getD v0.toNat (ByteArray.mk #[], ByteArray.mk #[], ())).2.1) != (4 : Int) then some (false, ()) else bif ByteArray.toList (v3.getD v0.toNat (ByteArray.mk #[], ByteArray.mk #[], ())).2.1 == (ByteArray.mk #[OfNat.ofNat (0 : Nat), OfNat.ofNat (0 : Nat), OfNat.ofNat (0 : Nat), OfNat.ofNat (0 : Nat)]).toList then some (false, ()) else L1 (IntKind.i64.wrap (v0 + (1 : Int)), v1, v2, v3) else L1 (IntKind.i64.wrap (v0 + (1 : Int)), v1, v2, v3) else bif v1 then bif Int.ofNat (ByteArray.size (v3.getD v0.toNat (ByteArray.mk #[], ByteArray.mk #[], ())).2.1) != (4 : Int) then some (false, ()) else bif ByteArray.toList (v3.getD v0.toNat (ByteArray.mk #[], ByteArray.mk #[], ())).2.1 == (ByteArray.mk #[OfNat.ofNat (0 : Nat), OfNat.ofNat (0 : Nat), OfNat.ofNat (0 : Nat), OfNat.ofNat (0 : Nat)]).toList then some (false, ()) else L1 (IntKind.i64.wrap (v0 + (1 : Int)), v1, v2, v3) else L1 (IntKind.i64.wrap (v0 + (1 : Int)), v1, v2, v3) else none else bif !v1 then bif decide ((48 : Int) < Int.ofNat (ByteArray.size (v3.getD v0.toNat (ByteArray.mk #[], ByteArray.mk #[], ())).2.1)) then some (false, ()) else bif v1 then bif Int.ofNat (ByteArray.size (v3.getD v0.toNat (ByteArray.mk #[], ByteArray.mk #[], ())).2.1) != (4 : Int) then some (false, ()) else bif ByteArray.toList (v3.getD v0.toNat (ByteArray.mk #[], ByteArray.mk #[], ())).2.1 == (ByteArray.mk #[OfNat.ofNat (0 : Nat), OfNat.ofNat (0 : Nat), OfNat.ofNat (0 : Nat), OfNat.ofNat (0 : Nat)]).toList then some (false, ()) else L1 (IntKind.i64.wrap (v0 + (1 : Int)), v1, v2, v3) else L1 (IntKind.i64.wrap (v0 + (1 : Int)), v1, v2, v3) else bif v1 then bif Int.ofNat (ByteArray.size (v3.getD v0.toNat (ByteArray.mk #[], ByteArray.mk #[], ())).2.1) != (4 : Int) then some (false, ()) else bif ByteArray.toList (v3.getD v0.toNat (ByteArray.mk #[], ByteArray.mk #[], ())).2.1 == (ByteArray.mk #[OfNat.ofNat (0 : Nat), OfNat.ofNat (0 : Nat), OfNat.ofNat (0 : Nat), OfNat.ofNat (0 : Nat)]).toList then some (false, ()) else L1 (IntKind.i64.wrap (v0 + (1 : Int)), v1, v2, v3) else L1 (IntKind.i64.wrap (v0 + (1 : Int)), v1, v2, v3) else none else some (true, ())
def f22_L1 (k : Nat) : Int × Bool × Int × List (ByteArray × ByteArray × Unit) → Option (Bool × Unit) := iter (fun L1 => f22_raw1 k L1) k
noncomputable def f22_at1 (k : Nat) (n : Nat) (v : Int × Bool × Int × List (ByteArray × ByteArray × Unit)) : Option (Bool × Unit) :=
  loopAt (f22_C k) f22_A [] [1, 1, 0, 1, 0] [] f22_code (leaveK (f22_C k) Tryd.f15.results.toList f22_pk [] f22_rk (decR f22_pk f22_rk)) n (f22_S1 v)
theorem f22_law1 (k : Nat) : ∀ n, f22_at1 k n = iter (fun L1 => f22_raw1 k L1) n :=
  iter_law (fun v => by kernel_rfl) (fun n v => by
    show f22_at1 k (n + 1) v = f22_raw1 k (f22_at1 k n) v
    obtain ⟨v0, v1, v2, v3⟩ := v
    kernel_rfl)
def f22_raw0 (k : Nat) (L1 : Int × Bool × Int × List (ByteArray × ByteArray × Unit) → Option (Bool × Unit)) : (Bool × Int × List (ByteArray × ByteArray × Unit) × Unit) × Unit → Option (Bool × Unit)
  | ((a0, a1, a2, ()), ()) => bif decide ((255 : Int) < Int.ofNat a2.length) then some (false, ()) else bif !a0 then bif a1 != (0 : Int) then some (false, ()) else bif a0 then bif decide (a1 < (1 : Int)) then some (false, ()) else bif decide ((4294967296 : Int) ≤ a1) then some (false, ()) else L1 ((0 : Int), a0, a1, a2) else L1 ((0 : Int), a0, a1, a2) else bif a0 then bif decide (a1 < (1 : Int)) then some (false, ()) else bif decide ((4294967296 : Int) ≤ a1) then some (false, ()) else L1 ((0 : Int), a0, a1, a2) else L1 ((0 : Int), a0, a1, a2)
def f22_F (k : Nat) : (Bool × Int × List (ByteArray × ByteArray × Unit) × Unit) × Unit → Option (Bool × Unit) := f22_raw0 k (f22_L1 k)
theorem f22_eq (k : Nat) (x : Kd.dens f22_pk) : runF (f22_C k) f22_A Tryd.f15.ntmps f22_code Tryd.f15.results.toList f22_pk f22_rk (encs f22_pk x) (decR f22_pk f22_rk) = f22_F k x := by
  show _ = f22_raw0 k (f22_L1 k) x
  rw [show f22_L1 k = f22_at1 k k from (f22_law1 k k).symm]
  obtain ⟨⟨a0, ⟨a1, ⟨a2, ⟨⟩⟩⟩⟩, ⟨⟩⟩ := x
  kernel_rfl
theorem f22_fits : fitsC Tryd.prog Tryd.f15.ntmps f22_code = true := by kernel_rfl
theorem f22_ctr (k : Nat) : Ctr Tryd.prog k 15 (mk f22_pk f22_rk f22_F) :=
  fun_law (C := f22_C k) (phi_ok ctr_nil) prog_mixed (A := f22_A) (fn := Tryd.f15) (code := f22_code) (by kernel_rfl) (by kernel_rfl) (by kernel_rfl) f22_fits (fun x y h => (f22_eq k x).trans h)
abbrev f38_pk : List Kd := [.view pairT]
abbrev f38_rk : Kd := .view (.int .i64)
noncomputable def f38_code : Code := Tryd.f38.body.getD .skip
noncomputable def f38_C (k : Nat) : Ctx := { P := Tryd.prog, Φ := phi [], k := k, live := fun _ => [48] }
def f38_A : Nat → Ann := fun _ => ⟨[], []⟩
def f38_raw0 (k : Nat) : (ByteArray × ByteArray × Unit) × Unit → Option (Int × Unit)
  | ((a0, a1, ()), ()) => some (IntKind.i64.wrap (IntKind.i64.wrap ((2 : Int) + Int.ofNat a0.size) + Int.ofNat a1.size), ())
def f38_F (k : Nat) : (ByteArray × ByteArray × Unit) × Unit → Option (Int × Unit) := f38_raw0 k
theorem f38_eq (k : Nat) (x : Kd.dens f38_pk) : runF (f38_C k) f38_A Tryd.f38.ntmps f38_code Tryd.f38.results.toList f38_pk f38_rk (encs f38_pk x) (decR f38_pk f38_rk) = f38_F k x := by
  show _ = f38_raw0 k x
  obtain ⟨⟨a0, ⟨a1, ⟨⟩⟩⟩, ⟨⟩⟩ := x
  kernel_rfl
theorem f38_fits : fitsC Tryd.prog Tryd.f38.ntmps f38_code = true := by kernel_rfl
theorem f38_ctr (k : Nat) : Ctr Tryd.prog k 38 (mk f38_pk f38_rk f38_F) :=
  fun_law (C := f38_C k) (phi_ok ctr_nil) prog_mixed (A := f38_A) (fn := Tryd.f38) (code := f38_code) (by kernel_rfl) (by kernel_rfl) (by kernel_rfl) f38_fits (fun x y h => (f38_eq k x).trans h)
abbrev f32_pk : List Kd := [.view (.sl pairT)]
abbrev f32_rk : Kd := .view (.int .i64)
noncomputable def f32_code : Code := Tryd.f28.body.getD .skip
noncomputable def f32_C (k : Nat) : Ctx := { P := Tryd.prog, Φ := phi [(38, mk f38_pk f38_rk f38_F)], k := k, live := fun _ => [48] }
def f32_A : Nat → Ann := fun id => bif Nat.beq id 3 then ⟨[4, 0, 3], []⟩ else ⟨[], []⟩
def f32_S1 : Int × List (ByteArray × ByteArray × Unit) × Int → St
  | (v0, v1, v2) => St.mk (envOf [(nat_lit 4, AV.val (PV.v (Value.int IntKind.i64 v0))), (nat_lit 0, AV.val (PV.sl (Ty.str.pair (Ty.str.pair Ty.unit)) v1)), (nat_lit 3, AV.val (PV.v (Value.int IntKind.i64 v2)))]) (tblOf [])
def f32_raw1 (k : Nat) (L1 : Int × List (ByteArray × ByteArray × Unit) × Int → Option (Int × Unit)) : Int × List (ByteArray × ByteArray × Unit) × Int → Option (Int × Unit)
  | (v0, v1, v2) => bif decide (v0 < Int.ofNat v1.length) then bif decide ((0 : Int) ≤ v0 ∧ v0 < Int.ofNat v1.length) then (f38_F k (((v1.getD v0.toNat (ByteArray.mk #[], ByteArray.mk #[], ())).1, (v1.getD v0.toNat (ByteArray.mk #[], ByteArray.mk #[], ())).2.1, ()), ())).bind fun y => L1 (IntKind.i64.wrap (v0 + (1 : Int)), v1, IntKind.i64.wrap (v2 + y.1)) else none else some (v2, ())
def f32_L1 (k : Nat) : Int × List (ByteArray × ByteArray × Unit) × Int → Option (Int × Unit) := iter (fun L1 => f32_raw1 k L1) k
noncomputable def f32_at1 (k : Nat) (n : Nat) (v : Int × List (ByteArray × ByteArray × Unit) × Int) : Option (Int × Unit) :=
  loopAt (f32_C k) f32_A [] [1, 1, 0, 1, 0] [] f32_code (leaveK (f32_C k) Tryd.f28.results.toList f32_pk [] f32_rk (decR f32_pk f32_rk)) n (f32_S1 v)
theorem f32_law1 (k : Nat) : ∀ n, f32_at1 k n = iter (fun L1 => f32_raw1 k L1) n :=
  iter_law (fun v => by kernel_rfl) (fun n v => by
    show f32_at1 k (n + 1) v = f32_raw1 k (f32_at1 k n) v
    obtain ⟨v0, v1, v2⟩ := v
    kernel_rfl)
def f32_raw0 (k : Nat) (L1 : Int × List (ByteArray × ByteArray × Unit) × Int → Option (Int × Unit)) : List (ByteArray × ByteArray × Unit) × Unit → Option (Int × Unit)
  | (a0, ()) => L1 ((0 : Int), a0, (0 : Int))
def f32_F (k : Nat) : List (ByteArray × ByteArray × Unit) × Unit → Option (Int × Unit) := f32_raw0 k (f32_L1 k)
theorem f32_eq (k : Nat) (x : Kd.dens f32_pk) : runF (f32_C k) f32_A Tryd.f28.ntmps f32_code Tryd.f28.results.toList f32_pk f32_rk (encs f32_pk x) (decR f32_pk f32_rk) = f32_F k x := by
  show _ = f32_raw0 k (f32_L1 k) x
  rw [show f32_L1 k = f32_at1 k k from (f32_law1 k k).symm]
  obtain ⟨a0, ⟨⟩⟩ := x
  kernel_rfl
theorem f32_fits : fitsC Tryd.prog Tryd.f28.ntmps f32_code = true := by kernel_rfl
theorem f32_ctr (k : Nat) : Ctr Tryd.prog k 28 (mk f32_pk f32_rk f32_F) :=
  fun_law (C := f32_C k) (phi_ok (ctr_cons (f38_ctr k) ctr_nil)) prog_mixed (A := f32_A) (fn := Tryd.f28) (code := f32_code) (by kernel_rfl) (by kernel_rfl) (by kernel_rfl) f32_fits (fun x y h => (f32_eq k x).trans h)
abbrev f12_pk : List Kd := [.view nodeT]
abbrev f12_rk : Kd := .view nodeT
noncomputable def f12_code : Code := Tryd.f8.body.getD .skip
noncomputable def f12_C (k : Nat) : Ctx := { P := Tryd.prog, Φ := phi [], k := k, live := fun _ => [48] }
def f12_A : Nat → Ann := fun _ => ⟨[], []⟩
def f12_raw0 (k : Nat) : (Bool × Int × List (ByteArray × ByteArray × Unit) × Unit) × Unit → Option ((Bool × Int × List (ByteArray × ByteArray × Unit) × Unit) × Unit)
  | ((a0, a1, a2, ()), ()) => bif decide ((0 : Int) ≤ (0 : Int) ∧ (0 : Int) ≤ IntKind.i64.wrap (Int.ofNat a2.length + (2 : Int)) ∧ IntKind.i64.wrap (Int.ofNat a2.length + (2 : Int)) < (4294967296 : Int)) then bif decide ((0 : Nat) + a2.length < (2147483648 : Nat)) then some ((a0, a1, List.replicate (0 : Nat) (ByteArray.mk #[], ByteArray.mk #[], ()) ++ a2, ()), ()) else none else none
def f12_F (k : Nat) : (Bool × Int × List (ByteArray × ByteArray × Unit) × Unit) × Unit → Option ((Bool × Int × List (ByteArray × ByteArray × Unit) × Unit) × Unit) := f12_raw0 k
theorem f12_eq (k : Nat) (x : Kd.dens f12_pk) : runF (f12_C k) f12_A Tryd.f8.ntmps f12_code Tryd.f8.results.toList f12_pk f12_rk (encs f12_pk x) (decR f12_pk f12_rk) = f12_F k x := by
  show _ = f12_raw0 k x
  obtain ⟨⟨a0, ⟨a1, ⟨a2, ⟨⟩⟩⟩⟩, ⟨⟩⟩ := x
  kernel_rfl
theorem f12_fits : fitsC Tryd.prog Tryd.f8.ntmps f12_code = true := by kernel_rfl
theorem f12_ctr (k : Nat) : Ctr Tryd.prog k 8 (mk f12_pk f12_rk f12_F) :=
  fun_law (C := f12_C k) (phi_ok ctr_nil) prog_mixed (A := f12_A) (fn := Tryd.f8) (code := f12_code) (by kernel_rfl) (by kernel_rfl) (by kernel_rfl) f12_fits (fun x y h => (f12_eq k x).trans h)
abbrev f18_pk : List Kd := [.view nodeT]
abbrev f18_rk : Kd := .view nodeT
noncomputable def f18_code : Code := Tryd.f12.body.getD .skip
noncomputable def f18_C (k : Nat) : Ctx := { P := Tryd.prog, Φ := phi [], k := k, live := fun _ => [48] }
def f18_A : Nat → Ann := fun _ => ⟨[], []⟩
def f18_raw0 (k : Nat) : (Bool × Int × List (ByteArray × ByteArray × Unit) × Unit) × Unit → Option ((Bool × Int × List (ByteArray × ByteArray × Unit) × Unit) × Unit)
  | ((a0, a1, a2, ()), ()) => some ((a0, a1, a2, ()), ())
def f18_F (k : Nat) : (Bool × Int × List (ByteArray × ByteArray × Unit) × Unit) × Unit → Option ((Bool × Int × List (ByteArray × ByteArray × Unit) × Unit) × Unit) := f18_raw0 k
theorem f18_eq (k : Nat) (x : Kd.dens f18_pk) : runF (f18_C k) f18_A Tryd.f12.ntmps f18_code Tryd.f12.results.toList f18_pk f18_rk (encs f18_pk x) (decR f18_pk f18_rk) = f18_F k x := by
  show _ = f18_raw0 k x
  obtain ⟨⟨a0, ⟨a1, ⟨a2, ⟨⟩⟩⟩⟩, ⟨⟩⟩ := x
  kernel_rfl
theorem f18_fits : fitsC Tryd.prog Tryd.f12.ntmps f18_code = true := by kernel_rfl
theorem f18_ctr (k : Nat) : Ctr Tryd.prog k 12 (mk f18_pk f18_rk f18_F) :=
  fun_law (C := f18_C k) (phi_ok ctr_nil) prog_mixed (A := f18_A) (fn := Tryd.f12) (code := f18_code) (by kernel_rfl) (by kernel_rfl) (by kernel_rfl) f18_fits (fun x y h => (f18_eq k x).trans h)
abbrev f17_pk : List Kd := [.view nodeT, .view nodeT]
abbrev f17_rk : Kd := .view .bool
noncomputable def f17_code : Code := Tryd.f11.body.getD .skip
noncomputable def f17_C (k : Nat) : Ctx := { P := Tryd.prog, Φ := phi [], k := k, live := fun _ => [48] }
def f17_A : Nat → Ann := fun id => bif Nat.beq id 4 then ⟨[5, 2, 3], []⟩ else ⟨[], []⟩
def f17_S1 : Int × Bool × Int × List (ByteArray × ByteArray × Unit) × Bool × Int × List (ByteArray × ByteArray × Unit) → St
  | (v0, v1, v2, v3, v4, v5, v6) => St.mk (envOf [(nat_lit 5, AV.val (PV.v (Value.int IntKind.i64 v0))), (nat_lit 2, AV.bx (nat_lit 8192) (nat_lit 0)), (nat_lit 3, AV.bx (nat_lit 8193) (nat_lit 0))]) (tblOf [(nat_lit 8192, RS.live (Res.box [AV.val (PV.v (Value.bool v1)), AV.val (PV.v (Value.int IntKind.i64 v2)), AV.val (PV.sl (Ty.str.pair (Ty.str.pair Ty.unit)) v3)])), (nat_lit 8193, RS.live (Res.box [AV.val (PV.v (Value.bool v4)), AV.val (PV.v (Value.int IntKind.i64 v5)), AV.val (PV.sl (Ty.str.pair (Ty.str.pair Ty.unit)) v6)]))])
def f17_raw1 (k : Nat) (L1 : Int × Bool × Int × List (ByteArray × ByteArray × Unit) × Bool × Int × List (ByteArray × ByteArray × Unit) → Option (Bool × Unit)) : Int × Bool × Int × List (ByteArray × ByteArray × Unit) × Bool × Int × List (ByteArray × ByteArray × Unit) → Option (Bool × Unit)
  | (v0, v1, v2, v3, v4, v5, v6) => bif decide (v0 < Int.ofNat v3.length) then bif decide ((0 : Int) ≤ v0 ∧ v0 < Int.ofNat v3.length) then bif decide ((0 : Int) ≤ v0 ∧ v0 < Int.ofNat v6.length) then bif !(decide ((v3.getD v0.toNat (ByteArray.mk #[], ByteArray.mk #[], ())).1 = (v6.getD v0.toNat (ByteArray.mk #[], ByteArray.mk #[], ())).1) && (decide ((v3.getD v0.toNat (ByteArray.mk #[], ByteArray.mk #[], ())).2.1 = (v6.getD v0.toNat (ByteArray.mk #[], ByteArray.mk #[], ())).2.1) && true)) then some (false, ()) else L1 (IntKind.i64.wrap (v0 + (1 : Int)), v1, v2, v3, v4, v5, v6) else none else none else some (true, ())
def f17_L1 (k : Nat) : Int × Bool × Int × List (ByteArray × ByteArray × Unit) × Bool × Int × List (ByteArray × ByteArray × Unit) → Option (Bool × Unit) := iter (fun L1 => f17_raw1 k L1) k
noncomputable def f17_at1 (k : Nat) (n : Nat) (v : Int × Bool × Int × List (ByteArray × ByteArray × Unit) × Bool × Int × List (ByteArray × ByteArray × Unit)) : Option (Bool × Unit) :=
  loopAt (f17_C k) f17_A [] [1, 1, 0, 1, 0] [] f17_code (leaveK (f17_C k) Tryd.f11.results.toList f17_pk [] f17_rk (decR f17_pk f17_rk)) n (f17_S1 v)
theorem f17_law1 (k : Nat) : ∀ n, f17_at1 k n = iter (fun L1 => f17_raw1 k L1) n :=
  iter_law (fun v => by kernel_rfl) (fun n v => by
    show f17_at1 k (n + 1) v = f17_raw1 k (f17_at1 k n) v
    obtain ⟨v0, v1, v2, v3, v4, v5, v6⟩ := v
    kernel_rfl)
def f17_raw0 (k : Nat) (L1 : Int × Bool × Int × List (ByteArray × ByteArray × Unit) × Bool × Int × List (ByteArray × ByteArray × Unit) → Option (Bool × Unit)) : (Bool × Int × List (ByteArray × ByteArray × Unit) × Unit) × (Bool × Int × List (ByteArray × ByteArray × Unit) × Unit) × Unit → Option (Bool × Unit)
  | ((a0, a1, a2, ()), (a3, a4, a5, ()), ()) => bif !a0 == a3 then some (false, ()) else bif a1 != a4 then some (false, ()) else bif Int.ofNat a2.length != Int.ofNat a5.length then some (false, ()) else L1 ((0 : Int), a0, a1, a2, a3, a4, a5)
def f17_F (k : Nat) : (Bool × Int × List (ByteArray × ByteArray × Unit) × Unit) × (Bool × Int × List (ByteArray × ByteArray × Unit) × Unit) × Unit → Option (Bool × Unit) := f17_raw0 k (f17_L1 k)
theorem f17_eq (k : Nat) (x : Kd.dens f17_pk) : runF (f17_C k) f17_A Tryd.f11.ntmps f17_code Tryd.f11.results.toList f17_pk f17_rk (encs f17_pk x) (decR f17_pk f17_rk) = f17_F k x := by
  show _ = f17_raw0 k (f17_L1 k) x
  rw [show f17_L1 k = f17_at1 k k from (f17_law1 k k).symm]
  obtain ⟨⟨a0, ⟨a1, ⟨a2, ⟨⟩⟩⟩⟩, ⟨⟨a3, ⟨a4, ⟨a5, ⟨⟩⟩⟩⟩, ⟨⟩⟩⟩ := x
  kernel_rfl
theorem f17_fits : fitsC Tryd.prog Tryd.f11.ntmps f17_code = true := by kernel_rfl
theorem f17_ctr (k : Nat) : Ctr Tryd.prog k 11 (mk f17_pk f17_rk f17_F) :=
  fun_law (C := f17_C k) (phi_ok ctr_nil) prog_mixed (A := f17_A) (fn := Tryd.f11) (code := f17_code) (by kernel_rfl) (by kernel_rfl) (by kernel_rfl) f17_fits (fun x y h => (f17_eq k x).trans h)
abbrev f39_pk : List Kd := [.bld 48]
abbrev f39_rk : Kd := .tup []
def f39_F (k : Nat) : List Int × Unit → Option (Unit × List Int × Unit) := fun x => some ((), x.1, ())
def bldRho : Go.Shelf.Ren := ⟨fun n => match n with | 240 => 29 | 276 => 39 | 169 => 23 | _ => 0, fun n => match n with | 0 => 0 | 3 => 3 | 4 => 4 | 5 => 5 | 9 => 9 | 20 => 20 | 70 => 46 | 72 => 48 | 37 => 44 | 127 => 62 | 164 => 70 | _ => 0, fun n => n⟩
theorem bldLays : Go.Proofs.Lays.n240 Tryd.prog bldRho := by
  constructor <;> first | kernel_rfl | (intro w; rfl)
theorem bldX : Go.Proofs.Builder.X72 Tryd.prog bldRho := ⟨by kernel_rfl, by kernel_rfl⟩
theorem f39_ctr (k : Nat) : Ctr Tryd.prog k 29 (mk f39_pk f39_rk f39_F) := copyCheck_ctr bldLays bldX (fn := Tryd.f29) rfl (by kernel_rfl) (by kernel_rfl) (by kernel_rfl)
abbrev f37_pk : List Kd := [.use 48]
abbrev f37_rk : Kd := .view .str
def f37_F (k : Nat) : List Int × Unit → Option (ByteArray × Unit) := fun x => strF x
theorem bldLays2 : Go.Proofs.Lays.n169 Tryd.prog bldRho := by
  constructor <;> first | kernel_rfl | (intro w; rfl)
theorem bldX2 : Go.Proofs.Builder.Extra Tryd.prog bldRho := { bldX with t5 := by kernel_rfl, a5 := fun w => by rfl, z5 := fun w => by rfl, v5 := fun w => by rfl, infoByte := by kernel_rfl, cellsByte := by kernel_rfl, sizeByte := by kernel_rfl, neB5 := by decide }
theorem f37_ctr (k : Nat) : Ctr Tryd.prog k 23 (mk f37_pk f37_rk f37_F) := string_ctr bldLays2 bldX2 rfl (fn := Tryd.f23) rfl (by kernel_rfl) (by kernel_rfl) (by kernel_rfl)
abbrev f36_pk : List Kd := [.bld 48]
abbrev f36_rk : Kd := .view (.int .i64)
noncomputable def f36_code : Code := Tryd.f22.body.getD .skip
noncomputable def f36_C (k : Nat) : Ctx := { P := Tryd.prog, Φ := phi [], k := k, live := fun _ => [48] }
def f36_A : Nat → Ann := fun _ => ⟨[], []⟩
def f36_raw0 (k : Nat) : List Int × Unit → Option (Int × List Int × Unit)
  | (a0, ()) => some (Int.ofNat a0.length, a0, ())
def f36_F (k : Nat) : List Int × Unit → Option (Int × List Int × Unit) := f36_raw0 k
theorem f36_eq (k : Nat) (x : Kd.dens f36_pk) : runF (f36_C k) f36_A Tryd.f22.ntmps f36_code Tryd.f22.results.toList f36_pk f36_rk (encs f36_pk x) (decR f36_pk f36_rk) = f36_F k x := by
  show _ = f36_raw0 k x
  obtain ⟨a0, ⟨⟩⟩ := x
  kernel_rfl
theorem f36_fits : fitsC Tryd.prog Tryd.f22.ntmps f36_code = true := by kernel_rfl
theorem f36_ctr (k : Nat) : Ctr Tryd.prog k 22 (mk f36_pk f36_rk f36_F) :=
  fun_law (C := f36_C k) (phi_ok ctr_nil) prog_mixed (A := f36_A) (fn := Tryd.f22) (code := f36_code) (by kernel_rfl) (by kernel_rfl) (by kernel_rfl) f36_fits (fun x y h => (f36_eq k x).trans h)
abbrev f33_pk : List Kd := [.bld 48, .view (.int .u8)]
abbrev f33_rk : Kd := .view .raw
noncomputable def f33_code : Code := Tryd.f18.body.getD .skip
noncomputable def f33_C (k : Nat) : Ctx := { P := Tryd.prog, Φ := phi [(29, mk f39_pk f39_rk f39_F)], k := k, live := fun _ => [48] }
def f33_A : Nat → Ann := fun _ => ⟨[], []⟩
def f33_raw0 (k : Nat) : List Int × Int × Unit → Option (Value × List Int × Unit)
  | (a0, a1, ()) => (f39_F k (a0, ())).bind fun y => bif decide (List.length y.2.1 + [a1].length < (2147483648 : Nat)) then some (Value.nilIface, y.2.1 ++ [a1], ()) else none
def f33_F (k : Nat) : List Int × Int × Unit → Option (Value × List Int × Unit) := f33_raw0 k
theorem f33_eq (k : Nat) (x : Kd.dens f33_pk) : runF (f33_C k) f33_A Tryd.f18.ntmps f33_code Tryd.f18.results.toList f33_pk f33_rk (encs f33_pk x) (decR f33_pk f33_rk) = f33_F k x := by
  show _ = f33_raw0 k x
  obtain ⟨a0, ⟨a1, ⟨⟩⟩⟩ := x
  kernel_rfl
theorem f33_fits : fitsC Tryd.prog Tryd.f18.ntmps f33_code = true := by kernel_rfl
theorem f33_ctr (k : Nat) : Ctr Tryd.prog k 18 (mk f33_pk f33_rk f33_F) :=
  fun_law (C := f33_C k) (phi_ok (ctr_cons (f39_ctr k) ctr_nil)) prog_mixed (A := f33_A) (fn := Tryd.f18) (code := f33_code) (by kernel_rfl) (by kernel_rfl) (by kernel_rfl) f33_fits (fun x y h => (f33_eq k x).trans h)
abbrev f34_pk : List Kd := [.bld 48, .view .str]
abbrev f34_rk : Kd := .tup [.view (.int .i64), .view .raw]
noncomputable def f34_code : Code := Tryd.f19.body.getD .skip
noncomputable def f34_C (k : Nat) : Ctx := { P := Tryd.prog, Φ := phi [(29, mk f39_pk f39_rk f39_F)], k := k, live := fun _ => [48] }
def f34_A : Nat → Ann := fun _ => ⟨[], []⟩
def f34_raw0 (k : Nat) : List Int × ByteArray × Unit → Option ((Int × Value × Unit) × List Int × Unit)
  | (a0, a1, ()) => (f39_F k (a0, ())).bind fun y => bif decide (List.length y.2.1 + (List.map (fun b => Int.ofNat b.toNat) a1.data.toList).length < (2147483648 : Nat)) then some ((Int.ofNat a1.size, Value.nilIface, ()), y.2.1 ++ List.map (fun b => Int.ofNat b.toNat) a1.data.toList, ()) else none
def f34_F (k : Nat) : List Int × ByteArray × Unit → Option ((Int × Value × Unit) × List Int × Unit) := f34_raw0 k
theorem f34_eq (k : Nat) (x : Kd.dens f34_pk) : runF (f34_C k) f34_A Tryd.f19.ntmps f34_code Tryd.f19.results.toList f34_pk f34_rk (encs f34_pk x) (decR f34_pk f34_rk) = f34_F k x := by
  show _ = f34_raw0 k x
  obtain ⟨a0, ⟨a1, ⟨⟩⟩⟩ := x
  kernel_rfl
theorem f34_fits : fitsC Tryd.prog Tryd.f19.ntmps f34_code = true := by kernel_rfl
theorem f34_ctr (k : Nat) : Ctr Tryd.prog k 19 (mk f34_pk f34_rk f34_F) :=
  fun_law (C := f34_C k) (phi_ok (ctr_cons (f39_ctr k) ctr_nil)) prog_mixed (A := f34_A) (fn := Tryd.f19) (code := f34_code) (by kernel_rfl) (by kernel_rfl) (by kernel_rfl) f34_fits (fun x y h => (f34_eq k x).trans h)
abbrev f35_pk : List Kd := [.bld 48, .view (.sl (.int .u8))]
abbrev f35_rk : Kd := .tup [.view (.int .i64), .view .raw]
noncomputable def f35_code : Code := Tryd.f21.body.getD .skip
noncomputable def f35_C (k : Nat) : Ctx := { P := Tryd.prog, Φ := phi [(29, mk f39_pk f39_rk f39_F)], k := k, live := fun _ => [48] }
def f35_A : Nat → Ann := fun _ => ⟨[], []⟩
def f35_raw0 (k : Nat) : List Int × List Int × Unit → Option ((Int × Value × Unit) × List Int × Unit)
  | (a0, a1, ()) => (f39_F k (a0, ())).bind fun y => bif decide (List.length y.2.1 + a1.length < (2147483648 : Nat)) then some ((Int.ofNat a1.length, Value.nilIface, ()), y.2.1 ++ a1, ()) else none
def f35_F (k : Nat) : List Int × List Int × Unit → Option ((Int × Value × Unit) × List Int × Unit) := f35_raw0 k
theorem f35_eq (k : Nat) (x : Kd.dens f35_pk) : runF (f35_C k) f35_A Tryd.f21.ntmps f35_code Tryd.f21.results.toList f35_pk f35_rk (encs f35_pk x) (decR f35_pk f35_rk) = f35_F k x := by
  show _ = f35_raw0 k x
  obtain ⟨a0, ⟨a1, ⟨⟩⟩⟩ := x
  kernel_rfl
theorem f35_fits : fitsC Tryd.prog Tryd.f21.ntmps f35_code = true := by kernel_rfl
theorem f35_ctr (k : Nat) : Ctr Tryd.prog k 21 (mk f35_pk f35_rk f35_F) :=
  fun_law (C := f35_C k) (phi_ok (ctr_cons (f39_ctr k) ctr_nil)) prog_mixed (A := f35_A) (fn := Tryd.f21) (code := f35_code) (by kernel_rfl) (by kernel_rfl) (by kernel_rfl) f35_fits (fun x y h => (f35_eq k x).trans h)
abbrev f23_pk : List Kd := [.view nodeT]
abbrev f23_rk : Kd := .tup [.view .str, .view (.int .i64)]
noncomputable def f23_code : Code := Tryd.f7.body.getD .skip
noncomputable def f23_C (k : Nat) : Ctx := { P := Tryd.prog, Φ := phi [(17, mk f25_pk f25_rk f25_F), (13, mk f19_pk f19_rk f19_F), (20, mk f27_pk f27_rk f27_F), (18, mk f33_pk f33_rk f33_F), (19, mk f34_pk f34_rk f34_F), (21, mk f35_pk f35_rk f35_F), (22, mk f36_pk f36_rk f36_F), (23, mk f37_pk f37_rk f37_F)], k := k, live := fun _ => [48] }
def f23_A : Nat → Ann := fun id => bif Nat.beq id 14 then ⟨[33, 34, 32, 4], []⟩ else ⟨[], []⟩
def f23_S1 : Int × Int × List (ByteArray × ByteArray × Unit) × List Int → St
  | (v0, v1, v2, v3) => St.mk (envOf [(nat_lit 33, AV.val (PV.v (Value.int IntKind.i64 v0))), (nat_lit 34, AV.val (PV.v (Value.int IntKind.i64 v1))), (nat_lit 32, AV.val (PV.sl (Ty.str.pair (Ty.str.pair Ty.unit)) v2)), (nat_lit 4, AV.bx (nat_lit 8192) (nat_lit 0))]) (tblOf [(nat_lit 8192, RS.live (Res.box [AV.me (nat_lit 8192) (nat_lit 48), AV.own (nat_lit 8193)])), (nat_lit 8193, RS.live (Res.arr (Ty.int IntKind.u8) v3 false))])
def f23_raw1 (k : Nat) (L1 : Int × Int × List (ByteArray × ByteArray × Unit) × List Int → Option ((ByteArray × Int × Unit) × Unit)) : Int × Int × List (ByteArray × ByteArray × Unit) × List Int → Option ((ByteArray × Int × Unit) × Unit)
  | (v0, v1, v2, v3) => bif decide (v1 < v0) then bif decide ((0 : Int) ≤ v1 ∧ v1 < Int.ofNat v2.length) then (f33_F k (v3, IntKind.u8.wrap (Int.ofNat (ByteArray.size (v2.getD v1.toNat (ByteArray.mk #[], ByteArray.mk #[], ())).1)), ())).bind fun y => (f33_F k (y.2.1, IntKind.u8.wrap (Int.ofNat (ByteArray.size (v2.getD v1.toNat (ByteArray.mk #[], ByteArray.mk #[], ())).2.1)), ())).bind fun y => (f34_F k (y.2.1, (v2.getD v1.toNat (ByteArray.mk #[], ByteArray.mk #[], ())).1, ())).bind fun y => (f34_F k (y.2.1, (v2.getD v1.toNat (ByteArray.mk #[], ByteArray.mk #[], ())).2.1, ())).bind fun y => L1 (v0, IntKind.i64.wrap (v1 + (1 : Int)), v2, y.2.1) else none else (f36_F k (v3, ())).bind fun y => bif decide ((0 : Int) ≤ IntKind.i64.wrap ((256 : Int) - y.1) ∧ IntKind.i64.wrap ((256 : Int) - y.1) ≤ IntKind.i64.wrap ((256 : Int) - y.1) ∧ IntKind.i64.wrap ((256 : Int) - y.1) < (4294967296 : Int)) then (f35_F k (y.2.1, List.replicate (IntKind.i64.wrap ((256 : Int) - y.1)).toNat (0 : Int), ())).bind fun y => (f37_F k (y.2.1, ())).bind fun y => some ((y.1, OfNat.ofNat (0 : Nat), ()), ()) else none
def f23_L1 (k : Nat) : Int × Int × List (ByteArray × ByteArray × Unit) × List Int → Option ((ByteArray × Int × Unit) × Unit) := iter (fun L1 => f23_raw1 k L1) k
noncomputable def f23_at1 (k : Nat) (n : Nat) (v : Int × Int × List (ByteArray × ByteArray × Unit) × List Int) : Option ((ByteArray × Int × Unit) × Unit) :=
  loopAt (f23_C k) f23_A [] [1, 1, 1, 1, 1, 1, 1, 1, 0, 1, 0] [] f23_code (leaveK (f23_C k) Tryd.f7.results.toList f23_pk [] f23_rk (decR f23_pk f23_rk)) n (f23_S1 v)
theorem f23_law1 (k : Nat) : ∀ n, f23_at1 k n = iter (fun L1 => f23_raw1 k L1) n :=
  iter_law (fun v => by kernel_rfl) (fun n v => by
    show f23_at1 k (n + 1) v = f23_raw1 k (f23_at1 k n) v
    obtain ⟨v0, v1, v2, v3⟩ := v
    kernel_rfl)
def f23_raw0 (k : Nat) (L1 : Int × Int × List (ByteArray × ByteArray × Unit) × List Int → Option ((ByteArray × Int × Unit) × Unit)) : (Bool × Int × List (ByteArray × ByteArray × Unit) × Unit) × Unit → Option ((ByteArray × Int × Unit) × Unit)
  | ((a0, a1, a2, ()), ()) => (f25_F k ((a0, a1, a2, ()), ())).bind fun y => bif !y.1 then some ((ByteArray.mk #[], OfNat.ofNat (2 : Nat), ()), ()) else (f19_F k ((a0, a1, a2, ()), ())).bind fun y => bif decide ((256 : Int) < y.1) then some ((ByteArray.mk #[], OfNat.ofNat (14 : Nat), ()), ()) else bif a0 then (f33_F k ([], OfNat.ofNat (2 : Nat), ())).bind fun y => (f33_F k (y.2.1, IntKind.u8.wrap (Int.ofNat a2.length), ())).bind fun y => bif a0 then (f27_F k (a1, ())).bind fun y_1 => (f34_F k (y.2.1, y_1.1, ())).bind fun y => L1 (Int.ofNat a2.length, (0 : Int), a2, y.2.1) else L1 (Int.ofNat a2.length, (0 : Int), a2, y.2.1) else (f33_F k ([], OfNat.ofNat (1 : Nat), ())).bind fun y => (f33_F k (y.2.1, IntKind.u8.wrap (Int.ofNat a2.length), ())).bind fun y => bif a0 then (f27_F k (a1, ())).bind fun y_1 => (f34_F k (y.2.1, y_1.1, ())).bind fun y => L1 (Int.ofNat a2.length, (0 : Int), a2, y.2.1) else L1 (Int.ofNat a2.length, (0 : Int), a2, y.2.1)
def f23_F (k : Nat) : (Bool × Int × List (ByteArray × ByteArray × Unit) × Unit) × Unit → Option ((ByteArray × Int × Unit) × Unit) := f23_raw0 k (f23_L1 k)
theorem f23_eq (k : Nat) (x : Kd.dens f23_pk) : runF (f23_C k) f23_A Tryd.f7.ntmps f23_code Tryd.f7.results.toList f23_pk f23_rk (encs f23_pk x) (decR f23_pk f23_rk) = f23_F k x := by
  show _ = f23_raw0 k (f23_L1 k) x
  rw [show f23_L1 k = f23_at1 k k from (f23_law1 k k).symm]
  obtain ⟨⟨a0, ⟨a1, ⟨a2, ⟨⟩⟩⟩⟩, ⟨⟩⟩ := x
  kernel_rfl
theorem f23_fits : fitsC Tryd.prog Tryd.f7.ntmps f23_code = true := by kernel_rfl
theorem f23_ctr (k : Nat) : Ctr Tryd.prog k 7 (mk f23_pk f23_rk f23_F) :=
  fun_law (C := f23_C k) (phi_ok (ctr_cons (f25_ctr k) (ctr_cons (f19_ctr k) (ctr_cons (f27_ctr k) (ctr_cons (f33_ctr k) (ctr_cons (f34_ctr k) (ctr_cons (f35_ctr k) (ctr_cons (f36_ctr k) (ctr_cons (f37_ctr k) ctr_nil))))))))) prog_mixed (A := f23_A) (fn := Tryd.f7) (code := f23_code) (by kernel_rfl) (by kernel_rfl) (by kernel_rfl) f23_fits (fun x y h => (f23_eq k x).trans h)
abbrev f9_pk : List Kd := []
abbrev f9_rk : Kd := .view .bool
noncomputable def f9_code : Code := Tryd.f5.body.getD .skip
noncomputable def f9_C (k : Nat) : Ctx := { P := Tryd.prog, Φ := phi [(7, mk f23_pk f23_rk f23_F)], k := k, live := fun _ => [48] }
def f9_A : Nat → Ann := fun _ => ⟨[], []⟩
def f9_raw0 (k : Nat) : Unit → Option (Bool × Unit)
  | () => (f23_F k ((false, (0 : Int), [(ByteArray.mk #[OfNat.ofNat (97 : Nat)], ByteArray.mk #[OfNat.ofNat (49 : Nat)], ())], ()), ())).bind fun y => bif y.1.2.1 == (0 : Int) then bif Int.ofNat (ByteArray.size y.1.1) == (256 : Int) then bif decide ((0 : Int) ≤ (0 : Int) ∧ (0 : Int) ≤ (7 : Int) ∧ (7 : Int) ≤ Int.ofNat (ByteArray.size y.1.1)) then some ((ByteArray.extract y.1.1 (0 : Nat) (7 : Nat)).toList == (ByteArray.mk #[OfNat.ofNat (1 : Nat), OfNat.ofNat (1 : Nat), OfNat.ofNat (1 : Nat), OfNat.ofNat (1 : Nat), OfNat.ofNat (97 : Nat), OfNat.ofNat (49 : Nat), OfNat.ofNat (0 : Nat)]).toList, ()) else none else some (false, ()) else some (false, ())
def f9_F (k : Nat) : Unit → Option (Bool × Unit) := f9_raw0 k
theorem f9_eq (k : Nat) (x : Kd.dens f9_pk) : runF (f9_C k) f9_A Tryd.f5.ntmps f9_code Tryd.f5.results.toList f9_pk f9_rk (encs f9_pk x) (decR f9_pk f9_rk) = f9_F k x := by
  show _ = f9_raw0 k x
  obtain ⟨⟩ := x
  kernel_rfl
theorem f9_fits : fitsC Tryd.prog Tryd.f5.ntmps f9_code = true := by kernel_rfl
theorem f9_ctr (k : Nat) : Ctr Tryd.prog k 5 (mk f9_pk f9_rk f9_F) :=
  fun_law (C := f9_C k) (phi_ok (ctr_cons (f23_ctr k) ctr_nil)) prog_mixed (A := f9_A) (fn := Tryd.f5) (code := f9_code) (by kernel_rfl) (by kernel_rfl) (by kernel_rfl) f9_fits (fun x y h => (f9_eq k x).trans h)
abbrev f114_pk : List Kd := [.view nodeT]
abbrev f114_rk : Kd := .view (.int .i64)
noncomputable def f114_code : Code := Tryd.f14.body.getD .skip
noncomputable def f114_C (k : Nat) : Ctx := { P := Tryd.prog, Φ := phi [(28, mk f32_pk f32_rk f32_F)], k := k, live := fun _ => [48] }
def f114_A : Nat → Ann := fun _ => ⟨[], []⟩
def f114_raw0 (k : Nat) : (Bool × Int × List (ByteArray × ByteArray × Unit) × Unit) × Unit → Option (Int × Unit)
  | ((a0, a1, a2, ()), ()) => bif a0 then (f32_F k (a2, ())).bind fun y => some (IntKind.i64.wrap ((6 : Int) + y.1), ()) else (f32_F k (a2, ())).bind fun y => some (IntKind.i64.wrap ((2 : Int) + y.1), ())
def f114_F (k : Nat) : (Bool × Int × List (ByteArray × ByteArray × Unit) × Unit) × Unit → Option (Int × Unit) := f114_raw0 k
theorem f114_eq (k : Nat) (x : Kd.dens f114_pk) : runF (f114_C k) f114_A Tryd.f14.ntmps f114_code Tryd.f14.results.toList f114_pk f114_rk (encs f114_pk x) (decR f114_pk f114_rk) = f114_F k x := by
  show _ = f114_raw0 k x
  obtain ⟨⟨a0, ⟨a1, ⟨a2, ⟨⟩⟩⟩⟩, ⟨⟩⟩ := x
  kernel_rfl
theorem f114_fits : fitsC Tryd.prog Tryd.f14.ntmps f114_code = true := by kernel_rfl
theorem f114_ctr (k : Nat) : Ctr Tryd.prog k 14 (mk f114_pk f114_rk f114_F) :=
  fun_law (C := f114_C k) (phi_ok (ctr_cons (f32_ctr k) ctr_nil)) prog_mixed (A := f114_A) (fn := Tryd.f14) (code := f114_code) (by kernel_rfl) (by kernel_rfl) (by kernel_rfl) f114_fits (fun x y h => (f114_eq k x).trans h)
abbrev f130_pk : List Kd := [.view .str, .view (.int .u8)]
abbrev f130_rk : Kd := .view .str
noncomputable def f130_code : Code := Tryd.f30.body.getD .skip
noncomputable def f130_C (k : Nat) : Ctx := { P := Tryd.prog, Φ := phi [], k := k, live := fun _ => [48] }
def f130_A : Nat → Ann := fun id => bif Nat.beq id 1 then ⟨[0, 1], []⟩ else ⟨[], []⟩
def f130_S1 : ByteArray × Int → St
  | (v0, v1) => St.mk (envOf [(nat_lit 0, AV.val (PV.v (Value.string v0))), (nat_lit 1, AV.val (PV.v (Value.int IntKind.u8 v1)))]) (tblOf [])
def f130_raw1 (k : Nat) (L1 : ByteArray × Int → Option (ByteArray × Unit)) : ByteArray × Int → Option (ByteArray × Unit)
  | (v0, v1) => bif decide ((0 : Int) < Int.ofNat v0.size) then bif decide ((0 : Int) ≤ (0 : Int) ∧ (0 : Int) < Int.ofNat v0.size) then bif Int.ofNat (v0.data.toList.getD (0 : Nat) (OfNat.ofNat (0 : Nat))).toNat == v1 then bif decide ((0 : Int) ≤ (1 : Int) ∧ (1 : Int) ≤ Int.ofNat v0.size ∧ Int.ofNat v0.size ≤ Int.ofNat v0.size) then L1 (v0.extract (1 : Nat) (Int.ofNat v0.size).toNat, v1) else none else some (v0, ()) else none else some (v0, ())
def f130_L1 (k : Nat) : ByteArray × Int → Option (ByteArray × Unit) := iter (fun L1 => f130_raw1 k L1) k
noncomputable def f130_at1 (k : Nat) (n : Nat) (v : ByteArray × Int) : Option (ByteArray × Unit) :=
  loopAt (f130_C k) f130_A [] [1, 0, 0] [] f130_code (leaveK (f130_C k) Tryd.f30.results.toList f130_pk [] f130_rk (decR f130_pk f130_rk)) n (f130_S1 v)
theorem f130_law1 (k : Nat) : ∀ n, f130_at1 k n = iter (fun L1 => f130_raw1 k L1) n :=
  iter_law (fun v => by kernel_rfl) (fun n v => by
    show f130_at1 k (n + 1) v = f130_raw1 k (f130_at1 k n) v
    obtain ⟨v0, v1⟩ := v
    kernel_rfl)
def f130_raw0 (k : Nat) (L1 : ByteArray × Int → Option (ByteArray × Unit)) : ByteArray × Int × Unit → Option (ByteArray × Unit)
  | (a0, a1, ()) => L1 (a0, a1)
def f130_F (k : Nat) : ByteArray × Int × Unit → Option (ByteArray × Unit) := f130_raw0 k (f130_L1 k)
theorem f130_eq (k : Nat) (x : Kd.dens f130_pk) : runF (f130_C k) f130_A Tryd.f30.ntmps f130_code Tryd.f30.results.toList f130_pk f130_rk (encs f130_pk x) (decR f130_pk f130_rk) = f130_F k x := by
  show _ = f130_raw0 k (f130_L1 k) x
  rw [show f130_L1 k = f130_at1 k k from (f130_law1 k k).symm]
  obtain ⟨a0, ⟨a1, ⟨⟩⟩⟩ := x
  kernel_rfl
theorem f130_fits : fitsC Tryd.prog Tryd.f30.ntmps f130_code = true := by kernel_rfl
theorem f130_ctr (k : Nat) : Ctr Tryd.prog k 30 (mk f130_pk f130_rk f130_F) :=
  fun_law (C := f130_C k) (phi_ok ctr_nil) prog_mixed (A := f130_A) (fn := Tryd.f30) (code := f130_code) (by kernel_rfl) (by kernel_rfl) (by kernel_rfl) f130_fits (fun x y h => (f130_eq k x).trans h)
abbrev f131_pk : List Kd := [.view .str, .view (.int .u8)]
abbrev f131_rk : Kd := .view .str
noncomputable def f131_code : Code := Tryd.f31.body.getD .skip
noncomputable def f131_C (k : Nat) : Ctx := { P := Tryd.prog, Φ := phi [], k := k, live := fun _ => [48] }
def f131_A : Nat → Ann := fun id => bif Nat.beq id 1 then ⟨[0, 1], []⟩ else ⟨[], []⟩
def f131_S1 : ByteArray × Int → St
  | (v0, v1) => St.mk (envOf [(nat_lit 0, AV.val (PV.v (Value.string v0))), (nat_lit 1, AV.val (PV.v (Value.int IntKind.u8 v1)))]) (tblOf [])
def f131_raw1 (k : Nat) (L1 : ByteArray × Int → Option (ByteArray × Unit)) : ByteArray × Int → Option (ByteArray × Unit)
  | (v0, v1) => bif decide ((0 : Int) < Int.ofNat v0.size) then bif decide ((0 : Int) ≤ IntKind.i64.wrap (Int.ofNat v0.size - (1 : Int)) ∧ IntKind.i64.wrap (Int.ofNat v0.size - (1 : Int)) < Int.ofNat v0.size) then bif Int.ofNat (v0.data.toList.getD (IntKind.i64.wrap (Int.ofNat v0.size - (1 : Int))).toNat (OfNat.ofNat (0 : Nat))).toNat == v1 then bif decide ((0 : Int) ≤ (0 : Int) ∧ (0 : Int) ≤ IntKind.i64.wrap (Int.ofNat v0.size - (1 : Int)) ∧ IntKind.i64.wrap (Int.ofNat v0.size - (1 : Int)) ≤ Int.ofNat v0.size) then L1 (v0.extract (0 : Nat) (IntKind.i64.wrap (Int.ofNat v0.size - (1 : Int))).toNat, v1) else none else some (v0, ()) else none else some (v0, ())
def f131_L1 (k : Nat) : ByteArray × Int → Option (ByteArray × Unit) := iter (fun L1 => f131_raw1 k L1) k
noncomputable def f131_at1 (k : Nat) (n : Nat) (v : ByteArray × Int) : Option (ByteArray × Unit) :=
  loopAt (f131_C k) f131_A [] [1, 0, 0] [] f131_code (leaveK (f131_C k) Tryd.f31.results.toList f131_pk [] f131_rk (decR f131_pk f131_rk)) n (f131_S1 v)
theorem f131_law1 (k : Nat) : ∀ n, f131_at1 k n = iter (fun L1 => f131_raw1 k L1) n :=
  iter_law (fun v => by kernel_rfl) (fun n v => by
    show f131_at1 k (n + 1) v = f131_raw1 k (f131_at1 k n) v
    obtain ⟨v0, v1⟩ := v
    kernel_rfl)
def f131_raw0 (k : Nat) (L1 : ByteArray × Int → Option (ByteArray × Unit)) : ByteArray × Int × Unit → Option (ByteArray × Unit)
  | (a0, a1, ()) => L1 (a0, a1)
def f131_F (k : Nat) : ByteArray × Int × Unit → Option (ByteArray × Unit) := f131_raw0 k (f131_L1 k)
theorem f131_eq (k : Nat) (x : Kd.dens f131_pk) : runF (f131_C k) f131_A Tryd.f31.ntmps f131_code Tryd.f31.results.toList f131_pk f131_rk (encs f131_pk x) (decR f131_pk f131_rk) = f131_F k x := by
  show _ = f131_raw0 k (f131_L1 k) x
  rw [show f131_L1 k = f131_at1 k k from (f131_law1 k k).symm]
  obtain ⟨a0, ⟨a1, ⟨⟩⟩⟩ := x
  kernel_rfl
theorem f131_fits : fitsC Tryd.prog Tryd.f31.ntmps f131_code = true := by kernel_rfl
theorem f131_ctr (k : Nat) : Ctr Tryd.prog k 31 (mk f131_pk f131_rk f131_F) :=
  fun_law (C := f131_C k) (phi_ok ctr_nil) prog_mixed (A := f131_A) (fn := Tryd.f31) (code := f131_code) (by kernel_rfl) (by kernel_rfl) (by kernel_rfl) f131_fits (fun x y h => (f131_eq k x).trans h)
abbrev f126_pk : List Kd := [.view .str, .view .str]
abbrev f126_rk : Kd := .view .str
noncomputable def f126_code : Code := Tryd.f26.body.getD .skip
noncomputable def f126_C (k : Nat) : Ctx := { P := Tryd.prog, Φ := phi [(30, mk f130_pk f130_rk f130_F), (31, mk f131_pk f131_rk f131_F)], k := k, live := fun _ => [48] }
def f126_A : Nat → Ann := fun _ => ⟨[], []⟩
def f126_raw0 (k : Nat) : ByteArray × ByteArray × Unit → Option (ByteArray × Unit)
  | (a0, a1, ()) => bif a0.toList == (ByteArray.mk #[]).toList then some (a0, ()) else bif a1.toList == (ByteArray.mk #[]).toList then some (a0, ()) else bif Int.ofNat a1.size == (1 : Int) then bif decide ((0 : Int) ≤ (0 : Int) ∧ (0 : Int) < Int.ofNat a1.size) then bif decide (Int.ofNat (a1.data.toList.getD (0 : Nat) (OfNat.ofNat (0 : Nat))).toNat < (128 : Int)) then bif decide ((0 : Int) ≤ (0 : Int) ∧ (0 : Int) < Int.ofNat a1.size) then (f131_F k (a0, Int.ofNat (a1.data.toList.getD (0 : Nat) (OfNat.ofNat (0 : Nat))).toNat, ())).bind fun y => bif decide ((0 : Int) ≤ (0 : Int) ∧ (0 : Int) < Int.ofNat a1.size) then (f130_F k (y.1, Int.ofNat (a1.data.toList.getD (0 : Nat) (OfNat.ofNat (0 : Nat))).toNat, ())).bind fun y => some (y.1, ()) else none else none else none else none else none
def f126_F (k : Nat) : ByteArray × ByteArray × Unit → Option (ByteArray × Unit) := f126_raw0 k
theorem f126_eq (k : Nat) (x : Kd.dens f126_pk) : runF (f126_C k) f126_A Tryd.f26.ntmps f126_code Tryd.f26.results.toList f126_pk f126_rk (encs f126_pk x) (decR f126_pk f126_rk) = f126_F k x := by
  show _ = f126_raw0 k x
  obtain ⟨a0, ⟨a1, ⟨⟩⟩⟩ := x
  kernel_rfl
theorem f126_fits : fitsC Tryd.prog Tryd.f26.ntmps f126_code = true := by kernel_rfl
theorem f126_ctr (k : Nat) : Ctr Tryd.prog k 26 (mk f126_pk f126_rk f126_F) :=
  fun_law (C := f126_C k) (phi_ok (ctr_cons (f130_ctr k) (ctr_cons (f131_ctr k) ctr_nil))) prog_mixed (A := f126_A) (fn := Tryd.f26) (code := f126_code) (by kernel_rfl) (by kernel_rfl) (by kernel_rfl) f126_fits (fun x y h => (f126_eq k x).trans h)
abbrev f106_pk : List Kd := [.view nodeT]
abbrev f106_rk : Kd := .tup [.view .str, .view (.int .i64)]
noncomputable def f106_code : Code := Tryd.f6.body.getD .skip
noncomputable def f106_C (k : Nat) : Ctx := { P := Tryd.prog, Φ := phi [(15, mk f22_pk f22_rk f22_F), (14, mk f114_pk f114_rk f114_F), (16, mk f14_pk f14_rk f14_F)], k := k, live := fun _ => [48] }
def f106_A : Nat → Ann := fun id => bif Nat.beq id 9 then ⟨[5, 1, 4], []⟩ else ⟨[], []⟩
def f106_S1 : Int × ByteArray × Bool × Int × List (ByteArray × ByteArray × Unit) → St
  | (v0, v1, v2, v3, v4) => St.mk (envOf [(nat_lit 5, AV.val (PV.v (Value.int IntKind.i64 v0))), (nat_lit 1, AV.bx (nat_lit 8192) (nat_lit 0)), (nat_lit 4, AV.val (PV.v (Value.string v1)))]) (tblOf [(nat_lit 8192, RS.live (Res.box [AV.val (PV.v (Value.bool v2)), AV.val (PV.v (Value.int IntKind.i64 v3)), AV.val (PV.sl (Ty.str.pair (Ty.str.pair Ty.unit)) v4)]))])
def f106_raw1 (k : Nat) (L1 : Int × ByteArray × Bool × Int × List (ByteArray × ByteArray × Unit) → Option ((ByteArray × Int × Unit) × Unit)) : Int × ByteArray × Bool × Int × List (ByteArray × ByteArray × Unit) → Option ((ByteArray × Int × Unit) × Unit)
  | (v0, v1, v2, v3, v4) => bif decide (v0 < Int.ofNat v4.length) then bif decide ((0 : Int) ≤ v0 ∧ v0 < Int.ofNat v4.length) then bif decide (v1.size + (ByteArray.mk (List.map (fun n => UInt8.ofNat n.toNat) [IntKind.u8.wrap (Int.ofNat (ByteArray.size (v4.getD v0.toNat (ByteArray.mk #[], ByteArray.mk #[], ())).1)), IntKind.u8.wrap (Int.ofNat (ByteArray.size (v4.getD v0.toNat (ByteArray.mk #[], ByteArray.mk #[], ())).2.1))]).toArray).size < (1099511627776 : Nat)) then bif decide ((v1 ++ ByteArray.mk (List.map (fun n => UInt8.ofNat n.toNat) [IntKind.u8.wrap (Int.ofNat (ByteArray.size (v4.getD v0.toNat (ByteArray.mk #[], ByteArray.mk #[], ())).1)), IntKind.u8.wrap (Int.ofNat (ByteArray.size (v4.getD v0.toNat (ByteArray.mk #[], ByteArray.mk #[], ())).2.1))]).toArray).size + ByteArray.size (v4.getD v0.toNat (ByteArray.mk #[], ByteArray.mk #[], ())).1 < (1099511627776 : Nat)) then bif decide ((v1 ++ ByteArray.mk (List.map (fun n => UInt8.ofNat n.toNat) [IntKind.u8.wrap (Int.ofNat (ByteArray.size (v4.getD v0.toNat (ByteArray.mk #[], ByteArray.mk #[], ())).1)), IntKind.u8.wrap (Int.ofNat (ByteArray.size (v4.getD v0.toNat (ByteArray.mk #[], ByteArray.mk #[], ())).2.1))]).toArray ++ (v4.getD v0.toNat (ByteArray.mk #[], ByteArray.mk #[], ())).1).size + ByteArray.size (v4.getD v0.toNat (ByteArray.mk #[], ByteArray.mk #[], ())).2.1 < (1099511627776 : Nat)) then L1 (IntKind.i64.wrap (v0 + (1 : Int)), v1 ++ ByteArray.mk (List.map (fun n => UInt8.ofNat n.toNat) [IntKind.u8.wrap (Int.ofNat (ByteArray.size (v4.getD v0.toNat (ByteArray.mk #[], ByteArray.mk #[], ())).1)), IntKind.u8.wrap (Int.ofNat (ByteArray.size (v4.getD v0.toNat (ByteArray.mk #[], ByteArray.mk #[], ())).2.1))]).toArray ++ (v4.getD v0.toNat (ByteArray.mk #[], ByteArray.mk #[], ())).1 ++ (v4.getD v0.toNat (ByteArray.mk #[], ByteArray.mk #[], ())).2.1, v2, v3, v4) else none else none else none else none else bif decide ((0 : Int) ≤ IntKind.i64.wrap ((256 : Int) - Int.ofNat v1.size) ∧ IntKind.i64.wrap ((256 : Int) - Int.ofNat v1.size) ≤ IntKind.i64.wrap ((256 : Int) - Int.ofNat v1.size) ∧ IntKind.i64.wrap ((256 : Int) - Int.ofNat v1.size) < (4294967296 : Int)) then bif decide (v1.size + (ByteArray.mk (List.map (fun n => UInt8.ofNat n.toNat) (List.replicate (IntKind.i64.wrap ((256 : Int) - Int.ofNat v1.size)).toNat (0 : Int))).toArray).size < (1099511627776 : Nat)) then some ((v1 ++ ByteArray.mk (List.map (fun n => UInt8.ofNat n.toNat) (List.replicate (IntKind.i64.wrap ((256 : Int) - Int.ofNat v1.size)).toNat (0 : Int))).toArray, OfNat.ofNat (0 : Nat), ()), ()) else none else none
def f106_L1 (k : Nat) : Int × ByteArray × Bool × Int × List (ByteArray × ByteArray × Unit) → Option ((ByteArray × Int × Unit) × Unit) := iter (fun L1 => f106_raw1 k L1) k
noncomputable def f106_at1 (k : Nat) (n : Nat) (v : Int × ByteArray × Bool × Int × List (ByteArray × ByteArray × Unit)) : Option ((ByteArray × Int × Unit) × Unit) :=
  loopAt (f106_C k) f106_A [] [1, 1, 1, 1, 1, 0, 1, 0] [] f106_code (leaveK (f106_C k) Tryd.f6.results.toList f106_pk [] f106_rk (decR f106_pk f106_rk)) n (f106_S1 v)
theorem f106_law1 (k : Nat) : ∀ n, f106_at1 k n = iter (fun L1 => f106_raw1 k L1) n :=
  iter_law (fun v => by kernel_rfl) (fun n v => by
    show f106_at1 k (n + 1) v = f106_raw1 k (f106_at1 k n) v
    obtain ⟨v0, v1, v2, v3, v4⟩ := v
    kernel_rfl)
def f106_raw0 (k : Nat) (L1 : Int × ByteArray × Bool × Int × List (ByteArray × ByteArray × Unit) → Option ((ByteArray × Int × Unit) × Unit)) : (Bool × Int × List (ByteArray × ByteArray × Unit) × Unit) × Unit → Option ((ByteArray × Int × Unit) × Unit)
  | ((a0, a1, a2, ()), ()) => (f22_F k ((a0, a1, a2, ()), ())).bind fun y => bif !y.1 then some ((ByteArray.mk #[], OfNat.ofNat (2 : Nat), ()), ()) else (f114_F k ((a0, a1, a2, ()), ())).bind fun y => bif decide ((256 : Int) < y.1) then some ((ByteArray.mk #[], OfNat.ofNat (14 : Nat), ()), ()) else bif a0 then (f14_F k (a1, ())).bind fun y => bif decide ((ByteArray.mk #[OfNat.ofNat (2 : Nat)] ++ ByteArray.mk (List.map (fun n => UInt8.ofNat n.toNat) [IntKind.u8.wrap (Int.ofNat a2.length)]).toArray).size + ByteArray.size y.1 < (1099511627776 : Nat)) then L1 ((0 : Int), ByteArray.mk #[OfNat.ofNat (2 : Nat)] ++ ByteArray.mk (List.map (fun n => UInt8.ofNat n.toNat) [IntKind.u8.wrap (Int.ofNat a2.length)]).toArray ++ y.1, a0, a1, a2) else none else L1 ((0 : Int), ByteArray.mk #[OfNat.ofNat (1 : Nat)] ++ ByteArray.mk (List.map (fun n => UInt8.ofNat n.toNat) [IntKind.u8.wrap (Int.ofNat a2.length)]).toArray, a0, a1, a2)
def f106_F (k : Nat) : (Bool × Int × List (ByteArray × ByteArray × Unit) × Unit) × Unit → Option ((ByteArray × Int × Unit) × Unit) := f106_raw0 k (f106_L1 k)
theorem f106_eq (k : Nat) (x : Kd.dens f106_pk) : runF (f106_C k) f106_A Tryd.f6.ntmps f106_code Tryd.f6.results.toList f106_pk f106_rk (encs f106_pk x) (decR f106_pk f106_rk) = f106_F k x := by
  show _ = f106_raw0 k (f106_L1 k) x
  rw [show f106_L1 k = f106_at1 k k from (f106_law1 k k).symm]
  obtain ⟨⟨a0, ⟨a1, ⟨a2, ⟨⟩⟩⟩⟩, ⟨⟩⟩ := x
  kernel_rfl
theorem f106_fits : fitsC Tryd.prog Tryd.f6.ntmps f106_code = true := by kernel_rfl
theorem f106_ctr (k : Nat) : Ctr Tryd.prog k 6 (mk f106_pk f106_rk f106_F) :=
  fun_law (C := f106_C k) (phi_ok (ctr_cons (f22_ctr k) (ctr_cons (f114_ctr k) (ctr_cons (f14_ctr k) ctr_nil)))) prog_mixed (A := f106_A) (fn := Tryd.f6) (code := f106_code) (by kernel_rfl) (by kernel_rfl) (by kernel_rfl) f106_fits (fun x y h => (f106_eq k x).trans h)
abbrev f110_pk : List Kd := [.view .str]
abbrev f110_rk : Kd := .tup [.view nodeT, .view (.int .i64)]
noncomputable def f110_code : Code := Tryd.f10.body.getD .skip
noncomputable def f110_C (k : Nat) : Ctx := { P := Tryd.prog, Φ := phi [(25, mk f26_pk f26_rk f26_F), (17, mk f25_pk f25_rk f25_F), (26, mk f126_pk f126_rk f126_F)], k := k, live := fun _ => [48] }
def f110_A : Nat → Ann := fun id => bif Nat.beq id 7 then ⟨[39, 40, 5, 2, 4], [.cell 4 2 pairT]⟩ else ⟨[], []⟩
def f110_S1 : Int × Int × ByteArray × Bool × Int × Bool × Int × List (ByteArray × ByteArray × Unit) → St
  | (v0, v1, v2, v3, v4, v5, v6, v7) => St.mk (envOf [(nat_lit 39, AV.val (PV.v (Value.int IntKind.i64 v0))), (nat_lit 40, AV.val (PV.v (Value.int IntKind.i64 v1))), (nat_lit 5, AV.val (PV.v (Value.string v2))), (nat_lit 2, AV.bx (nat_lit 8192) (nat_lit 0)), (nat_lit 4, AV.bx (nat_lit 8193) (nat_lit 0))]) (tblOf [(nat_lit 8192, RS.live (Res.box [AV.val (PV.v (Value.bool v3)), AV.val (PV.v (Value.int IntKind.i64 v4)), AV.val (PV.v (Value.slice none (0 : Nat) (0 : Nat)))])), (nat_lit 8193, RS.live (Res.box [AV.val (PV.v (Value.bool v5)), AV.val (PV.v (Value.int IntKind.i64 v6)), AV.own (nat_lit 8194)])), (nat_lit 8194, RS.live (Res.arr (Ty.str.pair (Ty.str.pair Ty.unit)) v7 false))])
def f110_raw1 (k : Nat) (L1 : Int × Int × ByteArray × Bool × Int × Bool × Int × List (ByteArray × ByteArray × Unit) → Option (((Bool × Int × List (ByteArray × ByteArray × Unit) × Unit) × Int × Unit) × Unit)) : Int × Int × ByteArray × Bool × Int × Bool × Int × List (ByteArray × ByteArray × Unit) → Option (((Bool × Int × List (ByteArray × ByteArray × Unit) × Unit) × Int × Unit) × Unit)
  | (v0, v1, v2, v3, v4, v5, v6, v7) => bif decide (v1 < v0) then bif decide (Int.ofNat v2.size < (2 : Int)) then some (((false, (0 : Int), [], ()), OfNat.ofNat (2 : Nat), ()), ()) else bif decide ((0 : Int) ≤ (0 : Int) ∧ (0 : Int) < Int.ofNat v2.size) then bif decide ((0 : Int) ≤ (1 : Int) ∧ (1 : Int) < Int.ofNat v2.size) then bif decide (Int.ofNat v2.size < IntKind.i64.wrap (IntKind.i64.wrap ((2 : Int) + IntKind.i64.wrap (Int.ofNat (v2.data.toList.getD (0 : Nat) (OfNat.ofNat (0 : Nat))).toNat)) + IntKind.i64.wrap (Int.ofNat (v2.data.toList.getD (1 : Nat) (OfNat.ofNat (0 : Nat))).toNat))) then some (((false, (0 : Int), [], ()), OfNat.ofNat (2 : Nat), ()), ()) else bif decide ((0 : Int) ≤ (2 : Int) ∧ (2 : Int) ≤ IntKind.i64.wrap ((2 : Int) + IntKind.i64.wrap (Int.ofNat (v2.data.toList.getD (0 : Nat) (OfNat.ofNat (0 : Nat))).toNat)) ∧ IntKind.i64.wrap ((2 : Int) + IntKind.i64.wrap (Int.ofNat (v2.data.toList.getD (0 : Nat) (OfNat.ofNat (0 : Nat))).toNat)) ≤ Int.ofNat v2.size) then bif decide ((0 : Int) ≤ IntKind.i64.wrap ((2 : Int) + IntKind.i64.wrap (Int.ofNat (v2.data.toList.getD (0 : Nat) (OfNat.ofNat (0 : Nat))).toNat)) ∧ IntKind.i64.wrap ((2 : Int) + IntKind.i64.wrap (Int.ofNat (v2.data.toList.getD (0 : Nat) (OfNat.ofNat (0 : Nat))).toNat)) ≤ IntKind.i64.wrap (IntKind.i64.wrap ((2 : Int) + IntKind.i64.wrap (Int.ofNat (v2.data.toList.getD (0 : Nat) (OfNat.ofNat (0 : Nat))).toNat)) + IntKind.i64.wrap (Int.ofNat (v2.data.toList.getD (1 : Nat) (OfNat.ofNat (0 : Nat))).toNat)) ∧ IntKind.i64.wrap (IntKind.i64.wrap ((2 : Int) + IntKind.i64.wrap (Int.ofNat (v2.data.toList.getD (0 : Nat) (OfNat.ofNat (0 : Nat))).toNat)) + IntKind.i64.wrap (Int.ofNat (v2.data.toList.getD (1 : Nat) (OfNat.ofNat (0 : Nat))).toNat)) ≤ Int.ofNat v2.size) then bif decide (v7.length + [(v2.extract (2 : Nat) (IntKind.i64.wrap ((2 : Int) + IntKind.i64.wrap (Int.ofNat (v2.data.toList.getD (0 : Nat) (OfNat.ofNat (0 : Nat))).toNat))).toNat, v2.extract (IntKind.i64.wrap ((2 : Int) + IntKind.i64.wrap (Int.ofNat (v2.data.toList.getD (0 : Nat) (OfNat.ofNat (0 : Nat))).toNat))).toNat (IntKind.i64.wrap (IntKind.i64.wrap ((2 : Int) + IntKind.i64.wrap (Int.ofNat (v2.data.toList.getD (0 : Nat) (OfNat.ofNat (0 : Nat))).toNat)) + IntKind.i64.wrap (Int.ofNat (v2.data.toList.getD (1 : Nat) (OfNat.ofNat (0 : Nat))).toNat))).toNat, ())].length < (2147483648 : Nat)) then bif decide ((0 : Int) ≤ IntKind.i64.wrap (IntKind.i64.wrap ((2 : Int) + IntKind.i64.wrap (Int.ofNat (v2.data.toList.getD (0 : Nat) (OfNat.ofNat (0 : Nat))).toNat)) + IntKind.i64.wrap (Int.ofNat (v2.data.toList.getD (1 : Nat) (OfNat.ofNat (0 : Nat))).toNat)) ∧ IntKind.i64.wrap (IntKind.i64.wrap ((2 : Int) + IntKind.i64.wrap (Int.ofNat (v2.data.toList.getD (0 : Nat) (OfNat.ofNat (0 : Nat))).toNat)) + IntKind.i64.wrap (Int.ofNat (v2.data.toList.getD (1 : Nat) (OfNat.ofNat (0 : Nat))).toNat)) ≤ Int.ofNat v2.size ∧ Int.ofNat v2.size ≤ Int.ofNat v2.size) then L1 (v0, IntKind.i64.wrap (v1 + (1 : Int)), v2.extract (IntKind.i64.wrap (IntKind.i64.wrap ((2 : Int) + IntKind.i64.wrap (Int.ofNat (v2.data.toList.getD (0 : Nat) (OfNat.ofNat (0 : Nat))).toNat)) + IntKind.i64.wrap (Int.ofNat (v2.data.toList.getD (1 : Nat) (OfNat.ofNat (0 : Nat))).toNat))).toNat (Int.ofNat v2.size).toNat, v3, v4, v5, v6, v7 ++ [(v2.extract (2 : Nat) (IntKind.i64.wrap ((2 : Int) + IntKind.i64.wrap (Int.ofNat (v2.data.toList.getD (0 : Nat) (OfNat.ofNat (0 : Nat))).toNat))).toNat, v2.extract (IntKind.i64.wrap ((2 : Int) + IntKind.i64.wrap (Int.ofNat (v2.data.toList.getD (0 : Nat) (OfNat.ofNat (0 : Nat))).toNat))).toNat (IntKind.i64.wrap (IntKind.i64.wrap ((2 : Int) + IntKind.i64.wrap (Int.ofNat (v2.data.toList.getD (0 : Nat) (OfNat.ofNat (0 : Nat))).toNat)) + IntKind.i64.wrap (Int.ofNat (v2.data.toList.getD (1 : Nat) (OfNat.ofNat (0 : Nat))).toNat))).toNat, ())]) else none else none else none else none else none else none else (f25_F k ((v5, v6, v7, ()), ())).bind fun y => bif !y.1 then some (((false, (0 : Int), [], ()), OfNat.ofNat (2 : Nat), ()), ()) else (f126_F k (v2, ByteArray.mk #[OfNat.ofNat (0 : Nat)], ())).bind fun y => bif !ByteArray.toList y.1 == (ByteArray.mk #[]).toList then some (((false, (0 : Int), [], ()), OfNat.ofNat (2 : Nat), ()), ()) else some (((v5, v6, v7, ()), OfNat.ofNat (0 : Nat), ()), ())
def f110_L1 (k : Nat) : Int × Int × ByteArray × Bool × Int × Bool × Int × List (ByteArray × ByteArray × Unit) → Option (((Bool × Int × List (ByteArray × ByteArray × Unit) × Unit) × Int × Unit) × Unit) := iter (fun L1 => f110_raw1 k L1) k
noncomputable def f110_at1 (k : Nat) (n : Nat) (v : Int × Int × ByteArray × Bool × Int × Bool × Int × List (ByteArray × ByteArray × Unit)) : Option (((Bool × Int × List (ByteArray × ByteArray × Unit) × Unit) × Int × Unit) × Unit) :=
  loopAt (f110_C k) f110_A [] [1, 1, 1, 1, 0, 1, 0] [] f110_code (leaveK (f110_C k) Tryd.f10.results.toList f110_pk [] f110_rk (decR f110_pk f110_rk)) n (f110_S1 v)
theorem f110_law1 (k : Nat) : ∀ n, f110_at1 k n = iter (fun L1 => f110_raw1 k L1) n :=
  iter_law (fun v => by kernel_rfl) (fun n v => by
    show f110_at1 k (n + 1) v = f110_raw1 k (f110_at1 k n) v
    obtain ⟨v0, v1, v2, v3, v4, v5, v6, v7⟩ := v
    kernel_rfl)
def f110_raw0 (k : Nat) (L1 : Int × Int × ByteArray × Bool × Int × Bool × Int × List (ByteArray × ByteArray × Unit) → Option (((Bool × Int × List (ByteArray × ByteArray × Unit) × Unit) × Int × Unit) × Unit)) : ByteArray × Unit → Option (((Bool × Int × List (ByteArray × ByteArray × Unit) × Unit) × Int × Unit) × Unit)
  | (a0, ()) => bif Int.ofNat a0.size != (256 : Int) then some (((false, (0 : Int), [], ()), OfNat.ofNat (2 : Nat), ()), ()) else bif decide ((0 : Int) ≤ (0 : Int) ∧ (0 : Int) < Int.ofNat a0.size) then bif Int.ofNat (a0.data.toList.getD (0 : Nat) (OfNat.ofNat (0 : Nat))).toNat != (1 : Int) then bif decide ((0 : Int) ≤ (0 : Int) ∧ (0 : Int) < Int.ofNat a0.size) then bif Int.ofNat (a0.data.toList.getD (0 : Nat) (OfNat.ofNat (0 : Nat))).toNat != (2 : Int) then some (((false, (0 : Int), [], ()), OfNat.ofNat (2 : Nat), ()), ()) else bif decide ((0 : Int) ≤ (0 : Int) ∧ (0 : Int) < Int.ofNat a0.size) then bif decide ((0 : Int) ≤ (2 : Int) ∧ (2 : Int) ≤ Int.ofNat a0.size ∧ Int.ofNat a0.size ≤ Int.ofNat a0.size) then bif Int.ofNat (a0.data.toList.getD (0 : Nat) (OfNat.ofNat (0 : Nat))).toNat == (2 : Int) then bif decide ((0 : Int) ≤ (0 : Int) ∧ (0 : Int) ≤ (4 : Int) ∧ (4 : Int) ≤ Int.ofNat (a0.extract (2 : Nat) (Int.ofNat a0.size).toNat).size) then (f26_F k ((ByteArray.mk #[], (a0.extract (2 : Nat) (Int.ofNat a0.size).toNat).extract (0 : Nat) (4 : Nat), ()), ())).bind fun y => bif decide ((0 : Int) ≤ (4 : Int) ∧ (4 : Int) ≤ Int.ofNat (a0.extract (2 : Nat) (Int.ofNat a0.size).toNat).size ∧ Int.ofNat (a0.extract (2 : Nat) (Int.ofNat a0.size).toNat).size ≤ Int.ofNat (a0.extract (2 : Nat) (Int.ofNat a0.size).toNat).size) then bif decide ((0 : Int) ≤ (1 : Int) ∧ (1 : Int) < Int.ofNat a0.size) then L1 (IntKind.i64.wrap (Int.ofNat (a0.data.toList.getD (1 : Nat) (OfNat.ofNat (0 : Nat))).toNat), (0 : Int), (a0.extract (2 : Nat) (Int.ofNat a0.size).toNat).extract (4 : Nat) (Int.ofNat (a0.extract (2 : Nat) (Int.ofNat a0.size).toNat).size).toNat, false, (0 : Int), Int.ofNat (a0.data.toList.getD (0 : Nat) (OfNat.ofNat (0 : Nat))).toNat == (2 : Int), y.1, []) else none else none else none else bif decide ((0 : Int) ≤ (1 : Int) ∧ (1 : Int) < Int.ofNat a0.size) then L1 (IntKind.i64.wrap (Int.ofNat (a0.data.toList.getD (1 : Nat) (OfNat.ofNat (0 : Nat))).toNat), (0 : Int), a0.extract (2 : Nat) (Int.ofNat a0.size).toNat, false, (0 : Int), Int.ofNat (a0.data.toList.getD (0 : Nat) (OfNat.ofNat (0 : Nat))).toNat == (2 : Int), (0 : Int), []) else none else none else none else none else bif decide ((0 : Int) ≤ (0 : Int) ∧ (0 : Int) < Int.ofNat a0.size) then bif decide ((0 : Int) ≤ (2 : Int) ∧ (2 : Int) ≤ Int.ofNat a0.size ∧ Int.ofNat a0.size ≤ Int.ofNat a0.size) then bif Int.ofNat (a0.data.toList.getD (0 : Nat) (OfNat.ofNat (0 : Nat))).toNat == (2 : Int) then bif decide ((0 : Int) ≤ (0 : Int) ∧ (0 : Int) ≤ (4 : Int) ∧ (4 : Int) ≤ Int.ofNat (a0.extract (2 : Nat) (Int.ofNat a0.size).toNat).size) then (f26_F k ((ByteArray.mk #[], (a0.extract (2 : Nat) (Int.ofNat a0.size).toNat).extract (0 : Nat) (4 : Nat), ()), ())).bind fun y => bif decide ((0 : Int) ≤ (4 : Int) ∧ (4 : Int) ≤ Int.ofNat (a0.extract (2 : Nat) (Int.ofNat a0.size).toNat).size ∧ Int.ofNat (a0.extract (2 : Nat) (Int.ofNat a0.size).toNat).size ≤ Int.ofNat (a0.extract (2 : Nat) (Int.ofNat a0.size).toNat).size) then bif decide ((0 : Int) ≤ (1 : Int) ∧ (1 : Int) < Int.ofNat a0.size) then L1 (IntKind.i64.wrap (Int.ofNat (a0.data.toList.getD (1 : Nat) (OfNat.ofNat (0 : Nat))).toNat), (0 : Int), (a0.extract (2 : Nat) (Int.ofNat a0.size).toNat).extract (4 : Nat) (Int.ofNat (a0.extract (2 : Nat) (Int.ofNat a0.size).toNat).size).toNat, false, (0 : Int), Int.ofNat (a0.data.toList.getD (0 : Nat) (OfNat.ofNat (0 : Nat))).toNat == (2 : Int), y.1, []) else none else none else none else bif decide ((0 : Int) ≤ (1 : Int) ∧ (1 : Int) < Int.ofNat a0.size) then L1 (IntKind.i64.wrap (Int.ofNat (a0.data.toList.getD (1 : Nat) (OfNat.ofNat (0 : Nat))).toNat), (0 : Int), a0.extract (2 : Nat) (Int.ofNat a0.size).toNat, false, (0 : Int), Int.ofNat (a0.data.toList.getD (0 : Nat) (OfNat.ofNat (0 : Nat))).toNat == (2 : Int), (0 : Int), []) else none else none else none else none
def f110_F (k : Nat) : ByteArray × Unit → Option (((Bool × Int × List (ByteArray × ByteArray × Unit) × Unit) × Int × Unit) × Unit) := f110_raw0 k (f110_L1 k)
theorem f110_eq (k : Nat) (x : Kd.dens f110_pk) : runF (f110_C k) f110_A Tryd.f10.ntmps f110_code Tryd.f10.results.toList f110_pk f110_rk (encs f110_pk x) (decR f110_pk f110_rk) = f110_F k x := by
  show _ = f110_raw0 k (f110_L1 k) x
  rw [show f110_L1 k = f110_at1 k k from (f110_law1 k k).symm]
  obtain ⟨a0, ⟨⟩⟩ := x
  kernel_rfl
theorem f110_fits : fitsC Tryd.prog Tryd.f10.ntmps f110_code = true := by kernel_rfl
theorem f110_ctr (k : Nat) : Ctr Tryd.prog k 10 (mk f110_pk f110_rk f110_F) :=
  fun_law (C := f110_C k) (phi_ok (ctr_cons (f26_ctr k) (ctr_cons (f25_ctr k) (ctr_cons (f126_ctr k) ctr_nil)))) prog_mixed (A := f110_A) (fn := Tryd.f10) (code := f110_code) (by kernel_rfl) (by kernel_rfl) (by kernel_rfl) f110_fits (fun x y h => (f110_eq k x).trans h)
abbrev f109_pk : List Kd := [.view .str]
abbrev f109_rk : Kd := .tup [.view nodeT, .view (.int .i64)]
noncomputable def f109_code : Code := Tryd.f9.body.getD .skip
noncomputable def f109_C (k : Nat) : Ctx := { P := Tryd.prog, Φ := phi [(24, mk f24_pk f24_rk f24_F), (6, mk f106_pk f106_rk f106_F)], k := k, live := fun _ => [48] }
def f109_A : Nat → Ann := fun id => bif Nat.beq id 7 then ⟨[6, 0, 5, 2, 4], [.cell 4 2 pairT]⟩ else ⟨[], []⟩
def f109_S1 : Int × ByteArray × Int × Bool × Int × Bool × Int × List (ByteArray × ByteArray × Unit) → St
  | (v0, v1, v2, v3, v4, v5, v6, v7) => St.mk (envOf [(nat_lit 6, AV.val (PV.v (Value.int IntKind.i64 v0))), (nat_lit 0, AV.val (PV.v (Value.string v1))), (nat_lit 5, AV.val (PV.v (Value.int IntKind.i64 v2))), (nat_lit 2, AV.bx (nat_lit 8192) (nat_lit 0)), (nat_lit 4, AV.bx (nat_lit 8193) (nat_lit 0))]) (tblOf [(nat_lit 8192, RS.live (Res.box [AV.val (PV.v (Value.bool v3)), AV.val (PV.v (Value.int IntKind.i64 v4)), AV.val (PV.v (Value.slice none (0 : Nat) (0 : Nat)))])), (nat_lit 8193, RS.live (Res.box [AV.val (PV.v (Value.bool v5)), AV.val (PV.v (Value.int IntKind.i64 v6)), AV.own (nat_lit 8194)])), (nat_lit 8194, RS.live (Res.arr (Ty.str.pair (Ty.str.pair Ty.unit)) v7 false))])
def f109_raw1 (k : Nat) (L1 : Int × ByteArray × Int × Bool × Int × Bool × Int × List (ByteArray × ByteArray × Unit) → Option (((Bool × Int × List (ByteArray × ByteArray × Unit) × Unit) × Int × Unit) × Unit)) : Int × ByteArray × Int × Bool × Int × Bool × Int × List (ByteArray × ByteArray × Unit) → Option (((Bool × Int × List (ByteArray × ByteArray × Unit) × Unit) × Int × Unit) × Unit)
  | (v0, v1, v2, v3, v4, v5, v6, v7) => bif decide ((0 : Int) ≤ (1 : Int) ∧ (1 : Int) < Int.ofNat v1.size) then bif decide (v0 < IntKind.i64.wrap (Int.ofNat (v1.data.toList.getD (1 : Nat) (OfNat.ofNat (0 : Nat))).toNat)) then bif decide ((256 : Int) < IntKind.i64.wrap (v2 + (2 : Int))) then some (((false, (0 : Int), [], ()), OfNat.ofNat (2 : Nat), ()), ()) else bif decide ((0 : Int) ≤ v2 ∧ v2 < Int.ofNat v1.size) then bif decide ((0 : Int) ≤ IntKind.i64.wrap (v2 + (1 : Int)) ∧ IntKind.i64.wrap (v2 + (1 : Int)) < Int.ofNat v1.size) then bif decide ((256 : Int) < IntKind.i64.wrap (IntKind.i64.wrap (IntKind.i64.wrap (v2 + (2 : Int)) + IntKind.i64.wrap (Int.ofNat (v1.data.toList.getD v2.toNat (OfNat.ofNat (0 : Nat))).toNat)) + IntKind.i64.wrap (Int.ofNat (v1.data.toList.getD (IntKind.i64.wrap (v2 + (1 : Int))).toNat (OfNat.ofNat (0 : Nat))).toNat))) then some (((false, (0 : Int), [], ()), OfNat.ofNat (2 : Nat), ()), ()) else bif decide ((0 : Int) ≤ v2 ∧ v2 < Int.ofNat v1.size) then bif decide ((0 : Int) ≤ IntKind.i64.wrap (v2 + (1 : Int)) ∧ IntKind.i64.wrap (v2 + (1 : Int)) < Int.ofNat v1.size) then bif decide ((0 : Int) ≤ IntKind.i64.wrap (v2 + (2 : Int)) ∧ IntKind.i64.wrap (v2 + (2 : Int)) ≤ IntKind.i64.wrap (IntKind.i64.wrap (v2 + (2 : Int)) + IntKind.i64.wrap (Int.ofNat (v1.data.toList.getD v2.toNat (OfNat.ofNat (0 : Nat))).toNat)) ∧ IntKind.i64.wrap (IntKind.i64.wrap (v2 + (2 : Int)) + IntKind.i64.wrap (Int.ofNat (v1.data.toList.getD v2.toNat (OfNat.ofNat (0 : Nat))).toNat)) ≤ Int.ofNat v1.size) then bif decide ((0 : Int) ≤ IntKind.i64.wrap (IntKind.i64.wrap (v2 + (2 : Int)) + IntKind.i64.wrap (Int.ofNat (v1.data.toList.getD v2.toNat (OfNat.ofNat (0 : Nat))).toNat)) ∧ IntKind.i64.wrap (IntKind.i64.wrap (v2 + (2 : Int)) + IntKind.i64.wrap (Int.ofNat (v1.data.toList.getD v2.toNat (OfNat.ofNat (0 : Nat))).toNat)) ≤ IntKind.i64.wrap (IntKind.i64.wrap (IntKind.i64.wrap (v2 + (2 : Int)) + IntKind.i64.wrap (Int.ofNat (v1.data.toList.getD v2.toNat (OfNat.ofNat (0 : Nat))).toNat)) + IntKind.i64.wrap (Int.ofNat (v1.data.toList.getD (IntKind.i64.wrap (v2 + (1 : Int))).toNat (OfNat.ofNat (0 : Nat))).toNat)) ∧ IntKind.i64.wrap (IntKind.i64.wrap (IntKind.i64.wrap (v2 + (2 : Int)) + IntKind.i64.wrap (Int.ofNat (v1.data.toList.getD v2.toNat (OfNat.ofNat (0 : Nat))).toNat)) + IntKind.i64.wrap (Int.ofNat (v1.data.toList.getD (IntKind.i64.wrap (v2 + (1 : Int))).toNat (OfNat.ofNat (0 : Nat))).toNat)) ≤ Int.ofNat v1.size) then bif decide (v7.length + [(v1.extract (IntKind.i64.wrap (v2 + (2 : Int))).toNat (IntKind.i64.wrap (IntKind.i64.wrap (v2 + (2 : Int)) + IntKind.i64.wrap (Int.ofNat (v1.data.toList.getD v2.toNat (OfNat.ofNat (0 : Nat))).toNat))).toNat, v1.extract (IntKind.i64.wrap (IntKind.i64.wrap (v2 + (2 : Int)) + IntKind.i64.wrap (Int.ofNat (v1.data.toList.getD v2.toNat (OfNat.ofNat (0 : Nat))).toNat))).toNat (IntKind.i64.wrap (IntKind.i64.wrap (IntKind.i64.wrap (v2 + (2 : Int)) + IntKind.i64.wrap (Int.ofNat (v1.data.toList.getD v2.toNat (OfNat.ofNat (0 : Nat))).toNat)) + IntKind.i64.wrap (Int.ofNat (v1.data.toList.getD (IntKind.i64.wrap (v2 + (1 : Int))).toNat (OfNat.ofNat (0 : Nat))).toNat))).toNat, ())].length < (2147483648 : Nat)) then L1 (IntKind.i64.wrap (v0 + (1 : Int)), v1, IntKind.i64.wrap (IntKind.i64.wrap (IntKind.i64.wrap (v2 + (2 : Int)) + IntKind.i64.wrap (Int.ofNat (v1.data.toList.getD v2.toNat (OfNat.ofNat (0 : Nat))).toNat)) + IntKind.i64.wrap (Int.ofNat (v1.data.toList.getD (IntKind.i64.wrap (v2 + (1 : Int))).toNat (OfNat.ofNat (0 : Nat))).toNat)), v3, v4, v5, v6, v7 ++ [(v1.extract (IntKind.i64.wrap (v2 + (2 : Int))).toNat (IntKind.i64.wrap (IntKind.i64.wrap (v2 + (2 : Int)) + IntKind.i64.wrap (Int.ofNat (v1.data.toList.getD v2.toNat (OfNat.ofNat (0 : Nat))).toNat))).toNat, v1.extract (IntKind.i64.wrap (IntKind.i64.wrap (v2 + (2 : Int)) + IntKind.i64.wrap (Int.ofNat (v1.data.toList.getD v2.toNat (OfNat.ofNat (0 : Nat))).toNat))).toNat (IntKind.i64.wrap (IntKind.i64.wrap (IntKind.i64.wrap (v2 + (2 : Int)) + IntKind.i64.wrap (Int.ofNat (v1.data.toList.getD v2.toNat (OfNat.ofNat (0 : Nat))).toNat)) + IntKind.i64.wrap (Int.ofNat (v1.data.toList.getD (IntKind.i64.wrap (v2 + (1 : Int))).toNat (OfNat.ofNat (0 : Nat))).toNat))).toNat, ())]) else none else none else none else none else none else none else none else (f106_F k ((v5, v6, v7, ()), ())).bind fun y => bif y.1.2.1 != (0 : Int) then some (((false, (0 : Int), [], ()), OfNat.ofNat (2 : Nat), ()), ()) else bif !ByteArray.toList y.1.1 == v1.toList then some (((false, (0 : Int), [], ()), OfNat.ofNat (2 : Nat), ()), ()) else some (((v5, v6, v7, ()), OfNat.ofNat (0 : Nat), ()), ()) else none
def f109_L1 (k : Nat) : Int × ByteArray × Int × Bool × Int × Bool × Int × List (ByteArray × ByteArray × Unit) → Option (((Bool × Int × List (ByteArray × ByteArray × Unit) × Unit) × Int × Unit) × Unit) := iter (fun L1 => f109_raw1 k L1) k
noncomputable def f109_at1 (k : Nat) (n : Nat) (v : Int × ByteArray × Int × Bool × Int × Bool × Int × List (ByteArray × ByteArray × Unit)) : Option (((Bool × Int × List (ByteArray × ByteArray × Unit) × Unit) × Int × Unit) × Unit) :=
  loopAt (f109_C k) f109_A [] [1, 1, 1, 1, 0, 1, 0] [] f109_code (leaveK (f109_C k) Tryd.f9.results.toList f109_pk [] f109_rk (decR f109_pk f109_rk)) n (f109_S1 v)
theorem f109_law1 (k : Nat) : ∀ n, f109_at1 k n = iter (fun L1 => f109_raw1 k L1) n :=
  iter_law (fun v => by kernel_rfl) (fun n v => by
    show f109_at1 k (n + 1) v = f109_raw1 k (f109_at1 k n) v
    obtain ⟨v0, v1, v2, v3, v4, v5, v6, v7⟩ := v
    kernel_rfl)
def f109_raw0 (k : Nat) (L1 : Int × ByteArray × Int × Bool × Int × Bool × Int × List (ByteArray × ByteArray × Unit) → Option (((Bool × Int × List (ByteArray × ByteArray × Unit) × Unit) × Int × Unit) × Unit)) : ByteArray × Unit → Option (((Bool × Int × List (ByteArray × ByteArray × Unit) × Unit) × Int × Unit) × Unit)
  | (a0, ()) => bif Int.ofNat a0.size != (256 : Int) then some (((false, (0 : Int), [], ()), OfNat.ofNat (2 : Nat), ()), ()) else bif decide ((0 : Int) ≤ (0 : Int) ∧ (0 : Int) < Int.ofNat a0.size) then bif Int.ofNat (a0.data.toList.getD (0 : Nat) (OfNat.ofNat (0 : Nat))).toNat == (2 : Int) then bif decide ((0 : Int) ≤ (2 : Int) ∧ (2 : Int) ≤ Int.ofNat a0.size ∧ Int.ofNat a0.size ≤ Int.ofNat a0.size) then (f24_F k (a0.extract (2 : Nat) (Int.ofNat a0.size).toNat, ())).bind fun y => L1 ((0 : Int), a0, (6 : Int), false, (0 : Int), Int.ofNat (a0.data.toList.getD (0 : Nat) (OfNat.ofNat (0 : Nat))).toNat == (2 : Int), y.1, []) else none else L1 ((0 : Int), a0, (2 : Int), false, (0 : Int), Int.ofNat (a0.data.toList.getD (0 : Nat) (OfNat.ofNat (0 : Nat))).toNat == (2 : Int), (0 : Int), []) else none
def f109_F (k : Nat) : ByteArray × Unit → Option (((Bool × Int × List (ByteArray × ByteArray × Unit) × Unit) × Int × Unit) × Unit) := f109_raw0 k (f109_L1 k)
theorem f109_eq (k : Nat) (x : Kd.dens f109_pk) : runF (f109_C k) f109_A Tryd.f9.ntmps f109_code Tryd.f9.results.toList f109_pk f109_rk (encs f109_pk x) (decR f109_pk f109_rk) = f109_F k x := by
  show _ = f109_raw0 k (f109_L1 k) x
  rw [show f109_L1 k = f109_at1 k k from (f109_law1 k k).symm]
  obtain ⟨a0, ⟨⟩⟩ := x
  kernel_rfl
theorem f109_fits : fitsC Tryd.prog Tryd.f9.ntmps f109_code = true := by kernel_rfl
theorem f109_ctr (k : Nat) : Ctr Tryd.prog k 9 (mk f109_pk f109_rk f109_F) :=
  fun_law (C := f109_C k) (phi_ok (ctr_cons (f24_ctr k) (ctr_cons (f106_ctr k) ctr_nil))) prog_mixed (A := f109_A) (fn := Tryd.f9) (code := f109_code) (by kernel_rfl) (by kernel_rfl) (by kernel_rfl) f109_fits (fun x y h => (f109_eq k x).trans h)
abbrev f103_pk : List Kd := [.view nodeT, .view .str]
abbrev f103_rk : Kd := .view .bool
noncomputable def f103_code : Code := Tryd.f3.body.getD .skip
noncomputable def f103_C (k : Nat) : Ctx := { P := Tryd.prog, Φ := phi [(5, mk f9_pk f9_rk f9_F), (6, mk f106_pk f106_rk f106_F), (7, mk f23_pk f23_rk f23_F), (8, mk f12_pk f12_rk f12_F), (9, mk f109_pk f109_rk f109_F), (10, mk f110_pk f110_rk f110_F), (11, mk f17_pk f17_rk f17_F), (12, mk f18_pk f18_rk f18_F), (13, mk f19_pk f19_rk f19_F), (14, mk f114_pk f114_rk f114_F)], k := k, live := fun _ => [48] }
def f103_A : Nat → Ann := fun _ => ⟨[], []⟩
def f103_raw0 (k : Nat) : (Bool × Int × List (ByteArray × ByteArray × Unit) × Unit) × ByteArray × Unit → Option (Bool × Unit)
  | ((a0, a1, a2, ()), a3, ()) => (f9_F k ()).bind fun y => bif !y.1 then (f9_F k ()).bind fun y => some (y.1, ()) else bif decide ((1000 : Int) < Int.ofNat a3.size) then (f9_F k ()).bind fun y => some (y.1, ()) else (f106_F k ((a0, a1, a2, ()), ())).bind fun y => (f12_F k ((a0, a1, a2, ()), ())).bind fun y_1 => (f23_F k ((y_1.1.1, y_1.1.2.1, y_1.1.2.2.1, ()), ())).bind fun y_2 => (f109_F k (a3, ())).bind fun y_3 => (f110_F k (a3, ())).bind fun y_4 => bif ByteArray.toList y.1.1 == ByteArray.toList y_2.1.1 then bif y.1.2.1 == y_2.1.2.1 then (f18_F k ((y_4.1.1.1, y_4.1.1.2.1, y_4.1.1.2.2.1, ()), ())).bind fun y => (f17_F k ((y_3.1.1.1, y_3.1.1.2.1, y_3.1.1.2.2.1, ()), (y.1.1, y.1.2.1, y.1.2.2.1, ()), ())).bind fun y => bif y.1 then bif y_3.1.2.1 == y_4.1.2.1 then (f12_F k ((a0, a1, a2, ()), ())).bind fun y => (f19_F k ((y.1.1, y.1.2.1, y.1.2.2.1, ()), ())).bind fun y => (f114_F k ((a0, a1, a2, ()), ())).bind fun y_5 => some (y.1 == y_5.1, ()) else some (false, ()) else some (false, ()) else some (false, ()) else some (false, ())
def f103_F (k : Nat) : (Bool × Int × List (ByteArray × ByteArray × Unit) × Unit) × ByteArray × Unit → Option (Bool × Unit) := f103_raw0 k
theorem f103_eq (k : Nat) (x : Kd.dens f103_pk) : runF (f103_C k) f103_A Tryd.f3.ntmps f103_code Tryd.f3.results.toList f103_pk f103_rk (encs f103_pk x) (decR f103_pk f103_rk) = f103_F k x := by
  show _ = f103_raw0 k x
  obtain ⟨⟨a0, ⟨a1, ⟨a2, ⟨⟩⟩⟩⟩, ⟨a3, ⟨⟩⟩⟩ := x
  kernel_rfl
theorem f103_fits : fitsC Tryd.prog Tryd.f3.ntmps f103_code = true := by kernel_rfl
theorem f103_ctr (k : Nat) : Ctr Tryd.prog k 3 (mk f103_pk f103_rk f103_F) :=
  fun_law (C := f103_C k) (phi_ok (ctr_cons (f9_ctr k) (ctr_cons (f106_ctr k) (ctr_cons (f23_ctr k) (ctr_cons (f12_ctr k) (ctr_cons (f109_ctr k) (ctr_cons (f110_ctr k) (ctr_cons (f17_ctr k) (ctr_cons (f18_ctr k) (ctr_cons (f19_ctr k) (ctr_cons (f114_ctr k) ctr_nil))))))))))) prog_mixed (A := f103_A) (fn := Tryd.f3) (code := f103_code) (by kernel_rfl) (by kernel_rfl) (by kernel_rfl) f103_fits (fun x y h => (f103_eq k x).trans h)
abbrev f104_pk : List Kd := [.view nodeT, .view .str]
abbrev f104_rk : Kd := .view .bool
noncomputable def f104_code : Code := Tryd.f4.body.getD .skip
noncomputable def f104_C (k : Nat) : Ctx := { P := Tryd.prog, Φ := phi [(5, mk f9_pk f9_rk f9_F), (7, mk f23_pk f23_rk f23_F), (8, mk f12_pk f12_rk f12_F), (10, mk f110_pk f110_rk f110_F), (11, mk f17_pk f17_rk f17_F), (12, mk f18_pk f18_rk f18_F), (13, mk f19_pk f19_rk f19_F)], k := k, live := fun _ => [48] }
def f104_A : Nat → Ann := fun _ => ⟨[], []⟩
def f104_raw0 (k : Nat) : (Bool × Int × List (ByteArray × ByteArray × Unit) × Unit) × ByteArray × Unit → Option (Bool × Unit)
  | ((a0, a1, a2, ()), a3, ()) => (f9_F k ()).bind fun y => bif !y.1 then some (false, ()) else (f12_F k ((a0, a1, a2, ()), ())).bind fun y => (f23_F k ((y.1.1, y.1.2.1, y.1.2.2.1, ()), ())).bind fun y => bif y.1.2.1 == (0 : Int) then (f110_F k (y.1.1, ())).bind fun y_1 => bif y_1.1.2.1 != (0 : Int) then some (false, ()) else (f18_F k ((y_1.1.1.1, y_1.1.1.2.1, y_1.1.1.2.2.1, ()), ())).bind fun y_2 => (f17_F k ((y_2.1.1, y_2.1.2.1, y_2.1.2.2.1, ()), (a0, a1, a2, ()), ())).bind fun y_3 => bif !y_3.1 then some (false, ()) else bif Int.ofNat (ByteArray.size y.1.1) != (256 : Int) then some (false, ()) else (f19_F k ((y_1.1.1.1, y_1.1.1.2.1, y_1.1.1.2.2.1, ()), ())).bind fun y => bif decide ((256 : Int) < y.1) then some (false, ()) else (f110_F k (a3, ())).bind fun y => bif y.1.2.1 != (0 : Int) then bif y.1.2.1 == (2 : Int) then some (Int.ofNat (List.length y.1.1.2.2.1) == (0 : Int), ()) else some (false, ()) else (f23_F k ((y.1.1.1, y.1.1.2.1, y.1.1.2.2.1, ()), ())).bind fun y => bif y.1.2.1 == (0 : Int) then some (ByteArray.toList y.1.1 == a3.toList, ()) else some (false, ()) else bif !ByteArray.toList y.1.1 == (ByteArray.mk #[]).toList then some (false, ()) else (f110_F k (a3, ())).bind fun y => bif y.1.2.1 != (0 : Int) then bif y.1.2.1 == (2 : Int) then some (Int.ofNat (List.length y.1.1.2.2.1) == (0 : Int), ()) else some (false, ()) else (f23_F k ((y.1.1.1, y.1.1.2.1, y.1.1.2.2.1, ()), ())).bind fun y => bif y.1.2.1 == (0 : Int) then some (ByteArray.toList y.1.1 == a3.toList, ()) else some (false, ())
def f104_F (k : Nat) : (Bool × Int × List (ByteArray × ByteArray × Unit) × Unit) × ByteArray × Unit → Option (Bool × Unit) := f104_raw0 k
theorem f104_eq (k : Nat) (x : Kd.dens f104_pk) : runF (f104_C k) f104_A Tryd.f4.ntmps f104_code Tryd.f4.results.toList f104_pk f104_rk (encs f104_pk x) (decR f104_pk f104_rk) = f104_F k x := by
  show _ = f104_raw0 k x
  obtain ⟨⟨a0, ⟨a1, ⟨a2, ⟨⟩⟩⟩⟩, ⟨a3, ⟨⟩⟩⟩ := x
  kernel_rfl
theorem f104_fits : fitsC Tryd.prog Tryd.f4.ntmps f104_code = true := by kernel_rfl
theorem f104_ctr (k : Nat) : Ctr Tryd.prog k 4 (mk f104_pk f104_rk f104_F) :=
  fun_law (C := f104_C k) (phi_ok (ctr_cons (f9_ctr k) (ctr_cons (f23_ctr k) (ctr_cons (f12_ctr k) (ctr_cons (f110_ctr k) (ctr_cons (f17_ctr k) (ctr_cons (f18_ctr k) (ctr_cons (f19_ctr k) ctr_nil)))))))) prog_mixed (A := f104_A) (fn := Tryd.f4) (code := f104_code) (by kernel_rfl) (by kernel_rfl) (by kernel_rfl) f104_fits (fun x y h => (f104_eq k x).trans h)
end Go.Sh
