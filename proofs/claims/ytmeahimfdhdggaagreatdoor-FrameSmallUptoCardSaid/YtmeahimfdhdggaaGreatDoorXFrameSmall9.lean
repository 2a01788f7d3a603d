/-
  What the row needs, part 9.
-/
import Derived.Test.YtmeahimfdhdggaaGreatDoorXFrameSmall8
set_option linter.unusedSimpArgs false
set_option linter.unusedVariables false
set_option linter.unusedSectionVars false
namespace Go.Sh
open Go Go.Proofs
def f46_S1 : f46_T1 → St
  | (v0, v1, v2, v3, v4, v5, v6, v7) => St.mk (envOf [(nat_lit 58, avI v0), (nat_lit 59, avI v1), (nat_lit 57, avL v2), (nat_lit 2, avI v3), (nat_lit 10, avI v4), (nat_lit 12, AV.own (nat_lit 8192))]) (tblOf [(nat_lit 0, RS.live (Res.box [AV.val (PV.sl (Ty.int IntKind.u8) v5), avI v6])), (nat_lit 8192, RS.live (Res.arr (Ty.int IntKind.i64) v7 false))])
def f46_raw1 (k : Nat) (L1 : f46_K1) : f46_K1
  | (v0, v1, v2, v3, v4, v5, v6, v7) => bif decide (v1 < v0) then bif decide ((0 : Int) ≤ v1 ∧ v1 < Int.ofNat v2.length) then (f89_F k (v2.getD v1.toNat 0, IntKind.i64.wrap (v3 - v4), ())).bind fun y => bif !y.1 then some (([], 12, ()), (v5, v6, ()), ()) else bif decide ((0 : Int) ≤ v4) then bif decide (v7.length + [IntKind.i64.wrap (v2.getD v1.toNat 0 * (2 : Int) ^ min v4.toNat (64 : Nat))].length < (2147483648 : Nat)) then L1 (v0, IntKind.i64.wrap (v1 + (1 : Int)), v2, v3, v4, v5, v6, v7 ++ [IntKind.i64.wrap (v2.getD v1.toNat 0 * (2 : Int) ^ min v4.toNat (64 : Nat))]) else none else none else none else some ((v7, 0, ()), (v5, v6, ()), ())
def f46_L1 (k : Nat) : f46_K1 := iter (fun L1 => f46_raw1 k L1) k
noncomputable def f46_at1 (k : Nat) (n : Nat) (v : f46_T1) : Option ((List Int × Int × Unit) × (List Int × Int × Unit) × Unit) :=
  loopAt (f46_C k) f46_A [0] [1, 1, 1, 1, 1, 1, 1, 1, 0, 1, 0] [] (cdX Tryz.f46) (lvX (f46_C k) Tryz.f46 f46_pk f46_rk [AV.bx (nat_lit 0) (nat_lit 0)] [[]]) n (f46_S1 v)
noncomputable def f46_raw0 (k : Nat) (L1 : f46_K1) : (List Int × Int × Unit) × Int × Int × Unit → Option ((List Int × Int × Unit) × (List Int × Int × Unit) × Unit)
  | ((a0, a1, ()), a2, a3, ()) => (f86_F k (a2, a3, ())).bind fun y => bif !y.1 then some (([], 1, ()), (a0, a1, ()), ()) else (f87_F k (((a0, a1, ()), 0, ()), a3, ())).bind fun y => bif y.2.1.2.1 != (0 : Int) then some (([], y.2.1.2.1, ()), (y.2.1.1.1, y.2.1.1.2.1, ()), ()) else (f88_F k (((y.2.1.1.1, y.2.1.1.2.1, ()), y.2.1.2.1, ()), y.1.1, a2, IntKind.i64.wrap (a3 - y.1.2.1), ())).bind fun y_1 => bif y_1.2.1.2.1 != (0 : Int) then some (([], y_1.2.1.2.1, ()), (y_1.2.1.1.1, y_1.2.1.1.2.1, ()), ()) else L1 (Int.ofNat (List.length y_1.1), (0 : Int), y_1.1, a3, y.1.2.1, y_1.2.1.1.1, y_1.2.1.1.2.1, [])
noncomputable def f46_F (k : Nat) := f46_raw0 k (f46_L1 k)
theorem f46_law1 (k : Nat) : ∀ n, f46_at1 k n = iter (fun L1 => f46_raw1 k L1) n :=
  iter_law (fun v => by kernel_rfl) (fun n v => by
    show f46_at1 k (n + 1) v = f46_raw1 k (f46_at1 k n) v
    obtain ⟨v0, v1, v2, v3, v4, v5, v6, v7⟩ := v
    kernel_rfl)
theorem f46_eq (k : Nat) (x : Kd.dens f46_pk) : runX (f46_C k) f46_A Tryz.f46 f46_pk f46_rk x = f46_F k x := by
  show _ = f46_raw0 k (f46_L1 k) x
  rw [show f46_L1 k = f46_at1 k k from (f46_law1 k k).symm]
  obtain ⟨⟨a0, ⟨a1, ⟨⟩⟩⟩, ⟨a2, ⟨a3, ⟨⟩⟩⟩⟩ := x
  kernel_rfl
theorem f46_ctr (k : Nat) : Ctr Tryz.prog k 46 (mk f46_pk f46_rk f46_F) :=
  lawX (fn := Tryz.f46) (phi_ok (ctr_cons (f86_ctr k) (ctr_cons (f87_ctr k) (ctr_cons (f88_ctr k) (ctr_cons (f89_ctr k) ctr_nil))))) (by kernel_rfl) (by kernel_rfl) (by kernel_rfl) (by kernel_rfl) (f46_eq k)
noncomputable abbrev f46_m : Nat × Callee := (46, mk f46_pk f46_rk f46_F)
abbrev f47_pk : List Kd := [.box [.view (.sl (.int .u8)), .view (.int .i64)]]
abbrev f47_rk : Kd := .view (.int .i64)
noncomputable def f47_C (k : Nat) := cxX k [f90_m]
def f47_A : Nat → Ann := fun id => bif Nat.beq id 5 then ⟨[4, 3, 0], []⟩ else ⟨[], []⟩
abbrev f47_T1 := Int × Int × List Int × Int
abbrev f47_K1 := f47_T1 → Option (Int × (List Int × Int × Unit) × Unit)
def f47_S1 : f47_T1 → St
  | (v0, v1, v2, v3) => St.mk (envOf [(nat_lit 4, avI v0), (nat_lit 3, avI v1), (nat_lit 0, AV.bx (nat_lit 0) (nat_lit 0))]) (tblOf [(nat_lit 0, RS.live (Res.box [AV.val (PV.sl (Ty.int IntKind.u8) v2), avI v3]))])
def f47_raw1 (k : Nat) (L1 : f47_K1) : f47_K1
  | (v0, v1, v2, v3) => bif decide (v0 < v1) then (f90_F k ((v2, v3, ()), v0, ())).bind fun y => bif y.1 == (1 : Int) then some (2, (y.2.1.1, y.2.1.2.1, ()), ()) else L1 (IntKind.i64.wrap (v0 + (1 : Int)), v1, y.2.1.1, y.2.1.2.1) else some (0, (v2, v1, ()), ())
def f47_L1 (k : Nat) : f47_K1 := iter (fun L1 => f47_raw1 k L1) k
noncomputable def f47_at1 (k : Nat) (n : Nat) (v : f47_T1) : Option (Int × (List Int × Int × Unit) × Unit) :=
  loopAt (f47_C k) f47_A [0] [1, 1, 1, 0, 1, 0] [] (cdX Tryz.f47) (lvX (f47_C k) Tryz.f47 f47_pk f47_rk [AV.bx (nat_lit 0) (nat_lit 0)] [[]]) n (f47_S1 v)
def f47_raw0 (k : Nat) (L1 : f47_K1) : (List Int × Int × Unit) × Unit → Option (Int × (List Int × Int × Unit) × Unit)
  | ((a0, a1, ()), ()) => L1 (a1, IntKind.i64.wrap (Int.ofNat (BitVec.ofInt (64 : Nat) (IntKind.i64.wrap (a1 + (7 : Int))) &&& ~~~BitVec.ofInt (64 : Nat) (7 : Int)).toNat), a0, a1)
def f47_F (k : Nat) := f47_raw0 k (f47_L1 k)
theorem f47_law1 (k : Nat) : ∀ n, f47_at1 k n = iter (fun L1 => f47_raw1 k L1) n :=
  iter_law (fun v => by kernel_rfl) (fun n v => by
    show f47_at1 k (n + 1) v = f47_raw1 k (f47_at1 k n) v
    obtain ⟨v0, v1, v2, v3⟩ := v
    kernel_rfl)
theorem f47_eq (k : Nat) (x : Kd.dens f47_pk) : runX (f47_C k) f47_A Tryz.f47 f47_pk f47_rk x = f47_F k x := by
  show _ = f47_raw0 k (f47_L1 k) x
  rw [show f47_L1 k = f47_at1 k k from (f47_law1 k k).symm]
  obtain ⟨⟨a0, ⟨a1, ⟨⟩⟩⟩, ⟨⟩⟩ := x
  kernel_rfl
theorem f47_ctr (k : Nat) : Ctr Tryz.prog k 47 (mk f47_pk f47_rk f47_F) :=
  lawX (fn := Tryz.f47) (phi_ok (ctr_cons (f90_ctr k) ctr_nil)) (by kernel_rfl) (by kernel_rfl) (by kernel_rfl) (by kernel_rfl) (f47_eq k)
noncomputable abbrev f47_m : Nat × Callee := (47, mk f47_pk f47_rk f47_F)
abbrev f1048_pk : List Kd := [.box [.view (.sl (.int .u8)), .ref [.view (.sl (.int .u8)), .view (.int .i64)], .view (.int .i64)], .view (.int .i64), .fn 33]
abbrev f1048_rk : Kd := .tup []
noncomputable def f1048_C (k : Nat) := cxX k [f51_m, f82_m, f83_m, f33_m]
def f1048_raw0 (k : Nat) : (List Int × (List Int × Int × Unit) × Int × Unit) × Int × Unit × Unit → Option (Unit × (List Int × (List Int × Int × Unit) × Int × Unit) × Unit)
  | ((a0, (a1, a2, ()), a3, ()), a4, (), ()) => (f51_F k ((a1, a2, ()), ())).bind fun y => (f83_F k ((a0, (y.2.1.1, y.2.1.2.1, ()), a3, ()), a4, ())).bind fun y_1 => bif y_1.2.1.2.2.1 != (0 : Int) then (f82_F k ((y_1.2.1.1, (y_1.2.1.2.1.1, y_1.2.1.2.1.2.1, ()), y_1.2.1.2.2.1, ()), true, 16, ())).bind fun y => some ((), (y.2.1.1, (y.2.1.2.1.1, y.2.1.2.1.2.1, ()), y.2.1.2.2.1, ()), ()) else bif decide ((0 : Int) ≤ (0 : Int) ∧ (0 : Int) ≤ IntKind.i64.wrap (Int.tdiv y.1 (8 : Int)) ∧ IntKind.i64.wrap (Int.tdiv y.1 (8 : Int)) ≤ Int.ofNat (List.length y_1.2.1.1)) then (f33_F k (List.drop (0 : Nat) (List.take (IntKind.i64.wrap (Int.tdiv y.1 (8 : Int))).toNat y_1.2.1.1), ())).bind fun y => (f82_F k ((y_1.2.1.1, (y_1.2.1.2.1.1, y_1.2.1.2.1.2.1, ()), y_1.2.1.2.2.1, ()), y_1.1 == y.1, 16, ())).bind fun y => some ((), (y.2.1.1, (y.2.1.2.1.1, y.2.1.2.1.2.1, ()), y.2.1.2.2.1, ()), ()) else none
def f1048_F (k : Nat) := f1048_raw0 k
theorem f1048_eq (k : Nat) (x : Kd.dens f1048_pk) : runX (f1048_C k) nA Tryz.f48 f1048_pk f1048_rk x = f1048_F k x := by
  show _ = f1048_raw0 k x
  obtain ⟨⟨a0, ⟨⟨a1, ⟨a2, ⟨⟩⟩⟩, ⟨a3, ⟨⟩⟩⟩⟩, ⟨a4, ⟨⟨⟩, ⟨⟩⟩⟩⟩ := x
  kernel_rfl
theorem f1048_ctr (k : Nat) : Ctr Tryz.prog k 48 (mk f1048_pk f1048_rk f1048_F) :=
  lawX (fn := Tryz.f48) (phi_ok (ctr_cons (f51_ctr k) (ctr_cons (f82_ctr k) (ctr_cons (f83_ctr k) (ctr_cons (f33_ctr k) ctr_nil))))) (by kernel_rfl) (by kernel_rfl) (by kernel_rfl) (by kernel_rfl) (f1048_eq k)
noncomputable abbrev f1048_m : Nat × Callee := (48, mk f1048_pk f1048_rk f1048_F)
abbrev f49_pk : List Kd := [.view (.sl (.int .i64)), .view (.sl (.int .i64)), .view (.int .i64)]
abbrev f49_rk : Kd := .tup [.view (.sl (.cx .f64)), .view (.int .i64)]
noncomputable def f49_C (k : Nat) := cxX k [f59_m, f91_m]
def f49_A : Nat → Ann := fun id => bif Nat.beq id 7 then ⟨[36, 37, 35, 1, 2, 8, 9], []⟩ else ⟨[], []⟩
abbrev f49_T1 := Int × Int × List Int × List Int × Int × List Int × List Int
abbrev f49_K1 := f49_T1 → Option ((List (Nat × Nat) × Int × Unit) × Unit)
def f49_S1 : f49_T1 → St
  | (v0, v1, v2, v3, v4, v5, v6) => St.mk (envOf [(nat_lit 36, avI v0), (nat_lit 37, avI v1), (nat_lit 35, avL v2), (nat_lit 1, avL v3), (nat_lit 2, avI v4), (nat_lit 8, AV.own (nat_lit 8192)), (nat_lit 9, AV.own (nat_lit 8193))]) (tblOf [(nat_lit 8192, RS.live (Res.arr (Ty.int IntKind.i64) v5 false)), (nat_lit 8193, RS.live (Res.arr (Ty.int IntKind.i64) v6 false))])
def f49_raw1 (k : Nat) (L1 : f49_K1) : f49_K1
  | (v0, v1, v2, v3, v4, v5, v6) => bif decide (v1 < v0) then bif decide ((0 : Int) ≤ v1 ∧ v1 < Int.ofNat v2.length) then bif decide ((0 : Int) ≤ v1 ∧ v1 < Int.ofNat v3.length) then bif decide ((if v3.getD v1.toNat 0 < v2.getD v1.toNat 0 then v3.getD v1.toNat 0 else v2.getD v1.toNat 0) < (-67108864 : Int)) then some (([], 12, ()), ()) else bif decide ((67108864 : Int) < if v2.getD v1.toNat 0 < v3.getD v1.toNat 0 then v3.getD v1.toNat 0 else v2.getD v1.toNat 0) then some (([], 12, ()), ()) else bif v4 == (0 : Int) then bif decide ((0 : Int) ≤ v1 ∧ v1 < Int.ofNat v5.length) then bif decide (v1.toNat < v5.length) then bif decide ((0 : Int) ≤ v1 ∧ v1 < Int.ofNat v6.length) then bif decide (v1.toNat < v6.length) then L1 (v0, IntKind.i64.wrap (v1 + (1 : Int)), v2, v3, v4, v5.set v1.toNat (v2.getD v1.toNat 0), v6.set v1.toNat (v3.getD v1.toNat 0)) else none else none else none else none else bif v4 == (8 : Int) then bif decide ((0 : Int) ≤ v1 ∧ v1 < Int.ofNat v5.length) then bif decide (v1.toNat < v5.length) then bif decide ((0 : Int) ≤ v1 ∧ v1 < Int.ofNat v6.length) then bif decide (v1.toNat < v6.length) then L1 (v0, IntKind.i64.wrap (v1 + (1 : Int)), v2, v3, v4, v5.set v1.toNat (v2.getD v1.toNat 0), v6.set v1.toNat (IntKind.i64.wrap (v2.getD v1.toNat 0 - v3.getD v1.toNat 0))) else none else none else none else none else bif v4 == (9 : Int) then bif decide ((0 : Int) ≤ v1 ∧ v1 < Int.ofNat v5.length) then bif decide (v1.toNat < v5.length) then bif decide ((0 : Int) ≤ v1 ∧ v1 < Int.ofNat v6.length) then bif decide (v1.toNat < v6.length) then L1 (v0, IntKind.i64.wrap (v1 + (1 : Int)), v2, v3, v4, v5.set v1.toNat (IntKind.i64.wrap (v2.getD v1.toNat 0 + v3.getD v1.toNat 0)), v6.set v1.toNat (v3.getD v1.toNat 0)) else none else none else none else none else bif v4 == (10 : Int) then bif decide ((0 : Int) ≤ v1 ∧ v1 < Int.ofNat v5.length) then bif decide (v1.toNat < v5.length) then bif decide ((0 : Int) ≤ v1 ∧ v1 < Int.ofNat v6.length) then bif decide (v1.toNat < v6.length) then L1 (v0, IntKind.i64.wrap (v1 + (1 : Int)), v2, v3, v4, v5.set v1.toNat ((IntKind.i64.wrap (IntKind.i64.wrap (Int.ofNat (BitVec.ofInt (64 : Nat) (IntKind.i64.wrap (v2.getD v1.toNat 0 * (2 : Int))) ||| BitVec.ofInt (64 : Nat) (IntKind.i64.wrap (Int.ofNat (BitVec.ofInt (64 : Nat) (v3.getD v1.toNat 0) &&& BitVec.ofInt (64 : Nat) (1 : Int)).toNat))).toNat) + v3.getD v1.toNat 0)).fdiv (2 : Int)), v6.set v1.toNat ((IntKind.i64.wrap (IntKind.i64.wrap (Int.ofNat (BitVec.ofInt (64 : Nat) (IntKind.i64.wrap (v2.getD v1.toNat 0 * (2 : Int))) ||| BitVec.ofInt (64 : Nat) (IntKind.i64.wrap (Int.ofNat (BitVec.ofInt (64 : Nat) (v3.getD v1.toNat 0) &&& BitVec.ofInt (64 : Nat) (1 : Int)).toNat))).toNat) - v3.getD v1.toNat 0)).fdiv (2 : Int))) else none else none else none else none else L1 (v0, IntKind.i64.wrap (v1 + (1 : Int)), v2, v3, v4, v5, v6) else none else none else (f59_F k (v5, v6, ())).bind fun y => some ((y.1.1, y.1.2.1, ()), ())
def f49_L1 (k : Nat) : f49_K1 := iter (fun L1 => f49_raw1 k L1) k
noncomputable def f49_at1 (k : Nat) (n : Nat) (v : f49_T1) : Option ((List (Nat × Nat) × Int × Unit) × Unit) :=
  loopAt (f49_C k) f49_A [] [1, 1, 1, 0, 1, 0] [] (cdX Tryz.f49) (lvX (f49_C k) Tryz.f49 f49_pk f49_rk [] []) n (f49_S1 v)
def f49_raw0 (k : Nat) (L1 : f49_K1) : List Int × List Int × Int × Unit → Option ((List (Nat × Nat) × Int × Unit) × Unit)
  | (a0, a1, a2, ()) => (f91_F k (a2, ())).bind fun y => bif !y.1 then some (([], 1, ()), ()) else bif Int.ofNat a0.length != Int.ofNat a1.length then some (([], 1, ()), ()) else bif decide ((8192 : Int) < Int.ofNat a0.length) then some (([], 14, ()), ()) else bif decide ((0 : Int) ≤ Int.ofNat a0.length ∧ Int.ofNat a0.length ≤ Int.ofNat a0.length ∧ Int.ofNat a0.length < (4294967296 : Int)) then bif decide ((0 : Int) ≤ Int.ofNat a0.length ∧ Int.ofNat a0.length ≤ Int.ofNat a0.length ∧ Int.ofNat a0.length < (4294967296 : Int)) then L1 (Int.ofNat a0.length, (0 : Int), a0, a1, a2, List.replicate (Int.ofNat a0.length).toNat (0 : Int), List.replicate (Int.ofNat a0.length).toNat (0 : Int)) else none else none
def f49_F (k : Nat) := f49_raw0 k (f49_L1 k)
theorem f49_law1 (k : Nat) : ∀ n, f49_at1 k n = iter (fun L1 => f49_raw1 k L1) n :=
  iter_law (fun v => by kernel_rfl) (fun n v => by
    show f49_at1 k (n + 1) v = f49_raw1 k (f49_at1 k n) v
    obtain ⟨v0, v1, v2, v3, v4, v5, v6⟩ := v
    kernel_rfl)
theorem f49_eq (k : Nat) (x : Kd.dens f49_pk) : runX (f49_C k) f49_A Tryz.f49 f49_pk f49_rk x = f49_F k x := by
  show _ = f49_raw0 k (f49_L1 k) x
  rw [show f49_L1 k = f49_at1 k k from (f49_law1 k k).symm]
  obtain ⟨a0, ⟨a1, ⟨a2, ⟨⟩⟩⟩⟩ := x
  kernel_rfl
theorem f49_ctr (k : Nat) : Ctr Tryz.prog k 49 (mk f49_pk f49_rk f49_F) :=
  lawX (fn := Tryz.f49) (phi_ok (ctr_cons (f59_ctr k) (ctr_cons (f91_ctr k) ctr_nil))) (by kernel_rfl) (by kernel_rfl) (by kernel_rfl) (by kernel_rfl) (f49_eq k)
noncomputable abbrev f49_m : Nat × Callee := (49, mk f49_pk f49_rk f49_F)
abbrev f50_pk : List Kd := [.view (.sl (.cx .f64))]
abbrev f50_rk : Kd := .tup [.view (.sl (.int .i64)), .view (.sl (.int .i64)), .view (.int .i64)]
noncomputable def f50_C (k : Nat) := cxX k [f61_m]
def f50_raw0 (k : Nat) : List (Nat × Nat) × Unit → Option ((List Int × List Int × Int × Unit) × Unit)
  | (a0, ()) => (f61_F k (a0, 0, ())).bind fun y => some ((y.1.1, y.1.2.1, y.1.2.2.1, ()), ())
def f50_F (k : Nat) := f50_raw0 k
theorem f50_eq (k : Nat) (x : Kd.dens f50_pk) : runX (f50_C k) nA Tryz.f50 f50_pk f50_rk x = f50_F k x := by
  show _ = f50_raw0 k x
  obtain ⟨a0, ⟨⟩⟩ := x
  kernel_rfl
theorem f50_ctr (k : Nat) : Ctr Tryz.prog k 50 (mk f50_pk f50_rk f50_F) :=
  lawX (fn := Tryz.f50) (phi_ok (ctr_cons (f61_ctr k) ctr_nil)) (by kernel_rfl) (by kernel_rfl) (by kernel_rfl) (by kernel_rfl) (f50_eq k)
noncomputable abbrev f50_m : Nat × Callee := (50, mk f50_pk f50_rk f50_F)
abbrev f18_pk : List Kd := [.view shapeT, .view (.sl (.int .u8))]
abbrev f18_rk : Kd := .tup [.view frameT, .view (.int .i64), .view (.int .i64)]
noncomputable def f18_C (k : Nat) := cxX k [f11_m, f23_m, f30_m, f44_m, f45_m, f46_m, f47_m, f1048_m, f49_m, f50_m, f51_m]
def f18_A : Nat → Ann := fun id => bif Nat.beq id 10 then ⟨[55, 56, 54, 8, 11, 4, 12, 2, 9], [.cell 12 1 ((Ty.int IntKind.i64).sl)]⟩ else ⟨[], []⟩
abbrev f18_T1 := Int × Int × List Int × Int × Int × List Int × Int × List Int × Int × Int × Int × List (List Int) × Int × Int × Int
abbrev f18_K1 := f18_T1 → Option (((Int × List (List Int) × Unit) × Int × Int × Unit) × Unit)
def f18_S1 : f18_T1 → St
  | (v0, v1, v2, v3, v4, v5, v6, v7, v8, v9, v10, v11, v12, v13, v14) => St.mk (envOf [(nat_lit 55, avI v0), (nat_lit 56, avI v1), (nat_lit 54, avL v2), (nat_lit 8, AV.bx (nat_lit 8192) (nat_lit 0)), (nat_lit 11, avI v3), (nat_lit 4, AV.bx (nat_lit 8194) (nat_lit 0)), (nat_lit 12, AV.bx (nat_lit 8195) (nat_lit 0)), (nat_lit 2, AV.bx (nat_lit 8197) (nat_lit 0)), (nat_lit 9, avI v4)]) (tblOf [(nat_lit 8192, RS.live (Res.box [AV.val (PV.sl (Ty.int IntKind.u8) v5), AV.bx (nat_lit 8193) (nat_lit 0), avI v6])), (nat_lit 8193, RS.live (Res.box [AV.val (PV.sl (Ty.int IntKind.u8) v7), avI v8])), (nat_lit 8194, RS.live (Res.box [avI v9, AV.val (PV.v (Value.slice none (0 : Nat) (0 : Nat)))])), (nat_lit 8195, RS.live (Res.box [avI v10, AV.own (nat_lit 8196)])), (nat_lit 8196, RS.live (Res.arr (Ty.int IntKind.i64).sl v11 false)), (nat_lit 8197, RS.live (Res.box [avI v12, avI v13, avI v14]))])
noncomputable def f18_raw1 (k : Nat) (L1 : f18_K1) : f18_K1
  | (v0, v1, v2, v3, v4, v5, v6, v7, v8, v9, v10, v11, v12, v13, v14) => bif decide (v1 < v0) then bif decide ((0 : Int) ≤ v1 ∧ v1 < Int.ofNat v2.length) then (f46_F k ((v7, v8, ()), v3, v2.getD v1.toNat 0, ())).bind fun y => bif y.1.2.1 != (0 : Int) then some ((((0 : Int), [], ()), 0, y.1.2.1, ()), ()) else bif decide (v11.length + [y.1.1].length < (2147483648 : Nat)) then L1 (v0, IntKind.i64.wrap (v1 + (1 : Int)), v2, v3, v4, v5, v6, y.2.1.1, y.2.1.2.1, v9, v10, v11 ++ [y.1.1], v12, v13, v14) else none else none else (f47_F k ((v7, v8, ()), ())).bind fun y => (f1048_F k ((v5, (y.2.1.1, y.2.1.2.1, ()), y.1, ()), 16, (), ())).bind fun y => bif y.2.1.2.2.1 != (0 : Int) then some ((((0 : Int), [], ()), 0, y.2.1.2.2.1, ()), ()) else bif decide ((1 : Int) < v12) then bif v4 == (1 : Int) then bif decide ((0 : Int) ≤ (0 : Int) ∧ (0 : Int) < Int.ofNat v11.length) then bif decide ((0 : Nat) < v11.length) then bif decide ((0 : Int) ≤ (1 : Int) ∧ (1 : Int) < Int.ofNat v11.length) then bif decide ((1 : Nat) < v11.length) then (f49_F k (v11.getD (0 : Nat) [], v11.getD (1 : Nat) [], 0, ())).bind fun y_1 => bif y_1.1.2.1 != (0 : Int) then some ((((0 : Int), [], ()), 0, y_1.1.2.1, ()), ()) else (f50_F k (y_1.1.1, ())).bind fun y_2 => bif y_2.1.2.2.1 != (0 : Int) then some ((((0 : Int), [], ()), 0, y_2.1.2.2.1, ()), ()) else (f23_F k ((v12, v13, v14, ()), (v10, [y_2.1.1, y_2.1.2.1], ()), ())).bind fun y_3 => bif y_3.1 != (0 : Int) then some ((((0 : Int), [], ()), 0, y_3.1, ()), ()) else (f51_F k ((y.2.1.2.1.1, y.2.1.2.1.2.1, ()), ())).bind fun y => some (((v10, [y_2.1.1, y_2.1.2.1], ()), IntKind.i64.wrap (Int.tdiv y.1 (8 : Int)), 0, ()), ()) else none else none else none else none else bif decide ((0 : Int) ≤ (0 : Int) ∧ (0 : Int) < Int.ofNat v11.length) then bif decide ((0 : Nat) < v11.length) then bif decide ((0 : Int) ≤ (1 : Int) ∧ (1 : Int) < Int.ofNat v11.length) then bif decide ((1 : Nat) < v11.length) then (f49_F k (v11.getD (0 : Nat) [], v11.getD (1 : Nat) [], v4, ())).bind fun y_1 => bif y_1.1.2.1 != (0 : Int) then some ((((0 : Int), [], ()), 0, y_1.1.2.1, ()), ()) else (f50_F k (y_1.1.1, ())).bind fun y_2 => bif y_2.1.2.2.1 != (0 : Int) then some ((((0 : Int), [], ()), 0, y_2.1.2.2.1, ()), ()) else (f23_F k ((v12, v13, v14, ()), (v10, [y_2.1.1, y_2.1.2.1], ()), ())).bind fun y_3 => bif y_3.1 != (0 : Int) then some ((((0 : Int), [], ()), 0, y_3.1, ()), ()) else (f51_F k ((y.2.1.2.1.1, y.2.1.2.1.2.1, ()), ())).bind fun y => some (((v10, [y_2.1.1, y_2.1.2.1], ()), IntKind.i64.wrap (Int.tdiv y.1 (8 : Int)), 0, ()), ()) else none else none else none else none else (f23_F k ((v12, v13, v14, ()), (v10, v11, ()), ())).bind fun y_1 => bif y_1.1 != (0 : Int) then some ((((0 : Int), [], ()), 0, y_1.1, ()), ()) else (f51_F k ((y.2.1.2.1.1, y.2.1.2.1.2.1, ()), ())).bind fun y => some (((v10, v11, ()), IntKind.i64.wrap (Int.tdiv y.1 (8 : Int)), 0, ()), ())
noncomputable def f18_L1 (k : Nat) : f18_K1 := iter (fun L1 => f18_raw1 k L1) k
noncomputable def f18_at1 (k : Nat) (n : Nat) (v : f18_T1) : Option (((Int × List (List Int) × Unit) × Int × Int × Unit) × Unit) :=
  loopAt (f18_C k) f18_A [] [1, 1, 1, 1, 1, 1, 0, 1, 0] [] (cdX Tryz.f18) (lvX (f18_C k) Tryz.f18 f18_pk f18_rk [] []) n (f18_S1 v)
def f18_raw0 (k : Nat) (L1 : f18_K1) : (Int × Int × Int × Unit) × List Int × Unit → Option (((Int × List (List Int) × Unit) × Int × Int × Unit) × Unit)
  | ((a0, a1, a2, ()), a3, ()) => (f11_F k ((a0, a1, a2, ()), ())).bind fun y => bif y.1 != (0 : Int) then some ((((0 : Int), [], ()), 0, y.1, ()), ()) else (f44_F k (a3, ())).bind fun y => (f45_F k ((a3, (y.1.1, y.1.2.1, ()), 0, ()), (a0, a1, a2, ()), ())).bind fun y => bif y.2.1.2.2.1 != (0 : Int) then some ((((0 : Int), [], ()), 0, y.2.1.2.2.1, ()), ()) else (f30_F k ((a0, a1, a2, ()), y.1.1, ())).bind fun y_1 => L1 (Int.ofNat (List.length y_1.1), (0 : Int), y_1.1, y.1.2.2.1, y.1.1, y.2.1.1, y.2.1.2.2.1, y.2.1.2.1.1, y.2.1.2.1.2.1, (0 : Int), y.1.2.1, [], a0, a1, a2)
noncomputable def f18_F (k : Nat) := f18_raw0 k (f18_L1 k)
theorem f18_law1 (k : Nat) : ∀ n, f18_at1 k n = iter (fun L1 => f18_raw1 k L1) n :=
  iter_law (fun v => by kernel_rfl) (fun n v => by
    show f18_at1 k (n + 1) v = f18_raw1 k (f18_at1 k n) v
    obtain ⟨v0, v1, v2, v3, v4, v5, v6, v7, v8, v9, v10, v11, v12, v13, v14⟩ := v
    kernel_rfl)
theorem f18_eq (k : Nat) (x : Kd.dens f18_pk) : runX (f18_C k) f18_A Tryz.f18 f18_pk f18_rk x = f18_F k x := by
  show _ = f18_raw0 k (f18_L1 k) x
  rw [show f18_L1 k = f18_at1 k k from (f18_law1 k k).symm]
  obtain ⟨⟨a0, ⟨a1, ⟨a2, ⟨⟩⟩⟩⟩, ⟨a3, ⟨⟩⟩⟩ := x
  kernel_rfl
theorem f18_ctr (k : Nat) : Ctr Tryz.prog k 18 (mk f18_pk f18_rk f18_F) :=
  lawX (fn := Tryz.f18) (phi_ok (ctr_cons (f11_ctr k) (ctr_cons (f23_ctr k) (ctr_cons (f30_ctr k) (ctr_cons (f44_ctr k) (ctr_cons (f45_ctr k) (ctr_cons (f46_ctr k) (ctr_cons (f47_ctr k) (ctr_cons (f1048_ctr k) (ctr_cons (f49_ctr k) (ctr_cons (f50_ctr k) (ctr_cons (f51_ctr k) ctr_nil)))))))))))) (by kernel_rfl) (by kernel_rfl) (by kernel_rfl) (by kernel_rfl) (f18_eq k)
noncomputable abbrev f18_m : Nat × Callee := (18, mk f18_pk f18_rk f18_F)
abbrev f10_pk : List Kd := []
abbrev f10_rk : Kd := .view .bool
noncomputable def f10_C (k : Nat) := cxX k [f14_m, f18_m]
noncomputable def f10_raw0 (k : Nat) : Unit → Option (Bool × Unit)
  | () => (f14_F k (((1 : Int), (8 : Int), (44100 : Int), ()), ((0 : Int), [[(5 : Int), (5 : Int), (5 : Int)]], ()), ())).bind fun y => bif y.1.2.1 != (0 : Int) then some (false, ()) else bif Int.ofNat (List.length y.1.1) != (11 : Int) then some (false, ()) else bif decide ((0 : Int) ≤ (0 : Int) ∧ (0 : Int) ≤ (6 : Int) ∧ (6 : Int) ≤ Int.ofNat (List.length y.1.1)) then bif !(ByteArray.mk (List.map (fun n => UInt8.ofNat n.toNat) (List.drop (0 : Nat) (List.take (6 : Nat) y.1.1))).toArray).toList == (ByteArray.mk #[255, 248, 96, 0, 0, 2]).toList then some (false, ()) else (f18_F k (((1 : Int), (8 : Int), (44100 : Int), ()), y.1.1, ())).bind fun y => bif y.1.2.2.1 == (0 : Int) then bif y.1.2.1 == (11 : Int) then bif Int.ofNat (List.length y.1.1.2.1) == (1 : Int) then bif decide ((0 : Int) ≤ (0 : Int) ∧ (0 : Int) < Int.ofNat (List.length y.1.1.2.1)) then bif Int.ofNat (List.length (List.getD y.1.1.2.1 (0 : Nat) [])) == (3 : Int) then bif decide ((0 : Int) ≤ (0 : Int) ∧ (0 : Int) < Int.ofNat (List.length y.1.1.2.1)) then bif decide ((0 : Int) ≤ (2 : Int) ∧ (2 : Int) < Int.ofNat (List.length (List.getD y.1.1.2.1 (0 : Nat) []))) then some (List.getD (List.getD y.1.1.2.1 (0 : Nat) []) (2 : Nat) 0 == (5 : Int), ()) else none else none else some (false, ()) else none else some (false, ()) else some (false, ()) else some (false, ()) else none
noncomputable def f10_F (k : Nat) := f10_raw0 k
theorem f10_eq (k : Nat) (x : Kd.dens f10_pk) : runX (f10_C k) nA Tryz.f10 f10_pk f10_rk x = f10_F k x := by
  show _ = f10_raw0 k x
  obtain ⟨⟩ := x
  kernel_rfl
theorem f10_ctr (k : Nat) : Ctr Tryz.prog k 10 (mk f10_pk f10_rk f10_F) :=
  lawX (fn := Tryz.f10) (phi_ok (ctr_cons (f14_ctr k) (ctr_cons (f18_ctr k) ctr_nil))) (by kernel_rfl) (by kernel_rfl) (by kernel_rfl) (by kernel_rfl) (f10_eq k)
noncomputable abbrev f10_m : Nat × Callee := (10, mk f10_pk f10_rk f10_F)
abbrev f15_pk : List Kd := [.view frameT]
abbrev f15_rk : Kd := .view frameT
noncomputable def f15_C (k : Nat) := cxX k []
def f15_A : Nat → Ann := fun id => bif Nat.beq id 3 then ⟨[4, 1, 3, 2], [.cell 3 1 ((Ty.int IntKind.i64).sl)]⟩ else ⟨[], []⟩
abbrev f15_T1 := Int × Int × List (List Int) × Int × List (List Int) × Int
abbrev f15_K1 := f15_T1 → Option ((Int × List (List Int) × Unit) × Unit)
def f15_S1 : f15_T1 → St
  | (v0, v1, v2, v3, v4, v5) => St.mk (envOf [(nat_lit 4, avI v0), (nat_lit 1, AV.bx (nat_lit 8192) (nat_lit 0)), (nat_lit 3, AV.bx (nat_lit 8193) (nat_lit 0)), (nat_lit 2, AV.bx (nat_lit 8195) (nat_lit 0))]) (tblOf [(nat_lit 8192, RS.live (Res.box [avI v1, AV.val (PV.sl (Ty.int IntKind.i64).sl v2)])), (nat_lit 8193, RS.live (Res.box [avI v3, AV.own (nat_lit 8194)])), (nat_lit 8194, RS.live (Res.arr (Ty.int IntKind.i64).sl v4 false)), (nat_lit 8195, RS.live (Res.box [avI v5, AV.val (PV.v (Value.slice none (0 : Nat) (0 : Nat)))]))])
def f15_raw1 (k : Nat) (L1 : f15_K1) : f15_K1
  | (v0, v1, v2, v3, v4, v5) => bif decide (v0 < Int.ofNat v2.length) then bif decide ((0 : Int) ≤ v0 ∧ v0 < Int.ofNat v2.length) then bif decide ((0 : Int) ≤ (0 : Int) ∧ (0 : Int) ≤ IntKind.i64.wrap (Int.ofNat (List.length (v2.getD v0.toNat [])) + (2 : Int)) ∧ IntKind.i64.wrap (Int.ofNat (List.length (v2.getD v0.toNat [])) + (2 : Int)) < (4294967296 : Int)) then bif decide ((0 : Int) ≤ v0 ∧ v0 < Int.ofNat v2.length) then bif decide ((0 : Nat) + List.length (v2.getD v0.toNat []) < (2147483648 : Nat)) then bif decide (v4.length + [List.replicate (0 : Nat) (0 : Int) ++ v2.getD v0.toNat []].length < (2147483648 : Nat)) then L1 (IntKind.i64.wrap (v0 + (1 : Int)), v1, v2, v3, v4 ++ [List.replicate (0 : Nat) (0 : Int) ++ v2.getD v0.toNat []], v5) else none else none else none else none else none else some ((v3, v4, ()), ())
def f15_L1 (k : Nat) : f15_K1 := iter (fun L1 => f15_raw1 k L1) k
noncomputable def f15_at1 (k : Nat) (n : Nat) (v : f15_T1) : Option ((Int × List (List Int) × Unit) × Unit) :=
  loopAt (f15_C k) f15_A [] [1, 1, 0, 1, 0] [] (cdX Tryz.f15) (lvX (f15_C k) Tryz.f15 f15_pk f15_rk [] []) n (f15_S1 v)
def f15_raw0 (k : Nat) (L1 : f15_K1) : (Int × List (List Int) × Unit) × Unit → Option ((Int × List (List Int) × Unit) × Unit)
  | ((a0, a1, ()), ()) => L1 ((0 : Int), a0, a1, a0, [], (0 : Int))
def f15_F (k : Nat) := f15_raw0 k (f15_L1 k)
theorem f15_law1 (k : Nat) : ∀ n, f15_at1 k n = iter (fun L1 => f15_raw1 k L1) n :=
  iter_law (fun v => by kernel_rfl) (fun n v => by
    show f15_at1 k (n + 1) v = f15_raw1 k (f15_at1 k n) v
    obtain ⟨v0, v1, v2, v3, v4, v5⟩ := v
    kernel_rfl)
theorem f15_eq (k : Nat) (x : Kd.dens f15_pk) : runX (f15_C k) f15_A Tryz.f15 f15_pk f15_rk x = f15_F k x := by
  show _ = f15_raw0 k (f15_L1 k) x
  rw [show f15_L1 k = f15_at1 k k from (f15_law1 k k).symm]
  obtain ⟨⟨a0, ⟨a1, ⟨⟩⟩⟩, ⟨⟩⟩ := x
  kernel_rfl
theorem f15_ctr (k : Nat) : Ctr Tryz.prog k 15 (mk f15_pk f15_rk f15_F) :=
  lawX (fn := Tryz.f15) (phi_ok ctr_nil) (by kernel_rfl) (by kernel_rfl) (by kernel_rfl) (by kernel_rfl) (f15_eq k)
noncomputable abbrev f15_m : Nat × Callee := (15, mk f15_pk f15_rk f15_F)
abbrev f7_pk : List Kd := [.view shapeT, .view frameT]
abbrev f7_rk : Kd := .view .bool
noncomputable def f7_C (k : Nat) := cxX k [f10_m, f14_m, f15_m]
def f7_A : Nat → Ann := fun id => bif Nat.beq id 9 then ⟨[9, 2, 8, 7, 5], [.cell 8 1 ((Ty.int IntKind.i64).sl)]⟩ else ⟨[], []⟩
abbrev f7_T1 := Int × Int × Int × Int × Int × Int × List (List Int) × List Int
abbrev f7_K1 := f7_T1 → Option (Bool × Unit)
def f7_S1 : f7_T1 → St
  | (v0, v1, v2, v3, v4, v5, v6, v7) => St.mk (envOf [(nat_lit 9, avI v0), (nat_lit 2, AV.bx (nat_lit 8192) (nat_lit 0)), (nat_lit 8, AV.bx (nat_lit 8193) (nat_lit 0)), (nat_lit 7, avI v1), (nat_lit 5, AV.own (nat_lit 8195))]) (tblOf [(nat_lit 8192, RS.live (Res.box [avI v2, avI v3, avI v4])), (nat_lit 8193, RS.live (Res.box [avI v5, AV.own (nat_lit 8194)])), (nat_lit 8194, RS.live (Res.arr (Ty.int IntKind.i64).sl v6 false)), (nat_lit 8195, RS.live (Res.arr (Ty.int IntKind.u8) v7 false))])
noncomputable def f7_raw1 (k : Nat) (L1 : f7_K1) : f7_K1
  | (v0, v1, v2, v3, v4, v5, v6, v7) => bif decide (v0 < v2) then bif decide ((0 : Int) ≤ v1 ∧ v1 ≤ v1 ∧ v1 < (4294967296 : Int)) then bif decide (v6.length + [List.replicate v1.toNat (0 : Int)].length < (2147483648 : Nat)) then L1 (IntKind.i64.wrap (v0 + (1 : Int)), v1, v2, v3, v4, v5, v6 ++ [List.replicate v1.toNat (0 : Int)], v7) else none else none else (f15_F k ((v5, v6, ()), ())).bind fun y => (f14_F k ((v2, v3, v4, ()), (y.1.1, y.1.2.1, ()), ())).bind fun y => bif y.1.2.1 == (0 : Int) then bif decide (Int.ofNat (List.length y.1.1) < (40 : Int)) then some (decide (Int.ofNat v7.length ≤ IntKind.i64.wrap (IntKind.i64.wrap ((IntKind.i64.wrap (IntKind.i64.wrap (IntKind.i64.wrap (v1 * v2) * IntKind.i64.wrap (v3 + (1 : Int))) + (7 : Int))).tdiv (8 : Int)) + (24 : Int))), ()) else some (false, ()) else some (false, ())
noncomputable def f7_L1 (k : Nat) : f7_K1 := iter (fun L1 => f7_raw1 k L1) k
noncomputable def f7_at1 (k : Nat) (n : Nat) (v : f7_T1) : Option (Bool × Unit) :=
  loopAt (f7_C k) f7_A [] [1, 1, 1, 1, 1, 1, 0, 1, 0] [] (cdX Tryz.f7) (lvX (f7_C k) Tryz.f7 f7_pk f7_rk [] []) n (f7_S1 v)
noncomputable def f7_raw0 (k : Nat) (L1 : f7_K1) : (Int × Int × Int × Unit) × (Int × List (List Int) × Unit) × Unit → Option (Bool × Unit)
  | ((a0, a1, a2, ()), (a3, a4, ()), ()) => (f10_F k ()).bind fun y => bif !y.1 then some (false, ()) else (f15_F k ((a3, a4, ()), ())).bind fun y => (f14_F k ((a0, a1, a2, ()), (y.1.1, y.1.2.1, ()), ())).bind fun y => bif y.1.2.1 != (0 : Int) then some (true, ()) else bif decide ((0 : Int) ≤ (0 : Int) ∧ (0 : Int) < Int.ofNat a4.length) then L1 ((0 : Int), Int.ofNat (List.length (a4.getD (0 : Nat) [])), a0, a1, a2, a3, [], y.1.1) else none
noncomputable def f7_F (k : Nat) := f7_raw0 k (f7_L1 k)
theorem f7_law1 (k : Nat) : ∀ n, f7_at1 k n = iter (fun L1 => f7_raw1 k L1) n :=
  iter_law (fun v => by kernel_rfl) (fun n v => by
    show f7_at1 k (n + 1) v = f7_raw1 k (f7_at1 k n) v
    obtain ⟨v0, v1, v2, v3, v4, v5, v6, v7⟩ := v
    kernel_rfl)
theorem f7_eq (k : Nat) (x : Kd.dens f7_pk) : runX (f7_C k) f7_A Tryz.f7 f7_pk f7_rk x = f7_F k x := by
  show _ = f7_raw0 k (f7_L1 k) x
  rw [show f7_L1 k = f7_at1 k k from (f7_law1 k k).symm]
  obtain ⟨⟨a0, ⟨a1, ⟨a2, ⟨⟩⟩⟩⟩, ⟨⟨a3, ⟨a4, ⟨⟩⟩⟩, ⟨⟩⟩⟩ := x
  kernel_rfl
theorem f7_ctr (k : Nat) : Ctr Tryz.prog k 7 (mk f7_pk f7_rk f7_F) :=
  lawX (fn := Tryz.f7) (phi_ok (ctr_cons (f10_ctr k) (ctr_cons (f14_ctr k) (ctr_cons (f15_ctr k) ctr_nil)))) (by kernel_rfl) (by kernel_rfl) (by kernel_rfl) (by kernel_rfl) (f7_eq k)
noncomputable abbrev f7_m : Nat × Callee := (7, mk f7_pk f7_rk f7_F)
end Go.Sh
