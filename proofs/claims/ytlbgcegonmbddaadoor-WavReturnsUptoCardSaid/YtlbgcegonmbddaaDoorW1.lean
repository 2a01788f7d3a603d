/-
  What the functions compute.
-/
import Derived.Test.YtlbgcegonmbddaaDoorM18
import Derived.Test.YtlbgcegonmbddaaDoorProg
set_option linter.unusedVariables false
namespace Go.Sh
open Go Go.Proofs
abbrev shapeT : Ty := .pair (.int .i64) (.pair (.int .i64) (.pair (.int .i64) .unit))
abbrev trackT : Ty := .pair shapeT (.pair (.sl .str) (.pair (.sl (.sl (.int .i64))) .unit))
abbrev frameT : Ty := .pair (.int .i64) (.pair (.sl (.sl (.int .i64))) .unit)
abbrev soundT : Ty := .pair shapeT (.pair (.sl .str) (.pair (.sl (.int .u8)) .unit))
abbrev cuttingT : Ty := .pair trackT (.pair (.sl (.int .u8)) (.pair (.int .i64) (.pair (.int .i64) .unit)))
theorem prog_mixed : Tryd.prog.follows .mixedOrders = true := by kernel_rfl
abbrev f43_pk : List Kd := [.view shapeT]
abbrev f43_rk : Kd := .view .bool
noncomputable def f43_code : Code := Tryd.f43.body.getD .skip
noncomputable def f43_C (k : Nat) : Ctx := { P := Tryd.prog, Φ := phi [], k := k, live := fun _ => [] }
def f43_A : Nat → Ann := fun _ => ⟨[], []⟩
def f43_raw0 (k : Nat) : (Int × Int × Int × Unit) × Unit → Option (Bool × Unit)
  | ((a0, a1, a2, ()), ()) => bif a0 == (1 : Int) then bif decide ((4 : Int) ≤ a1) then bif decide (a1 ≤ (24 : Int)) then bif decide ((1 : Int) ≤ a2) then some (decide (a2 ≤ (655350 : Int)), ()) else some (false, ()) else some (false, ()) else some (false, ()) else bif a0 == (2 : Int) then bif decide ((4 : Int) ≤ a1) then bif decide (a1 ≤ (24 : Int)) then bif decide ((1 : Int) ≤ a2) then some (decide (a2 ≤ (655350 : Int)), ()) else some (false, ()) else some (false, ()) else some (false, ()) else some (false, ())
def f43_F (k : Nat) : (Int × Int × Int × Unit) × Unit → Option (Bool × Unit) := f43_raw0 k
theorem f43_eq (k : Nat) (x : Kd.dens f43_pk) : runF (f43_C k) f43_A Tryd.f43.ntmps f43_code Tryd.f43.results.toList f43_pk f43_rk (encs f43_pk x) (decR f43_pk f43_rk) = f43_F k x := by
  show _ = f43_raw0 k x
  obtain ⟨⟨a0, ⟨a1, ⟨a2, ⟨⟩⟩⟩⟩, ⟨⟩⟩ := x
  kernel_rfl
theorem f43_fits : fitsC Tryd.prog Tryd.f43.ntmps f43_code = true := by kernel_rfl
theorem f43_ctr (k : Nat) : Ctr Tryd.prog k 43 (mk f43_pk f43_rk f43_F) :=
  fun_law (C := f43_C k) (phi_ok ctr_nil) prog_mixed (A := f43_A) (fn := Tryd.f43) (code := f43_code) (by kernel_rfl) (by kernel_rfl) (by kernel_rfl) f43_fits (fun x y h => (f43_eq k x).trans h)
abbrev f44_pk : List Kd := [.view .str]
abbrev f44_rk : Kd := .view .bool
noncomputable def f44_code : Code := Tryd.f44.body.getD .skip
noncomputable def f44_C (k : Nat) : Ctx := { P := Tryd.prog, Φ := phi [], k := k, live := fun _ => [] }
def f44_A : Nat → Ann := fun id => bif Nat.beq id 9 then ⟨[3, 0], []⟩ else bif Nat.beq id 4 then ⟨[3, 0], []⟩ else ⟨[], []⟩
def f44_S2 : Int × ByteArray → St
  | (v0, v1) => St.mk (envOf [(nat_lit 3, AV.val (PV.v (Value.int IntKind.i64 v0))), (nat_lit 0, AV.val (PV.v (Value.string v1)))]) (tblOf [])
def f44_raw2 (k : Nat) (L2 : Int × ByteArray → Option (Bool × Unit)) : Int × ByteArray → Option (Bool × Unit)
  | (v0, v1) => bif decide (v0 < Int.ofNat v1.size) then bif decide ((0 : Int) ≤ v0 ∧ v0 < Int.ofNat v1.size) then bif decide (Int.ofNat (v1.data.toList.getD v0.toNat (OfNat.ofNat (0 : Nat))).toNat < (33 : Int)) then some (false, ()) else bif decide ((0 : Int) ≤ v0 ∧ v0 < Int.ofNat v1.size) then bif decide ((126 : Int) < Int.ofNat (v1.data.toList.getD v0.toNat (OfNat.ofNat (0 : Nat))).toNat) then some (false, ()) else L2 (IntKind.i64.wrap (v0 + (1 : Int)), v1) else none else none else some (true, ())
def f44_L2 (k : Nat) : Int × ByteArray → Option (Bool × Unit) := iter (fun L2 => f44_raw2 k L2) k
noncomputable def f44_at2 (k : Nat) (n : Nat) (v : Int × ByteArray) : Option (Bool × Unit) :=
  loopAt (f44_C k) f44_A [] [1, 1, 1, 1, 1, 0, 1, 0] [] f44_code (leaveK (f44_C k) Tryd.f44.results.toList f44_pk [] f44_rk (decR f44_pk f44_rk)) n (f44_S2 v)
def f44_S1 : Int × ByteArray → St
  | (v0, v1) => St.mk (envOf [(nat_lit 3, AV.val (PV.v (Value.int IntKind.i64 v0))), (nat_lit 0, AV.val (PV.v (Value.string v1)))]) (tblOf [])
def f44_raw1 (k : Nat) (L2 : Int × ByteArray → Option (Bool × Unit)) (L1 : Int × ByteArray → Option (Bool × Unit)) : Int × ByteArray → Option (Bool × Unit)
  | (v0, v1) => bif decide (v0 < Int.ofNat v1.size) then bif decide ((0 : Int) ≤ v0 ∧ v0 < Int.ofNat v1.size) then bif decide ((97 : Int) ≤ Int.ofNat (v1.data.toList.getD v0.toNat (OfNat.ofNat (0 : Nat))).toNat) then bif decide ((0 : Int) ≤ v0 ∧ v0 < Int.ofNat v1.size) then bif decide (Int.ofNat (v1.data.toList.getD v0.toNat (OfNat.ofNat (0 : Nat))).toNat ≤ (122 : Int)) then L1 (IntKind.i64.wrap (v0 + (1 : Int)), v1) else bif v0 == (0 : Int) then some (false, ()) else bif decide (Int.ofNat v1.size ≤ IntKind.i64.wrap (v0 + (1 : Int))) then some (false, ()) else bif decide ((0 : Int) ≤ v0 ∧ v0 < Int.ofNat v1.size) then bif Int.ofNat (v1.data.toList.getD v0.toNat (OfNat.ofNat (0 : Nat))).toNat != (61 : Int) then some (false, ()) else L2 (IntKind.i64.wrap (v0 + (1 : Int)), v1) else none else none else bif v0 == (0 : Int) then some (false, ()) else bif decide (Int.ofNat v1.size ≤ IntKind.i64.wrap (v0 + (1 : Int))) then some (false, ()) else bif decide ((0 : Int) ≤ v0 ∧ v0 < Int.ofNat v1.size) then bif Int.ofNat (v1.data.toList.getD v0.toNat (OfNat.ofNat (0 : Nat))).toNat != (61 : Int) then some (false, ()) else L2 (IntKind.i64.wrap (v0 + (1 : Int)), v1) else none else none else bif v0 == (0 : Int) then some (false, ()) else bif decide (Int.ofNat v1.size ≤ IntKind.i64.wrap (v0 + (1 : Int))) then some (false, ()) else bif decide ((0 : Int) ≤ v0 ∧ v0 < Int.ofNat v1.size) then bif Int.ofNat (v1.data.toList.getD v0.toNat (OfNat.ofNat (0 : Nat))).toNat != (61 : Int) then some (false, ()) else L2 (IntKind.i64.wrap (v0 + (1 : Int)), v1) else none
def f44_L1 (k : Nat) : Int × ByteArray → Option (Bool × Unit) := iter (fun L1 => f44_raw1 k (f44_L2 k) L1) k
noncomputable def f44_at1 (k : Nat) (n : Nat) (v : Int × ByteArray) : Option (Bool × Unit) :=
  loopAt (f44_C k) f44_A [] [1, 1, 1, 0, 0] [] f44_code (leaveK (f44_C k) Tryd.f44.results.toList f44_pk [] f44_rk (decR f44_pk f44_rk)) n (f44_S1 v)
def f44_raw0 (k : Nat) (L1 : Int × ByteArray → Option (Bool × Unit)) : ByteArray × Unit → Option (Bool × Unit)
  | (a0, ()) => bif decide (Int.ofNat a0.size < (3 : Int)) then some (false, ()) else bif decide ((12 : Int) < Int.ofNat a0.size) then some (false, ()) else L1 ((0 : Int), a0)
def f44_F (k : Nat) : ByteArray × Unit → Option (Bool × Unit) := f44_raw0 k (f44_L1 k)
theorem f44_law2 (k : Nat) : ∀ n, f44_at2 k n = iter (fun L2 => f44_raw2 k L2) n :=
  iter_law (fun v => by kernel_rfl) (fun n v => by
    show f44_at2 k (n + 1) v = f44_raw2 k (f44_at2 k n) v
    obtain ⟨v0, v1⟩ := v
    kernel_rfl)
theorem f44_law1 (k : Nat) : ∀ n, f44_at1 k n = iter (fun L1 => f44_raw1 k (f44_L2 k) L1) n :=
  iter_law (fun v => by kernel_rfl) (fun n v => by
    show f44_at1 k (n + 1) v = f44_raw1 k (f44_L2 k) (f44_at1 k n) v
    rw [show (f44_L2 k) = f44_at2 k k from (f44_law2 k k).symm]
    obtain ⟨v0, v1⟩ := v
    kernel_rfl)
theorem f44_eq (k : Nat) (x : Kd.dens f44_pk) : runF (f44_C k) f44_A Tryd.f44.ntmps f44_code Tryd.f44.results.toList f44_pk f44_rk (encs f44_pk x) (decR f44_pk f44_rk) = f44_F k x := by
  show _ = f44_raw0 k (f44_L1 k) x
  rw [show f44_L1 k = f44_at1 k k from (f44_law1 k k).symm]
  obtain ⟨a0, ⟨⟩⟩ := x
  kernel_rfl
theorem f44_fits : fitsC Tryd.prog Tryd.f44.ntmps f44_code = true := by kernel_rfl
theorem f44_ctr (k : Nat) : Ctr Tryd.prog k 44 (mk f44_pk f44_rk f44_F) :=
  fun_law (C := f44_C k) (phi_ok ctr_nil) prog_mixed (A := f44_A) (fn := Tryd.f44) (code := f44_code) (by kernel_rfl) (by kernel_rfl) (by kernel_rfl) f44_fits (fun x y h => (f44_eq k x).trans h)
abbrev f45_pk : List Kd := [.view (.int .i64), .view (.int .i64)]
abbrev f45_rk : Kd := .view .bool
noncomputable def f45_code : Code := Tryd.f45.body.getD .skip
noncomputable def f45_C (k : Nat) : Ctx := { P := Tryd.prog, Φ := phi [], k := k, live := fun _ => [] }
def f45_A : Nat → Ann := fun _ => ⟨[], []⟩
def f45_raw0 (k : Nat) : Int × Int × Unit → Option (Bool × Unit)
  | (a0, a1, ()) => bif a1 == (0 : Int) then some (a0 == (0 : Int), ()) else bif decide ((0 : Int) ≤ IntKind.i64.wrap (a1 - (1 : Int))) then bif decide (IntKind.i64.wrap ((0 : Int) - IntKind.i64.wrap ((1 : Int) * (2 : Int) ^ min (IntKind.i64.wrap (a1 - (1 : Int))).toNat (64 : Nat))) ≤ a0) then bif decide ((0 : Int) ≤ IntKind.i64.wrap (a1 - (1 : Int))) then some (decide (a0 < IntKind.i64.wrap ((1 : Int) * (2 : Int) ^ min (IntKind.i64.wrap (a1 - (1 : Int))).toNat (64 : Nat))), ()) else none else some (false, ()) else none
def f45_F (k : Nat) : Int × Int × Unit → Option (Bool × Unit) := f45_raw0 k
theorem f45_eq (k : Nat) (x : Kd.dens f45_pk) : runF (f45_C k) f45_A Tryd.f45.ntmps f45_code Tryd.f45.results.toList f45_pk f45_rk (encs f45_pk x) (decR f45_pk f45_rk) = f45_F k x := by
  show _ = f45_raw0 k x
  obtain ⟨a0, ⟨a1, ⟨⟩⟩⟩ := x
  kernel_rfl
theorem f45_fits : fitsC Tryd.prog Tryd.f45.ntmps f45_code = true := by kernel_rfl
theorem f45_ctr (k : Nat) : Ctr Tryd.prog k 45 (mk f45_pk f45_rk f45_F) :=
  fun_law (C := f45_C k) (phi_ok ctr_nil) prog_mixed (A := f45_A) (fn := Tryd.f45) (code := f45_code) (by kernel_rfl) (by kernel_rfl) (by kernel_rfl) f45_fits (fun x y h => (f45_eq k x).trans h)
abbrev f26_pk : List Kd := [.view trackT]
abbrev f26_rk : Kd := .view (.int .i64)
noncomputable def f26_code : Code := Tryd.f26.body.getD .skip
noncomputable def f26_C (k : Nat) : Ctx := { P := Tryd.prog, Φ := phi [(43, mk f43_pk f43_rk f43_F), (44, mk f44_pk f44_rk f44_F), (45, mk f45_pk f45_rk f45_F)], k := k, live := fun _ => [] }
def f26_A : Nat → Ann := fun id => bif Nat.beq id 19 then ⟨[6, 1, 5], []⟩ else bif Nat.beq id 16 then ⟨[5, 1], []⟩ else bif Nat.beq id 11 then ⟨[4, 1], []⟩ else bif Nat.beq id 6 then ⟨[3, 1], []⟩ else ⟨[], []⟩
def f26_S4 : Int × Int × Int × Int × Int × List ByteArray × List (List Int) → St
  | (v0, v1, v2, v3, v4, v5, v6) => St.mk (envOf [(nat_lit 6, AV.val (PV.v (Value.int IntKind.i64 v0))), (nat_lit 1, AV.bx (nat_lit 8192) (nat_lit 0)), (nat_lit 5, AV.val (PV.v (Value.int IntKind.i64 v1)))]) (tblOf [(nat_lit 8192, RS.live (Res.box [AV.val (PV.v (Value.int IntKind.i64 v2)), AV.val (PV.v (Value.int IntKind.i64 v3)), AV.val (PV.v (Value.int IntKind.i64 v4)), AV.val (PV.sl Ty.str v5), AV.val (PV.sl (Ty.int IntKind.i64).sl v6)]))])
def f26_raw4 (k : Nat) (L3 : Int × Int × Int × Int × List ByteArray × List (List Int) → Option (Int × Unit)) (L4 : Int × Int × Int × Int × Int × List ByteArray × List (List Int) → Option (Int × Unit)) : Int × Int × Int × Int × Int × List ByteArray × List (List Int) → Option (Int × Unit)
  | (v0, v1, v2, v3, v4, v5, v6) => bif decide ((0 : Int) ≤ v1 ∧ v1 < Int.ofNat v6.length) then bif decide (v0 < Int.ofNat (List.length (v6.getD v1.toNat []))) then bif decide ((0 : Int) ≤ v1 ∧ v1 < Int.ofNat v6.length) then bif decide ((0 : Int) ≤ v0 ∧ v0 < Int.ofNat (List.length (v6.getD v1.toNat []))) then (f45_F k (List.getD (v6.getD v1.toNat []) v0.toNat (OfNat.ofNat (0 : Nat)), v3, ())).bind fun y => bif !y.1 then some (OfNat.ofNat (12 : Nat), ()) else L4 (IntKind.i64.wrap (v0 + (1 : Int)), v1, v2, v3, v4, v5, v6) else none else none else L3 (IntKind.i64.wrap (v1 + (1 : Int)), v2, v3, v4, v5, v6) else none
def f26_L4 (k : Nat) (L3 : Int × Int × Int × Int × List ByteArray × List (List Int) → Option (Int × Unit)) : Int × Int × Int × Int × Int × List ByteArray × List (List Int) → Option (Int × Unit) := iter (fun L4 => f26_raw4 k L3 L4) k
noncomputable def f26_at4 (k : Nat) (n3 : Nat) (n : Nat) (v : Int × Int × Int × Int × Int × List ByteArray × List (List Int)) : Option (Int × Unit) :=
  loopAt (f26_C k) f26_A [] [1, 1, 1, 1, 1, 0, 1, 0, 0, 1, 0, 0, 1, 0] [n3] f26_code (leaveK (f26_C k) Tryd.f26.results.toList f26_pk [] f26_rk (decR f26_pk f26_rk)) n (f26_S4 v)
def f26_S3 : Int × Int × Int × Int × List ByteArray × List (List Int) → St
  | (v0, v1, v2, v3, v4, v5) => St.mk (envOf [(nat_lit 5, AV.val (PV.v (Value.int IntKind.i64 v0))), (nat_lit 1, AV.bx (nat_lit 8192) (nat_lit 0))]) (tblOf [(nat_lit 8192, RS.live (Res.box [AV.val (PV.v (Value.int IntKind.i64 v1)), AV.val (PV.v (Value.int IntKind.i64 v2)), AV.val (PV.v (Value.int IntKind.i64 v3)), AV.val (PV.sl Ty.str v4), AV.val (PV.sl (Ty.int IntKind.i64).sl v5)]))])
def f26_raw3 (k : Nat) (L4 : Int × Int × Int × Int × Int × List ByteArray × List (List Int) → Option (Int × Unit)) (L3 : Int × Int × Int × Int × List ByteArray × List (List Int) → Option (Int × Unit)) : Int × Int × Int × Int × List ByteArray × List (List Int) → Option (Int × Unit)
  | (v0, v1, v2, v3, v4, v5) => bif decide (v0 < Int.ofNat v5.length) then L4 ((0 : Int), v0, v1, v2, v3, v4, v5) else some (OfNat.ofNat (0 : Nat), ())
def f26_L3 (k : Nat) : Int × Int × Int × Int × List ByteArray × List (List Int) → Option (Int × Unit) := iter (fun L3 => f26_raw3 k (f26_L4 k L3) L3) k
noncomputable def f26_at3 (k : Nat) (n : Nat) (v : Int × Int × Int × Int × List ByteArray × List (List Int)) : Option (Int × Unit) :=
  loopAt (f26_C k) f26_A [] [1, 1, 1, 1, 1, 0, 1, 0] [] f26_code (leaveK (f26_C k) Tryd.f26.results.toList f26_pk [] f26_rk (decR f26_pk f26_rk)) n (f26_S3 v)
def f26_S2 : Int × Int × Int × Int × List ByteArray × List (List Int) → St
  | (v0, v1, v2, v3, v4, v5) => St.mk (envOf [(nat_lit 4, AV.val (PV.v (Value.int IntKind.i64 v0))), (nat_lit 1, AV.bx (nat_lit 8192) (nat_lit 0))]) (tblOf [(nat_lit 8192, RS.live (Res.box [AV.val (PV.v (Value.int IntKind.i64 v1)), AV.val (PV.v (Value.int IntKind.i64 v2)), AV.val (PV.v (Value.int IntKind.i64 v3)), AV.val (PV.sl Ty.str v4), AV.val (PV.sl (Ty.int IntKind.i64).sl v5)]))])
def f26_raw2 (k : Nat) (L3 : Int × Int × Int × Int × List ByteArray × List (List Int) → Option (Int × Unit)) (L2 : Int × Int × Int × Int × List ByteArray × List (List Int) → Option (Int × Unit)) : Int × Int × Int × Int × List ByteArray × List (List Int) → Option (Int × Unit)
  | (v0, v1, v2, v3, v4, v5) => bif decide (v0 < Int.ofNat v5.length) then bif decide ((0 : Int) ≤ v0 ∧ v0 < Int.ofNat v5.length) then bif decide ((4096 : Int) < Int.ofNat (List.length (v5.getD v0.toNat []))) then some (OfNat.ofNat (1 : Nat), ()) else bif decide ((0 : Int) ≤ v0 ∧ v0 < Int.ofNat v5.length) then bif decide ((0 : Int) ≤ (0 : Int) ∧ (0 : Int) < Int.ofNat v5.length) then bif Int.ofNat (List.length (v5.getD v0.toNat [])) != Int.ofNat (List.length (v5.getD (0 : Nat) [])) then some (OfNat.ofNat (1 : Nat), ()) else L2 (IntKind.i64.wrap (v0 + (1 : Int)), v1, v2, v3, v4, v5) else none else none else none else L3 ((0 : Int), v1, v2, v3, v4, v5)
def f26_L2 (k : Nat) : Int × Int × Int × Int × List ByteArray × List (List Int) → Option (Int × Unit) := iter (fun L2 => f26_raw2 k (f26_L3 k) L2) k
noncomputable def f26_at2 (k : Nat) (n : Nat) (v : Int × Int × Int × Int × List ByteArray × List (List Int)) : Option (Int × Unit) :=
  loopAt (f26_C k) f26_A [] [1, 1, 1, 1, 0, 1, 0] [] f26_code (leaveK (f26_C k) Tryd.f26.results.toList f26_pk [] f26_rk (decR f26_pk f26_rk)) n (f26_S2 v)
def f26_S1 : Int × Int × Int × Int × List ByteArray × List (List Int) → St
  | (v0, v1, v2, v3, v4, v5) => St.mk (envOf [(nat_lit 3, AV.val (PV.v (Value.int IntKind.i64 v0))), (nat_lit 1, AV.bx (nat_lit 8192) (nat_lit 0))]) (tblOf [(nat_lit 8192, RS.live (Res.box [AV.val (PV.v (Value.int IntKind.i64 v1)), AV.val (PV.v (Value.int IntKind.i64 v2)), AV.val (PV.v (Value.int IntKind.i64 v3)), AV.val (PV.sl Ty.str v4), AV.val (PV.sl (Ty.int IntKind.i64).sl v5)]))])
def f26_raw1 (k : Nat) (L2 : Int × Int × Int × Int × List ByteArray × List (List Int) → Option (Int × Unit)) (L1 : Int × Int × Int × Int × List ByteArray × List (List Int) → Option (Int × Unit)) : Int × Int × Int × Int × List ByteArray × List (List Int) → Option (Int × Unit)
  | (v0, v1, v2, v3, v4, v5) => bif decide (v0 < Int.ofNat v4.length) then bif decide ((0 : Int) ≤ v0 ∧ v0 < Int.ofNat v4.length) then (f44_F k (v4.getD v0.toNat (ByteArray.mk #[]), ())).bind fun y => bif !y.1 then some (OfNat.ofNat (1 : Nat), ()) else L1 (IntKind.i64.wrap (v0 + (1 : Int)), v1, v2, v3, v4, v5) else none else L2 ((0 : Int), v1, v2, v3, v4, v5)
def f26_L1 (k : Nat) : Int × Int × Int × Int × List ByteArray × List (List Int) → Option (Int × Unit) := iter (fun L1 => f26_raw1 k (f26_L2 k) L1) k
noncomputable def f26_at1 (k : Nat) (n : Nat) (v : Int × Int × Int × Int × List ByteArray × List (List Int)) : Option (Int × Unit) :=
  loopAt (f26_C k) f26_A [] [1, 1, 1, 0, 1, 0] [] f26_code (leaveK (f26_C k) Tryd.f26.results.toList f26_pk [] f26_rk (decR f26_pk f26_rk)) n (f26_S1 v)
def f26_raw0 (k : Nat) (L1 : Int × Int × Int × Int × List ByteArray × List (List Int) → Option (Int × Unit)) : ((Int × Int × Int × Unit) × List ByteArray × List (List Int) × Unit) × Unit → Option (Int × Unit)
  | (((a0, a1, a2, ()), a3, a4, ()), ()) => (f43_F k ((a0, a1, a2, ()), ())).bind fun y => bif !y.1 then some (OfNat.ofNat (2 : Nat), ()) else bif decide ((8 : Int) < Int.ofNat a3.length) then some (OfNat.ofNat (1 : Nat), ()) else bif Int.ofNat a4.length != a0 then some (OfNat.ofNat (1 : Nat), ()) else L1 ((0 : Int), a0, a1, a2, a3, a4)
def f26_F (k : Nat) : ((Int × Int × Int × Unit) × List ByteArray × List (List Int) × Unit) × Unit → Option (Int × Unit) := f26_raw0 k (f26_L1 k)
theorem f26_law4 (k : Nat) (n3 : Nat) : ∀ n, f26_at4 k n3 n = iter (fun L4 => f26_raw4 k (f26_at3 k n3) L4) n :=
  iter_law (fun v => by kernel_rfl) (fun n v => by
    show f26_at4 k n3 (n + 1) v = f26_raw4 k (f26_at3 k n3) (f26_at4 k n3 n) v
    obtain ⟨v0, v1, v2, v3, v4, v5, v6⟩ := v
    kernel_rfl)
theorem f26_law3 (k : Nat) : ∀ n, f26_at3 k n = iter (fun L3 => f26_raw3 k (f26_L4 k L3) L3) n :=
  iter_law (fun v => by kernel_rfl) (fun n v => by
    show f26_at3 k (n + 1) v = f26_raw3 k (f26_L4 k (f26_at3 k n)) (f26_at3 k n) v
    rw [show (f26_L4 k (f26_at3 k n)) = f26_at4 k n k from (f26_law4 k n k).symm]
    obtain ⟨v0, v1, v2, v3, v4, v5⟩ := v
    kernel_rfl)
theorem f26_law2 (k : Nat) : ∀ n, f26_at2 k n = iter (fun L2 => f26_raw2 k (f26_L3 k) L2) n :=
  iter_law (fun v => by kernel_rfl) (fun n v => by
    show f26_at2 k (n + 1) v = f26_raw2 k (f26_L3 k) (f26_at2 k n) v
    rw [show (f26_L3 k) = f26_at3 k k from (f26_law3 k k).symm]
    obtain ⟨v0, v1, v2, v3, v4, v5⟩ := v
    kernel_rfl)
theorem f26_law1 (k : Nat) : ∀ n, f26_at1 k n = iter (fun L1 => f26_raw1 k (f26_L2 k) L1) n :=
  iter_law (fun v => by kernel_rfl) (fun n v => by
    show f26_at1 k (n + 1) v = f26_raw1 k (f26_L2 k) (f26_at1 k n) v
    rw [show (f26_L2 k) = f26_at2 k k from (f26_law2 k k).symm]
    obtain ⟨v0, v1, v2, v3, v4, v5⟩ := v
    kernel_rfl)
theorem f26_eq (k : Nat) (x : Kd.dens f26_pk) : runF (f26_C k) f26_A Tryd.f26.ntmps f26_code Tryd.f26.results.toList f26_pk f26_rk (encs f26_pk x) (decR f26_pk f26_rk) = f26_F k x := by
  show _ = f26_raw0 k (f26_L1 k) x
  rw [show f26_L1 k = f26_at1 k k from (f26_law1 k k).symm]
  obtain ⟨⟨⟨a0, ⟨a1, ⟨a2, ⟨⟩⟩⟩⟩, ⟨a3, ⟨a4, ⟨⟩⟩⟩⟩, ⟨⟩⟩ := x
  kernel_rfl
theorem f26_fits : fitsC Tryd.prog Tryd.f26.ntmps f26_code = true := by kernel_rfl
theorem f26_ctr (k : Nat) : Ctr Tryd.prog k 26 (mk f26_pk f26_rk f26_F) :=
  fun_law (C := f26_C k) (phi_ok (ctr_cons (f43_ctr k) (ctr_cons (f44_ctr k) (ctr_cons (f45_ctr k) ctr_nil)))) prog_mixed (A := f26_A) (fn := Tryd.f26) (code := f26_code) (by kernel_rfl) (by kernel_rfl) (by kernel_rfl) f26_fits (fun x y h => (f26_eq k x).trans h)
abbrev f46_pk : List Kd := [.view (.int .i64), .view (.int .i64)]
abbrev f46_rk : Kd := .view .str
noncomputable def f46_code : Code := Tryd.f46.body.getD .skip
noncomputable def f46_C (k : Nat) : Ctx := { P := Tryd.prog, Φ := phi [], k := k, live := fun _ => [] }
def f46_A : Nat → Ann := fun id => bif Nat.beq id 3 then ⟨[6, 1, 5, 0], []⟩ else ⟨[], []⟩
def f46_S1 : Int × Int × Int × List Int → St
  | (v0, v1, v2, v3) => St.mk (envOf [(nat_lit 6, AV.val (PV.v (Value.int IntKind.i64 v0))), (nat_lit 1, AV.val (PV.v (Value.int IntKind.i64 v1))), (nat_lit 5, AV.own (nat_lit 8192)), (nat_lit 0, AV.val (PV.v (Value.int IntKind.i64 v2)))]) (tblOf [(nat_lit 8192, RS.live (Res.arr (Ty.int IntKind.u8) v3 false))])
def f46_raw1 (k : Nat) (L1 : Int × Int × Int × List Int → Option (ByteArray × Unit)) : Int × Int × Int × List Int → Option (ByteArray × Unit)
  | (v0, v1, v2, v3) => bif decide (v0 < v1) then bif decide ((0 : Int) ≤ IntKind.i64.wrap ((8 : Int) * v0)) then bif decide ((0 : Int) ≤ v0 ∧ v0 < Int.ofNat v3.length) then bif decide (v0.toNat < v3.length) then L1 (IntKind.i64.wrap (v0 + (1 : Int)), v1, v2, v3.set v0.toNat (IntKind.u8.wrap (v2.fdiv ((2 : Int) ^ min (IntKind.i64.wrap ((8 : Int) * v0)).toNat (64 : Nat))))) else none else none else none else some (ByteArray.mk (List.map (fun n => UInt8.ofNat n.toNat) v3).toArray, ())
def f46_L1 (k : Nat) : Int × Int × Int × List Int → Option (ByteArray × Unit) := iter (fun L1 => f46_raw1 k L1) k
noncomputable def f46_at1 (k : Nat) (n : Nat) (v : Int × Int × Int × List Int) : Option (ByteArray × Unit) :=
  loopAt (f46_C k) f46_A [] [1, 1, 0, 1, 0] [] f46_code (leaveK (f46_C k) Tryd.f46.results.toList f46_pk [] f46_rk (decR f46_pk f46_rk)) n (f46_S1 v)
def f46_raw0 (k : Nat) (L1 : Int × Int × Int × List Int → Option (ByteArray × Unit)) : Int × Int × Unit → Option (ByteArray × Unit)
  | (a0, a1, ()) => bif decide ((0 : Int) ≤ a1 ∧ a1 ≤ a1 ∧ a1 < (4294967296 : Int)) then L1 ((0 : Int), a1, a0, List.replicate a1.toNat (0 : Int)) else none
def f46_F (k : Nat) : Int × Int × Unit → Option (ByteArray × Unit) := f46_raw0 k (f46_L1 k)
theorem f46_law1 (k : Nat) : ∀ n, f46_at1 k n = iter (fun L1 => f46_raw1 k L1) n :=
  iter_law (fun v => by kernel_rfl) (fun n v => by
    show f46_at1 k (n + 1) v = f46_raw1 k (f46_at1 k n) v
    obtain ⟨v0, v1, v2, v3⟩ := v
    kernel_rfl)
theorem f46_eq (k : Nat) (x : Kd.dens f46_pk) : runF (f46_C k) f46_A Tryd.f46.ntmps f46_code Tryd.f46.results.toList f46_pk f46_rk (encs f46_pk x) (decR f46_pk f46_rk) = f46_F k x := by
  show _ = f46_raw0 k (f46_L1 k) x
  rw [show f46_L1 k = f46_at1 k k from (f46_law1 k k).symm]
  obtain ⟨a0, ⟨a1, ⟨⟩⟩⟩ := x
  kernel_rfl
theorem f46_fits : fitsC Tryd.prog Tryd.f46.ntmps f46_code = true := by kernel_rfl
theorem f46_ctr (k : Nat) : Ctr Tryd.prog k 46 (mk f46_pk f46_rk f46_F) :=
  fun_law (C := f46_C k) (phi_ok ctr_nil) prog_mixed (A := f46_A) (fn := Tryd.f46) (code := f46_code) (by kernel_rfl) (by kernel_rfl) (by kernel_rfl) f46_fits (fun x y h => (f46_eq k x).trans h)
abbrev f47_pk : List Kd := [.view .str]
abbrev f47_rk : Kd := .view .str
noncomputable def f47_code : Code := Tryd.f47.body.getD .skip
noncomputable def f47_C (k : Nat) : Ctx := { P := Tryd.prog, Φ := phi [], k := k, live := fun _ => [] }
def f47_A : Nat → Ann := fun _ => ⟨[], []⟩
def f47_raw0 (k : Nat) : ByteArray × Unit → Option (ByteArray × Unit)
  | (a0, ()) => bif (Int.ofNat a0.size).tmod (2 : Int) != (0 : Int) then bif decide (a0.size + (1 : Nat) < (1099511627776 : Nat)) then some (a0 ++ ByteArray.mk #[OfNat.ofNat (0 : Nat)], ()) else none else some (a0, ())
def f47_F (k : Nat) : ByteArray × Unit → Option (ByteArray × Unit) := f47_raw0 k
theorem f47_eq (k : Nat) (x : Kd.dens f47_pk) : runF (f47_C k) f47_A Tryd.f47.ntmps f47_code Tryd.f47.results.toList f47_pk f47_rk (encs f47_pk x) (decR f47_pk f47_rk) = f47_F k x := by
  show _ = f47_raw0 k x
  obtain ⟨a0, ⟨⟩⟩ := x
  kernel_rfl
theorem f47_fits : fitsC Tryd.prog Tryd.f47.ntmps f47_code = true := by kernel_rfl
theorem f47_ctr (k : Nat) : Ctr Tryd.prog k 47 (mk f47_pk f47_rk f47_F) :=
  fun_law (C := f47_C k) (phi_ok ctr_nil) prog_mixed (A := f47_A) (fn := Tryd.f47) (code := f47_code) (by kernel_rfl) (by kernel_rfl) (by kernel_rfl) f47_fits (fun x y h => (f47_eq k x).trans h)
abbrev f36_pk : List Kd := [.view (.int .i64)]
abbrev f36_rk : Kd := .view (.int .i64)
noncomputable def f36_code : Code := Tryd.f36.body.getD .skip
noncomputable def f36_C (k : Nat) : Ctx := { P := Tryd.prog, Φ := phi [], k := k, live := fun _ => [] }
def f36_A : Nat → Ann := fun _ => ⟨[], []⟩
def f36_raw0 (k : Nat) : Int × Unit → Option (Int × Unit)
  | (a0, ()) => some (IntKind.i64.wrap ((IntKind.i64.wrap (a0 + (7 : Int))).tdiv (8 : Int)), ())
def f36_F (k : Nat) : Int × Unit → Option (Int × Unit) := f36_raw0 k
theorem f36_eq (k : Nat) (x : Kd.dens f36_pk) : runF (f36_C k) f36_A Tryd.f36.ntmps f36_code Tryd.f36.results.toList f36_pk f36_rk (encs f36_pk x) (decR f36_pk f36_rk) = f36_F k x := by
  show _ = f36_raw0 k x
  obtain ⟨a0, ⟨⟩⟩ := x
  kernel_rfl
theorem f36_fits : fitsC Tryd.prog Tryd.f36.ntmps f36_code = true := by kernel_rfl
theorem f36_ctr (k : Nat) : Ctr Tryd.prog k 36 (mk f36_pk f36_rk f36_F) :=
  fun_law (C := f36_C k) (phi_ok ctr_nil) prog_mixed (A := f36_A) (fn := Tryd.f36) (code := f36_code) (by kernel_rfl) (by kernel_rfl) (by kernel_rfl) f36_fits (fun x y h => (f36_eq k x).trans h)
abbrev f27_pk : List Kd := [.view shapeT, .view (.sl .str), .view .str]
abbrev f27_rk : Kd := .view .str
noncomputable def f27_code : Code := Tryd.f27.body.getD .skip
noncomputable def f27_C (k : Nat) : Ctx := { P := Tryd.prog, Φ := phi [(46, mk f46_pk f46_rk f46_F), (47, mk f47_pk f47_rk f47_F), (36, mk f36_pk f36_rk f36_F)], k := k, live := fun _ => [] }
def f27_A : Nat → Ann := fun id => bif Nat.beq id 6 then ⟨[10, 1, 9, 8, 2], []⟩ else ⟨[], []⟩
def f27_S1 : Int × List ByteArray × ByteArray × ByteArray × ByteArray → St
  | (v0, v1, v2, v3, v4) => St.mk (envOf [(nat_lit 10, AV.val (PV.v (Value.int IntKind.i64 v0))), (nat_lit 1, AV.val (PV.sl Ty.str v1)), (nat_lit 9, AV.val (PV.v (Value.string v2))), (nat_lit 8, AV.val (PV.v (Value.string v3))), (nat_lit 2, AV.val (PV.v (Value.string v4)))]) (tblOf [])
def f27_raw1 (k : Nat) (L1 : Int × List ByteArray × ByteArray × ByteArray × ByteArray → Option (ByteArray × Unit)) : Int × List ByteArray × ByteArray × ByteArray × ByteArray → Option (ByteArray × Unit)
  | (v0, v1, v2, v3, v4) => bif decide (v0 < Int.ofNat v1.length) then bif decide ((0 : Int) ≤ v0 ∧ v0 < Int.ofNat v1.length) then (f46_F k (Int.ofNat (ByteArray.size (v1.getD v0.toNat (ByteArray.mk #[]))), OfNat.ofNat (1 : Nat), ())).bind fun y => bif decide (v2.size + ByteArray.size y.1 < (1099511627776 : Nat)) then bif decide ((0 : Int) ≤ v0 ∧ v0 < Int.ofNat v1.length) then bif decide ((v2 ++ y.1).size + ByteArray.size (v1.getD v0.toNat (ByteArray.mk #[])) < (1099511627776 : Nat)) then L1 (IntKind.i64.wrap (v0 + (1 : Int)), v1, v2 ++ y.1 ++ v1.getD v0.toNat (ByteArray.mk #[]), v3, v4) else none else none else none else none else bif decide (v3.size + (4 : Nat) < (1099511627776 : Nat)) then (f46_F k (Int.ofNat v2.size, OfNat.ofNat (4 : Nat), ())).bind fun y => bif decide ((v3 ++ ByteArray.mk #[OfNat.ofNat (116 : Nat), OfNat.ofNat (97 : Nat), OfNat.ofNat (103 : Nat), OfNat.ofNat (115 : Nat)]).size + ByteArray.size y.1 < (1099511627776 : Nat)) then (f47_F k (v2, ())).bind fun y_1 => bif decide ((v3 ++ ByteArray.mk #[OfNat.ofNat (116 : Nat), OfNat.ofNat (97 : Nat), OfNat.ofNat (103 : Nat), OfNat.ofNat (115 : Nat)] ++ y.1).size + ByteArray.size y_1.1 < (1099511627776 : Nat)) then bif decide ((v3 ++ ByteArray.mk #[OfNat.ofNat (116 : Nat), OfNat.ofNat (97 : Nat), OfNat.ofNat (103 : Nat), OfNat.ofNat (115 : Nat)] ++ y.1 ++ y_1.1).size + (4 : Nat) < (1099511627776 : Nat)) then (f46_F k (Int.ofNat v4.size, OfNat.ofNat (4 : Nat), ())).bind fun y_2 => bif decide ((v3 ++ ByteArray.mk #[OfNat.ofNat (116 : Nat), OfNat.ofNat (97 : Nat), OfNat.ofNat (103 : Nat), OfNat.ofNat (115 : Nat)] ++ y.1 ++ y_1.1 ++ ByteArray.mk #[OfNat.ofNat (100 : Nat), OfNat.ofNat (97 : Nat), OfNat.ofNat (116 : Nat), OfNat.ofNat (97 : Nat)]).size + ByteArray.size y_2.1 < (1099511627776 : Nat)) then (f47_F k (v4, ())).bind fun y_3 => bif decide ((v3 ++ ByteArray.mk #[OfNat.ofNat (116 : Nat), OfNat.ofNat (97 : Nat), OfNat.ofNat (103 : Nat), OfNat.ofNat (115 : Nat)] ++ y.1 ++ y_1.1 ++ ByteArray.mk #[OfNat.ofNat (100 : Nat), OfNat.ofNat (97 : Nat), OfNat.ofNat (116 : Nat), OfNat.ofNat (97 : Nat)] ++ y_2.1).size + ByteArray.size y_3.1 < (1099511627776 : Nat)) then (f46_F k (Int.ofNat (v3 ++ ByteArray.mk #[OfNat.ofNat (116 : Nat), OfNat.ofNat (97 : Nat), OfNat.ofNat (103 : Nat), OfNat.ofNat (115 : Nat)] ++ y.1 ++ y_1.1 ++ ByteArray.mk #[OfNat.ofNat (100 : Nat), OfNat.ofNat (97 : Nat), OfNat.ofNat (116 : Nat), OfNat.ofNat (97 : Nat)] ++ y_2.1 ++ y_3.1).size, OfNat.ofNat (4 : Nat), ())).bind fun y_4 => bif decide ((4 : Nat) + ByteArray.size y_4.1 < (1099511627776 : Nat)) then bif decide ((ByteArray.mk #[OfNat.ofNat (82 : Nat), OfNat.ofNat (73 : Nat), OfNat.ofNat (70 : Nat), OfNat.ofNat (70 : Nat)] ++ y_4.1).size + (v3 ++ ByteArray.mk #[OfNat.ofNat (116 : Nat), OfNat.ofNat (97 : Nat), OfNat.ofNat (103 : Nat), OfNat.ofNat (115 : Nat)] ++ y.1 ++ y_1.1 ++ ByteArray.mk #[OfNat.ofNat (100 : Nat), OfNat.ofNat (97 : Nat), OfNat.ofNat (116 : Nat), OfNat.ofNat (97 : Nat)] ++ y_2.1 ++ y_3.1).size < (1099511627776 : Nat)) then some (ByteArray.mk #[OfNat.ofNat (82 : Nat), OfNat.ofNat (73 : Nat), OfNat.ofNat (70 : Nat), OfNat.ofNat (70 : Nat)] ++ y_4.1 ++ (v3 ++ ByteArray.mk #[OfNat.ofNat (116 : Nat), OfNat.ofNat (97 : Nat), OfNat.ofNat (103 : Nat), OfNat.ofNat (115 : Nat)] ++ y.1 ++ y_1.1 ++ ByteArray.mk #[OfNat.ofNat (100 : Nat), OfNat.ofNat (97 : Nat), OfNat.ofNat (116 : Nat), OfNat.ofNat (97 : Nat)] ++ y_2.1 ++ y_3.1), ()) else none else none else none else none else none else none else none else none
def f27_L1 (k : Nat) : Int × List ByteArray × ByteArray × ByteArray × ByteArray → Option (ByteArray × Unit) := iter (fun L1 => f27_raw1 k L1) k
noncomputable def f27_at1 (k : Nat) (n : Nat) (v : Int × List ByteArray × ByteArray × ByteArray × ByteArray) : Option (ByteArray × Unit) :=
  loopAt (f27_C k) f27_A [] [1, 1, 1, 0, 1, 0, 1, 0, 1, 0] [] f27_code (leaveK (f27_C k) Tryd.f27.results.toList f27_pk [] f27_rk (decR f27_pk f27_rk)) n (f27_S1 v)
def f27_raw0 (k : Nat) (L1 : Int × List ByteArray × ByteArray × ByteArray × ByteArray → Option (ByteArray × Unit)) : (Int × Int × Int × Unit) × List ByteArray × ByteArray × Unit → Option (ByteArray × Unit)
  | ((a0, a1, a2, ()), a3, a4, ()) => (f36_F k (a1, ())).bind fun y => (f46_F k (OfNat.ofNat (16 : Nat), OfNat.ofNat (4 : Nat), ())).bind fun y_1 => bif decide ((8 : Nat) + ByteArray.size y_1.1 < (1099511627776 : Nat)) then (f46_F k (OfNat.ofNat (1 : Nat), OfNat.ofNat (2 : Nat), ())).bind fun y_2 => bif decide ((ByteArray.mk #[OfNat.ofNat (87 : Nat), OfNat.ofNat (65 : Nat), OfNat.ofNat (86 : Nat), OfNat.ofNat (69 : Nat), OfNat.ofNat (102 : Nat), OfNat.ofNat (109 : Nat), OfNat.ofNat (116 : Nat), OfNat.ofNat (32 : Nat)] ++ y_1.1).size + ByteArray.size y_2.1 < (1099511627776 : Nat)) then (f46_F k (a0, OfNat.ofNat (2 : Nat), ())).bind fun y_3 => bif decide ((ByteArray.mk #[OfNat.ofNat (87 : Nat), OfNat.ofNat (65 : Nat), OfNat.ofNat (86 : Nat), OfNat.ofNat (69 : Nat), OfNat.ofNat (102 : Nat), OfNat.ofNat (109 : Nat), OfNat.ofNat (116 : Nat), OfNat.ofNat (32 : Nat)] ++ y_1.1 ++ y_2.1).size + ByteArray.size y_3.1 < (1099511627776 : Nat)) then (f46_F k (a2, OfNat.ofNat (4 : Nat), ())).bind fun y_4 => bif decide ((ByteArray.mk #[OfNat.ofNat (87 : Nat), OfNat.ofNat (65 : Nat), OfNat.ofNat (86 : Nat), OfNat.ofNat (69 : Nat), OfNat.ofNat (102 : Nat), OfNat.ofNat (109 : Nat), OfNat.ofNat (116 : Nat), OfNat.ofNat (32 : Nat)] ++ y_1.1 ++ y_2.1 ++ y_3.1).size + ByteArray.size y_4.1 < (1099511627776 : Nat)) then (f46_F k (IntKind.i64.wrap (IntKind.i64.wrap (a2 * a0) * y.1), OfNat.ofNat (4 : Nat), ())).bind fun y_5 => bif decide ((ByteArray.mk #[OfNat.ofNat (87 : Nat), OfNat.ofNat (65 : Nat), OfNat.ofNat (86 : Nat), OfNat.ofNat (69 : Nat), OfNat.ofNat (102 : Nat), OfNat.ofNat (109 : Nat), OfNat.ofNat (116 : Nat), OfNat.ofNat (32 : Nat)] ++ y_1.1 ++ y_2.1 ++ y_3.1 ++ y_4.1).size + ByteArray.size y_5.1 < (1099511627776 : Nat)) then (f46_F k (IntKind.i64.wrap (a0 * y.1), OfNat.ofNat (2 : Nat), ())).bind fun y => bif decide ((ByteArray.mk #[OfNat.ofNat (87 : Nat), OfNat.ofNat (65 : Nat), OfNat.ofNat (86 : Nat), OfNat.ofNat (69 : Nat), OfNat.ofNat (102 : Nat), OfNat.ofNat (109 : Nat), OfNat.ofNat (116 : Nat), OfNat.ofNat (32 : Nat)] ++ y_1.1 ++ y_2.1 ++ y_3.1 ++ y_4.1 ++ y_5.1).size + ByteArray.size y.1 < (1099511627776 : Nat)) then (f46_F k (a1, OfNat.ofNat (2 : Nat), ())).bind fun y_6 => bif decide ((ByteArray.mk #[OfNat.ofNat (87 : Nat), OfNat.ofNat (65 : Nat), OfNat.ofNat (86 : Nat), OfNat.ofNat (69 : Nat), OfNat.ofNat (102 : Nat), OfNat.ofNat (109 : Nat), OfNat.ofNat (116 : Nat), OfNat.ofNat (32 : Nat)] ++ y_1.1 ++ y_2.1 ++ y_3.1 ++ y_4.1 ++ y_5.1 ++ y.1).size + ByteArray.size y_6.1 < (1099511627776 : Nat)) then bif decide ((0 : Int) < Int.ofNat a3.length) then L1 ((0 : Int), a3, ByteArray.mk #[], ByteArray.mk #[OfNat.ofNat (87 : Nat), OfNat.ofNat (65 : Nat), OfNat.ofNat (86 : Nat), OfNat.ofNat (69 : Nat), OfNat.ofNat (102 : Nat), OfNat.ofNat (109 : Nat), OfNat.ofNat (116 : Nat), OfNat.ofNat (32 : Nat)] ++ y_1.1 ++ y_2.1 ++ y_3.1 ++ y_4.1 ++ y_5.1 ++ y.1 ++ y_6.1, a4) else bif decide ((ByteArray.mk #[OfNat.ofNat (87 : Nat), OfNat.ofNat (65 : Nat), OfNat.ofNat (86 : Nat), OfNat.ofNat (69 : Nat), OfNat.ofNat (102 : Nat), OfNat.ofNat (109 : Nat), OfNat.ofNat (116 : Nat), OfNat.ofNat (32 : Nat)] ++ y_1.1 ++ y_2.1 ++ y_3.1 ++ y_4.1 ++ y_5.1 ++ y.1 ++ y_6.1).size + (4 : Nat) < (1099511627776 : Nat)) then (f46_F k (Int.ofNat a4.size, OfNat.ofNat (4 : Nat), ())).bind fun y_7 => bif decide ((ByteArray.mk #[OfNat.ofNat (87 : Nat), OfNat.ofNat (65 : Nat), OfNat.ofNat (86 : Nat), OfNat.ofNat (69 : Nat), OfNat.ofNat (102 : Nat), OfNat.ofNat (109 : Nat), OfNat.ofNat (116 : Nat), OfNat.ofNat (32 : Nat)] ++ y_1.1 ++ y_2.1 ++ y_3.1 ++ y_4.1 ++ y_5.1 ++ y.1 ++ y_6.1 ++ ByteArray.mk #[OfNat.ofNat (100 : Nat), OfNat.ofNat (97 : Nat), OfNat.ofNat (116 : Nat), OfNat.ofNat (97 : Nat)]).size + ByteArray.size y_7.1 < (1099511627776 : Nat)) then (f47_F k (a4, ())).bind fun y_8 => bif decide ((ByteArray.mk #[OfNat.ofNat (87 : Nat), OfNat.ofNat (65 : Nat), OfNat.ofNat (86 : Nat), OfNat.ofNat (69 : Nat), OfNat.ofNat (102 : Nat), OfNat.ofNat (109 : Nat), OfNat.ofNat (116 : Nat), OfNat.ofNat (32 : Nat)] ++ y_1.1 ++ y_2.1 ++ y_3.1 ++ y_4.1 ++ y_5.1 ++ y.1 ++ y_6.1 ++ ByteArray.mk #[OfNat.ofNat (100 : Nat), OfNat.ofNat (97 : Nat), OfNat.ofNat (116 : Nat), OfNat.ofNat (97 : Nat)] ++ y_7.1).size + ByteArray.size y_8.1 < (1099511627776 : Nat)) then (f46_F k (Int.ofNat (ByteArray.mk #[OfNat.ofNat (87 : Nat), OfNat.ofNat (65 : Nat), OfNat.ofNat (86 : Nat), OfNat.ofNat (69 : Nat), OfNat.ofNat (102 : Nat), OfNat.ofNat (109 : Nat), OfNat.ofNat (116 : Nat), OfNat.ofNat (32 : Nat)] ++ y_1.1 ++ y_2.1 ++ y_3.1 ++ y_4.1 ++ y_5.1 ++ y.1 ++ y_6.1 ++ ByteArray.mk #[OfNat.ofNat (100 : Nat), OfNat.ofNat (97 : Nat), OfNat.ofNat (116 : Nat), OfNat.ofNat (97 : Nat)] ++ y_7.1 ++ y_8.1).size, OfNat.ofNat (4 : Nat), ())).bind fun y_9 => bif decide ((4 : Nat) + ByteArray.size y_9.1 < (1099511627776 : Nat)) then bif decide ((ByteArray.mk #[OfNat.ofNat (82 : Nat), OfNat.ofNat (73 : Nat), OfNat.ofNat (70 : Nat), OfNat.ofNat (70 : Nat)] ++ y_9.1).size + (ByteArray.mk #[OfNat.ofNat (87 : Nat), OfNat.ofNat (65 : Nat), OfNat.ofNat (86 : Nat), OfNat.ofNat (69 : Nat), OfNat.ofNat (102 : Nat), OfNat.ofNat (109 : Nat), OfNat.ofNat (116 : Nat), OfNat.ofNat (32 : Nat)] ++ y_1.1 ++ y_2.1 ++ y_3.1 ++ y_4.1 ++ y_5.1 ++ y.1 ++ y_6.1 ++ ByteArray.mk #[OfNat.ofNat (100 : Nat), OfNat.ofNat (97 : Nat), OfNat.ofNat (116 : Nat), OfNat.ofNat (97 : Nat)] ++ y_7.1 ++ y_8.1).size < (1099511627776 : Nat)) then some (ByteArray.mk #[OfNat.ofNat (82 : Nat), OfNat.ofNat (73 : Nat), OfNat.ofNat (70 : Nat), OfNat.ofNat (70 : Nat)] ++ y_9.1 ++ (ByteArray.mk #[OfNat.ofNat (87 : Nat), OfNat.ofNat (65 : Nat), OfNat.ofNat (86 : Nat), OfNat.ofNat (69 : Nat), OfNat.ofNat (102 : Nat), OfNat.ofNat (109 : Nat), OfNat.ofNat (116 : Nat), OfNat.ofNat (32 : Nat)] ++ y_1.1 ++ y_2.1 ++ y_3.1 ++ y_4.1 ++ y_5.1 ++ y.1 ++ y_6.1 ++ ByteArray.mk #[OfNat.ofNat (100 : Nat), OfNat.ofNat (97 : Nat), OfNat.ofNat (116 : Nat), OfNat.ofNat (97 : Nat)] ++ y_7.1 ++ y_8.1), ()) else none else none else none else none else none else none else none else none else none else none else none else none
def f27_F (k : Nat) : (Int × Int × Int × Unit) × List ByteArray × ByteArray × Unit → Option (ByteArray × Unit) := f27_raw0 k (f27_L1 k)
theorem f27_law1 (k : Nat) : ∀ n, f27_at1 k n = iter (fun L1 => f27_raw1 k L1) n :=
  iter_law (fun v => by kernel_rfl) (fun n v => by
    show f27_at1 k (n + 1) v = f27_raw1 k (f27_at1 k n) v
    obtain ⟨v0, v1, v2, v3, v4⟩ := v
    kernel_rfl)
theorem f27_eq (k : Nat) (x : Kd.dens f27_pk) : runF (f27_C k) f27_A Tryd.f27.ntmps f27_code Tryd.f27.results.toList f27_pk f27_rk (encs f27_pk x) (decR f27_pk f27_rk) = f27_F k x := by
  show _ = f27_raw0 k (f27_L1 k) x
  rw [show f27_L1 k = f27_at1 k k from (f27_law1 k k).symm]
  obtain ⟨⟨a0, ⟨a1, ⟨a2, ⟨⟩⟩⟩⟩, ⟨a3, ⟨a4, ⟨⟩⟩⟩⟩ := x
  kernel_rfl
theorem f27_fits : fitsC Tryd.prog Tryd.f27.ntmps f27_code = true := by kernel_rfl
theorem f27_ctr (k : Nat) : Ctr Tryd.prog k 27 (mk f27_pk f27_rk f27_F) :=
  fun_law (C := f27_C k) (phi_ok (ctr_cons (f46_ctr k) (ctr_cons (f47_ctr k) (ctr_cons (f36_ctr k) ctr_nil)))) prog_mixed (A := f27_A) (fn := Tryd.f27) (code := f27_code) (by kernel_rfl) (by kernel_rfl) (by kernel_rfl) f27_fits (fun x y h => (f27_eq k x).trans h)
abbrev f28_pk : List Kd := [.view trackT]
abbrev f28_rk : Kd := .view .str
noncomputable def f28_code : Code := Tryd.f28.body.getD .skip
noncomputable def f28_C (k : Nat) : Ctx := { P := Tryd.prog, Φ := phi [(46, mk f46_pk f46_rk f46_F), (36, mk f36_pk f36_rk f36_F)], k := k, live := fun _ => [] }
def f28_A : Nat → Ann := fun id => bif Nat.beq id 7 then ⟨[6, 1, 5, 3, 4], [.slot 4 (Ty.int IntKind.u8)]⟩ else bif Nat.beq id 4 then ⟨[5, 1, 3, 4], [.slot 4 (Ty.int IntKind.u8)]⟩ else ⟨[], []⟩
def f28_S2 : Int × Int × Int × Int × Int × Int × List ByteArray × List (List Int) × List Int → St
  | (v0, v1, v2, v3, v4, v5, v6, v7, v8) => St.mk (envOf [(nat_lit 6, AV.val (PV.v (Value.int IntKind.i64 v0))), (nat_lit 1, AV.bx (nat_lit 8192) (nat_lit 0)), (nat_lit 5, AV.val (PV.v (Value.int IntKind.i64 v1))), (nat_lit 3, AV.val (PV.v (Value.int IntKind.i64 v2))), (nat_lit 4, AV.own (nat_lit 8193))]) (tblOf [(nat_lit 8192, RS.live (Res.box [AV.val (PV.v (Value.int IntKind.i64 v3)), AV.val (PV.v (Value.int IntKind.i64 v4)), AV.val (PV.v (Value.int IntKind.i64 v5)), AV.val (PV.sl Ty.str v6), AV.val (PV.sl (Ty.int IntKind.i64).sl v7)])), (nat_lit 8193, RS.live (Res.arr (Ty.int IntKind.u8) v8 false))])
def f28_raw2 (k : Nat) (L1 : Int × Int × Int × Int × Int × List ByteArray × List (List Int) × List Int → Option (ByteArray × Unit)) (L2 : Int × Int × Int × Int × Int × Int × List ByteArray × List (List Int) × List Int → Option (ByteArray × Unit)) : Int × Int × Int × Int × Int × Int × List ByteArray × List (List Int) × List Int → Option (ByteArray × Unit)
  | (v0, v1, v2, v3, v4, v5, v6, v7, v8) => bif decide (v0 < Int.ofNat v7.length) then bif decide ((0 : Int) ≤ v0 ∧ v0 < Int.ofNat v7.length) then bif decide ((0 : Int) ≤ v1 ∧ v1 < Int.ofNat (List.length (v7.getD v0.toNat []))) then bif decide ((0 : Int) ≤ IntKind.i64.wrap (IntKind.i64.wrap ((8 : Int) * v2) - v4)) then bif v2 == (1 : Int) then (f46_F k (IntKind.i64.wrap (IntKind.i64.wrap (List.getD (v7.getD v0.toNat []) v1.toNat (OfNat.ofNat (0 : Nat)) * IntKind.i64.wrap ((1 : Int) * (2 : Int) ^ min (IntKind.i64.wrap (IntKind.i64.wrap ((8 : Int) * v2) - v4)).toNat (64 : Nat))) + (128 : Int)), v2, ())).bind fun y => bif decide (v8.length + (List.map (fun b => Int.ofNat b.toNat) y.1.data.toList).length < (2147483648 : Nat)) then L2 (IntKind.i64.wrap (v0 + (1 : Int)), v1, v2, v3, v4, v5, v6, v7, v8 ++ List.map (fun b => Int.ofNat b.toNat) y.1.data.toList) else none else (f46_F k (IntKind.i64.wrap (List.getD (v7.getD v0.toNat []) v1.toNat (OfNat.ofNat (0 : Nat)) * IntKind.i64.wrap ((1 : Int) * (2 : Int) ^ min (IntKind.i64.wrap (IntKind.i64.wrap ((8 : Int) * v2) - v4)).toNat (64 : Nat))), v2, ())).bind fun y => bif decide (v8.length + (List.map (fun b => Int.ofNat b.toNat) y.1.data.toList).length < (2147483648 : Nat)) then L2 (IntKind.i64.wrap (v0 + (1 : Int)), v1, v2, v3, v4, v5, v6, v7, v8 ++ List.map (fun b => Int.ofNat b.toNat) y.1.data.toList) else none else none else none else none else L1 (IntKind.i64.wrap (v1 + (1 : Int)), v2, v3, v4, v5, v6, v7, v8)
def f28_L2 (k : Nat) (L1 : Int × Int × Int × Int × Int × List ByteArray × List (List Int) × List Int → Option (ByteArray × Unit)) : Int × Int × Int × Int × Int × Int × List ByteArray × List (List Int) × List Int → Option (ByteArray × Unit) := iter (fun L2 => f28_raw2 k L1 L2) k
noncomputable def f28_at2 (k : Nat) (n1 : Nat) (n : Nat) (v : Int × Int × Int × Int × Int × Int × List ByteArray × List (List Int) × List Int) : Option (ByteArray × Unit) :=
  loopAt (f28_C k) f28_A [] [1, 1, 1, 0, 1, 0, 0, 1, 0, 0, 1, 0] [n1] f28_code (leaveK (f28_C k) Tryd.f28.results.toList f28_pk [] f28_rk (decR f28_pk f28_rk)) n (f28_S2 v)
def f28_S1 : Int × Int × Int × Int × Int × List ByteArray × List (List Int) × List Int → St
  | (v0, v1, v2, v3, v4, v5, v6, v7) => St.mk (envOf [(nat_lit 5, AV.val (PV.v (Value.int IntKind.i64 v0))), (nat_lit 1, AV.bx (nat_lit 8192) (nat_lit 0)), (nat_lit 3, AV.val (PV.v (Value.int IntKind.i64 v1))), (nat_lit 4, AV.own (nat_lit 8193))]) (tblOf [(nat_lit 8192, RS.live (Res.box [AV.val (PV.v (Value.int IntKind.i64 v2)), AV.val (PV.v (Value.int IntKind.i64 v3)), AV.val (PV.v (Value.int IntKind.i64 v4)), AV.val (PV.sl Ty.str v5), AV.val (PV.sl (Ty.int IntKind.i64).sl v6)])), (nat_lit 8193, RS.live (Res.arr (Ty.int IntKind.u8) v7 false))])
def f28_raw1 (k : Nat) (L2 : Int × Int × Int × Int × Int × Int × List ByteArray × List (List Int) × List Int → Option (ByteArray × Unit)) (L1 : Int × Int × Int × Int × Int × List ByteArray × List (List Int) × List Int → Option (ByteArray × Unit)) : Int × Int × Int × Int × Int × List ByteArray × List (List Int) × List Int → Option (ByteArray × Unit)
  | (v0, v1, v2, v3, v4, v5, v6, v7) => bif decide ((0 : Int) ≤ (0 : Int) ∧ (0 : Int) < Int.ofNat v6.length) then bif decide (v0 < Int.ofNat (List.length (v6.getD (0 : Nat) []))) then L2 ((0 : Int), v0, v1, v2, v3, v4, v5, v6, v7) else some (ByteArray.mk (List.map (fun n => UInt8.ofNat n.toNat) v7).toArray, ()) else none
def f28_L1 (k : Nat) : Int × Int × Int × Int × Int × List ByteArray × List (List Int) × List Int → Option (ByteArray × Unit) := iter (fun L1 => f28_raw1 k (f28_L2 k L1) L1) k
noncomputable def f28_at1 (k : Nat) (n : Nat) (v : Int × Int × Int × Int × Int × List ByteArray × List (List Int) × List Int) : Option (ByteArray × Unit) :=
  loopAt (f28_C k) f28_A [] [1, 1, 1, 0, 1, 0] [] f28_code (leaveK (f28_C k) Tryd.f28.results.toList f28_pk [] f28_rk (decR f28_pk f28_rk)) n (f28_S1 v)
def f28_raw0 (k : Nat) (L1 : Int × Int × Int × Int × Int × List ByteArray × List (List Int) × List Int → Option (ByteArray × Unit)) : ((Int × Int × Int × Unit) × List ByteArray × List (List Int) × Unit) × Unit → Option (ByteArray × Unit)
  | (((a0, a1, a2, ()), a3, a4, ()), ()) => (f36_F k (a1, ())).bind fun y => L1 ((0 : Int), y.1, a0, a1, a2, a3, a4, [])
def f28_F (k : Nat) : ((Int × Int × Int × Unit) × List ByteArray × List (List Int) × Unit) × Unit → Option (ByteArray × Unit) := f28_raw0 k (f28_L1 k)
theorem f28_law2 (k : Nat) (n1 : Nat) : ∀ n, f28_at2 k n1 n = iter (fun L2 => f28_raw2 k (f28_at1 k n1) L2) n :=
  iter_law (fun v => by kernel_rfl) (fun n v => by
    show f28_at2 k n1 (n + 1) v = f28_raw2 k (f28_at1 k n1) (f28_at2 k n1 n) v
    obtain ⟨v0, v1, v2, v3, v4, v5, v6, v7, v8⟩ := v
    kernel_rfl)
theorem f28_law1 (k : Nat) : ∀ n, f28_at1 k n = iter (fun L1 => f28_raw1 k (f28_L2 k L1) L1) n :=
  iter_law (fun v => by kernel_rfl) (fun n v => by
    show f28_at1 k (n + 1) v = f28_raw1 k (f28_L2 k (f28_at1 k n)) (f28_at1 k n) v
    rw [show (f28_L2 k (f28_at1 k n)) = f28_at2 k n k from (f28_law2 k n k).symm]
    obtain ⟨v0, v1, v2, v3, v4, v5, v6, v7⟩ := v
    kernel_rfl)
theorem f28_eq (k : Nat) (x : Kd.dens f28_pk) : runF (f28_C k) f28_A Tryd.f28.ntmps f28_code Tryd.f28.results.toList f28_pk f28_rk (encs f28_pk x) (decR f28_pk f28_rk) = f28_F k x := by
  show _ = f28_raw0 k (f28_L1 k) x
  rw [show f28_L1 k = f28_at1 k k from (f28_law1 k k).symm]
  obtain ⟨⟨⟨a0, ⟨a1, ⟨a2, ⟨⟩⟩⟩⟩, ⟨a3, ⟨a4, ⟨⟩⟩⟩⟩, ⟨⟩⟩ := x
  kernel_rfl
theorem f28_fits : fitsC Tryd.prog Tryd.f28.ntmps f28_code = true := by kernel_rfl
theorem f28_ctr (k : Nat) : Ctr Tryd.prog k 28 (mk f28_pk f28_rk f28_F) :=
  fun_law (C := f28_C k) (phi_ok (ctr_cons (f46_ctr k) (ctr_cons (f36_ctr k) ctr_nil))) prog_mixed (A := f28_A) (fn := Tryd.f28) (code := f28_code) (by kernel_rfl) (by kernel_rfl) (by kernel_rfl) f28_fits (fun x y h => (f28_eq k x).trans h)
abbrev f48_pk : List Kd := [.view shapeT]
abbrev f48_rk : Kd := .view (.int .i64)
noncomputable def f48_code : Code := Tryd.f48.body.getD .skip
noncomputable def f48_C (k : Nat) : Ctx := { P := Tryd.prog, Φ := phi [], k := k, live := fun _ => [] }
def f48_A : Nat → Ann := fun _ => ⟨[], []⟩
def f48_raw0 (k : Nat) : (Int × Int × Int × Unit) × Unit → Option (Int × Unit)
  | ((a0, a1, a2, ()), ()) => bif decide (a0 < (1 : Int)) then some (OfNat.ofNat (2 : Nat), ()) else bif decide ((2 : Int) < a0) then some (OfNat.ofNat (2 : Nat), ()) else bif decide (a1 < (4 : Int)) then some (OfNat.ofNat (2 : Nat), ()) else bif decide ((24 : Int) < a1) then some (OfNat.ofNat (2 : Nat), ()) else bif decide (a2 < (1 : Int)) then some (OfNat.ofNat (2 : Nat), ()) else bif decide ((655350 : Int) < a2) then some (OfNat.ofNat (2 : Nat), ()) else some (OfNat.ofNat (0 : Nat), ())
def f48_F (k : Nat) : (Int × Int × Int × Unit) × Unit → Option (Int × Unit) := f48_raw0 k
theorem f48_eq (k : Nat) (x : Kd.dens f48_pk) : runF (f48_C k) f48_A Tryd.f48.ntmps f48_code Tryd.f48.results.toList f48_pk f48_rk (encs f48_pk x) (decR f48_pk f48_rk) = f48_F k x := by
  show _ = f48_raw0 k x
  obtain ⟨⟨a0, ⟨a1, ⟨a2, ⟨⟩⟩⟩⟩, ⟨⟩⟩ := x
  kernel_rfl
theorem f48_fits : fitsC Tryd.prog Tryd.f48.ntmps f48_code = true := by kernel_rfl
theorem f48_ctr (k : Nat) : Ctr Tryd.prog k 48 (mk f48_pk f48_rk f48_F) :=
  fun_law (C := f48_C k) (phi_ok ctr_nil) prog_mixed (A := f48_A) (fn := Tryd.f48) (code := f48_code) (by kernel_rfl) (by kernel_rfl) (by kernel_rfl) f48_fits (fun x y h => (f48_eq k x).trans h)
abbrev f52_pk : List Kd := [.view trackT]
abbrev f52_rk : Kd := .view (.int .i64)
noncomputable def f52_code : Code := Tryd.f52.body.getD .skip
noncomputable def f52_C (k : Nat) : Ctx := { P := Tryd.prog, Φ := phi [], k := k, live := fun _ => [] }
def f52_A : Nat → Ann := fun _ => ⟨[], []⟩
def f52_raw0 (k : Nat) : ((Int × Int × Int × Unit) × List ByteArray × List (List Int) × Unit) × Unit → Option (Int × Unit)
  | (((a0, a1, a2, ()), a3, a4, ()), ()) => bif Int.ofNat a4.length == (0 : Int) then some (OfNat.ofNat (0 : Nat), ()) else bif decide ((0 : Int) ≤ (0 : Int) ∧ (0 : Int) < Int.ofNat a4.length) then some (Int.ofNat (List.length (a4.getD (0 : Nat) [])), ()) else none
def f52_F (k : Nat) : ((Int × Int × Int × Unit) × List ByteArray × List (List Int) × Unit) × Unit → Option (Int × Unit) := f52_raw0 k
theorem f52_eq (k : Nat) (x : Kd.dens f52_pk) : runF (f52_C k) f52_A Tryd.f52.ntmps f52_code Tryd.f52.results.toList f52_pk f52_rk (encs f52_pk x) (decR f52_pk f52_rk) = f52_F k x := by
  show _ = f52_raw0 k x
  obtain ⟨⟨⟨a0, ⟨a1, ⟨a2, ⟨⟩⟩⟩⟩, ⟨a3, ⟨a4, ⟨⟩⟩⟩⟩, ⟨⟩⟩ := x
  kernel_rfl
theorem f52_fits : fitsC Tryd.prog Tryd.f52.ntmps f52_code = true := by kernel_rfl
theorem f52_ctr (k : Nat) : Ctr Tryd.prog k 52 (mk f52_pk f52_rk f52_F) :=
  fun_law (C := f52_C k) (phi_ok ctr_nil) prog_mixed (A := f52_A) (fn := Tryd.f52) (code := f52_code) (by kernel_rfl) (by kernel_rfl) (by kernel_rfl) f52_fits (fun x y h => (f52_eq k x).trans h)
abbrev f30_pk : List Kd := [.view shapeT]
abbrev f30_rk : Kd := .view (.int .i64)
noncomputable def f30_code : Code := Tryd.f30.body.getD .skip
noncomputable def f30_C (k : Nat) : Ctx := { P := Tryd.prog, Φ := phi [], k := k, live := fun _ => [] }
def f30_A : Nat → Ann := fun _ => ⟨[], []⟩
def f30_raw0 (k : Nat) : (Int × Int × Int × Unit) × Unit → Option (Int × Unit)
  | ((a0, a1, a2, ()), ()) => some (IntKind.i64.wrap ((IntKind.i64.wrap (a1 + (7 : Int))).tdiv (8 : Int)), ())
def f30_F (k : Nat) : (Int × Int × Int × Unit) × Unit → Option (Int × Unit) := f30_raw0 k
theorem f30_eq (k : Nat) (x : Kd.dens f30_pk) : runF (f30_C k) f30_A Tryd.f30.ntmps f30_code Tryd.f30.results.toList f30_pk f30_rk (encs f30_pk x) (decR f30_pk f30_rk) = f30_F k x := by
  show _ = f30_raw0 k x
  obtain ⟨⟨a0, ⟨a1, ⟨a2, ⟨⟩⟩⟩⟩, ⟨⟩⟩ := x
  kernel_rfl
theorem f30_fits : fitsC Tryd.prog Tryd.f30.ntmps f30_code = true := by kernel_rfl
theorem f30_ctr (k : Nat) : Ctr Tryd.prog k 30 (mk f30_pk f30_rk f30_F) :=
  fun_law (C := f30_C k) (phi_ok ctr_nil) prog_mixed (A := f30_A) (fn := Tryd.f30) (code := f30_code) (by kernel_rfl) (by kernel_rfl) (by kernel_rfl) f30_fits (fun x y h => (f30_eq k x).trans h)
abbrev f31_pk : List Kd := [.own (.int .u8) false, .view (.int .i64), .view (.int .i64)]
abbrev f31_rk : Kd := .own (.int .u8) false
noncomputable def f31_code : Code := Tryd.f31.body.getD .skip
noncomputable def f31_C (k : Nat) : Ctx := { P := Tryd.prog, Φ := phi [], k := k, live := fun _ => [] }
def f31_A : Nat → Ann := fun id => bif Nat.beq id 2 then ⟨[8, 9, 0, 1], []⟩ else ⟨[], []⟩
def f31_S1 : Int × Int × Int × List Int → St
  | (v0, v1, v2, v3) => St.mk (envOf [(nat_lit 8, AV.val (PV.v (Value.int IntKind.i64 v0))), (nat_lit 9, AV.val (PV.v (Value.int IntKind.i64 v1))), (nat_lit 0, AV.own (nat_lit 8192)), (nat_lit 1, AV.val (PV.v (Value.int IntKind.i64 v2)))]) (tblOf [(nat_lit 8192, RS.live (Res.arr (Ty.int IntKind.u8) v3 false))])
def f31_raw1 (k : Nat) (L1 : Int × Int × Int × List Int → Option (List Int × Unit)) : Int × Int × Int × List Int → Option (List Int × Unit)
  | (v0, v1, v2, v3) => bif decide (v1 < v0) then bif decide ((0 : Int) ≤ IntKind.i64.wrap ((8 : Int) * v1)) then bif decide (v3.length + [IntKind.u8.wrap (v2.fdiv ((2 : Int) ^ min (IntKind.i64.wrap ((8 : Int) * v1)).toNat (64 : Nat)))].length < (2147483648 : Nat)) then L1 (v0, IntKind.i64.wrap (v1 + (1 : Int)), v2, v3 ++ [IntKind.u8.wrap (v2.fdiv ((2 : Int) ^ min (IntKind.i64.wrap ((8 : Int) * v1)).toNat (64 : Nat)))]) else none else none else some (v3, ())
def f31_L1 (k : Nat) : Int × Int × Int × List Int → Option (List Int × Unit) := iter (fun L1 => f31_raw1 k L1) k
noncomputable def f31_at1 (k : Nat) (n : Nat) (v : Int × Int × Int × List Int) : Option (List Int × Unit) :=
  loopAt (f31_C k) f31_A [] [1, 0, 1, 0] [] f31_code (leaveK (f31_C k) Tryd.f31.results.toList f31_pk [] f31_rk (decR f31_pk f31_rk)) n (f31_S1 v)
def f31_raw0 (k : Nat) (L1 : Int × Int × Int × List Int → Option (List Int × Unit)) : List Int × Int × Int × Unit → Option (List Int × Unit)
  | (a0, a1, a2, ()) => L1 (a2, (0 : Int), a1, a0)
def f31_F (k : Nat) : List Int × Int × Int × Unit → Option (List Int × Unit) := f31_raw0 k (f31_L1 k)
theorem f31_law1 (k : Nat) : ∀ n, f31_at1 k n = iter (fun L1 => f31_raw1 k L1) n :=
  iter_law (fun v => by kernel_rfl) (fun n v => by
    show f31_at1 k (n + 1) v = f31_raw1 k (f31_at1 k n) v
    obtain ⟨v0, v1, v2, v3⟩ := v
    kernel_rfl)
theorem f31_eq (k : Nat) (x : Kd.dens f31_pk) : runF (f31_C k) f31_A Tryd.f31.ntmps f31_code Tryd.f31.results.toList f31_pk f31_rk (encs f31_pk x) (decR f31_pk f31_rk) = f31_F k x := by
  show _ = f31_raw0 k (f31_L1 k) x
  rw [show f31_L1 k = f31_at1 k k from (f31_law1 k k).symm]
  obtain ⟨a0, ⟨a1, ⟨a2, ⟨⟩⟩⟩⟩ := x
  kernel_rfl
theorem f31_fits : fitsC Tryd.prog Tryd.f31.ntmps f31_code = true := by kernel_rfl
theorem f31_ctr (k : Nat) : Ctr Tryd.prog k 31 (mk f31_pk f31_rk f31_F) :=
  fun_law (C := f31_C k) (phi_ok ctr_nil) prog_mixed (A := f31_A) (fn := Tryd.f31) (code := f31_code) (by kernel_rfl) (by kernel_rfl) (by kernel_rfl) f31_fits (fun x y h => (f31_eq k x).trans h)
abbrev f37_pk : List Kd := [.view shapeT]
abbrev f37_rk : Kd := .view (.int .i64)
noncomputable def f37_code : Code := Tryd.f37.body.getD .skip
noncomputable def f37_C (k : Nat) : Ctx := { P := Tryd.prog, Φ := phi [(30, mk f30_pk f30_rk f30_F)], k := k, live := fun _ => [] }
def f37_A : Nat → Ann := fun _ => ⟨[], []⟩
def f37_raw0 (k : Nat) : (Int × Int × Int × Unit) × Unit → Option (Int × Unit)
  | ((a0, a1, a2, ()), ()) => (f30_F k ((a0, a1, a2, ()), ())).bind fun y => some (IntKind.i64.wrap (a0 * y.1), ())
def f37_F (k : Nat) : (Int × Int × Int × Unit) × Unit → Option (Int × Unit) := f37_raw0 k
theorem f37_eq (k : Nat) (x : Kd.dens f37_pk) : runF (f37_C k) f37_A Tryd.f37.ntmps f37_code Tryd.f37.results.toList f37_pk f37_rk (encs f37_pk x) (decR f37_pk f37_rk) = f37_F k x := by
  show _ = f37_raw0 k x
  obtain ⟨⟨a0, ⟨a1, ⟨a2, ⟨⟩⟩⟩⟩, ⟨⟩⟩ := x
  kernel_rfl
theorem f37_fits : fitsC Tryd.prog Tryd.f37.ntmps f37_code = true := by kernel_rfl
theorem f37_ctr (k : Nat) : Ctr Tryd.prog k 37 (mk f37_pk f37_rk f37_F) :=
  fun_law (C := f37_C k) (phi_ok (ctr_cons (f30_ctr k) ctr_nil)) prog_mixed (A := f37_A) (fn := Tryd.f37) (code := f37_code) (by kernel_rfl) (by kernel_rfl) (by kernel_rfl) f37_fits (fun x y h => (f37_eq k x).trans h)
abbrev f53_pk : List Kd := [.own (.int .u8) false, .view .str, .view (.sl (.int .u8))]
abbrev f53_rk : Kd := .own (.int .u8) false
noncomputable def f53_code : Code := Tryd.f53.body.getD .skip
noncomputable def f53_C (k : Nat) : Ctx := { P := Tryd.prog, Φ := phi [(31, mk f31_pk f31_rk f31_F)], k := k, live := fun _ => [] }
def f53_A : Nat → Ann := fun _ => ⟨[], []⟩
def f53_raw0 (k : Nat) : List Int × ByteArray × List Int × Unit → Option (List Int × Unit)
  | (a0, a1, a2, ()) => bif decide (a0.length + (List.map (fun b => Int.ofNat b.toNat) a1.data.toList).length < (2147483648 : Nat)) then (f31_F k (a0 ++ List.map (fun b => Int.ofNat b.toNat) a1.data.toList, Int.ofNat a2.length, OfNat.ofNat (4 : Nat), ())).bind fun y => bif decide (List.length y.1 + a2.length < (2147483648 : Nat)) then bif lim31 ((Int.ofNat a2.length).tmod (2 : Int)) then bif decide ((y.1 ++ a2).length + (List.replicate ((Int.ofNat a2.length).tmod (2 : Int)).toNat (0 : Int)).length < (2147483648 : Nat)) then some (y.1 ++ a2 ++ List.replicate ((Int.ofNat a2.length).tmod (2 : Int)).toNat (0 : Int), ()) else none else none else none else none
def f53_F (k : Nat) : List Int × ByteArray × List Int × Unit → Option (List Int × Unit) := f53_raw0 k
theorem f53_eq (k : Nat) (x : Kd.dens f53_pk) : runF (f53_C k) f53_A Tryd.f53.ntmps f53_code Tryd.f53.results.toList f53_pk f53_rk (encs f53_pk x) (decR f53_pk f53_rk) = f53_F k x := by
  show _ = f53_raw0 k x
  obtain ⟨a0, ⟨a1, ⟨a2, ⟨⟩⟩⟩⟩ := x
  kernel_rfl
theorem f53_fits : fitsC Tryd.prog Tryd.f53.ntmps f53_code = true := by kernel_rfl
theorem f53_ctr (k : Nat) : Ctr Tryd.prog k 53 (mk f53_pk f53_rk f53_F) :=
  fun_law (C := f53_C k) (phi_ok (ctr_cons (f31_ctr k) ctr_nil)) prog_mixed (A := f53_A) (fn := Tryd.f53) (code := f53_code) (by kernel_rfl) (by kernel_rfl) (by kernel_rfl) f53_fits (fun x y h => (f53_eq k x).trans h)
abbrev f32_pk : List Kd := [.view soundT]
abbrev f32_rk : Kd := .own (.int .u8) false
noncomputable def f32_code : Code := Tryd.f32.body.getD .skip
noncomputable def f32_C (k : Nat) : Ctx := { P := Tryd.prog, Φ := phi [(31, mk f31_pk f31_rk f31_F), (37, mk f37_pk f37_rk f37_F), (53, mk f53_pk f53_rk f53_F)], k := k, live := fun _ => [] }
def f32_A : Nat → Ann := fun id => bif Nat.beq id 8 then ⟨[45, 46, 44, 5, 4, 1], [.slot 5 ((Ty.int IntKind.u8))]⟩ else ⟨[], []⟩
def f32_S1 : Int × Int × List ByteArray × List Int × List Int × Int × Int × Int × List ByteArray × List Int → St
  | (v0, v1, v2, v3, v4, v5, v6, v7, v8, v9) => St.mk (envOf [(nat_lit 45, AV.val (PV.v (Value.int IntKind.i64 v0))), (nat_lit 46, AV.val (PV.v (Value.int IntKind.i64 v1))), (nat_lit 44, AV.val (PV.sl Ty.str v2)), (nat_lit 5, AV.own (nat_lit 8192)), (nat_lit 4, AV.own (nat_lit 8193)), (nat_lit 1, AV.bx (nat_lit 8194) (nat_lit 0))]) (tblOf [(nat_lit 8192, RS.live (Res.arr (Ty.int IntKind.u8) v3 false)), (nat_lit 8193, RS.live (Res.arr (Ty.int IntKind.u8) v4 false)), (nat_lit 8194, RS.live (Res.box [AV.val (PV.v (Value.int IntKind.i64 v5)), AV.val (PV.v (Value.int IntKind.i64 v6)), AV.val (PV.v (Value.int IntKind.i64 v7)), AV.val (PV.sl Ty.str v8), AV.val (PV.sl (Ty.int IntKind.u8) v9)]))])
def f32_raw1 (k : Nat) (L1 : Int × Int × List ByteArray × List Int × List Int × Int × Int × Int × List ByteArray × List Int → Option (List Int × Unit)) : Int × Int × List ByteArray × List Int × List Int × Int × Int × Int × List ByteArray × List Int → Option (List Int × Unit)
  | (v0, v1, v2, v3, v4, v5, v6, v7, v8, v9) => bif decide (v1 < v0) then bif decide ((0 : Int) ≤ v1 ∧ v1 < Int.ofNat v2.length) then bif decide (v3.length + [IntKind.u8.wrap (Int.ofNat (ByteArray.size (v2.getD v1.toNat (ByteArray.mk #[]))))].length < (2147483648 : Nat)) then bif decide ((v3 ++ [IntKind.u8.wrap (Int.ofNat (ByteArray.size (v2.getD v1.toNat (ByteArray.mk #[]))))]).length + (List.map (fun b => Int.ofNat b.toNat) (v2.getD v1.toNat (ByteArray.mk #[])).data.toList).length < (2147483648 : Nat)) then L1 (v0, IntKind.i64.wrap (v1 + (1 : Int)), v2, v3 ++ [IntKind.u8.wrap (Int.ofNat (ByteArray.size (v2.getD v1.toNat (ByteArray.mk #[]))))] ++ List.map (fun b => Int.ofNat b.toNat) (v2.getD v1.toNat (ByteArray.mk #[])).data.toList, v4, v5, v6, v7, v8, v9) else none else none else none else (f53_F k (v4, ByteArray.mk #[OfNat.ofNat (116 : Nat), OfNat.ofNat (97 : Nat), OfNat.ofNat (103 : Nat), OfNat.ofNat (115 : Nat)], v3, ())).bind fun y => (f53_F k (y.1, ByteArray.mk #[OfNat.ofNat (100 : Nat), OfNat.ofNat (97 : Nat), OfNat.ofNat (116 : Nat), OfNat.ofNat (97 : Nat)], v9, ())).bind fun y => (f31_F k ([(82 : Int), (73 : Int), (70 : Int), (70 : Int)], Int.ofNat (List.length y.1), OfNat.ofNat (4 : Nat), ())).bind fun y_1 => bif decide (List.length y_1.1 + List.length y.1 < (2147483648 : Nat)) then some (y_1.1 ++ y.1, ()) else none
def f32_L1 (k : Nat) : Int × Int × List ByteArray × List Int × List Int × Int × Int × Int × List ByteArray × List Int → Option (List Int × Unit) := iter (fun L1 => f32_raw1 k L1) k
noncomputable def f32_at1 (k : Nat) (n : Nat) (v : Int × Int × List ByteArray × List Int × List Int × Int × Int × Int × List ByteArray × List Int) : Option (List Int × Unit) :=
  loopAt (f32_C k) f32_A [] [1, 1, 1, 1, 1, 0, 1, 0, 1, 0, 1, 0] [] f32_code (leaveK (f32_C k) Tryd.f32.results.toList f32_pk [] f32_rk (decR f32_pk f32_rk)) n (f32_S1 v)
def f32_raw0 (k : Nat) (L1 : Int × Int × List ByteArray × List Int × List Int × Int × Int × Int × List ByteArray × List Int → Option (List Int × Unit)) : ((Int × Int × Int × Unit) × List ByteArray × List Int × Unit) × Unit → Option (List Int × Unit)
  | (((a0, a1, a2, ()), a3, a4, ()), ()) => (f31_F k ([], OfNat.ofNat (1 : Nat), OfNat.ofNat (2 : Nat), ())).bind fun y => (f31_F k (y.1, a0, OfNat.ofNat (2 : Nat), ())).bind fun y => (f31_F k (y.1, a2, OfNat.ofNat (4 : Nat), ())).bind fun y => (f37_F k ((a0, a1, a2, ()), ())).bind fun y_1 => (f31_F k (y.1, IntKind.i64.wrap (a2 * y_1.1), OfNat.ofNat (4 : Nat), ())).bind fun y => (f37_F k ((a0, a1, a2, ()), ())).bind fun y_2 => (f31_F k (y.1, y_2.1, OfNat.ofNat (2 : Nat), ())).bind fun y => (f31_F k (y.1, a1, OfNat.ofNat (2 : Nat), ())).bind fun y => (f53_F k ([(87 : Int), (65 : Int), (86 : Int), (69 : Int)], ByteArray.mk #[OfNat.ofNat (102 : Nat), OfNat.ofNat (109 : Nat), OfNat.ofNat (116 : Nat), OfNat.ofNat (32 : Nat)], y.1, ())).bind fun y => bif decide ((0 : Int) < Int.ofNat a3.length) then L1 (Int.ofNat a3.length, (0 : Int), a3, [], y.1, a0, a1, a2, a3, a4) else (f53_F k (y.1, ByteArray.mk #[OfNat.ofNat (100 : Nat), OfNat.ofNat (97 : Nat), OfNat.ofNat (116 : Nat), OfNat.ofNat (97 : Nat)], a4, ())).bind fun y => (f31_F k ([(82 : Int), (73 : Int), (70 : Int), (70 : Int)], Int.ofNat (List.length y.1), OfNat.ofNat (4 : Nat), ())).bind fun y_3 => bif decide (List.length y_3.1 + List.length y.1 < (2147483648 : Nat)) then some (y_3.1 ++ y.1, ()) else none
def f32_F (k : Nat) : ((Int × Int × Int × Unit) × List ByteArray × List Int × Unit) × Unit → Option (List Int × Unit) := f32_raw0 k (f32_L1 k)
theorem f32_law1 (k : Nat) : ∀ n, f32_at1 k n = iter (fun L1 => f32_raw1 k L1) n :=
  iter_law (fun v => by kernel_rfl) (fun n v => by
    show f32_at1 k (n + 1) v = f32_raw1 k (f32_at1 k n) v
    obtain ⟨v0, v1, v2, v3, v4, v5, v6, v7, v8, v9⟩ := v
    kernel_rfl)
theorem f32_eq (k : Nat) (x : Kd.dens f32_pk) : runF (f32_C k) f32_A Tryd.f32.ntmps f32_code Tryd.f32.results.toList f32_pk f32_rk (encs f32_pk x) (decR f32_pk f32_rk) = f32_F k x := by
  show _ = f32_raw0 k (f32_L1 k) x
  rw [show f32_L1 k = f32_at1 k k from (f32_law1 k k).symm]
  obtain ⟨⟨⟨a0, ⟨a1, ⟨a2, ⟨⟩⟩⟩⟩, ⟨a3, ⟨a4, ⟨⟩⟩⟩⟩, ⟨⟩⟩ := x
  kernel_rfl
theorem f32_fits : fitsC Tryd.prog Tryd.f32.ntmps f32_code = true := by kernel_rfl
theorem f32_ctr (k : Nat) : Ctr Tryd.prog k 32 (mk f32_pk f32_rk f32_F) :=
  fun_law (C := f32_C k) (phi_ok (ctr_cons (f31_ctr k) (ctr_cons (f37_ctr k) (ctr_cons (f53_ctr k) ctr_nil)))) prog_mixed (A := f32_A) (fn := Tryd.f32) (code := f32_code) (by kernel_rfl) (by kernel_rfl) (by kernel_rfl) f32_fits (fun x y h => (f32_eq k x).trans h)
abbrev f34_pk : List Kd := [.view soundT]
abbrev f34_rk : Kd := .view (.int .i64)
noncomputable def f34_code : Code := Tryd.f34.body.getD .skip
noncomputable def f34_C (k : Nat) : Ctx := { P := Tryd.prog, Φ := phi [(37, mk f37_pk f37_rk f37_F)], k := k, live := fun _ => [] }
def f34_A : Nat → Ann := fun _ => ⟨[], []⟩
def f34_raw0 (k : Nat) : ((Int × Int × Int × Unit) × List ByteArray × List Int × Unit) × Unit → Option (Int × Unit)
  | (((a0, a1, a2, ()), a3, a4, ()), ()) => (f37_F k ((a0, a1, a2, ()), ())).bind fun y => bif decide ¬y.1 = (0 : Int) then some (IntKind.i64.wrap ((Int.ofNat a4.length).tdiv y.1), ()) else none
def f34_F (k : Nat) : ((Int × Int × Int × Unit) × List ByteArray × List Int × Unit) × Unit → Option (Int × Unit) := f34_raw0 k
theorem f34_eq (k : Nat) (x : Kd.dens f34_pk) : runF (f34_C k) f34_A Tryd.f34.ntmps f34_code Tryd.f34.results.toList f34_pk f34_rk (encs f34_pk x) (decR f34_pk f34_rk) = f34_F k x := by
  show _ = f34_raw0 k x
  obtain ⟨⟨⟨a0, ⟨a1, ⟨a2, ⟨⟩⟩⟩⟩, ⟨a3, ⟨a4, ⟨⟩⟩⟩⟩, ⟨⟩⟩ := x
  kernel_rfl
theorem f34_fits : fitsC Tryd.prog Tryd.f34.ntmps f34_code = true := by kernel_rfl
theorem f34_ctr (k : Nat) : Ctr Tryd.prog k 34 (mk f34_pk f34_rk f34_F) :=
  fun_law (C := f34_C k) (phi_ok (ctr_cons (f37_ctr k) ctr_nil)) prog_mixed (A := f34_A) (fn := Tryd.f34) (code := f34_code) (by kernel_rfl) (by kernel_rfl) (by kernel_rfl) f34_fits (fun x y h => (f34_eq k x).trans h)
abbrev f58_pk : List Kd := [.box [.view (.sl (.int .u8)), .view .bool], .view (.int .i64)]
abbrev f58_rk : Kd := .view (.sl (.int .u8))
noncomputable def f58_code : Code := Tryd.f58.body.getD .skip
noncomputable def f58_C (k : Nat) : Ctx := { P := Tryd.prog, Φ := phi [], k := k, live := fun _ => [] }
def f58_A : Nat → Ann := fun _ => ⟨[], []⟩
def f58_raw0 (k : Nat) : (List Int × Bool × Unit) × Int × Unit → Option (List Int × (List Int × Bool × Unit) × Unit)
  | ((a0, a1, ()), a2, ()) => bif decide (a2 < (0 : Int)) then bif decide (((0 : Int) ≤ if (0 : Int) < if (64 : Int) < a2 then (64 : Int) else a2 then if (64 : Int) < a2 then (64 : Int) else a2 else (0 : Int)) ∧ ((if (0 : Int) < if (64 : Int) < a2 then (64 : Int) else a2 then if (64 : Int) < a2 then (64 : Int) else a2 else (0 : Int)) ≤ if (0 : Int) < if (64 : Int) < a2 then (64 : Int) else a2 then if (64 : Int) < a2 then (64 : Int) else a2 else (0 : Int)) ∧ (if (0 : Int) < if (64 : Int) < a2 then (64 : Int) else a2 then if (64 : Int) < a2 then (64 : Int) else a2 else (0 : Int)) < (4294967296 : Int)) then some (List.replicate (if (0 : Int) < if (64 : Int) < a2 then (64 : Int) else a2 then if (64 : Int) < a2 then (64 : Int) else a2 else (0 : Int)).toNat (0 : Int), (a0, true, ()), ()) else none else bif decide (Int.ofNat a0.length < a2) then bif decide (((0 : Int) ≤ if (0 : Int) < if (64 : Int) < a2 then (64 : Int) else a2 then if (64 : Int) < a2 then (64 : Int) else a2 else (0 : Int)) ∧ ((if (0 : Int) < if (64 : Int) < a2 then (64 : Int) else a2 then if (64 : Int) < a2 then (64 : Int) else a2 else (0 : Int)) ≤ if (0 : Int) < if (64 : Int) < a2 then (64 : Int) else a2 then if (64 : Int) < a2 then (64 : Int) else a2 else (0 : Int)) ∧ (if (0 : Int) < if (64 : Int) < a2 then (64 : Int) else a2 then if (64 : Int) < a2 then (64 : Int) else a2 else (0 : Int)) < (4294967296 : Int)) then some (List.replicate (if (0 : Int) < if (64 : Int) < a2 then (64 : Int) else a2 then if (64 : Int) < a2 then (64 : Int) else a2 else (0 : Int)).toNat (0 : Int), (a0, true, ()), ()) else none else bif decide ((0 : Int) ≤ (0 : Int) ∧ (0 : Int) ≤ a2 ∧ a2 ≤ Int.ofNat a0.length) then bif decide ((0 : Int) ≤ a2 ∧ a2 ≤ Int.ofNat a0.length ∧ Int.ofNat a0.length ≤ Int.ofNat a0.length) then some (List.drop (0 : Nat) (List.take a2.toNat a0), (List.drop a2.toNat (List.take (Int.ofNat a0.length).toNat a0), a1, ()), ()) else none else none
def f58_F (k : Nat) : (List Int × Bool × Unit) × Int × Unit → Option (List Int × (List Int × Bool × Unit) × Unit) := f58_raw0 k
theorem f58_eq (k : Nat) (x : Kd.dens f58_pk) : runF (f58_C k) f58_A Tryd.f58.ntmps f58_code Tryd.f58.results.toList f58_pk f58_rk (encs f58_pk x) (decR f58_pk f58_rk) = f58_F k x := by
  show _ = f58_raw0 k x
  obtain ⟨⟨a0, ⟨a1, ⟨⟩⟩⟩, ⟨a2, ⟨⟩⟩⟩ := x
  kernel_rfl
theorem f58_fits : fitsC Tryd.prog Tryd.f58.ntmps f58_code = true := by kernel_rfl
theorem f58_ctr (k : Nat) : Ctr Tryd.prog k 58 (mk f58_pk f58_rk f58_F) :=
  fun_law (C := f58_C k) (phi_ok ctr_nil) prog_mixed (A := f58_A) (fn := Tryd.f58) (code := f58_code) (by kernel_rfl) (by kernel_rfl) (by kernel_rfl) f58_fits (fun x y h => (f58_eq k x).trans h)
abbrev f38_pk : List Kd := [.box [.view (.sl (.int .u8)), .view .bool], .view (.int .i64)]
abbrev f38_rk : Kd := .view (.int .i64)
noncomputable def f38_code : Code := Tryd.f38.body.getD .skip
noncomputable def f38_C (k : Nat) : Ctx := { P := Tryd.prog, Φ := phi [(58, mk f58_pk f58_rk f58_F)], k := k, live := fun _ => [] }
def f38_A : Nat → Ann := fun id => bif Nat.beq id 3 then ⟨[11, 12, 10, 5], []⟩ else ⟨[], []⟩
def f38_S1 : Int × Int × List Int × Int × List Int × Bool → St
  | (v0, v1, v2, v3, v4, v5) => St.mk (envOf [(nat_lit 11, AV.val (PV.v (Value.int IntKind.i64 v0))), (nat_lit 12, AV.val (PV.v (Value.int IntKind.i64 v1))), (nat_lit 10, AV.val (PV.sl (Ty.int IntKind.u8) v2)), (nat_lit 5, AV.val (PV.v (Value.int IntKind.i64 v3)))]) (tblOf [(nat_lit 0, RS.live (Res.box [AV.val (PV.sl (Ty.int IntKind.u8) v4), AV.val (PV.v (Value.bool v5))]))])
def f38_raw1 (k : Nat) (L1 : Int × Int × List Int × Int × List Int × Bool → Option (Int × (List Int × Bool × Unit) × Unit)) : Int × Int × List Int × Int × List Int × Bool → Option (Int × (List Int × Bool × Unit) × Unit)
  | (v0, v1, v2, v3, v4, v5) => bif decide (v1 < v0) then bif decide ((0 : Int) ≤ v1 ∧ v1 < Int.ofNat v2.length) then bif decide ((0 : Int) ≤ IntKind.i64.wrap ((8 : Int) * v1)) then L1 (v0, IntKind.i64.wrap (v1 + (1 : Int)), v2, IntKind.i64.wrap (Int.ofNat (BitVec.ofInt (64 : Nat) v3 ||| BitVec.ofInt (64 : Nat) (IntKind.i64.wrap (IntKind.i64.wrap (v2.getD v1.toNat (OfNat.ofNat (0 : Nat))) * (2 : Int) ^ min (IntKind.i64.wrap ((8 : Int) * v1)).toNat (64 : Nat)))).toNat), v4, v5) else none else none else some (v3, (v4, v5, ()), ())
def f38_L1 (k : Nat) : Int × Int × List Int × Int × List Int × Bool → Option (Int × (List Int × Bool × Unit) × Unit) := iter (fun L1 => f38_raw1 k L1) k
noncomputable def f38_at1 (k : Nat) (n : Nat) (v : Int × Int × List Int × Int × List Int × Bool) : Option (Int × (List Int × Bool × Unit) × Unit) :=
  loopAt (f38_C k) f38_A [0] [1, 1, 0, 1, 0] [] f38_code (leaveK (f38_C k) Tryd.f38.results.toList f38_pk [AV.bx (nat_lit 0) (nat_lit 0)] f38_rk (decR f38_pk f38_rk)) n (f38_S1 v)
def f38_raw0 (k : Nat) (L1 : Int × Int × List Int × Int × List Int × Bool → Option (Int × (List Int × Bool × Unit) × Unit)) : (List Int × Bool × Unit) × Int × Unit → Option (Int × (List Int × Bool × Unit) × Unit)
  | ((a0, a1, ()), a2, ()) => (f58_F k ((a0, a1, ()), a2, ())).bind fun y => L1 (Int.ofNat (List.length y.1), (0 : Int), y.1, (0 : Int), y.2.1.1, y.2.1.2.1)
def f38_F (k : Nat) : (List Int × Bool × Unit) × Int × Unit → Option (Int × (List Int × Bool × Unit) × Unit) := f38_raw0 k (f38_L1 k)
theorem f38_law1 (k : Nat) : ∀ n, f38_at1 k n = iter (fun L1 => f38_raw1 k L1) n :=
  iter_law (fun v => by kernel_rfl) (fun n v => by
    show f38_at1 k (n + 1) v = f38_raw1 k (f38_at1 k n) v
    obtain ⟨v0, v1, v2, v3, v4, v5⟩ := v
    kernel_rfl)
theorem f38_eq (k : Nat) (x : Kd.dens f38_pk) : runF (f38_C k) f38_A Tryd.f38.ntmps f38_code Tryd.f38.results.toList f38_pk f38_rk (encs f38_pk x) (decR f38_pk f38_rk) = f38_F k x := by
  show _ = f38_raw0 k (f38_L1 k) x
  rw [show f38_L1 k = f38_at1 k k from (f38_law1 k k).symm]
  obtain ⟨⟨a0, ⟨a1, ⟨⟩⟩⟩, ⟨a2, ⟨⟩⟩⟩ := x
  kernel_rfl
theorem f38_fits : fitsC Tryd.prog Tryd.f38.ntmps f38_code = true := by kernel_rfl
theorem f38_ctr (k : Nat) : Ctr Tryd.prog k 38 (mk f38_pk f38_rk f38_F) :=
  fun_law (C := f38_C k) (phi_ok (ctr_cons (f58_ctr k) ctr_nil)) prog_mixed (A := f38_A) (fn := Tryd.f38) (code := f38_code) (by kernel_rfl) (by kernel_rfl) (by kernel_rfl) f38_fits (fun x y h => (f38_eq k x).trans h)
abbrev f54_pk : List Kd := [.box [.view (.sl (.int .u8)), .view .bool], .view .str]
abbrev f54_rk : Kd := .tup []
noncomputable def f54_code : Code := Tryd.f54.body.getD .skip
noncomputable def f54_C (k : Nat) : Ctx := { P := Tryd.prog, Φ := phi [(58, mk f58_pk f58_rk f58_F)], k := k, live := fun _ => [] }
def f54_A : Nat → Ann := fun _ => ⟨[], []⟩
def f54_raw0 (k : Nat) : (List Int × Bool × Unit) × ByteArray × Unit → Option (Unit × (List Int × Bool × Unit) × Unit)
  | ((a0, a1, ()), a2, ()) => bif a1 then some ((), (a0, true, ()), ()) else (f58_F k ((a0, a1, ()), Int.ofNat a2.size, ())).bind fun y => some ((), (y.2.1.1, !(ByteArray.mk (List.map (fun n => UInt8.ofNat n.toNat) y.1).toArray).toList == a2.toList, ()), ())
def f54_F (k : Nat) : (List Int × Bool × Unit) × ByteArray × Unit → Option (Unit × (List Int × Bool × Unit) × Unit) := f54_raw0 k
theorem f54_eq (k : Nat) (x : Kd.dens f54_pk) : runF (f54_C k) f54_A Tryd.f54.ntmps f54_code Tryd.f54.results.toList f54_pk f54_rk (encs f54_pk x) (decR f54_pk f54_rk) = f54_F k x := by
  show _ = f54_raw0 k x
  obtain ⟨⟨a0, ⟨a1, ⟨⟩⟩⟩, ⟨a2, ⟨⟩⟩⟩ := x
  kernel_rfl
theorem f54_fits : fitsC Tryd.prog Tryd.f54.ntmps f54_code = true := by kernel_rfl
theorem f54_ctr (k : Nat) : Ctr Tryd.prog k 54 (mk f54_pk f54_rk f54_F) :=
  fun_law (C := f54_C k) (phi_ok (ctr_cons (f58_ctr k) ctr_nil)) prog_mixed (A := f54_A) (fn := Tryd.f54) (code := f54_code) (by kernel_rfl) (by kernel_rfl) (by kernel_rfl) f54_fits (fun x y h => (f54_eq k x).trans h)
abbrev f55_pk : List Kd := [.box [.view (.sl (.int .u8)), .view .bool], .view (.int .i64), .view (.int .i64)]
abbrev f55_rk : Kd := .tup []
noncomputable def f55_code : Code := Tryd.f55.body.getD .skip
noncomputable def f55_C (k : Nat) : Ctx := { P := Tryd.prog, Φ := phi [(38, mk f38_pk f38_rk f38_F)], k := k, live := fun _ => [] }
def f55_A : Nat → Ann := fun _ => ⟨[], []⟩
def f55_raw0 (k : Nat) : (List Int × Bool × Unit) × Int × Int × Unit → Option (Unit × (List Int × Bool × Unit) × Unit)
  | ((a0, a1, ()), a2, a3, ()) => bif a1 then some ((), (a0, true, ()), ()) else (f38_F k ((a0, a1, ()), a3, ())).bind fun y => some ((), (y.2.1.1, y.1 != a2, ()), ())
def f55_F (k : Nat) : (List Int × Bool × Unit) × Int × Int × Unit → Option (Unit × (List Int × Bool × Unit) × Unit) := f55_raw0 k
theorem f55_eq (k : Nat) (x : Kd.dens f55_pk) : runF (f55_C k) f55_A Tryd.f55.ntmps f55_code Tryd.f55.results.toList f55_pk f55_rk (encs f55_pk x) (decR f55_pk f55_rk) = f55_F k x := by
  show _ = f55_raw0 k x
  obtain ⟨⟨a0, ⟨a1, ⟨⟩⟩⟩, ⟨a2, ⟨a3, ⟨⟩⟩⟩⟩ := x
  kernel_rfl
theorem f55_fits : fitsC Tryd.prog Tryd.f55.ntmps f55_code = true := by kernel_rfl
theorem f55_ctr (k : Nat) : Ctr Tryd.prog k 55 (mk f55_pk f55_rk f55_F) :=
  fun_law (C := f55_C k) (phi_ok (ctr_cons (f38_ctr k) ctr_nil)) prog_mixed (A := f55_A) (fn := Tryd.f55) (code := f55_code) (by kernel_rfl) (by kernel_rfl) (by kernel_rfl) f55_fits (fun x y h => (f55_eq k x).trans h)
abbrev f39_pk : List Kd := [.view (.sl (.int .u8)), .view (.sl (.int .u8))]
abbrev f39_rk : Kd := .view .bool
noncomputable def f39_code : Code := Tryd.f39.body.getD .skip
noncomputable def f39_C (k : Nat) : Ctx := { P := Tryd.prog, Φ := phi [], k := k, live := fun _ => [] }
def f39_A : Nat → Ann := fun _ => ⟨[], []⟩
def f39_raw0 (k : Nat) : List Int × List Int × Unit → Option (Bool × Unit)
  | (a0, a1, ()) => some ((ByteArray.mk (List.map (fun n => UInt8.ofNat n.toNat) a0).toArray).toList == (ByteArray.mk (List.map (fun n => UInt8.ofNat n.toNat) a1).toArray).toList, ())
def f39_F (k : Nat) : List Int × List Int × Unit → Option (Bool × Unit) := f39_raw0 k
theorem f39_eq (k : Nat) (x : Kd.dens f39_pk) : runF (f39_C k) f39_A Tryd.f39.ntmps f39_code Tryd.f39.results.toList f39_pk f39_rk (encs f39_pk x) (decR f39_pk f39_rk) = f39_F k x := by
  show _ = f39_raw0 k x
  obtain ⟨a0, ⟨a1, ⟨⟩⟩⟩ := x
  kernel_rfl
theorem f39_fits : fitsC Tryd.prog Tryd.f39.ntmps f39_code = true := by kernel_rfl
theorem f39_ctr (k : Nat) : Ctr Tryd.prog k 39 (mk f39_pk f39_rk f39_F) :=
  fun_law (C := f39_C k) (phi_ok ctr_nil) prog_mixed (A := f39_A) (fn := Tryd.f39) (code := f39_code) (by kernel_rfl) (by kernel_rfl) (by kernel_rfl) f39_fits (fun x y h => (f39_eq k x).trans h)
abbrev f65_pk : List Kd := [.view (.sl (.int .u8)), .view (.sl (.int .u8))]
abbrev f65_rk : Kd := .view .bool
noncomputable def f65_code : Code := Tryd.f65.body.getD .skip
noncomputable def f65_C (k : Nat) : Ctx := { P := Tryd.prog, Φ := phi [(39, mk f39_pk f39_rk f39_F)], k := k, live := fun _ => [] }
def f65_A : Nat → Ann := fun _ => ⟨[], []⟩
def f65_raw0 (k : Nat) : List Int × List Int × Unit → Option (Bool × Unit)
  | (a0, a1, ()) => bif decide (Int.ofNat a1.length ≤ Int.ofNat a0.length) then bif decide ((0 : Int) ≤ (0 : Int) ∧ (0 : Int) ≤ Int.ofNat a1.length ∧ Int.ofNat a1.length ≤ Int.ofNat a0.length) then (f39_F k (List.drop (0 : Nat) (List.take (Int.ofNat a1.length).toNat a0), a1, ())).bind fun y => some (y.1, ()) else none else some (false, ())
def f65_F (k : Nat) : List Int × List Int × Unit → Option (Bool × Unit) := f65_raw0 k
theorem f65_eq (k : Nat) (x : Kd.dens f65_pk) : runF (f65_C k) f65_A Tryd.f65.ntmps f65_code Tryd.f65.results.toList f65_pk f65_rk (encs f65_pk x) (decR f65_pk f65_rk) = f65_F k x := by
  show _ = f65_raw0 k x
  obtain ⟨a0, ⟨a1, ⟨⟩⟩⟩ := x
  kernel_rfl
theorem f65_fits : fitsC Tryd.prog Tryd.f65.ntmps f65_code = true := by kernel_rfl
theorem f65_ctr (k : Nat) : Ctr Tryd.prog k 65 (mk f65_pk f65_rk f65_F) :=
  fun_law (C := f65_C k) (phi_ok (ctr_cons (f39_ctr k) ctr_nil)) prog_mixed (A := f65_A) (fn := Tryd.f65) (code := f65_code) (by kernel_rfl) (by kernel_rfl) (by kernel_rfl) f65_fits (fun x y h => (f65_eq k x).trans h)
abbrev f40_pk : List Kd := [.view .str]
abbrev f40_rk : Kd := .view (.int .i64)
noncomputable def f40_code : Code := Tryd.f40.body.getD .skip
noncomputable def f40_C (k : Nat) : Ctx := { P := Tryd.prog, Φ := phi [], k := k, live := fun _ => [] }
def f40_A : Nat → Ann := fun id => bif Nat.beq id 3 then ⟨[4, 3, 0], []⟩ else ⟨[], []⟩
def f40_S1 : Int × Int × ByteArray → St
  | (v0, v1, v2) => St.mk (envOf [(nat_lit 4, AV.val (PV.v (Value.int IntKind.i64 v0))), (nat_lit 3, AV.val (PV.v (Value.int IntKind.i64 v1))), (nat_lit 0, AV.val (PV.v (Value.string v2)))]) (tblOf [])
def f40_raw1 (k : Nat) (L1 : Int × Int × ByteArray → Option (Int × Unit)) : Int × Int × ByteArray → Option (Int × Unit)
  | (v0, v1, v2) => bif decide ((0 : Int) ≤ v0) then bif decide ((0 : Int) ≤ v0 ∧ v0 < Int.ofNat v2.size) then L1 (IntKind.i64.wrap (v0 - (1 : Int)), IntKind.i64.wrap (IntKind.i64.wrap (v1 * (256 : Int)) + IntKind.i64.wrap (Int.ofNat (v2.data.toList.getD v0.toNat (OfNat.ofNat (0 : Nat))).toNat)), v2) else none else some (v1, ())
def f40_L1 (k : Nat) : Int × Int × ByteArray → Option (Int × Unit) := iter (fun L1 => f40_raw1 k L1) k
noncomputable def f40_at1 (k : Nat) (n : Nat) (v : Int × Int × ByteArray) : Option (Int × Unit) :=
  loopAt (f40_C k) f40_A [] [1, 1, 0, 1, 0] [] f40_code (leaveK (f40_C k) Tryd.f40.results.toList f40_pk [] f40_rk (decR f40_pk f40_rk)) n (f40_S1 v)
def f40_raw0 (k : Nat) (L1 : Int × Int × ByteArray → Option (Int × Unit)) : ByteArray × Unit → Option (Int × Unit)
  | (a0, ()) => L1 (IntKind.i64.wrap (Int.ofNat a0.size - (1 : Int)), (0 : Int), a0)
def f40_F (k : Nat) : ByteArray × Unit → Option (Int × Unit) := f40_raw0 k (f40_L1 k)
theorem f40_law1 (k : Nat) : ∀ n, f40_at1 k n = iter (fun L1 => f40_raw1 k L1) n :=
  iter_law (fun v => by kernel_rfl) (fun n v => by
    show f40_at1 k (n + 1) v = f40_raw1 k (f40_at1 k n) v
    obtain ⟨v0, v1, v2⟩ := v
    kernel_rfl)
theorem f40_eq (k : Nat) (x : Kd.dens f40_pk) : runF (f40_C k) f40_A Tryd.f40.ntmps f40_code Tryd.f40.results.toList f40_pk f40_rk (encs f40_pk x) (decR f40_pk f40_rk) = f40_F k x := by
  show _ = f40_raw0 k (f40_L1 k) x
  rw [show f40_L1 k = f40_at1 k k from (f40_law1 k k).symm]
  obtain ⟨a0, ⟨⟩⟩ := x
  kernel_rfl
theorem f40_fits : fitsC Tryd.prog Tryd.f40.ntmps f40_code = true := by kernel_rfl
theorem f40_ctr (k : Nat) : Ctr Tryd.prog k 40 (mk f40_pk f40_rk f40_F) :=
  fun_law (C := f40_C k) (phi_ok ctr_nil) prog_mixed (A := f40_A) (fn := Tryd.f40) (code := f40_code) (by kernel_rfl) (by kernel_rfl) (by kernel_rfl) f40_fits (fun x y h => (f40_eq k x).trans h)
abbrev f56_pk : List Kd := [.box [.view (.sl (.int .u8)), .view .bool]]
abbrev f56_rk : Kd := .view shapeT
noncomputable def f56_code : Code := Tryd.f56.body.getD .skip
noncomputable def f56_C (k : Nat) : Ctx := { P := Tryd.prog, Φ := phi [(54, mk f54_pk f54_rk f54_F), (55, mk f55_pk f55_rk f55_F), (38, mk f38_pk f38_rk f38_F), (48, mk f48_pk f48_rk f48_F), (37, mk f37_pk f37_rk f37_F)], k := k, live := fun _ => [] }
def f56_A : Nat → Ann := fun _ => ⟨[], []⟩
def f56_raw0 (k : Nat) : (List Int × Bool × Unit) × Unit → Option ((Int × Int × Int × Unit) × (List Int × Bool × Unit) × Unit)
  | ((a0, a1, ()), ()) => (f54_F k ((a0, a1, ()), ByteArray.mk #[OfNat.ofNat (102 : Nat), OfNat.ofNat (109 : Nat), OfNat.ofNat (116 : Nat), OfNat.ofNat (32 : Nat)], ())).bind fun y => (f55_F k ((y.2.1.1, y.2.1.2.1, ()), OfNat.ofNat (16 : Nat), OfNat.ofNat (4 : Nat), ())).bind fun y => (f55_F k ((y.2.1.1, y.2.1.2.1, ()), OfNat.ofNat (1 : Nat), OfNat.ofNat (2 : Nat), ())).bind fun y => (f38_F k ((y.2.1.1, y.2.1.2.1, ()), OfNat.ofNat (2 : Nat), ())).bind fun y => (f38_F k ((y.2.1.1, y.2.1.2.1, ()), OfNat.ofNat (4 : Nat), ())).bind fun y_1 => (f38_F k ((y_1.2.1.1, y_1.2.1.2.1, ()), OfNat.ofNat (4 : Nat), ())).bind fun y_2 => (f38_F k ((y_2.2.1.1, y_2.2.1.2.1, ()), OfNat.ofNat (2 : Nat), ())).bind fun y_3 => (f38_F k ((y_3.2.1.1, y_3.2.1.2.1, ()), OfNat.ofNat (2 : Nat), ())).bind fun y_4 => bif y_4.2.1.2.1 then some ((y.1, y_4.1, y_1.1, ()), (y_4.2.1.1, true, ()), ()) else (f48_F k ((y.1, y_4.1, y_1.1, ()), ())).bind fun y_5 => bif y_5.1 != (0 : Int) then some ((y.1, y_4.1, y_1.1, ()), (y_4.2.1.1, true, ()), ()) else (f37_F k ((y.1, y_4.1, y_1.1, ()), ())).bind fun y_6 => bif y_2.1 != IntKind.i64.wrap (y_1.1 * y_6.1) then some ((y.1, y_4.1, y_1.1, ()), (y_4.2.1.1, true, ()), ()) else (f37_F k ((y.1, y_4.1, y_1.1, ()), ())).bind fun y_7 => some ((y.1, y_4.1, y_1.1, ()), (y_4.2.1.1, y_3.1 != y_7.1, ()), ())
def f56_F (k : Nat) : (List Int × Bool × Unit) × Unit → Option ((Int × Int × Int × Unit) × (List Int × Bool × Unit) × Unit) := f56_raw0 k
theorem f56_eq (k : Nat) (x : Kd.dens f56_pk) : runF (f56_C k) f56_A Tryd.f56.ntmps f56_code Tryd.f56.results.toList f56_pk f56_rk (encs f56_pk x) (decR f56_pk f56_rk) = f56_F k x := by
  show _ = f56_raw0 k x
  obtain ⟨⟨a0, ⟨a1, ⟨⟩⟩⟩, ⟨⟩⟩ := x
  kernel_rfl
theorem f56_fits : fitsC Tryd.prog Tryd.f56.ntmps f56_code = true := by kernel_rfl
theorem f56_ctr (k : Nat) : Ctr Tryd.prog k 56 (mk f56_pk f56_rk f56_F) :=
  fun_law (C := f56_C k) (phi_ok (ctr_cons (f54_ctr k) (ctr_cons (f55_ctr k) (ctr_cons (f38_ctr k) (ctr_cons (f48_ctr k) (ctr_cons (f37_ctr k) ctr_nil)))))) prog_mixed (A := f56_A) (fn := Tryd.f56) (code := f56_code) (by kernel_rfl) (by kernel_rfl) (by kernel_rfl) f56_fits (fun x y h => (f56_eq k x).trans h)
def wavRho : Go.Shelf.Ren := ⟨fun n => match n with | 4 => 59 | 15 => 64 | 20 => 74 | 119 => 90 | 120 => 86 | 137 => 89 | 151 => 78 | 152 => 85 | 160 => 63 | 197 => 77 | 217 => 80 | 219 => 75 | 224 => 82 | 225 => 81 | 227 => 69 | 228 => 76 | 231 => 67 | 232 => 68 | 233 => 70 | 234 => 71 | 235 => 72 | 236 => 73 | 260 => 84 | 266 => 87 | 267 => 83 | 271 => 79 | 314 => 88 | 315 => 74 | _ => 0, fun n => match n with | 0 => 0 | 3 => 3 | 4 => 4 | 5 => 5 | 9 => 9 | 20 => 20 | 21 => 21 | 22 => 32 | 23 => 105 | 25 => 5 | 40 => 105 | 46 => 99 | 51 => 123 | 105 => 118 | 116 => 110 | 117 => 111 | 119 => 126 | 124 => 114 | 138 => 128 | 139 => 129 | 146 => 124 | _ => 0, fun n => match n with | 1 => 0 | 3 => 1 | 4 => 2 | _ => 0⟩
abbrev f75_pk : List Kd := [.view .str, .view .str]
abbrev f75_rk : Kd := .view (.int .i64)
def f75_F (k : Nat) : ByteArray × ByteArray × Unit → Option (Int × Unit) := fun x => indexF x
theorem wavLaysI : Go.Proofs.Lays.n219 Tryd.prog wavRho := by
  constructor <;> first | kernel_rfl | (intro w; kernel_rfl)
theorem f75_ctr (k : Nat) : Ctr Tryd.prog k 75 (mk f75_pk f75_rk f75_F) := index_ctr wavLaysI rfl (fn := Tryd.f75) (by kernel_rfl) (by kernel_rfl) (by kernel_rfl)
abbrev f66_pk : List Kd := [.view .str, .view .str]
abbrev f66_rk : Kd := .tup [.view .str, .view .str, .view .bool]
noncomputable def f66_code : Code := Tryd.f66.body.getD .skip
noncomputable def f66_C (k : Nat) : Ctx := { P := Tryd.prog, Φ := phi [(75, mk f75_pk f75_rk f75_F)], k := k, live := fun _ => [] }
def f66_A : Nat → Ann := fun _ => ⟨[], []⟩
def f66_raw0 (k : Nat) : ByteArray × ByteArray × Unit → Option ((ByteArray × ByteArray × Bool × Unit) × Unit)
  | (a0, a1, ()) => (f75_F k (a0, a1, ())).bind fun y => bif decide ((0 : Int) ≤ y.1) then bif decide ((0 : Int) ≤ (0 : Int) ∧ (0 : Int) ≤ y.1 ∧ y.1 ≤ Int.ofNat a0.size) then bif decide ((0 : Int) ≤ IntKind.i64.wrap (y.1 + Int.ofNat a1.size) ∧ IntKind.i64.wrap (y.1 + Int.ofNat a1.size) ≤ Int.ofNat a0.size ∧ Int.ofNat a0.size ≤ Int.ofNat a0.size) then some ((a0.extract (0 : Nat) (Int.toNat y.1), a0.extract (IntKind.i64.wrap (y.1 + Int.ofNat a1.size)).toNat (Int.ofNat a0.size).toNat, true, ()), ()) else none else none else some ((a0, ByteArray.mk #[], false, ()), ())
def f66_F (k : Nat) : ByteArray × ByteArray × Unit → Option ((ByteArray × ByteArray × Bool × Unit) × Unit) := f66_raw0 k
theorem f66_eq (k : Nat) (x : Kd.dens f66_pk) : runF (f66_C k) f66_A Tryd.f66.ntmps f66_code Tryd.f66.results.toList f66_pk f66_rk (encs f66_pk x) (decR f66_pk f66_rk) = f66_F k x := by
  show _ = f66_raw0 k x
  obtain ⟨a0, ⟨a1, ⟨⟩⟩⟩ := x
  kernel_rfl
theorem f66_fits : fitsC Tryd.prog Tryd.f66.ntmps f66_code = true := by kernel_rfl
theorem f66_ctr (k : Nat) : Ctr Tryd.prog k 66 (mk f66_pk f66_rk f66_F) :=
  fun_law (C := f66_C k) (phi_ok (ctr_cons (f75_ctr k) ctr_nil)) prog_mixed (A := f66_A) (fn := Tryd.f66) (code := f66_code) (by kernel_rfl) (by kernel_rfl) (by kernel_rfl) f66_fits (fun x y h => (f66_eq k x).trans h)
abbrev f61_pk : List Kd := [.view .str, .view .str]
abbrev f61_rk : Kd := .tup [.view .str, .view .str, .view .bool]
noncomputable def f61_code : Code := Tryd.f61.body.getD .skip
noncomputable def f61_C (k : Nat) : Ctx := { P := Tryd.prog, Φ := phi [(66, mk f66_pk f66_rk f66_F)], k := k, live := fun _ => [] }
def f61_A : Nat → Ann := fun _ => ⟨[], []⟩
def f61_raw0 (k : Nat) : ByteArray × ByteArray × Unit → Option ((ByteArray × ByteArray × Bool × Unit) × Unit)
  | (a0, a1, ()) => (f66_F k (a0, a1, ())).bind fun y => some ((y.1.1, y.1.2.1, y.1.2.2.1, ()), ())
def f61_F (k : Nat) : ByteArray × ByteArray × Unit → Option ((ByteArray × ByteArray × Bool × Unit) × Unit) := f61_raw0 k
theorem f61_eq (k : Nat) (x : Kd.dens f61_pk) : runF (f61_C k) f61_A Tryd.f61.ntmps f61_code Tryd.f61.results.toList f61_pk f61_rk (encs f61_pk x) (decR f61_pk f61_rk) = f61_F k x := by
  show _ = f61_raw0 k x
  obtain ⟨a0, ⟨a1, ⟨⟩⟩⟩ := x
  kernel_rfl
theorem f61_fits : fitsC Tryd.prog Tryd.f61.ntmps f61_code = true := by kernel_rfl
theorem f61_ctr (k : Nat) : Ctr Tryd.prog k 61 (mk f61_pk f61_rk f61_F) :=
  fun_law (C := f61_C k) (phi_ok (ctr_cons (f66_ctr k) ctr_nil)) prog_mixed (A := f61_A) (fn := Tryd.f61) (code := f61_code) (by kernel_rfl) (by kernel_rfl) (by kernel_rfl) f61_fits (fun x y h => (f61_eq k x).trans h)
abbrev f62_pk : List Kd := [.view (.int .i32)]
abbrev f62_rk : Kd := .view .bool
noncomputable def f62_code : Code := Tryd.f62.body.getD .skip
noncomputable def f62_C (k : Nat) : Ctx := { P := Tryd.prog, Φ := phi [], k := k, live := fun _ => [] }
def f62_A : Nat → Ann := fun _ => ⟨[], []⟩
def f62_raw0 (k : Nat) : Int × Unit → Option (Bool × Unit)
  | (a0, ()) => bif decide (a0 < (33 : Int)) then some (true, ()) else some (decide ((126 : Int) < a0), ())
def f62_F (k : Nat) : Int × Unit → Option (Bool × Unit) := f62_raw0 k
theorem f62_eq (k : Nat) (x : Kd.dens f62_pk) : runF (f62_C k) f62_A Tryd.f62.ntmps f62_code Tryd.f62.results.toList f62_pk f62_rk (encs f62_pk x) (decR f62_pk f62_rk) = f62_F k x := by
  show _ = f62_raw0 k x
  obtain ⟨a0, ⟨⟩⟩ := x
  kernel_rfl
theorem f62_fits : fitsC Tryd.prog Tryd.f62.ntmps f62_code = true := by kernel_rfl
theorem f62_ctr (k : Nat) : Ctr Tryd.prog k 62 (mk f62_pk f62_rk f62_F) :=
  fun_law (C := f62_C k) (phi_ok ctr_nil) prog_mixed (A := f62_A) (fn := Tryd.f62) (code := f62_code) (by kernel_rfl) (by kernel_rfl) (by kernel_rfl) f62_fits (fun x y h => (f62_eq k x).trans h)
abbrev f63_pk : List Kd := [.view .str, .view .str]
abbrev f63_rk : Kd := .view .str
def f63_F (k : Nat) : ByteArray × ByteArray × Unit → Option (ByteArray × Unit) := fun x => trimF x
theorem wavLaysT : Go.Proofs.Lays.n160 Tryd.prog wavRho := by
  constructor <;> first | kernel_rfl | (intro w; kernel_rfl)
theorem f63_ctr (k : Nat) : Ctr Tryd.prog k 63 (mk f63_pk f63_rk f63_F) := trim_ctr wavLaysT (by kernel_rfl) rfl (fn := Tryd.f63) (by kernel_rfl) (by kernel_rfl) (by kernel_rfl)
abbrev f64_pk : List Kd := [.view .str, .fn 62]
abbrev f64_rk : Kd := .view (.int .i64)
def f64_p (n : Nat) : Bool := Nat.blt n 33 || Nat.blt 126 n
def f64_F (k : Nat) : ByteArray × Unit × Unit → Option (Int × Unit) := fun x => idxF f64_p x
theorem wavLaysF : Go.Proofs.LaysGw.n15 Tryd.prog wavRho := by
  constructor <;> first | kernel_rfl | (intro w; kernel_rfl)
theorem f64_odd (k n : Nat) : f62_F k ((n : Int), ()) = some (f64_p n, ()) := by
  show (bif decide ((n : Int) < 33) then some (true, ()) else some (decide ((126 : Int) < (n : Int)), ())) = some (f64_p n, ())
  unfold f64_p
  cases h : Nat.blt n 33 with
  | true =>
    have : n < 33 := Nat.le_of_ble_eq_true h
    rw [decide_eq_true (by omega)]; rfl
  | false =>
    have : ¬ n < 33 := fun h' => by rw [Nat.ble_eq_true_of_le (show n + 1 ≤ 33 from h') |> (fun e => (show Nat.blt n 33 = true from e))] at h; cases h
    rw [decide_eq_false (by omega)]
    cases h2 : Nat.blt 126 n with
    | true =>
      have : 126 < n := Nat.le_of_ble_eq_true h2
      rw [decide_eq_true (by omega)]; rfl
    | false =>
      have : ¬ 126 < n := fun h' => by rw [show Nat.blt 126 n = true from Nat.ble_eq_true_of_le h'] at h2; cases h2
      rw [decide_eq_false (by omega)]; rfl
theorem f64_ctr (k : Nat) : Ctr Tryd.prog k 64 (mk f64_pk f64_rk f64_F) := idx_ctr wavLaysF (f62_ctr k) (f64_odd k) rfl (fn := Tryd.f64) (by kernel_rfl) (by kernel_rfl) (by kernel_rfl)
abbrev f51_pk : List Kd := [.view .str]
abbrev f51_rk : Kd := .view .bool
noncomputable def f51_code : Code := Tryd.f51.body.getD .skip
noncomputable def f51_C (k : Nat) : Ctx := { P := Tryd.prog, Φ := phi [(61, mk f61_pk f61_rk f61_F), (63, mk f63_pk f63_rk f63_F), (64, mk f64_pk f64_rk f64_F)], k := k, live := fun _ => [] }
def f51_A : Nat → Ann := fun _ => ⟨[], []⟩
def f51_raw0 (k : Nat) : ByteArray × Unit → Option (Bool × Unit)
  | (a0, ()) => (f61_F k (a0, ByteArray.mk #[OfNat.ofNat (61 : Nat)], ())).bind fun y => bif y.1.2.2.1 then bif !ByteArray.toList y.1.1 == (ByteArray.mk #[]).toList then bif !ByteArray.toList y.1.2.1 == (ByteArray.mk #[]).toList then bif decide (Int.ofNat a0.size ≤ (12 : Int)) then (f63_F k (y.1.1, ByteArray.mk #[OfNat.ofNat (97 : Nat), OfNat.ofNat (98 : Nat), OfNat.ofNat (99 : Nat), OfNat.ofNat (100 : Nat), OfNat.ofNat (101 : Nat), OfNat.ofNat (102 : Nat), OfNat.ofNat (103 : Nat), OfNat.ofNat (104 : Nat), OfNat.ofNat (105 : Nat), OfNat.ofNat (106 : Nat), OfNat.ofNat (107 : Nat), OfNat.ofNat (108 : Nat), OfNat.ofNat (109 : Nat), OfNat.ofNat (110 : Nat), OfNat.ofNat (111 : Nat), OfNat.ofNat (112 : Nat), OfNat.ofNat (113 : Nat), OfNat.ofNat (114 : Nat), OfNat.ofNat (115 : Nat), OfNat.ofNat (116 : Nat), OfNat.ofNat (117 : Nat), OfNat.ofNat (118 : Nat), OfNat.ofNat (119 : Nat), OfNat.ofNat (120 : Nat), OfNat.ofNat (121 : Nat), OfNat.ofNat (122 : Nat)], ())).bind fun y_1 => bif ByteArray.toList y_1.1 == (ByteArray.mk #[]).toList then (f64_F k (y.1.2.1, (), ())).bind fun y => some (decide (y.1 < (0 : Int)), ()) else some (false, ()) else some (false, ()) else some (false, ()) else some (false, ()) else some (false, ())
def f51_F (k : Nat) : ByteArray × Unit → Option (Bool × Unit) := f51_raw0 k
theorem f51_eq (k : Nat) (x : Kd.dens f51_pk) : runF (f51_C k) f51_A Tryd.f51.ntmps f51_code Tryd.f51.results.toList f51_pk f51_rk (encs f51_pk x) (decR f51_pk f51_rk) = f51_F k x := by
  show _ = f51_raw0 k x
  obtain ⟨a0, ⟨⟩⟩ := x
  kernel_rfl
theorem f51_fits : fitsC Tryd.prog Tryd.f51.ntmps f51_code = true := by kernel_rfl
theorem f51_ctr (k : Nat) : Ctr Tryd.prog k 51 (mk f51_pk f51_rk f51_F) :=
  fun_law (C := f51_C k) (phi_ok (ctr_cons (f61_ctr k) (ctr_cons (f63_ctr k) (ctr_cons (f64_ctr k) ctr_nil)))) prog_mixed (A := f51_A) (fn := Tryd.f51) (code := f51_code) (by kernel_rfl) (by kernel_rfl) (by kernel_rfl) f51_fits (fun x y h => (f51_eq k x).trans h)
abbrev f50_pk : List Kd := [.view .str]
abbrev f50_rk : Kd := .view .bool
noncomputable def f50_code : Code := Tryd.f50.body.getD .skip
noncomputable def f50_C (k : Nat) : Ctx := { P := Tryd.prog, Φ := phi [(51, mk f51_pk f51_rk f51_F)], k := k, live := fun _ => [] }
def f50_A : Nat → Ann := fun _ => ⟨[], []⟩
def f50_raw0 (k : Nat) : ByteArray × Unit → Option (Bool × Unit)
  | (a0, ()) => (f51_F k (a0, ())).bind fun y => some (!y.1, ())
def f50_F (k : Nat) : ByteArray × Unit → Option (Bool × Unit) := f50_raw0 k
theorem f50_eq (k : Nat) (x : Kd.dens f50_pk) : runF (f50_C k) f50_A Tryd.f50.ntmps f50_code Tryd.f50.results.toList f50_pk f50_rk (encs f50_pk x) (decR f50_pk f50_rk) = f50_F k x := by
  show _ = f50_raw0 k x
  obtain ⟨a0, ⟨⟩⟩ := x
  kernel_rfl
theorem f50_fits : fitsC Tryd.prog Tryd.f50.ntmps f50_code = true := by kernel_rfl
theorem f50_ctr (k : Nat) : Ctr Tryd.prog k 50 (mk f50_pk f50_rk f50_F) :=
  fun_law (C := f50_C k) (phi_ok (ctr_cons (f51_ctr k) ctr_nil)) prog_mixed (A := f50_A) (fn := Tryd.f50) (code := f50_code) (by kernel_rfl) (by kernel_rfl) (by kernel_rfl) f50_fits (fun x y h => (f50_eq k x).trans h)
abbrev f60_pk : List Kd := [.view (.sl .str), .fn 50]
abbrev f60_rk : Kd := .view (.int .i64)
noncomputable def f60_code : Code := Tryd.f60.body.getD .skip
noncomputable def f60_C (k : Nat) : Ctx := { P := Tryd.prog, Φ := phi [(50, mk f50_pk f50_rk f50_F)], k := k, live := fun _ => [] }
def f60_A : Nat → Ann := fun id => bif Nat.beq id 2 then ⟨[7, 8, 1, 0], []⟩ else ⟨[], []⟩
def f60_S1 : Int × Int × List ByteArray → St
  | (v0, v1, v2) => St.mk (envOf [(nat_lit 7, AV.val (PV.v (Value.int IntKind.i64 v0))), (nat_lit 8, AV.val (PV.v (Value.int IntKind.i64 v1))), (nat_lit 1, AV.fn (nat_lit 50)), (nat_lit 0, AV.val (PV.sl Ty.str v2))]) (tblOf [])
def f60_raw1 (k : Nat) (L1 : Int × Int × List ByteArray → Option (Int × Unit)) : Int × Int × List ByteArray → Option (Int × Unit)
  | (v0, v1, v2) => bif decide (v1 < v0) then bif decide ((0 : Int) ≤ v1 ∧ v1 < Int.ofNat v2.length) then (f50_F k (v2.getD v1.toNat (ByteArray.mk #[]), ())).bind fun y => bif y.1 then some (v1, ()) else L1 (v0, IntKind.i64.wrap (v1 + (1 : Int)), v2) else none else some ((-1 : Int), ())
def f60_L1 (k : Nat) : Int × Int × List ByteArray → Option (Int × Unit) := iter (fun L1 => f60_raw1 k L1) k
noncomputable def f60_at1 (k : Nat) (n : Nat) (v : Int × Int × List ByteArray) : Option (Int × Unit) :=
  loopAt (f60_C k) f60_A [] [1, 0, 1, 0] [] f60_code (leaveK (f60_C k) Tryd.f60.results.toList f60_pk [] f60_rk (decR f60_pk f60_rk)) n (f60_S1 v)
def f60_raw0 (k : Nat) (L1 : Int × Int × List ByteArray → Option (Int × Unit)) : List ByteArray × Unit × Unit → Option (Int × Unit)
  | (a0, (), ()) => L1 (Int.ofNat a0.length, (0 : Int), a0)
def f60_F (k : Nat) : List ByteArray × Unit × Unit → Option (Int × Unit) := f60_raw0 k (f60_L1 k)
theorem f60_law1 (k : Nat) : ∀ n, f60_at1 k n = iter (fun L1 => f60_raw1 k L1) n :=
  iter_law (fun v => by kernel_rfl) (fun n v => by
    show f60_at1 k (n + 1) v = f60_raw1 k (f60_at1 k n) v
    obtain ⟨v0, v1, v2⟩ := v
    kernel_rfl)
theorem f60_eq (k : Nat) (x : Kd.dens f60_pk) : runF (f60_C k) f60_A Tryd.f60.ntmps f60_code Tryd.f60.results.toList f60_pk f60_rk (encs f60_pk x) (decR f60_pk f60_rk) = f60_F k x := by
  show _ = f60_raw0 k (f60_L1 k) x
  rw [show f60_L1 k = f60_at1 k k from (f60_law1 k k).symm]
  obtain ⟨a0, ⟨⟨⟩, ⟨⟩⟩⟩ := x
  kernel_rfl
theorem f60_fits : fitsC Tryd.prog Tryd.f60.ntmps f60_code = true := by kernel_rfl
theorem f60_ctr (k : Nat) : Ctr Tryd.prog k 60 (mk f60_pk f60_rk f60_F) :=
  fun_law (C := f60_C k) (phi_ok (ctr_cons (f50_ctr k) ctr_nil)) prog_mixed (A := f60_A) (fn := Tryd.f60) (code := f60_code) (by kernel_rfl) (by kernel_rfl) (by kernel_rfl) f60_fits (fun x y h => (f60_eq k x).trans h)
abbrev f49_pk : List Kd := [.view (.sl .str), .fn 50]
abbrev f49_rk : Kd := .view .bool
noncomputable def f49_code : Code := Tryd.f49.body.getD .skip
noncomputable def f49_C (k : Nat) : Ctx := { P := Tryd.prog, Φ := phi [(60, mk f60_pk f60_rk f60_F)], k := k, live := fun _ => [] }
def f49_A : Nat → Ann := fun _ => ⟨[], []⟩
def f49_raw0 (k : Nat) : List ByteArray × Unit × Unit → Option (Bool × Unit)
  | (a0, (), ()) => (f60_F k (a0, (), ())).bind fun y => some (decide ((0 : Int) ≤ y.1), ())
def f49_F (k : Nat) : List ByteArray × Unit × Unit → Option (Bool × Unit) := f49_raw0 k
theorem f49_eq (k : Nat) (x : Kd.dens f49_pk) : runF (f49_C k) f49_A Tryd.f49.ntmps f49_code Tryd.f49.results.toList f49_pk f49_rk (encs f49_pk x) (decR f49_pk f49_rk) = f49_F k x := by
  show _ = f49_raw0 k x
  obtain ⟨a0, ⟨⟨⟩, ⟨⟩⟩⟩ := x
  kernel_rfl
theorem f49_fits : fitsC Tryd.prog Tryd.f49.ntmps f49_code = true := by kernel_rfl
theorem f49_ctr (k : Nat) : Ctr Tryd.prog k 49 (mk f49_pk f49_rk f49_F) :=
  fun_law (C := f49_C k) (phi_ok (ctr_cons (f60_ctr k) ctr_nil)) prog_mixed (A := f49_A) (fn := Tryd.f49) (code := f49_code) (by kernel_rfl) (by kernel_rfl) (by kernel_rfl) f49_fits (fun x y h => (f49_eq k x).trans h)
abbrev f29_pk : List Kd := [.view trackT]
abbrev f29_rk : Kd := .view (.int .i64)
noncomputable def f29_code : Code := Tryd.f29.body.getD .skip
noncomputable def f29_C (k : Nat) : Ctx := { P := Tryd.prog, Φ := phi [(48, mk f48_pk f48_rk f48_F), (52, mk f52_pk f52_rk f52_F), (49, mk f49_pk f49_rk f49_F)], k := k, live := fun _ => [] }
def f29_A : Nat → Ann := fun id => bif Nat.beq id 16 then ⟨[61, 62, 60, 1, 56, 55, 54], []⟩ else bif Nat.beq id 13 then ⟨[55, 56, 54, 1], []⟩ else bif Nat.beq id 7 then ⟨[37, 38, 36, 1], []⟩ else ⟨[], []⟩
def f29_S3 : Int × Int × List Int × Int × Int × List (List Int) × Int × Int × Int × List ByteArray × List (List Int) → St
  | (v0, v1, v2, v3, v4, v5, v6, v7, v8, v9, v10) => St.mk (envOf [(nat_lit 61, AV.val (PV.v (Value.int IntKind.i64 v0))), (nat_lit 62, AV.val (PV.v (Value.int IntKind.i64 v1))), (nat_lit 60, AV.val (PV.sl (Ty.int IntKind.i64) v2)), (nat_lit 1, AV.bx (nat_lit 8192) (nat_lit 0)), (nat_lit 56, AV.val (PV.v (Value.int IntKind.i64 v3))), (nat_lit 55, AV.val (PV.v (Value.int IntKind.i64 v4))), (nat_lit 54, AV.val (PV.sl (Ty.int IntKind.i64).sl v5))]) (tblOf [(nat_lit 8192, RS.live (Res.box [AV.val (PV.v (Value.int IntKind.i64 v6)), AV.val (PV.v (Value.int IntKind.i64 v7)), AV.val (PV.v (Value.int IntKind.i64 v8)), AV.val (PV.sl Ty.str v9), AV.val (PV.sl (Ty.int IntKind.i64).sl v10)]))])
def f29_raw3 (k : Nat) (L2 : Int × Int × List (List Int) × Int × Int × Int × List ByteArray × List (List Int) → Option (Int × Unit)) (L3 : Int × Int × List Int × Int × Int × List (List Int) × Int × Int × Int × List ByteArray × List (List Int) → Option (Int × Unit)) : Int × Int × List Int × Int × Int × List (List Int) × Int × Int × Int × List ByteArray × List (List Int) → Option (Int × Unit)
  | (v0, v1, v2, v3, v4, v5, v6, v7, v8, v9, v10) => bif decide (v1 < v0) then bif decide ((0 : Int) ≤ v1 ∧ v1 < Int.ofNat v2.length) then bif decide ((0 : Int) ≤ IntKind.i64.wrap (v7 - (1 : Int))) then bif Int.fdiv (v2.getD v1.toNat (OfNat.ofNat (0 : Nat))) ((2 : Int) ^ min (IntKind.i64.wrap (v7 - (1 : Int))).toNat (64 : Nat)) != (0 : Int) then bif Int.fdiv (v2.getD v1.toNat (OfNat.ofNat (0 : Nat))) ((2 : Int) ^ min (IntKind.i64.wrap (v7 - (1 : Int))).toNat (64 : Nat)) != (-1 : Int) then some (OfNat.ofNat (12 : Nat), ()) else L3 (v0, IntKind.i64.wrap (v1 + (1 : Int)), v2, v3, v4, v5, v6, v7, v8, v9, v10) else L3 (v0, IntKind.i64.wrap (v1 + (1 : Int)), v2, v3, v4, v5, v6, v7, v8, v9, v10) else none else none else L2 (v4, IntKind.i64.wrap (v3 + (1 : Int)), v5, v6, v7, v8, v9, v10)
def f29_L3 (k : Nat) (L2 : Int × Int × List (List Int) × Int × Int × Int × List ByteArray × List (List Int) → Option (Int × Unit)) : Int × Int × List Int × Int × Int × List (List Int) × Int × Int × Int × List ByteArray × List (List Int) → Option (Int × Unit) := iter (fun L3 => f29_raw3 k L2 L3) k
noncomputable def f29_at3 (k : Nat) (n2 : Nat) (n : Nat) (v : Int × Int × List Int × Int × Int × List (List Int) × Int × Int × Int × List ByteArray × List (List Int)) : Option (Int × Unit) :=
  loopAt (f29_C k) f29_A [] [1, 1, 1, 1, 0, 1, 0, 0, 1, 1, 0, 0, 1, 1, 0] [n2] f29_code (leaveK (f29_C k) Tryd.f29.results.toList f29_pk [] f29_rk (decR f29_pk f29_rk)) n (f29_S3 v)
def f29_S2 : Int × Int × List (List Int) × Int × Int × Int × List ByteArray × List (List Int) → St
  | (v0, v1, v2, v3, v4, v5, v6, v7) => St.mk (envOf [(nat_lit 55, AV.val (PV.v (Value.int IntKind.i64 v0))), (nat_lit 56, AV.val (PV.v (Value.int IntKind.i64 v1))), (nat_lit 54, AV.val (PV.sl (Ty.int IntKind.i64).sl v2)), (nat_lit 1, AV.bx (nat_lit 8192) (nat_lit 0))]) (tblOf [(nat_lit 8192, RS.live (Res.box [AV.val (PV.v (Value.int IntKind.i64 v3)), AV.val (PV.v (Value.int IntKind.i64 v4)), AV.val (PV.v (Value.int IntKind.i64 v5)), AV.val (PV.sl Ty.str v6), AV.val (PV.sl (Ty.int IntKind.i64).sl v7)]))])
def f29_raw2 (k : Nat) (L3 : Int × Int × List Int × Int × Int × List (List Int) × Int × Int × Int × List ByteArray × List (List Int) → Option (Int × Unit)) (L2 : Int × Int × List (List Int) × Int × Int × Int × List ByteArray × List (List Int) → Option (Int × Unit)) : Int × Int × List (List Int) × Int × Int × Int × List ByteArray × List (List Int) → Option (Int × Unit)
  | (v0, v1, v2, v3, v4, v5, v6, v7) => bif decide (v1 < v0) then bif decide ((0 : Int) ≤ v1 ∧ v1 < Int.ofNat v2.length) then L3 (Int.ofNat (List.length (v2.getD v1.toNat [])), (0 : Int), v2.getD v1.toNat [], v1, v0, v2, v3, v4, v5, v6, v7) else none else some (OfNat.ofNat (0 : Nat), ())
def f29_L2 (k : Nat) : Int × Int × List (List Int) × Int × Int × Int × List ByteArray × List (List Int) → Option (Int × Unit) := iter (fun L2 => f29_raw2 k (f29_L3 k L2) L2) k
noncomputable def f29_at2 (k : Nat) (n : Nat) (v : Int × Int × List (List Int) × Int × Int × Int × List ByteArray × List (List Int)) : Option (Int × Unit) :=
  loopAt (f29_C k) f29_A [] [1, 1, 1, 1, 0, 1, 0] [] f29_code (leaveK (f29_C k) Tryd.f29.results.toList f29_pk [] f29_rk (decR f29_pk f29_rk)) n (f29_S2 v)
def f29_S1 : Int × Int × List (List Int) × Int × Int × Int × List ByteArray × List (List Int) → St
  | (v0, v1, v2, v3, v4, v5, v6, v7) => St.mk (envOf [(nat_lit 37, AV.val (PV.v (Value.int IntKind.i64 v0))), (nat_lit 38, AV.val (PV.v (Value.int IntKind.i64 v1))), (nat_lit 36, AV.val (PV.sl (Ty.int IntKind.i64).sl v2)), (nat_lit 1, AV.bx (nat_lit 8192) (nat_lit 0))]) (tblOf [(nat_lit 8192, RS.live (Res.box [AV.val (PV.v (Value.int IntKind.i64 v3)), AV.val (PV.v (Value.int IntKind.i64 v4)), AV.val (PV.v (Value.int IntKind.i64 v5)), AV.val (PV.sl Ty.str v6), AV.val (PV.sl (Ty.int IntKind.i64).sl v7)]))])
def f29_raw1 (k : Nat) (L2 : Int × Int × List (List Int) × Int × Int × Int × List ByteArray × List (List Int) → Option (Int × Unit)) (L1 : Int × Int × List (List Int) × Int × Int × Int × List ByteArray × List (List Int) → Option (Int × Unit)) : Int × Int × List (List Int) × Int × Int × Int × List ByteArray × List (List Int) → Option (Int × Unit)
  | (v0, v1, v2, v3, v4, v5, v6, v7) => bif decide (v1 < v0) then bif decide ((0 : Int) ≤ v1 ∧ v1 < Int.ofNat v2.length) then bif decide ((4096 : Int) < Int.ofNat (List.length (v2.getD v1.toNat []))) then some (OfNat.ofNat (1 : Nat), ()) else (f52_F k (((v3, v4, v5, ()), v6, v7, ()), ())).bind fun y => bif Int.ofNat (List.length (v2.getD v1.toNat [])) != y.1 then some (OfNat.ofNat (1 : Nat), ()) else L1 (v0, IntKind.i64.wrap (v1 + (1 : Int)), v2, v3, v4, v5, v6, v7) else none else L2 (Int.ofNat v7.length, (0 : Int), v7, v3, v4, v5, v6, v7)
def f29_L1 (k : Nat) : Int × Int × List (List Int) × Int × Int × Int × List ByteArray × List (List Int) → Option (Int × Unit) := iter (fun L1 => f29_raw1 k (f29_L2 k) L1) k
noncomputable def f29_at1 (k : Nat) (n : Nat) (v : Int × Int × List (List Int) × Int × Int × Int × List ByteArray × List (List Int)) : Option (Int × Unit) :=
  loopAt (f29_C k) f29_A [] [1, 1, 1, 0, 1, 0] [] f29_code (leaveK (f29_C k) Tryd.f29.results.toList f29_pk [] f29_rk (decR f29_pk f29_rk)) n (f29_S1 v)
def f29_raw0 (k : Nat) (L1 : Int × Int × List (List Int) × Int × Int × Int × List ByteArray × List (List Int) → Option (Int × Unit)) : ((Int × Int × Int × Unit) × List ByteArray × List (List Int) × Unit) × Unit → Option (Int × Unit)
  | (((a0, a1, a2, ()), a3, a4, ()), ()) => (f48_F k ((a0, a1, a2, ()), ())).bind fun y => bif y.1 != (0 : Int) then some (y.1, ()) else bif decide ((8 : Int) < Int.ofNat a3.length) then some (OfNat.ofNat (1 : Nat), ()) else bif Int.ofNat a4.length != a0 then some (OfNat.ofNat (1 : Nat), ()) else (f49_F k (a3, (), ())).bind fun y => bif y.1 then some (OfNat.ofNat (1 : Nat), ()) else L1 (Int.ofNat a4.length, (0 : Int), a4, a0, a1, a2, a3, a4)
def f29_F (k : Nat) : ((Int × Int × Int × Unit) × List ByteArray × List (List Int) × Unit) × Unit → Option (Int × Unit) := f29_raw0 k (f29_L1 k)
theorem f29_law3 (k : Nat) (n2 : Nat) : ∀ n, f29_at3 k n2 n = iter (fun L3 => f29_raw3 k (f29_at2 k n2) L3) n :=
  iter_law (fun v => by kernel_rfl) (fun n v => by
    show f29_at3 k n2 (n + 1) v = f29_raw3 k (f29_at2 k n2) (f29_at3 k n2 n) v
    obtain ⟨v0, v1, v2, v3, v4, v5, v6, v7, v8, v9, v10⟩ := v
    kernel_rfl)
theorem f29_law2 (k : Nat) : ∀ n, f29_at2 k n = iter (fun L2 => f29_raw2 k (f29_L3 k L2) L2) n :=
  iter_law (fun v => by kernel_rfl) (fun n v => by
    show f29_at2 k (n + 1) v = f29_raw2 k (f29_L3 k (f29_at2 k n)) (f29_at2 k n) v
    rw [show (f29_L3 k (f29_at2 k n)) = f29_at3 k n k from (f29_law3 k n k).symm]
    obtain ⟨v0, v1, v2, v3, v4, v5, v6, v7⟩ := v
    kernel_rfl)
theorem f29_law1 (k : Nat) : ∀ n, f29_at1 k n = iter (fun L1 => f29_raw1 k (f29_L2 k) L1) n :=
  iter_law (fun v => by kernel_rfl) (fun n v => by
    show f29_at1 k (n + 1) v = f29_raw1 k (f29_L2 k) (f29_at1 k n) v
    rw [show (f29_L2 k) = f29_at2 k k from (f29_law2 k k).symm]
    obtain ⟨v0, v1, v2, v3, v4, v5, v6, v7⟩ := v
    kernel_rfl)
theorem f29_eq (k : Nat) (x : Kd.dens f29_pk) : runF (f29_C k) f29_A Tryd.f29.ntmps f29_code Tryd.f29.results.toList f29_pk f29_rk (encs f29_pk x) (decR f29_pk f29_rk) = f29_F k x := by
  show _ = f29_raw0 k (f29_L1 k) x
  rw [show f29_L1 k = f29_at1 k k from (f29_law1 k k).symm]
  obtain ⟨⟨⟨a0, ⟨a1, ⟨a2, ⟨⟩⟩⟩⟩, ⟨a3, ⟨a4, ⟨⟩⟩⟩⟩, ⟨⟩⟩ := x
  kernel_rfl
theorem f29_fits : fitsC Tryd.prog Tryd.f29.ntmps f29_code = true := by kernel_rfl
theorem f29_ctr (k : Nat) : Ctr Tryd.prog k 29 (mk f29_pk f29_rk f29_F) :=
  fun_law (C := f29_C k) (phi_ok (ctr_cons (f48_ctr k) (ctr_cons (f52_ctr k) (ctr_cons (f49_ctr k) ctr_nil)))) prog_mixed (A := f29_A) (fn := Tryd.f29) (code := f29_code) (by kernel_rfl) (by kernel_rfl) (by kernel_rfl) f29_fits (fun x y h => (f29_eq k x).trans h)
abbrev f57_pk : List Kd := [.box [.view (.sl (.int .u8)), .view .bool]]
abbrev f57_rk : Kd := .view (.sl .str)
noncomputable def f57_code : Code := Tryd.f57.body.getD .skip
noncomputable def f57_C (k : Nat) : Ctx := { P := Tryd.prog, Φ := phi [(65, mk f65_pk f65_rk f65_F), (54, mk f54_pk f54_rk f54_F), (38, mk f38_pk f38_rk f38_F), (58, mk f58_pk f58_rk f58_F), (55, mk f55_pk f55_rk f55_F), (51, mk f51_pk f51_rk f51_F)], k := k, live := fun _ => [] }
def f57_A : Nat → Ann := fun id => bif Nat.beq id 8 then ⟨[0, 4, 5], [.slot 5 (Ty.str)]⟩ else ⟨[], []⟩
def f57_S1 : List Int × Bool × List Int × Bool × List ByteArray → St
  | (v0, v1, v2, v3, v4) => St.mk (envOf [(nat_lit 0, AV.bx (nat_lit 0) (nat_lit 0)), (nat_lit 4, AV.bx (nat_lit 8192) (nat_lit 0)), (nat_lit 5, AV.own (nat_lit 8193))]) (tblOf [(nat_lit 0, RS.live (Res.box [AV.val (PV.sl (Ty.int IntKind.u8) v0), AV.val (PV.v (Value.bool v1))])), (nat_lit 8192, RS.live (Res.box [AV.val (PV.sl (Ty.int IntKind.u8) v2), AV.val (PV.v (Value.bool v3))])), (nat_lit 8193, RS.live (Res.arr Ty.str v4 false))])
def f57_raw1 (k : Nat) (L1 : List Int × Bool × List Int × Bool × List ByteArray → Option (List ByteArray × (List Int × Bool × Unit) × Unit)) : List Int × Bool × List Int × Bool × List ByteArray → Option (List ByteArray × (List Int × Bool × Unit) × Unit)
  | (v0, v1, v2, v3, v4) => bif !v1 then bif decide ((0 : Int) < Int.ofNat v2.length) then (f38_F k ((v2, v3, ()), OfNat.ofNat (1 : Nat), ())).bind fun y => (f58_F k ((y.2.1.1, y.2.1.2.1, ()), y.1, ())).bind fun y => bif y.2.1.2.1 then bif decide (v4.length + [ByteArray.mk (List.map (fun n => UInt8.ofNat n.toNat) y.1).toArray].length < (2147483648 : Nat)) then L1 (v0, true, y.2.1.1, y.2.1.2.1, v4 ++ [ByteArray.mk (List.map (fun n => UInt8.ofNat n.toNat) y.1).toArray]) else none else (f51_F k (ByteArray.mk (List.map (fun n => UInt8.ofNat n.toNat) y.1).toArray, ())).bind fun y_1 => bif decide (v4.length + [ByteArray.mk (List.map (fun n => UInt8.ofNat n.toNat) y.1).toArray].length < (2147483648 : Nat)) then L1 (v0, !y_1.1, y.2.1.1, y.2.1.2.1, v4 ++ [ByteArray.mk (List.map (fun n => UInt8.ofNat n.toNat) y.1).toArray]) else none else bif v1 then some (v4, (v0, true, ()), ()) else bif Int.ofNat v4.length == (0 : Int) then some (v4, (v0, true, ()), ()) else some (v4, (v0, decide ((8 : Int) < Int.ofNat v4.length), ()), ()) else bif v1 then some (v4, (v0, true, ()), ()) else bif Int.ofNat v4.length == (0 : Int) then some (v4, (v0, true, ()), ()) else some (v4, (v0, decide ((8 : Int) < Int.ofNat v4.length), ()), ())
def f57_L1 (k : Nat) : List Int × Bool × List Int × Bool × List ByteArray → Option (List ByteArray × (List Int × Bool × Unit) × Unit) := iter (fun L1 => f57_raw1 k L1) k
noncomputable def f57_at1 (k : Nat) (n : Nat) (v : List Int × Bool × List Int × Bool × List ByteArray) : Option (List ByteArray × (List Int × Bool × Unit) × Unit) :=
  loopAt (f57_C k) f57_A [0] [1, 1, 1, 1, 1, 1, 1, 0, 0] [] f57_code (leaveK (f57_C k) Tryd.f57.results.toList f57_pk [AV.bx (nat_lit 0) (nat_lit 0)] f57_rk (decR f57_pk f57_rk)) n (f57_S1 v)
def f57_raw0 (k : Nat) (L1 : List Int × Bool × List Int × Bool × List ByteArray → Option (List ByteArray × (List Int × Bool × Unit) × Unit)) : (List Int × Bool × Unit) × Unit → Option (List ByteArray × (List Int × Bool × Unit) × Unit)
  | ((a0, a1, ()), ()) => (f65_F k (a0, [(116 : Int), (97 : Int), (103 : Int), (115 : Int)], ())).bind fun y => bif !y.1 then some ([], (a0, a1, ()), ()) else (f54_F k ((a0, a1, ()), ByteArray.mk #[OfNat.ofNat (116 : Nat), OfNat.ofNat (97 : Nat), OfNat.ofNat (103 : Nat), OfNat.ofNat (115 : Nat)], ())).bind fun y => (f38_F k ((y.2.1.1, y.2.1.2.1, ()), OfNat.ofNat (4 : Nat), ())).bind fun y => (f58_F k ((y.2.1.1, y.2.1.2.1, ()), y.1, ())).bind fun y_1 => (f55_F k ((y_1.2.1.1, y_1.2.1.2.1, ()), OfNat.ofNat (0 : Nat), Int.tmod y.1 (2 : Int), ())).bind fun y => L1 (y.2.1.1, y.2.1.2.1, y_1.1, false, [])
def f57_F (k : Nat) : (List Int × Bool × Unit) × Unit → Option (List ByteArray × (List Int × Bool × Unit) × Unit) := f57_raw0 k (f57_L1 k)
theorem f57_law1 (k : Nat) : ∀ n, f57_at1 k n = iter (fun L1 => f57_raw1 k L1) n :=
  iter_law (fun v => by kernel_rfl) (fun n v => by
    show f57_at1 k (n + 1) v = f57_raw1 k (f57_at1 k n) v
    obtain ⟨v0, v1, v2, v3, v4⟩ := v
    kernel_rfl)
theorem f57_eq (k : Nat) (x : Kd.dens f57_pk) : runF (f57_C k) f57_A Tryd.f57.ntmps f57_code Tryd.f57.results.toList f57_pk f57_rk (encs f57_pk x) (decR f57_pk f57_rk) = f57_F k x := by
  show _ = f57_raw0 k (f57_L1 k) x
  rw [show f57_L1 k = f57_at1 k k from (f57_law1 k k).symm]
  obtain ⟨⟨a0, ⟨a1, ⟨⟩⟩⟩, ⟨⟩⟩ := x
  kernel_rfl
theorem f57_fits : fitsC Tryd.prog Tryd.f57.ntmps f57_code = true := by kernel_rfl
theorem f57_ctr (k : Nat) : Ctr Tryd.prog k 57 (mk f57_pk f57_rk f57_F) :=
  fun_law (C := f57_C k) (phi_ok (ctr_cons (f65_ctr k) (ctr_cons (f54_ctr k) (ctr_cons (f38_ctr k) (ctr_cons (f58_ctr k) (ctr_cons (f55_ctr k) (ctr_cons (f51_ctr k) ctr_nil))))))) prog_mixed (A := f57_A) (fn := Tryd.f57) (code := f57_code) (by kernel_rfl) (by kernel_rfl) (by kernel_rfl) f57_fits (fun x y h => (f57_eq k x).trans h)
abbrev f33_pk : List Kd := [.view (.sl (.int .u8))]
abbrev f33_rk : Kd := .tup [.view soundT, .view (.int .i64)]
noncomputable def f33_code : Code := Tryd.f33.body.getD .skip
noncomputable def f33_C (k : Nat) : Ctx := { P := Tryd.prog, Φ := phi [(54, mk f54_pk f54_rk f54_F), (55, mk f55_pk f55_rk f55_F), (56, mk f56_pk f56_rk f56_F), (57, mk f57_pk f57_rk f57_F), (38, mk f38_pk f38_rk f38_F), (37, mk f37_pk f37_rk f37_F), (58, mk f58_pk f58_rk f58_F)], k := k, live := fun _ => [] }
def f33_A : Nat → Ann := fun _ => ⟨[], []⟩
def f33_raw0 (k : Nat) : List Int × Unit → Option ((((Int × Int × Int × Unit) × List ByteArray × List Int × Unit) × Int × Unit) × Unit)
  | (a0, ()) => (f54_F k ((a0, false, ()), ByteArray.mk #[OfNat.ofNat (82 : Nat), OfNat.ofNat (73 : Nat), OfNat.ofNat (70 : Nat), OfNat.ofNat (70 : Nat)], ())).bind fun y => (f55_F k ((y.2.1.1, y.2.1.2.1, ()), IntKind.i64.wrap (Int.ofNat a0.length - (8 : Int)), OfNat.ofNat (4 : Nat), ())).bind fun y => (f54_F k ((y.2.1.1, y.2.1.2.1, ()), ByteArray.mk #[OfNat.ofNat (87 : Nat), OfNat.ofNat (65 : Nat), OfNat.ofNat (86 : Nat), OfNat.ofNat (69 : Nat)], ())).bind fun y => (f56_F k ((y.2.1.1, y.2.1.2.1, ()), ())).bind fun y => bif !y.2.1.2.1 then (f57_F k ((y.2.1.1, y.2.1.2.1, ()), ())).bind fun y_1 => (f54_F k ((y_1.2.1.1, y_1.2.1.2.1, ()), ByteArray.mk #[OfNat.ofNat (100 : Nat), OfNat.ofNat (97 : Nat), OfNat.ofNat (116 : Nat), OfNat.ofNat (97 : Nat)], ())).bind fun y_2 => (f38_F k ((y_2.2.1.1, y_2.2.1.2.1, ()), OfNat.ofNat (4 : Nat), ())).bind fun y_3 => bif y_3.2.1.2.1 then some (((((0 : Int), (0 : Int), (0 : Int), ()), [], [], ()), OfNat.ofNat (2 : Nat), ()), ()) else (f37_F k ((y.1.1, y.1.2.1, y.1.2.2.1, ()), ())).bind fun y_4 => bif decide ¬y_4.1 = (0 : Int) then bif Int.tmod y_3.1 y_4.1 != (0 : Int) then some (((((0 : Int), (0 : Int), (0 : Int), ()), [], [], ()), OfNat.ofNat (2 : Nat), ()), ()) else (f37_F k ((y.1.1, y.1.2.1, y.1.2.2.1, ()), ())).bind fun y_5 => bif decide ¬y_5.1 = (0 : Int) then bif decide ((4096 : Int) < IntKind.i64.wrap (Int.tdiv y_3.1 y_5.1)) then some (((((0 : Int), (0 : Int), (0 : Int), ()), [], [], ()), OfNat.ofNat (2 : Nat), ()), ()) else (f58_F k ((y_3.2.1.1, y_3.2.1.2.1, ()), y_3.1, ())).bind fun y_6 => (f58_F k ((y_6.2.1.1, y_6.2.1.2.1, ()), Int.tmod y_3.1 (2 : Int), ())).bind fun y_7 => bif y_7.2.1.2.1 then some (((((0 : Int), (0 : Int), (0 : Int), ()), [], [], ()), OfNat.ofNat (2 : Nat), ()), ()) else bif decide ((0 : Int) < Int.ofNat (List.length y_7.2.1.1)) then some (((((0 : Int), (0 : Int), (0 : Int), ()), [], [], ()), OfNat.ofNat (2 : Nat), ()), ()) else some ((((y.1.1, y.1.2.1, y.1.2.2.1, ()), y_1.1, y_6.1, ()), OfNat.ofNat (0 : Nat), ()), ()) else none else none else (f54_F k ((y.2.1.1, y.2.1.2.1, ()), ByteArray.mk #[OfNat.ofNat (100 : Nat), OfNat.ofNat (97 : Nat), OfNat.ofNat (116 : Nat), OfNat.ofNat (97 : Nat)], ())).bind fun y_1 => (f38_F k ((y_1.2.1.1, y_1.2.1.2.1, ()), OfNat.ofNat (4 : Nat), ())).bind fun y_2 => bif y_2.2.1.2.1 then some (((((0 : Int), (0 : Int), (0 : Int), ()), [], [], ()), OfNat.ofNat (2 : Nat), ()), ()) else (f37_F k ((y.1.1, y.1.2.1, y.1.2.2.1, ()), ())).bind fun y_3 => bif decide ¬y_3.1 = (0 : Int) then bif Int.tmod y_2.1 y_3.1 != (0 : Int) then some (((((0 : Int), (0 : Int), (0 : Int), ()), [], [], ()), OfNat.ofNat (2 : Nat), ()), ()) else (f37_F k ((y.1.1, y.1.2.1, y.1.2.2.1, ()), ())).bind fun y_4 => bif decide ¬y_4.1 = (0 : Int) then bif decide ((4096 : Int) < IntKind.i64.wrap (Int.tdiv y_2.1 y_4.1)) then some (((((0 : Int), (0 : Int), (0 : Int), ()), [], [], ()), OfNat.ofNat (2 : Nat), ()), ()) else (f58_F k ((y_2.2.1.1, y_2.2.1.2.1, ()), y_2.1, ())).bind fun y_5 => (f58_F k ((y_5.2.1.1, y_5.2.1.2.1, ()), Int.tmod y_2.1 (2 : Int), ())).bind fun y_6 => bif y_6.2.1.2.1 then some (((((0 : Int), (0 : Int), (0 : Int), ()), [], [], ()), OfNat.ofNat (2 : Nat), ()), ()) else bif decide ((0 : Int) < Int.ofNat (List.length y_6.2.1.1)) then some (((((0 : Int), (0 : Int), (0 : Int), ()), [], [], ()), OfNat.ofNat (2 : Nat), ()), ()) else some ((((y.1.1, y.1.2.1, y.1.2.2.1, ()), [], y_5.1, ()), OfNat.ofNat (0 : Nat), ()), ()) else none else none
def f33_F (k : Nat) : List Int × Unit → Option ((((Int × Int × Int × Unit) × List ByteArray × List Int × Unit) × Int × Unit) × Unit) := f33_raw0 k
theorem f33_eq (k : Nat) (x : Kd.dens f33_pk) : runF (f33_C k) f33_A Tryd.f33.ntmps f33_code Tryd.f33.results.toList f33_pk f33_rk (encs f33_pk x) (decR f33_pk f33_rk) = f33_F k x := by
  show _ = f33_raw0 k x
  obtain ⟨a0, ⟨⟩⟩ := x
  kernel_rfl
theorem f33_fits : fitsC Tryd.prog Tryd.f33.ntmps f33_code = true := by kernel_rfl
theorem f33_ctr (k : Nat) : Ctr Tryd.prog k 33 (mk f33_pk f33_rk f33_F) :=
  fun_law (C := f33_C k) (phi_ok (ctr_cons (f54_ctr k) (ctr_cons (f55_ctr k) (ctr_cons (f56_ctr k) (ctr_cons (f57_ctr k) (ctr_cons (f38_ctr k) (ctr_cons (f37_ctr k) (ctr_cons (f58_ctr k) ctr_nil)))))))) prog_mixed (A := f33_A) (fn := Tryd.f33) (code := f33_code) (by kernel_rfl) (by kernel_rfl) (by kernel_rfl) f33_fits (fun x y h => (f33_eq k x).trans h)
abbrev f12_pk : List Kd := [.view trackT]
abbrev f12_rk : Kd := .tup [.view (.sl (.int .u8)), .view (.int .i64)]
noncomputable def f12_code : Code := Tryd.f12.body.getD .skip
noncomputable def f12_C (k : Nat) : Ctx := { P := Tryd.prog, Φ := phi [(29, mk f29_pk f29_rk f29_F), (30, mk f30_pk f30_rk f30_F), (31, mk f31_pk f31_rk f31_F), (32, mk f32_pk f32_rk f32_F)], k := k, live := fun _ => [] }
def f12_A : Nat → Ann := fun id => bif Nat.beq id 10 then ⟨[34, 35, 33, 7, 6, 1, 5, 29, 28], [.cell 5 4 (Ty.int IntKind.u8)]⟩ else bif Nat.beq id 7 then ⟨[28, 29, 1, 6, 5], [.cell 5 4 (Ty.int IntKind.u8)]⟩ else ⟨[], []⟩
def f12_S2 : Int × Int × List (List Int) × Int × Int × Int × Int × Int × Int × Int × List ByteArray × List (List Int) × Int × Int × Int × List ByteArray × List Int → St
  | (v0, v1, v2, v3, v4, v5, v6, v7, v8, v9, v10, v11, v12, v13, v14, v15, v16) => St.mk (envOf [(nat_lit 34, AV.val (PV.v (Value.int IntKind.i64 v0))), (nat_lit 35, AV.val (PV.v (Value.int IntKind.i64 v1))), (nat_lit 33, AV.val (PV.sl (Ty.int IntKind.i64).sl v2)), (nat_lit 7, AV.val (PV.v (Value.int IntKind.i64 v3))), (nat_lit 6, AV.val (PV.v (Value.int IntKind.i64 v4))), (nat_lit 1, AV.bx (nat_lit 8192) (nat_lit 0)), (nat_lit 5, AV.bx (nat_lit 8193) (nat_lit 0)), (nat_lit 29, AV.val (PV.v (Value.int IntKind.i64 v5))), (nat_lit 28, AV.val (PV.v (Value.int IntKind.i64 v6)))]) (tblOf [(nat_lit 8192, RS.live (Res.box [AV.val (PV.v (Value.int IntKind.i64 v7)), AV.val (PV.v (Value.int IntKind.i64 v8)), AV.val (PV.v (Value.int IntKind.i64 v9)), AV.val (PV.sl Ty.str v10), AV.val (PV.sl (Ty.int IntKind.i64).sl v11)])), (nat_lit 8193, RS.live (Res.box [AV.val (PV.v (Value.int IntKind.i64 v12)), AV.val (PV.v (Value.int IntKind.i64 v13)), AV.val (PV.v (Value.int IntKind.i64 v14)), AV.val (PV.sl Ty.str v15), AV.own (nat_lit 8194)])), (nat_lit 8194, RS.live (Res.arr (Ty.int IntKind.u8) v16 false))])
def f12_raw2 (k : Nat) (L1 : Int × Int × Int × Int × Int × Int × List ByteArray × List (List Int) × Int × Int × Int × List ByteArray × List Int → Option ((List Int × Int × Unit) × Unit)) (L2 : Int × Int × List (List Int) × Int × Int × Int × Int × Int × Int × Int × List ByteArray × List (List Int) × Int × Int × Int × List ByteArray × List Int → Option ((List Int × Int × Unit) × Unit)) : Int × Int × List (List Int) × Int × Int × Int × Int × Int × Int × Int × List ByteArray × List (List Int) × Int × Int × Int × List ByteArray × List Int → Option ((List Int × Int × Unit) × Unit)
  | (v0, v1, v2, v3, v4, v5, v6, v7, v8, v9, v10, v11, v12, v13, v14, v15, v16) => bif decide (v1 < v0) then bif decide ((0 : Int) ≤ v1 ∧ v1 < Int.ofNat v2.length) then bif decide ((0 : Int) ≤ v3 ∧ v3 < Int.ofNat (List.length (v2.getD v1.toNat []))) then bif decide ((0 : Int) ≤ IntKind.i64.wrap (IntKind.i64.wrap ((8 : Int) * v4) - v8)) then bif v4 == (1 : Int) then (f31_F k (v16, IntKind.i64.wrap (IntKind.i64.wrap (List.getD (v2.getD v1.toNat []) v3.toNat (OfNat.ofNat (0 : Nat)) * (2 : Int) ^ min (IntKind.i64.wrap (IntKind.i64.wrap ((8 : Int) * v4) - v8)).toNat (64 : Nat)) + (128 : Int)), v4, ())).bind fun y => L2 (v0, IntKind.i64.wrap (v1 + (1 : Int)), v2, v3, v4, v5, v6, v7, v8, v9, v10, v11, v12, v13, v14, v15, y.1) else (f31_F k (v16, IntKind.i64.wrap (List.getD (v2.getD v1.toNat []) v3.toNat (OfNat.ofNat (0 : Nat)) * (2 : Int) ^ min (IntKind.i64.wrap (IntKind.i64.wrap ((8 : Int) * v4) - v8)).toNat (64 : Nat)), v4, ())).bind fun y => L2 (v0, IntKind.i64.wrap (v1 + (1 : Int)), v2, v3, v4, v5, v6, v7, v8, v9, v10, v11, v12, v13, v14, v15, y.1) else none else none else none else L1 (v6, IntKind.i64.wrap (v5 + (1 : Int)), v4, v7, v8, v9, v10, v11, v12, v13, v14, v15, v16)
def f12_L2 (k : Nat) (L1 : Int × Int × Int × Int × Int × Int × List ByteArray × List (List Int) × Int × Int × Int × List ByteArray × List Int → Option ((List Int × Int × Unit) × Unit)) : Int × Int × List (List Int) × Int × Int × Int × Int × Int × Int × Int × List ByteArray × List (List Int) × Int × Int × Int × List ByteArray × List Int → Option ((List Int × Int × Unit) × Unit) := iter (fun L2 => f12_raw2 k L1 L2) k
noncomputable def f12_at2 (k : Nat) (n1 : Nat) (n : Nat) (v : Int × Int × List (List Int) × Int × Int × Int × Int × Int × Int × Int × List ByteArray × List (List Int) × Int × Int × Int × List ByteArray × List Int) : Option ((List Int × Int × Unit) × Unit) :=
  loopAt (f12_C k) f12_A [] [1, 1, 1, 1, 0, 1, 0, 0, 1, 1, 0, 0, 1, 1, 0] [n1] f12_code (leaveK (f12_C k) Tryd.f12.results.toList f12_pk [] f12_rk (decR f12_pk f12_rk)) n (f12_S2 v)
def f12_S1 : Int × Int × Int × Int × Int × Int × List ByteArray × List (List Int) × Int × Int × Int × List ByteArray × List Int → St
  | (v0, v1, v2, v3, v4, v5, v6, v7, v8, v9, v10, v11, v12) => St.mk (envOf [(nat_lit 28, AV.val (PV.v (Value.int IntKind.i64 v0))), (nat_lit 29, AV.val (PV.v (Value.int IntKind.i64 v1))), (nat_lit 1, AV.bx (nat_lit 8192) (nat_lit 0)), (nat_lit 6, AV.val (PV.v (Value.int IntKind.i64 v2))), (nat_lit 5, AV.bx (nat_lit 8193) (nat_lit 0))]) (tblOf [(nat_lit 8192, RS.live (Res.box [AV.val (PV.v (Value.int IntKind.i64 v3)), AV.val (PV.v (Value.int IntKind.i64 v4)), AV.val (PV.v (Value.int IntKind.i64 v5)), AV.val (PV.sl Ty.str v6), AV.val (PV.sl (Ty.int IntKind.i64).sl v7)])), (nat_lit 8193, RS.live (Res.box [AV.val (PV.v (Value.int IntKind.i64 v8)), AV.val (PV.v (Value.int IntKind.i64 v9)), AV.val (PV.v (Value.int IntKind.i64 v10)), AV.val (PV.sl Ty.str v11), AV.own (nat_lit 8194)])), (nat_lit 8194, RS.live (Res.arr (Ty.int IntKind.u8) v12 false))])
def f12_raw1 (k : Nat) (L2 : Int × Int × List (List Int) × Int × Int × Int × Int × Int × Int × Int × List ByteArray × List (List Int) × Int × Int × Int × List ByteArray × List Int → Option ((List Int × Int × Unit) × Unit)) (L1 : Int × Int × Int × Int × Int × Int × List ByteArray × List (List Int) × Int × Int × Int × List ByteArray × List Int → Option ((List Int × Int × Unit) × Unit)) : Int × Int × Int × Int × Int × Int × List ByteArray × List (List Int) × Int × Int × Int × List ByteArray × List Int → Option ((List Int × Int × Unit) × Unit)
  | (v0, v1, v2, v3, v4, v5, v6, v7, v8, v9, v10, v11, v12) => bif decide (v1 < v0) then L2 (Int.ofNat v7.length, (0 : Int), v7, v1, v2, v1, v0, v3, v4, v5, v6, v7, v8, v9, v10, v11, v12) else (f32_F k (((v8, v9, v10, ()), v11, v12, ()), ())).bind fun y => some ((y.1, OfNat.ofNat (0 : Nat), ()), ())
def f12_L1 (k : Nat) : Int × Int × Int × Int × Int × Int × List ByteArray × List (List Int) × Int × Int × Int × List ByteArray × List Int → Option ((List Int × Int × Unit) × Unit) := iter (fun L1 => f12_raw1 k (f12_L2 k L1) L1) k
noncomputable def f12_at1 (k : Nat) (n : Nat) (v : Int × Int × Int × Int × Int × Int × List ByteArray × List (List Int) × Int × Int × Int × List ByteArray × List Int) : Option ((List Int × Int × Unit) × Unit) :=
  loopAt (f12_C k) f12_A [] [1, 1, 1, 1, 0, 1, 0] [] f12_code (leaveK (f12_C k) Tryd.f12.results.toList f12_pk [] f12_rk (decR f12_pk f12_rk)) n (f12_S1 v)
def f12_raw0 (k : Nat) (L1 : Int × Int × Int × Int × Int × Int × List ByteArray × List (List Int) × Int × Int × Int × List ByteArray × List Int → Option ((List Int × Int × Unit) × Unit)) : ((Int × Int × Int × Unit) × List ByteArray × List (List Int) × Unit) × Unit → Option ((List Int × Int × Unit) × Unit)
  | (((a0, a1, a2, ()), a3, a4, ()), ()) => (f29_F k (((a0, a1, a2, ()), a3, a4, ()), ())).bind fun y => bif y.1 != (0 : Int) then some (([], y.1, ()), ()) else (f30_F k ((a0, a1, a2, ()), ())).bind fun y => bif decide ((0 : Int) ≤ (0 : Int) ∧ (0 : Int) < Int.ofNat a4.length) then L1 (Int.ofNat (List.length (a4.getD (0 : Nat) [])), (0 : Int), y.1, a0, a1, a2, a3, a4, a0, a1, a2, a3, []) else none
def f12_F (k : Nat) : ((Int × Int × Int × Unit) × List ByteArray × List (List Int) × Unit) × Unit → Option ((List Int × Int × Unit) × Unit) := f12_raw0 k (f12_L1 k)
theorem f12_law2 (k : Nat) (n1 : Nat) : ∀ n, f12_at2 k n1 n = iter (fun L2 => f12_raw2 k (f12_at1 k n1) L2) n :=
  iter_law (fun v => by kernel_rfl) (fun n v => by
    show f12_at2 k n1 (n + 1) v = f12_raw2 k (f12_at1 k n1) (f12_at2 k n1 n) v
    obtain ⟨v0, v1, v2, v3, v4, v5, v6, v7, v8, v9, v10, v11, v12, v13, v14, v15, v16⟩ := v
    kernel_rfl)
theorem f12_law1 (k : Nat) : ∀ n, f12_at1 k n = iter (fun L1 => f12_raw1 k (f12_L2 k L1) L1) n :=
  iter_law (fun v => by kernel_rfl) (fun n v => by
    show f12_at1 k (n + 1) v = f12_raw1 k (f12_L2 k (f12_at1 k n)) (f12_at1 k n) v
    rw [show (f12_L2 k (f12_at1 k n)) = f12_at2 k n k from (f12_law2 k n k).symm]
    obtain ⟨v0, v1, v2, v3, v4, v5, v6, v7, v8, v9, v10, v11, v12⟩ := v
    kernel_rfl)
theorem f12_eq (k : Nat) (x : Kd.dens f12_pk) : runF (f12_C k) f12_A Tryd.f12.ntmps f12_code Tryd.f12.results.toList f12_pk f12_rk (encs f12_pk x) (decR f12_pk f12_rk) = f12_F k x := by
  show _ = f12_raw0 k (f12_L1 k) x
  rw [show f12_L1 k = f12_at1 k k from (f12_law1 k k).symm]
  obtain ⟨⟨⟨a0, ⟨a1, ⟨a2, ⟨⟩⟩⟩⟩, ⟨a3, ⟨a4, ⟨⟩⟩⟩⟩, ⟨⟩⟩ := x
  kernel_rfl
theorem f12_fits : fitsC Tryd.prog Tryd.f12.ntmps f12_code = true := by kernel_rfl
theorem f12_ctr (k : Nat) : Ctr Tryd.prog k 12 (mk f12_pk f12_rk f12_F) :=
  fun_law (C := f12_C k) (phi_ok (ctr_cons (f29_ctr k) (ctr_cons (f30_ctr k) (ctr_cons (f31_ctr k) (ctr_cons (f32_ctr k) ctr_nil))))) prog_mixed (A := f12_A) (fn := Tryd.f12) (code := f12_code) (by kernel_rfl) (by kernel_rfl) (by kernel_rfl) f12_fits (fun x y h => (f12_eq k x).trans h)
abbrev f14_pk : List Kd := [.view (.sl (.int .u8))]
abbrev f14_rk : Kd := .tup [.view shapeT, .view (.int .i64), .view (.int .i64)]
noncomputable def f14_code : Code := Tryd.f14.body.getD .skip
noncomputable def f14_C (k : Nat) : Ctx := { P := Tryd.prog, Φ := phi [(33, mk f33_pk f33_rk f33_F), (34, mk f34_pk f34_rk f34_F)], k := k, live := fun _ => [] }
def f14_A : Nat → Ann := fun _ => ⟨[], []⟩
def f14_raw0 (k : Nat) : List Int × Unit → Option (((Int × Int × Int × Unit) × Int × Int × Unit) × Unit)
  | (a0, ()) => (f33_F k (a0, ())).bind fun y => bif y.1.2.1 != (0 : Int) then some ((((0 : Int), (0 : Int), (0 : Int), ()), OfNat.ofNat (0 : Nat), y.1.2.1, ()), ()) else (f34_F k (((y.1.1.1.1, y.1.1.1.2.1, y.1.1.1.2.2.1, ()), y.1.1.2.1, y.1.1.2.2.1, ()), ())).bind fun y_1 => some (((y.1.1.1.1, y.1.1.1.2.1, y.1.1.1.2.2.1, ()), y_1.1, OfNat.ofNat (0 : Nat), ()), ())
def f14_F (k : Nat) : List Int × Unit → Option (((Int × Int × Int × Unit) × Int × Int × Unit) × Unit) := f14_raw0 k
theorem f14_eq (k : Nat) (x : Kd.dens f14_pk) : runF (f14_C k) f14_A Tryd.f14.ntmps f14_code Tryd.f14.results.toList f14_pk f14_rk (encs f14_pk x) (decR f14_pk f14_rk) = f14_F k x := by
  show _ = f14_raw0 k x
  obtain ⟨a0, ⟨⟩⟩ := x
  kernel_rfl
theorem f14_fits : fitsC Tryd.prog Tryd.f14.ntmps f14_code = true := by kernel_rfl
theorem f14_ctr (k : Nat) : Ctr Tryd.prog k 14 (mk f14_pk f14_rk f14_F) :=
  fun_law (C := f14_C k) (phi_ok (ctr_cons (f33_ctr k) (ctr_cons (f34_ctr k) ctr_nil))) prog_mixed (A := f14_A) (fn := Tryd.f14) (code := f14_code) (by kernel_rfl) (by kernel_rfl) (by kernel_rfl) f14_fits (fun x y h => (f14_eq k x).trans h)
abbrev f16_pk : List Kd := [.view (.sl (.int .u8)), .view (.int .i64), .view (.int .i64)]
abbrev f16_rk : Kd := .tup [.view (.sl (.int .u8)), .view (.int .i64)]
noncomputable def f16_code : Code := Tryd.f16.body.getD .skip
noncomputable def f16_C (k : Nat) : Ctx := { P := Tryd.prog, Φ := phi [(33, mk f33_pk f33_rk f33_F), (34, mk f34_pk f34_rk f34_F), (37, mk f37_pk f37_rk f37_F), (32, mk f32_pk f32_rk f32_F)], k := k, live := fun _ => [] }
def f16_A : Nat → Ann := fun _ => ⟨[], []⟩
def f16_raw0 (k : Nat) : List Int × Int × Int × Unit → Option ((List Int × Int × Unit) × Unit)
  | (a0, a1, a2, ()) => (f33_F k (a0, ())).bind fun y => bif y.1.2.1 != (0 : Int) then some (([], y.1.2.1, ()), ()) else bif decide (a1 < (0 : Int)) then some (([], OfNat.ofNat (9 : Nat), ()), ()) else bif decide (a2 < (0 : Int)) then some (([], OfNat.ofNat (9 : Nat), ()), ()) else (f34_F k (((y.1.1.1.1, y.1.1.1.2.1, y.1.1.1.2.2.1, ()), y.1.1.2.1, y.1.1.2.2.1, ()), ())).bind fun y_1 => bif decide (y_1.1 < a1) then some (([], OfNat.ofNat (9 : Nat), ()), ()) else (f34_F k (((y.1.1.1.1, y.1.1.1.2.1, y.1.1.1.2.2.1, ()), y.1.1.2.1, y.1.1.2.2.1, ()), ())).bind fun y_2 => bif decide (IntKind.i64.wrap (y_2.1 - a1) < a2) then some (([], OfNat.ofNat (9 : Nat), ()), ()) else (f37_F k ((y.1.1.1.1, y.1.1.1.2.1, y.1.1.1.2.2.1, ()), ())).bind fun y_3 => bif decide ((0 : Int) ≤ IntKind.i64.wrap (a1 * y_3.1) ∧ IntKind.i64.wrap (a1 * y_3.1) ≤ IntKind.i64.wrap (IntKind.i64.wrap (a1 + a2) * y_3.1) ∧ IntKind.i64.wrap (IntKind.i64.wrap (a1 + a2) * y_3.1) ≤ Int.ofNat (List.length y.1.1.2.2.1)) then (f32_F k (((y.1.1.1.1, y.1.1.1.2.1, y.1.1.1.2.2.1, ()), y.1.1.2.1, List.drop (IntKind.i64.wrap (a1 * y_3.1)).toNat (List.take (IntKind.i64.wrap (IntKind.i64.wrap (a1 + a2) * y_3.1)).toNat y.1.1.2.2.1), ()), ())).bind fun y => some ((y.1, OfNat.ofNat (0 : Nat), ()), ()) else none
def f16_F (k : Nat) : List Int × Int × Int × Unit → Option ((List Int × Int × Unit) × Unit) := f16_raw0 k
theorem f16_eq (k : Nat) (x : Kd.dens f16_pk) : runF (f16_C k) f16_A Tryd.f16.ntmps f16_code Tryd.f16.results.toList f16_pk f16_rk (encs f16_pk x) (decR f16_pk f16_rk) = f16_F k x := by
  show _ = f16_raw0 k x
  obtain ⟨a0, ⟨a1, ⟨a2, ⟨⟩⟩⟩⟩ := x
  kernel_rfl
theorem f16_fits : fitsC Tryd.prog Tryd.f16.ntmps f16_code = true := by kernel_rfl
theorem f16_ctr (k : Nat) : Ctr Tryd.prog k 16 (mk f16_pk f16_rk f16_F) :=
  fun_law (C := f16_C k) (phi_ok (ctr_cons (f33_ctr k) (ctr_cons (f34_ctr k) (ctr_cons (f37_ctr k) (ctr_cons (f32_ctr k) ctr_nil))))) prog_mixed (A := f16_A) (fn := Tryd.f16) (code := f16_code) (by kernel_rfl) (by kernel_rfl) (by kernel_rfl) f16_fits (fun x y h => (f16_eq k x).trans h)
abbrev f59_pk : List Kd := [.view .raw, .view (.int .i64)]
abbrev f59_rk : Kd := .own (.int .u8) false
def f59_F (k : Nat) : Value × Int × Unit → Option (List Int × Unit) := fun x => growF x
theorem wavLaysG : Go.Proofs.Lays8.n4 Tryd.prog wavRho := by
  constructor <;> first | kernel_rfl | (intro w; kernel_rfl) | exact ⟨"slices.Grow[[]byte,byte]", by kernel_rfl, by kernel_rfl⟩
theorem f59_ctr (k : Nat) : Ctr Tryd.prog k 59 (mk f59_pk f59_rk f59_F) := grow_ctr wavLaysG Tryd.t5 (by kernel_rfl) (by kernel_rfl) (by kernel_rfl) (by kernel_rfl) rfl rfl (fn := Tryd.f59) (by kernel_rfl) (by kernel_rfl) (by kernel_rfl)
abbrev f41_pk : List Kd := [.view (.sl (.sl (.int .u8)))]
abbrev f41_rk : Kd := .own (.int .u8) false
noncomputable def f41_code : Code := Tryd.f41.body.getD .skip
noncomputable def f41_C (k : Nat) : Ctx := { P := Tryd.prog, Φ := phi [(59, mk f59_pk f59_rk f59_F)], k := k, live := fun _ => [] }
def f41_A : Nat → Ann := fun id => bif Nat.beq id 11 then ⟨[26, 27, 25, 6], []⟩ else bif Nat.beq id 3 then ⟨[10, 11, 9, 3, 0], []⟩ else ⟨[], []⟩
def f41_S2 : Int × Int × List (List Int) × List Int → St
  | (v0, v1, v2, v3) => St.mk (envOf [(nat_lit 26, AV.val (PV.v (Value.int IntKind.i64 v0))), (nat_lit 27, AV.val (PV.v (Value.int IntKind.i64 v1))), (nat_lit 25, AV.val (PV.sl (Ty.int IntKind.u8).sl v2)), (nat_lit 6, AV.own (nat_lit 8192))]) (tblOf [(nat_lit 8192, RS.live (Res.arr (Ty.int IntKind.u8) v3 false))])
def f41_raw2 (k : Nat) (L2 : Int × Int × List (List Int) × List Int → Option (List Int × Unit)) : Int × Int × List (List Int) × List Int → Option (List Int × Unit)
  | (v0, v1, v2, v3) => bif decide (v1 < v0) then bif decide ((0 : Int) ≤ v1 ∧ v1 < Int.ofNat v2.length) then bif decide (v3.length + List.length (v2.getD v1.toNat []) < (2147483648 : Nat)) then L2 (v0, IntKind.i64.wrap (v1 + (1 : Int)), v2, v3 ++ v2.getD v1.toNat []) else none else none else some (v3, ())
def f41_L2 (k : Nat) : Int × Int × List (List Int) × List Int → Option (List Int × Unit) := iter (fun L2 => f41_raw2 k L2) k
noncomputable def f41_at2 (k : Nat) (n : Nat) (v : Int × Int × List (List Int) × List Int) : Option (List Int × Unit) :=
  loopAt (f41_C k) f41_A [] [1, 1, 1, 1, 0, 1, 0] [] f41_code (leaveK (f41_C k) Tryd.f41.results.toList f41_pk [] f41_rk (decR f41_pk f41_rk)) n (f41_S2 v)
def f41_S1 : Int × Int × List (List Int) × Int × List (List Int) → St
  | (v0, v1, v2, v3, v4) => St.mk (envOf [(nat_lit 10, AV.val (PV.v (Value.int IntKind.i64 v0))), (nat_lit 11, AV.val (PV.v (Value.int IntKind.i64 v1))), (nat_lit 9, AV.val (PV.sl (Ty.int IntKind.u8).sl v2)), (nat_lit 3, AV.val (PV.v (Value.int IntKind.i64 v3))), (nat_lit 0, AV.val (PV.sl (Ty.int IntKind.u8).sl v4))]) (tblOf [])
def f41_raw1 (k : Nat) (L2 : Int × Int × List (List Int) × List Int → Option (List Int × Unit)) (L1 : Int × Int × List (List Int) × Int × List (List Int) → Option (List Int × Unit)) : Int × Int × List (List Int) × Int × List (List Int) → Option (List Int × Unit)
  | (v0, v1, v2, v3, v4) => bif decide (v1 < v0) then bif decide ((0 : Int) ≤ v1 ∧ v1 < Int.ofNat v2.length) then bif decide (IntKind.i64.wrap (v3 + Int.ofNat (List.length (v2.getD v1.toNat []))) < (0 : Int)) then none else L1 (v0, IntKind.i64.wrap (v1 + (1 : Int)), v2, IntKind.i64.wrap (v3 + Int.ofNat (List.length (v2.getD v1.toNat []))), v4) else none else (f59_F k (Value.slice none (0 : Nat) (0 : Nat), v3, ())).bind fun y => L2 (Int.ofNat v4.length, (0 : Int), v4, y.1)
def f41_L1 (k : Nat) : Int × Int × List (List Int) × Int × List (List Int) → Option (List Int × Unit) := iter (fun L1 => f41_raw1 k (f41_L2 k) L1) k
noncomputable def f41_at1 (k : Nat) (n : Nat) (v : Int × Int × List (List Int) × Int × List (List Int)) : Option (List Int × Unit) :=
  loopAt (f41_C k) f41_A [] [1, 1, 0, 1, 0] [] f41_code (leaveK (f41_C k) Tryd.f41.results.toList f41_pk [] f41_rk (decR f41_pk f41_rk)) n (f41_S1 v)
def f41_raw0 (k : Nat) (L1 : Int × Int × List (List Int) × Int × List (List Int) → Option (List Int × Unit)) : List (List Int) × Unit → Option (List Int × Unit)
  | (a0, ()) => L1 (Int.ofNat a0.length, (0 : Int), a0, (0 : Int), a0)
def f41_F (k : Nat) : List (List Int) × Unit → Option (List Int × Unit) := f41_raw0 k (f41_L1 k)
theorem f41_law2 (k : Nat) : ∀ n, f41_at2 k n = iter (fun L2 => f41_raw2 k L2) n :=
  iter_law (fun v => by kernel_rfl) (fun n v => by
    show f41_at2 k (n + 1) v = f41_raw2 k (f41_at2 k n) v
    obtain ⟨v0, v1, v2, v3⟩ := v
    kernel_rfl)
theorem f41_law1 (k : Nat) : ∀ n, f41_at1 k n = iter (fun L1 => f41_raw1 k (f41_L2 k) L1) n :=
  iter_law (fun v => by kernel_rfl) (fun n v => by
    show f41_at1 k (n + 1) v = f41_raw1 k (f41_L2 k) (f41_at1 k n) v
    rw [show (f41_L2 k) = f41_at2 k k from (f41_law2 k k).symm]
    obtain ⟨v0, v1, v2, v3, v4⟩ := v
    kernel_rfl)
theorem f41_eq (k : Nat) (x : Kd.dens f41_pk) : runF (f41_C k) f41_A Tryd.f41.ntmps f41_code Tryd.f41.results.toList f41_pk f41_rk (encs f41_pk x) (decR f41_pk f41_rk) = f41_F k x := by
  show _ = f41_raw0 k (f41_L1 k) x
  rw [show f41_L1 k = f41_at1 k k from (f41_law1 k k).symm]
  obtain ⟨a0, ⟨⟩⟩ := x
  kernel_rfl
theorem f41_fits : fitsC Tryd.prog Tryd.f41.ntmps f41_code = true := by kernel_rfl
theorem f41_ctr (k : Nat) : Ctr Tryd.prog k 41 (mk f41_pk f41_rk f41_F) :=
  fun_law (C := f41_C k) (phi_ok (ctr_cons (f59_ctr k) ctr_nil)) prog_mixed (A := f41_A) (fn := Tryd.f41) (code := f41_code) (by kernel_rfl) (by kernel_rfl) (by kernel_rfl) f41_fits (fun x y h => (f41_eq k x).trans h)
abbrev f23_pk : List Kd := [.view (.sl (.int .u8)), .view (.sl (.int .u8))]
abbrev f23_rk : Kd := .tup [.view (.sl (.int .u8)), .view (.int .i64)]
noncomputable def f23_code : Code := Tryd.f23.body.getD .skip
noncomputable def f23_C (k : Nat) : Ctx := { P := Tryd.prog, Φ := phi [(33, mk f33_pk f33_rk f33_F), (34, mk f34_pk f34_rk f34_F), (41, mk f41_pk f41_rk f41_F), (32, mk f32_pk f32_rk f32_F)], k := k, live := fun _ => [] }
def f23_A : Nat → Ann := fun _ => ⟨[], []⟩
def f23_raw0 (k : Nat) : List Int × List Int × Unit → Option ((List Int × Int × Unit) × Unit)
  | (a0, a1, ()) => (f33_F k (a0, ())).bind fun y => bif y.1.2.1 != (0 : Int) then some (([], y.1.2.1, ()), ()) else (f33_F k (a1, ())).bind fun y_1 => bif y_1.1.2.1 != (0 : Int) then some (([], y_1.1.2.1, ()), ()) else bif !(decide (y.1.1.1.1 = y_1.1.1.1.1) && (decide (y.1.1.1.2.1 = y_1.1.1.1.2.1) && (decide (y.1.1.1.2.2.1 = y_1.1.1.1.2.2.1) && true))) then some (([], OfNat.ofNat (1 : Nat), ()), ()) else (f34_F k (((y.1.1.1.1, y.1.1.1.2.1, y.1.1.1.2.2.1, ()), y.1.1.2.1, y.1.1.2.2.1, ()), ())).bind fun y_2 => (f34_F k (((y_1.1.1.1.1, y_1.1.1.1.2.1, y_1.1.1.1.2.2.1, ()), y_1.1.1.2.1, y_1.1.1.2.2.1, ()), ())).bind fun y_3 => bif decide ((4096 : Int) < IntKind.i64.wrap (y_2.1 + y_3.1)) then some (([], OfNat.ofNat (14 : Nat), ()), ()) else (f41_F k ([y.1.1.2.2.1, y_1.1.1.2.2.1], ())).bind fun y_4 => (f32_F k (((y.1.1.1.1, y.1.1.1.2.1, y.1.1.1.2.2.1, ()), y.1.1.2.1, y_4.1, ()), ())).bind fun y => some ((y.1, OfNat.ofNat (0 : Nat), ()), ())
def f23_F (k : Nat) : List Int × List Int × Unit → Option ((List Int × Int × Unit) × Unit) := f23_raw0 k
theorem f23_eq (k : Nat) (x : Kd.dens f23_pk) : runF (f23_C k) f23_A Tryd.f23.ntmps f23_code Tryd.f23.results.toList f23_pk f23_rk (encs f23_pk x) (decR f23_pk f23_rk) = f23_F k x := by
  show _ = f23_raw0 k x
  obtain ⟨a0, ⟨a1, ⟨⟩⟩⟩ := x
  kernel_rfl
theorem f23_fits : fitsC Tryd.prog Tryd.f23.ntmps f23_code = true := by kernel_rfl
theorem f23_ctr (k : Nat) : Ctr Tryd.prog k 23 (mk f23_pk f23_rk f23_F) :=
  fun_law (C := f23_C k) (phi_ok (ctr_cons (f33_ctr k) (ctr_cons (f34_ctr k) (ctr_cons (f41_ctr k) (ctr_cons (f32_ctr k) ctr_nil))))) prog_mixed (A := f23_A) (fn := Tryd.f23) (code := f23_code) (by kernel_rfl) (by kernel_rfl) (by kernel_rfl) f23_fits (fun x y h => (f23_eq k x).trans h)
abbrev f11_pk : List Kd := [.view trackT]
abbrev f11_rk : Kd := .tup [.view .str, .view (.int .i64)]
noncomputable def f11_code : Code := Tryd.f11.body.getD .skip
noncomputable def f11_C (k : Nat) : Ctx := { P := Tryd.prog, Φ := phi [(26, mk f26_pk f26_rk f26_F), (28, mk f28_pk f28_rk f28_F), (27, mk f27_pk f27_rk f27_F)], k := k, live := fun _ => [] }
def f11_A : Nat → Ann := fun _ => ⟨[], []⟩
def f11_raw0 (k : Nat) : ((Int × Int × Int × Unit) × List ByteArray × List (List Int) × Unit) × Unit → Option ((ByteArray × Int × Unit) × Unit)
  | (((a0, a1, a2, ()), a3, a4, ()), ()) => (f26_F k (((a0, a1, a2, ()), a3, a4, ()), ())).bind fun y => bif y.1 != (0 : Int) then some ((ByteArray.mk #[], y.1, ()), ()) else (f28_F k (((a0, a1, a2, ()), a3, a4, ()), ())).bind fun y => (f27_F k ((a0, a1, a2, ()), a3, y.1, ())).bind fun y => some ((y.1, OfNat.ofNat (0 : Nat), ()), ())
def f11_F (k : Nat) : ((Int × Int × Int × Unit) × List ByteArray × List (List Int) × Unit) × Unit → Option ((ByteArray × Int × Unit) × Unit) := f11_raw0 k
theorem f11_eq (k : Nat) (x : Kd.dens f11_pk) : runF (f11_C k) f11_A Tryd.f11.ntmps f11_code Tryd.f11.results.toList f11_pk f11_rk (encs f11_pk x) (decR f11_pk f11_rk) = f11_F k x := by
  show _ = f11_raw0 k x
  obtain ⟨⟨⟨a0, ⟨a1, ⟨a2, ⟨⟩⟩⟩⟩, ⟨a3, ⟨a4, ⟨⟩⟩⟩⟩, ⟨⟩⟩ := x
  kernel_rfl
theorem f11_fits : fitsC Tryd.prog Tryd.f11.ntmps f11_code = true := by kernel_rfl
theorem f11_ctr (k : Nat) : Ctr Tryd.prog k 11 (mk f11_pk f11_rk f11_F) :=
  fun_law (C := f11_C k) (phi_ok (ctr_cons (f26_ctr k) (ctr_cons (f28_ctr k) (ctr_cons (f27_ctr k) ctr_nil)))) prog_mixed (A := f11_A) (fn := Tryd.f11) (code := f11_code) (by kernel_rfl) (by kernel_rfl) (by kernel_rfl) f11_fits (fun x y h => (f11_eq k x).trans h)
abbrev f35_pk : List Kd := [.view .str]
abbrev f35_rk : Kd := .tup [.view shapeT, .view (.sl .str), .view .str, .view .bool]
noncomputable def f35_code : Code := Tryd.f35.body.getD .skip
noncomputable def f35_C (k : Nat) : Ctx := { P := Tryd.prog, Φ := phi [(40, mk f40_pk f40_rk f40_F), (43, mk f43_pk f43_rk f43_F), (44, mk f44_pk f44_rk f44_F), (36, mk f36_pk f36_rk f36_F), (27, mk f27_pk f27_rk f27_F)], k := k, live := fun _ => [] }
def f35_A : Nat → Ann := fun id => bif Nat.beq id 14 then ⟨[11, 9, 6, 2, 8, 10, 0, 7], [.slot 9 (Ty.str)]⟩ else ⟨[], []⟩
def f35_S1 : ByteArray × Int × Int × ByteArray × List ByteArray × Int × Int × Int × Int × Int × Int × Int × Int × Int → St
  | (v0, v1, v2, v3, v4, v5, v6, v7, v8, v9, v10, v11, v12, v13) => St.mk (envOf [(nat_lit 11, AV.val (PV.v (Value.string v0))), (nat_lit 9, AV.own (nat_lit 8192)), (nat_lit 6, AV.bx (nat_lit 8193) (nat_lit 0)), (nat_lit 2, AV.bx (nat_lit 8194) (nat_lit 0)), (nat_lit 8, AV.val (PV.v (Value.int IntKind.i64 v1))), (nat_lit 10, AV.val (PV.v (Value.int IntKind.i64 v2))), (nat_lit 0, AV.val (PV.v (Value.string v3))), (nat_lit 7, AV.bx (nat_lit 8195) (nat_lit 0))]) (tblOf [(nat_lit 8192, RS.live (Res.arr Ty.str v4 false)), (nat_lit 8193, RS.live (Res.box [AV.val (PV.v (Value.int IntKind.i64 v5)), AV.val (PV.v (Value.int IntKind.i64 v6)), AV.val (PV.v (Value.int IntKind.i64 v7))])), (nat_lit 8194, RS.live (Res.box [AV.val (PV.v (Value.int IntKind.i64 v8)), AV.val (PV.v (Value.int IntKind.i64 v9)), AV.val (PV.v (Value.int IntKind.i64 v10))])), (nat_lit 8195, RS.live (Res.box [AV.val (PV.v (Value.int IntKind.i64 v11)), AV.val (PV.v (Value.int IntKind.i64 v12)), AV.val (PV.v (Value.int IntKind.i64 v13))]))])
def f35_raw1 (k : Nat) (L1 : ByteArray × Int × Int × ByteArray × List ByteArray × Int × Int × Int × Int × Int × Int × Int × Int × Int → Option (((Int × Int × Int × Unit) × List ByteArray × ByteArray × Bool × Unit) × Unit)) : ByteArray × Int × Int × ByteArray × List ByteArray × Int × Int × Int × Int × Int × Int × Int × Int × Int → Option (((Int × Int × Int × Unit) × List ByteArray × ByteArray × Bool × Unit) × Unit)
  | (v0, v1, v2, v3, v4, v5, v6, v7, v8, v9, v10, v11, v12, v13) => bif !v0.toList == (ByteArray.mk #[]).toList then bif decide ((0 : Int) ≤ (0 : Int) ∧ (0 : Int) < Int.ofNat v0.size) then bif decide (IntKind.i64.wrap (Int.ofNat v0.size - (1 : Int)) < IntKind.i64.wrap (Int.ofNat (v0.data.toList.getD (0 : Nat) (OfNat.ofNat (0 : Nat))).toNat)) then some (((v5, v6, v7, ()), [], ByteArray.mk #[], false, ()), ()) else bif decide ((0 : Int) ≤ (1 : Int) ∧ (1 : Int) ≤ IntKind.i64.wrap ((1 : Int) + IntKind.i64.wrap (Int.ofNat (v0.data.toList.getD (0 : Nat) (OfNat.ofNat (0 : Nat))).toNat)) ∧ IntKind.i64.wrap ((1 : Int) + IntKind.i64.wrap (Int.ofNat (v0.data.toList.getD (0 : Nat) (OfNat.ofNat (0 : Nat))).toNat)) ≤ Int.ofNat v0.size) then (f44_F k (v0.extract (1 : Nat) (IntKind.i64.wrap ((1 : Int) + IntKind.i64.wrap (Int.ofNat (v0.data.toList.getD (0 : Nat) (OfNat.ofNat (0 : Nat))).toNat))).toNat, ())).bind fun y => bif !y.1 then some (((v5, v6, v7, ()), [], ByteArray.mk #[], false, ()), ()) else bif Int.ofNat v4.length == (8 : Int) then some (((v5, v6, v7, ()), [], ByteArray.mk #[], false, ()), ()) else bif decide ((0 : Int) ≤ (1 : Int) ∧ (1 : Int) ≤ IntKind.i64.wrap ((1 : Int) + IntKind.i64.wrap (Int.ofNat (v0.data.toList.getD (0 : Nat) (OfNat.ofNat (0 : Nat))).toNat)) ∧ IntKind.i64.wrap ((1 : Int) + IntKind.i64.wrap (Int.ofNat (v0.data.toList.getD (0 : Nat) (OfNat.ofNat (0 : Nat))).toNat)) ≤ Int.ofNat v0.size) then bif decide (v4.length + [v0.extract (1 : Nat) (IntKind.i64.wrap ((1 : Int) + IntKind.i64.wrap (Int.ofNat (v0.data.toList.getD (0 : Nat) (OfNat.ofNat (0 : Nat))).toNat))).toNat].length < (2147483648 : Nat)) then bif decide ((0 : Int) ≤ IntKind.i64.wrap ((1 : Int) + IntKind.i64.wrap (Int.ofNat (v0.data.toList.getD (0 : Nat) (OfNat.ofNat (0 : Nat))).toNat)) ∧ IntKind.i64.wrap ((1 : Int) + IntKind.i64.wrap (Int.ofNat (v0.data.toList.getD (0 : Nat) (OfNat.ofNat (0 : Nat))).toNat)) ≤ Int.ofNat v0.size ∧ Int.ofNat v0.size ≤ Int.ofNat v0.size) then L1 (v0.extract (IntKind.i64.wrap ((1 : Int) + IntKind.i64.wrap (Int.ofNat (v0.data.toList.getD (0 : Nat) (OfNat.ofNat (0 : Nat))).toNat))).toNat (Int.ofNat v0.size).toNat, v1, v2, v3, v4 ++ [v0.extract (1 : Nat) (IntKind.i64.wrap ((1 : Int) + IntKind.i64.wrap (Int.ofNat (v0.data.toList.getD (0 : Nat) (OfNat.ofNat (0 : Nat))).toNat))).toNat], v5, v6, v7, v8, v9, v10, v11, v12, v13) else none else none else none else none else none else bif decide (Int.ofNat v3.size < IntKind.i64.wrap (IntKind.i64.wrap (IntKind.i64.wrap (IntKind.i64.wrap (v1 + (8 : Int)) + v2) + v2.tmod (2 : Int)) + (8 : Int))) then some (((v5, v6, v7, ()), [], ByteArray.mk #[], false, ()), ()) else bif decide ((0 : Int) ≤ IntKind.i64.wrap (IntKind.i64.wrap (IntKind.i64.wrap (IntKind.i64.wrap (v1 + (8 : Int)) + v2) + v2.tmod (2 : Int)) + (4 : Int)) ∧ IntKind.i64.wrap (IntKind.i64.wrap (IntKind.i64.wrap (IntKind.i64.wrap (v1 + (8 : Int)) + v2) + v2.tmod (2 : Int)) + (4 : Int)) ≤ IntKind.i64.wrap (IntKind.i64.wrap (IntKind.i64.wrap (IntKind.i64.wrap (v1 + (8 : Int)) + v2) + v2.tmod (2 : Int)) + (8 : Int)) ∧ IntKind.i64.wrap (IntKind.i64.wrap (IntKind.i64.wrap (IntKind.i64.wrap (v1 + (8 : Int)) + v2) + v2.tmod (2 : Int)) + (8 : Int)) ≤ Int.ofNat v3.size) then (f40_F k (v3.extract (IntKind.i64.wrap (IntKind.i64.wrap (IntKind.i64.wrap (IntKind.i64.wrap (v1 + (8 : Int)) + v2) + v2.tmod (2 : Int)) + (4 : Int))).toNat (IntKind.i64.wrap (IntKind.i64.wrap (IntKind.i64.wrap (IntKind.i64.wrap (v1 + (8 : Int)) + v2) + v2.tmod (2 : Int)) + (8 : Int))).toNat, ())).bind fun y => bif decide (IntKind.i64.wrap (IntKind.i64.wrap (Int.ofNat v3.size - IntKind.i64.wrap (IntKind.i64.wrap (IntKind.i64.wrap (v1 + (8 : Int)) + v2) + v2.tmod (2 : Int))) - (8 : Int)) < y.1) then some (((v5, v6, v7, ()), [], ByteArray.mk #[], false, ()), ()) else (f36_F k (v12, ())).bind fun y_1 => bif decide ¬IntKind.i64.wrap (v11 * y_1.1) = (0 : Int) then bif Int.tmod y.1 (IntKind.i64.wrap (v11 * y_1.1)) != (0 : Int) then some (((v5, v6, v7, ()), [], ByteArray.mk #[], false, ()), ()) else (f36_F k (v12, ())).bind fun y_2 => bif decide ¬IntKind.i64.wrap (v11 * y_2.1) = (0 : Int) then bif decide ((4096 : Int) < IntKind.i64.wrap (Int.tdiv y.1 (IntKind.i64.wrap (v11 * y_2.1)))) then some (((v5, v6, v7, ()), [], ByteArray.mk #[], false, ()), ()) else bif decide ((0 : Int) ≤ IntKind.i64.wrap (IntKind.i64.wrap (IntKind.i64.wrap (IntKind.i64.wrap (v1 + (8 : Int)) + v2) + v2.tmod (2 : Int)) + (8 : Int)) ∧ IntKind.i64.wrap (IntKind.i64.wrap (IntKind.i64.wrap (IntKind.i64.wrap (v1 + (8 : Int)) + v2) + v2.tmod (2 : Int)) + (8 : Int)) ≤ IntKind.i64.wrap (IntKind.i64.wrap (IntKind.i64.wrap (IntKind.i64.wrap (IntKind.i64.wrap (v1 + (8 : Int)) + v2) + v2.tmod (2 : Int)) + (8 : Int)) + y.1) ∧ IntKind.i64.wrap (IntKind.i64.wrap (IntKind.i64.wrap (IntKind.i64.wrap (IntKind.i64.wrap (v1 + (8 : Int)) + v2) + v2.tmod (2 : Int)) + (8 : Int)) + y.1) ≤ Int.ofNat v3.size) then (f27_F k ((v11, v12, v13, ()), v4, v3.extract (IntKind.i64.wrap (IntKind.i64.wrap (IntKind.i64.wrap (IntKind.i64.wrap (v1 + (8 : Int)) + v2) + v2.tmod (2 : Int)) + (8 : Int))).toNat (IntKind.i64.wrap (IntKind.i64.wrap (IntKind.i64.wrap (IntKind.i64.wrap (IntKind.i64.wrap (v1 + (8 : Int)) + v2) + v2.tmod (2 : Int)) + (8 : Int)) + y.1)).toNat, ())).bind fun y_3 => bif Int.ofNat (ByteArray.size y_3.1) != Int.ofNat v3.size then some (((v5, v6, v7, ()), [], ByteArray.mk #[], false, ()), ()) else bif decide ((0 : Int) ≤ (0 : Int) ∧ (0 : Int) ≤ IntKind.i64.wrap (IntKind.i64.wrap (IntKind.i64.wrap (IntKind.i64.wrap (IntKind.i64.wrap (v1 + (8 : Int)) + v2) + v2.tmod (2 : Int)) + (8 : Int)) + y.1) ∧ IntKind.i64.wrap (IntKind.i64.wrap (IntKind.i64.wrap (IntKind.i64.wrap (IntKind.i64.wrap (v1 + (8 : Int)) + v2) + v2.tmod (2 : Int)) + (8 : Int)) + y.1) ≤ Int.ofNat (ByteArray.size y_3.1)) then bif decide ((0 : Int) ≤ (0 : Int) ∧ (0 : Int) ≤ IntKind.i64.wrap (IntKind.i64.wrap (IntKind.i64.wrap (IntKind.i64.wrap (IntKind.i64.wrap (v1 + (8 : Int)) + v2) + v2.tmod (2 : Int)) + (8 : Int)) + y.1) ∧ IntKind.i64.wrap (IntKind.i64.wrap (IntKind.i64.wrap (IntKind.i64.wrap (IntKind.i64.wrap (v1 + (8 : Int)) + v2) + v2.tmod (2 : Int)) + (8 : Int)) + y.1) ≤ Int.ofNat v3.size) then bif !(ByteArray.extract y_3.1 (0 : Nat) (IntKind.i64.wrap (IntKind.i64.wrap (IntKind.i64.wrap (IntKind.i64.wrap (IntKind.i64.wrap (v1 + (8 : Int)) + v2) + v2.tmod (2 : Int)) + (8 : Int)) + y.1)).toNat).toList == (v3.extract (0 : Nat) (IntKind.i64.wrap (IntKind.i64.wrap (IntKind.i64.wrap (IntKind.i64.wrap (IntKind.i64.wrap (v1 + (8 : Int)) + v2) + v2.tmod (2 : Int)) + (8 : Int)) + y.1)).toNat).toList then some (((v5, v6, v7, ()), [], ByteArray.mk #[], false, ()), ()) else some (((v11, v12, v13, ()), v4, v3.extract (IntKind.i64.wrap (IntKind.i64.wrap (IntKind.i64.wrap (IntKind.i64.wrap (v1 + (8 : Int)) + v2) + v2.tmod (2 : Int)) + (8 : Int))).toNat (IntKind.i64.wrap (IntKind.i64.wrap (IntKind.i64.wrap (IntKind.i64.wrap (IntKind.i64.wrap (v1 + (8 : Int)) + v2) + v2.tmod (2 : Int)) + (8 : Int)) + y.1)).toNat, true, ()), ()) else none else none else none else none else none else none
def f35_L1 (k : Nat) : ByteArray × Int × Int × ByteArray × List ByteArray × Int × Int × Int × Int × Int × Int × Int × Int × Int → Option (((Int × Int × Int × Unit) × List ByteArray × ByteArray × Bool × Unit) × Unit) := iter (fun L1 => f35_raw1 k L1) k
noncomputable def f35_at1 (k : Nat) (n : Nat) (v : ByteArray × Int × Int × ByteArray × List ByteArray × Int × Int × Int × Int × Int × Int × Int × Int × Int) : Option (((Int × Int × Int × Unit) × List ByteArray × ByteArray × Bool × Unit) × Unit) :=
  loopAt (f35_C k) f35_A [] [1, 1, 1, 1, 1, 1, 1, 0, 1, 0, 1, 1, 1, 0, 0] [] f35_code (leaveK (f35_C k) Tryd.f35.results.toList f35_pk [] f35_rk (decR f35_pk f35_rk)) n (f35_S1 v)
def f35_raw0 (k : Nat) (L1 : ByteArray × Int × Int × ByteArray × List ByteArray × Int × Int × Int × Int × Int × Int × Int × Int × Int → Option (((Int × Int × Int × Unit) × List ByteArray × ByteArray × Bool × Unit) × Unit)) : ByteArray × Unit → Option (((Int × Int × Int × Unit) × List ByteArray × ByteArray × Bool × Unit) × Unit)
  | (a0, ()) => bif decide (Int.ofNat a0.size < (44 : Int)) then some ((((0 : Int), (0 : Int), (0 : Int), ()), [], ByteArray.mk #[], false, ()), ()) else bif decide ((0 : Int) ≤ (22 : Int) ∧ (22 : Int) ≤ (24 : Int) ∧ (24 : Int) ≤ Int.ofNat a0.size) then (f40_F k (a0.extract (22 : Nat) (24 : Nat), ())).bind fun y => bif decide ((0 : Int) ≤ (24 : Int) ∧ (24 : Int) ≤ (28 : Int) ∧ (28 : Int) ≤ Int.ofNat a0.size) then (f40_F k (a0.extract (24 : Nat) (28 : Nat), ())).bind fun y_1 => bif decide ((0 : Int) ≤ (34 : Int) ∧ (34 : Int) ≤ (36 : Int) ∧ (36 : Int) ≤ Int.ofNat a0.size) then (f40_F k (a0.extract (34 : Nat) (36 : Nat), ())).bind fun y_2 => (f43_F k ((y.1, y_2.1, y_1.1, ()), ())).bind fun y_3 => bif !y_3.1 then some ((((0 : Int), (0 : Int), (0 : Int), ()), [], ByteArray.mk #[], false, ()), ()) else bif decide ((0 : Int) ≤ (36 : Int) ∧ (36 : Int) ≤ (40 : Int) ∧ (40 : Int) ≤ Int.ofNat a0.size) then bif (a0.extract (36 : Nat) (40 : Nat)).toList == (ByteArray.mk #[OfNat.ofNat (116 : Nat), OfNat.ofNat (97 : Nat), OfNat.ofNat (103 : Nat), OfNat.ofNat (115 : Nat)]).toList then bif decide ((0 : Int) ≤ (40 : Int) ∧ (40 : Int) ≤ (44 : Int) ∧ (44 : Int) ≤ Int.ofNat a0.size) then (f40_F k (a0.extract (40 : Nat) (44 : Nat), ())).bind fun y_4 => bif decide (IntKind.i64.wrap (IntKind.i64.wrap (Int.ofNat a0.size - (36 : Int)) - (8 : Int)) < y_4.1) then some ((((0 : Int), (0 : Int), (0 : Int), ()), [], ByteArray.mk #[], false, ()), ()) else bif decide ((0 : Int) ≤ (44 : Int) ∧ (44 : Int) ≤ IntKind.i64.wrap ((44 : Int) + y_4.1) ∧ IntKind.i64.wrap ((44 : Int) + y_4.1) ≤ Int.ofNat a0.size) then L1 (a0.extract (44 : Nat) (IntKind.i64.wrap ((44 : Int) + y_4.1)).toNat, (36 : Int), y_4.1, a0, [], (0 : Int), (0 : Int), (0 : Int), (0 : Int), (0 : Int), (0 : Int), y.1, y_2.1, y_1.1) else none else none else bif decide (Int.ofNat a0.size < (44 : Int)) then some ((((0 : Int), (0 : Int), (0 : Int), ()), [], ByteArray.mk #[], false, ()), ()) else bif decide ((0 : Int) ≤ (40 : Int) ∧ (40 : Int) ≤ (44 : Int) ∧ (44 : Int) ≤ Int.ofNat a0.size) then (f40_F k (a0.extract (40 : Nat) (44 : Nat), ())).bind fun y_4 => bif decide (IntKind.i64.wrap (IntKind.i64.wrap (Int.ofNat a0.size - (36 : Int)) - (8 : Int)) < y_4.1) then some ((((0 : Int), (0 : Int), (0 : Int), ()), [], ByteArray.mk #[], false, ()), ()) else (f36_F k (y_2.1, ())).bind fun y_5 => bif decide ¬IntKind.i64.wrap (y.1 * y_5.1) = (0 : Int) then bif Int.tmod y_4.1 (IntKind.i64.wrap (y.1 * y_5.1)) != (0 : Int) then some ((((0 : Int), (0 : Int), (0 : Int), ()), [], ByteArray.mk #[], false, ()), ()) else (f36_F k (y_2.1, ())).bind fun y_6 => bif decide ¬IntKind.i64.wrap (y.1 * y_6.1) = (0 : Int) then bif decide ((4096 : Int) < IntKind.i64.wrap (Int.tdiv y_4.1 (IntKind.i64.wrap (y.1 * y_6.1)))) then some ((((0 : Int), (0 : Int), (0 : Int), ()), [], ByteArray.mk #[], false, ()), ()) else bif decide ((0 : Int) ≤ (44 : Int) ∧ (44 : Int) ≤ IntKind.i64.wrap ((44 : Int) + y_4.1) ∧ IntKind.i64.wrap ((44 : Int) + y_4.1) ≤ Int.ofNat a0.size) then (f27_F k ((y.1, y_2.1, y_1.1, ()), [], a0.extract (44 : Nat) (IntKind.i64.wrap ((44 : Int) + y_4.1)).toNat, ())).bind fun y_7 => bif Int.ofNat (ByteArray.size y_7.1) != Int.ofNat a0.size then some ((((0 : Int), (0 : Int), (0 : Int), ()), [], ByteArray.mk #[], false, ()), ()) else bif decide ((0 : Int) ≤ (0 : Int) ∧ (0 : Int) ≤ IntKind.i64.wrap ((44 : Int) + y_4.1) ∧ IntKind.i64.wrap ((44 : Int) + y_4.1) ≤ Int.ofNat (ByteArray.size y_7.1)) then bif decide ((0 : Int) ≤ (0 : Int) ∧ (0 : Int) ≤ IntKind.i64.wrap ((44 : Int) + y_4.1) ∧ IntKind.i64.wrap ((44 : Int) + y_4.1) ≤ Int.ofNat a0.size) then bif !(ByteArray.extract y_7.1 (0 : Nat) (IntKind.i64.wrap ((44 : Int) + y_4.1)).toNat).toList == (a0.extract (0 : Nat) (IntKind.i64.wrap ((44 : Int) + y_4.1)).toNat).toList then some ((((0 : Int), (0 : Int), (0 : Int), ()), [], ByteArray.mk #[], false, ()), ()) else some (((y.1, y_2.1, y_1.1, ()), [], a0.extract (44 : Nat) (IntKind.i64.wrap ((44 : Int) + y_4.1)).toNat, true, ()), ()) else none else none else none else none else none else none else none else none else none else none
def f35_F (k : Nat) : ByteArray × Unit → Option (((Int × Int × Int × Unit) × List ByteArray × ByteArray × Bool × Unit) × Unit) := f35_raw0 k (f35_L1 k)
theorem f35_law1 (k : Nat) : ∀ n, f35_at1 k n = iter (fun L1 => f35_raw1 k L1) n :=
  iter_law (fun v => by kernel_rfl) (fun n v => by
    show f35_at1 k (n + 1) v = f35_raw1 k (f35_at1 k n) v
    obtain ⟨v0, v1, v2, v3, v4, v5, v6, v7, v8, v9, v10, v11, v12, v13⟩ := v
    kernel_rfl)
theorem f35_eq (k : Nat) (x : Kd.dens f35_pk) : runF (f35_C k) f35_A Tryd.f35.ntmps f35_code Tryd.f35.results.toList f35_pk f35_rk (encs f35_pk x) (decR f35_pk f35_rk) = f35_F k x := by
  show _ = f35_raw0 k (f35_L1 k) x
  rw [show f35_L1 k = f35_at1 k k from (f35_law1 k k).symm]
  obtain ⟨a0, ⟨⟩⟩ := x
  kernel_rfl
theorem f35_fits : fitsC Tryd.prog Tryd.f35.ntmps f35_code = true := by kernel_rfl
theorem f35_ctr (k : Nat) : Ctr Tryd.prog k 35 (mk f35_pk f35_rk f35_F) :=
  fun_law (C := f35_C k) (phi_ok (ctr_cons (f40_ctr k) (ctr_cons (f43_ctr k) (ctr_cons (f44_ctr k) (ctr_cons (f36_ctr k) (ctr_cons (f27_ctr k) ctr_nil)))))) prog_mixed (A := f35_A) (fn := Tryd.f35) (code := f35_code) (by kernel_rfl) (by kernel_rfl) (by kernel_rfl) f35_fits (fun x y h => (f35_eq k x).trans h)
abbrev f22_pk : List Kd := [.view .str]
abbrev f22_rk : Kd := .tup [.view shapeT, .view (.int .i64), .view (.int .i64)]
noncomputable def f22_code : Code := Tryd.f22.body.getD .skip
noncomputable def f22_C (k : Nat) : Ctx := { P := Tryd.prog, Φ := phi [(35, mk f35_pk f35_rk f35_F), (36, mk f36_pk f36_rk f36_F)], k := k, live := fun _ => [] }
def f22_A : Nat → Ann := fun _ => ⟨[], []⟩
def f22_raw0 (k : Nat) : ByteArray × Unit → Option (((Int × Int × Int × Unit) × Int × Int × Unit) × Unit)
  | (a0, ()) => (f35_F k (a0, ())).bind fun y => bif !y.1.2.2.2.1 then some ((((0 : Int), (0 : Int), (0 : Int), ()), OfNat.ofNat (0 : Nat), OfNat.ofNat (2 : Nat), ()), ()) else (f36_F k (y.1.1.2.1, ())).bind fun y_1 => bif decide ¬IntKind.i64.wrap (y.1.1.1 * y_1.1) = (0 : Int) then some (((y.1.1.1, y.1.1.2.1, y.1.1.2.2.1, ()), IntKind.i64.wrap ((Int.ofNat (ByteArray.size y.1.2.2.1)).tdiv (IntKind.i64.wrap (y.1.1.1 * y_1.1))), OfNat.ofNat (0 : Nat), ()), ()) else none
def f22_F (k : Nat) : ByteArray × Unit → Option (((Int × Int × Int × Unit) × Int × Int × Unit) × Unit) := f22_raw0 k
theorem f22_eq (k : Nat) (x : Kd.dens f22_pk) : runF (f22_C k) f22_A Tryd.f22.ntmps f22_code Tryd.f22.results.toList f22_pk f22_rk (encs f22_pk x) (decR f22_pk f22_rk) = f22_F k x := by
  show _ = f22_raw0 k x
  obtain ⟨a0, ⟨⟩⟩ := x
  kernel_rfl
theorem f22_fits : fitsC Tryd.prog Tryd.f22.ntmps f22_code = true := by kernel_rfl
theorem f22_ctr (k : Nat) : Ctr Tryd.prog k 22 (mk f22_pk f22_rk f22_F) :=
  fun_law (C := f22_C k) (phi_ok (ctr_cons (f35_ctr k) (ctr_cons (f36_ctr k) ctr_nil))) prog_mixed (A := f22_A) (fn := Tryd.f22) (code := f22_code) (by kernel_rfl) (by kernel_rfl) (by kernel_rfl) f22_fits (fun x y h => (f22_eq k x).trans h)
abbrev f15_pk : List Kd := [.view .str, .view (.int .i64), .view (.int .i64)]
abbrev f15_rk : Kd := .tup [.view .str, .view (.int .i64)]
noncomputable def f15_code : Code := Tryd.f15.body.getD .skip
noncomputable def f15_C (k : Nat) : Ctx := { P := Tryd.prog, Φ := phi [(22, mk f22_pk f22_rk f22_F), (35, mk f35_pk f35_rk f35_F), (36, mk f36_pk f36_rk f36_F), (27, mk f27_pk f27_rk f27_F)], k := k, live := fun _ => [] }
def f15_A : Nat → Ann := fun _ => ⟨[], []⟩
def f15_raw0 (k : Nat) : ByteArray × Int × Int × Unit → Option ((ByteArray × Int × Unit) × Unit)
  | (a0, a1, a2, ()) => (f22_F k (a0, ())).bind fun y => bif y.1.2.2.1 != (0 : Int) then some ((ByteArray.mk #[], y.1.2.2.1, ()), ()) else bif decide (a1 < (0 : Int)) then some ((ByteArray.mk #[], OfNat.ofNat (9 : Nat), ()), ()) else bif decide (a2 < (0 : Int)) then some ((ByteArray.mk #[], OfNat.ofNat (9 : Nat), ()), ()) else bif decide (y.1.2.1 < a1) then some ((ByteArray.mk #[], OfNat.ofNat (9 : Nat), ()), ()) else bif decide (IntKind.i64.wrap (y.1.2.1 - a1) < a2) then some ((ByteArray.mk #[], OfNat.ofNat (9 : Nat), ()), ()) else (f35_F k (a0, ())).bind fun y_1 => (f36_F k (y.1.1.2.1, ())).bind fun y_2 => bif decide ((0 : Int) ≤ IntKind.i64.wrap (a1 * IntKind.i64.wrap (y.1.1.1 * y_2.1)) ∧ IntKind.i64.wrap (a1 * IntKind.i64.wrap (y.1.1.1 * y_2.1)) ≤ IntKind.i64.wrap (IntKind.i64.wrap (a1 + a2) * IntKind.i64.wrap (y.1.1.1 * y_2.1)) ∧ IntKind.i64.wrap (IntKind.i64.wrap (a1 + a2) * IntKind.i64.wrap (y.1.1.1 * y_2.1)) ≤ Int.ofNat (ByteArray.size y_1.1.2.2.1)) then (f27_F k ((y.1.1.1, y.1.1.2.1, y.1.1.2.2.1, ()), y_1.1.2.1, ByteArray.extract y_1.1.2.2.1 (IntKind.i64.wrap (a1 * IntKind.i64.wrap (y.1.1.1 * y_2.1))).toNat (IntKind.i64.wrap (IntKind.i64.wrap (a1 + a2) * IntKind.i64.wrap (y.1.1.1 * y_2.1))).toNat, ())).bind fun y => some ((y.1, OfNat.ofNat (0 : Nat), ()), ()) else none
def f15_F (k : Nat) : ByteArray × Int × Int × Unit → Option ((ByteArray × Int × Unit) × Unit) := f15_raw0 k
theorem f15_eq (k : Nat) (x : Kd.dens f15_pk) : runF (f15_C k) f15_A Tryd.f15.ntmps f15_code Tryd.f15.results.toList f15_pk f15_rk (encs f15_pk x) (decR f15_pk f15_rk) = f15_F k x := by
  show _ = f15_raw0 k x
  obtain ⟨a0, ⟨a1, ⟨a2, ⟨⟩⟩⟩⟩ := x
  kernel_rfl
theorem f15_fits : fitsC Tryd.prog Tryd.f15.ntmps f15_code = true := by kernel_rfl
theorem f15_ctr (k : Nat) : Ctr Tryd.prog k 15 (mk f15_pk f15_rk f15_F) :=
  fun_law (C := f15_C k) (phi_ok (ctr_cons (f22_ctr k) (ctr_cons (f35_ctr k) (ctr_cons (f36_ctr k) (ctr_cons (f27_ctr k) ctr_nil))))) prog_mixed (A := f15_A) (fn := Tryd.f15) (code := f15_code) (by kernel_rfl) (by kernel_rfl) (by kernel_rfl) f15_fits (fun x y h => (f15_eq k x).trans h)
abbrev f24_pk : List Kd := [.view .str, .view .str]
abbrev f24_rk : Kd := .tup [.view .str, .view (.int .i64)]
noncomputable def f24_code : Code := Tryd.f24.body.getD .skip
noncomputable def f24_C (k : Nat) : Ctx := { P := Tryd.prog, Φ := phi [(22, mk f22_pk f22_rk f22_F), (35, mk f35_pk f35_rk f35_F), (27, mk f27_pk f27_rk f27_F)], k := k, live := fun _ => [] }
def f24_A : Nat → Ann := fun _ => ⟨[], []⟩
def f24_raw0 (k : Nat) : ByteArray × ByteArray × Unit → Option ((ByteArray × Int × Unit) × Unit)
  | (a0, a1, ()) => (f22_F k (a0, ())).bind fun y => (f22_F k (a1, ())).bind fun y_1 => bif y.1.2.2.1 != (0 : Int) then some ((ByteArray.mk #[], OfNat.ofNat (2 : Nat), ()), ()) else bif y_1.1.2.2.1 != (0 : Int) then some ((ByteArray.mk #[], OfNat.ofNat (2 : Nat), ()), ()) else bif !(decide (y.1.1.1 = y_1.1.1.1) && (decide (y.1.1.2.1 = y_1.1.1.2.1) && (decide (y.1.1.2.2.1 = y_1.1.1.2.2.1) && true))) then some ((ByteArray.mk #[], OfNat.ofNat (1 : Nat), ()), ()) else bif decide ((4096 : Int) < IntKind.i64.wrap (y.1.2.1 + y_1.1.2.1)) then some ((ByteArray.mk #[], OfNat.ofNat (14 : Nat), ()), ()) else (f35_F k (a0, ())).bind fun y_2 => (f35_F k (a1, ())).bind fun y_3 => bif decide (ByteArray.size y_2.1.2.2.1 + ByteArray.size y_3.1.2.2.1 < (1099511627776 : Nat)) then (f27_F k ((y.1.1.1, y.1.1.2.1, y.1.1.2.2.1, ()), y_2.1.2.1, y_2.1.2.2.1 ++ y_3.1.2.2.1, ())).bind fun y => some ((y.1, OfNat.ofNat (0 : Nat), ()), ()) else none
def f24_F (k : Nat) : ByteArray × ByteArray × Unit → Option ((ByteArray × Int × Unit) × Unit) := f24_raw0 k
theorem f24_eq (k : Nat) (x : Kd.dens f24_pk) : runF (f24_C k) f24_A Tryd.f24.ntmps f24_code Tryd.f24.results.toList f24_pk f24_rk (encs f24_pk x) (decR f24_pk f24_rk) = f24_F k x := by
  show _ = f24_raw0 k x
  obtain ⟨a0, ⟨a1, ⟨⟩⟩⟩ := x
  kernel_rfl
theorem f24_fits : fitsC Tryd.prog Tryd.f24.ntmps f24_code = true := by kernel_rfl
theorem f24_ctr (k : Nat) : Ctr Tryd.prog k 24 (mk f24_pk f24_rk f24_F) :=
  fun_law (C := f24_C k) (phi_ok (ctr_cons (f22_ctr k) (ctr_cons (f35_ctr k) (ctr_cons (f27_ctr k) ctr_nil)))) prog_mixed (A := f24_A) (fn := Tryd.f24) (code := f24_code) (by kernel_rfl) (by kernel_rfl) (by kernel_rfl) f24_fits (fun x y h => (f24_eq k x).trans h)
abbrev f10_pk : List Kd := []
abbrev f10_rk : Kd := .view .bool
noncomputable def f10_code : Code := Tryd.f10.body.getD .skip
noncomputable def f10_C (k : Nat) : Ctx := { P := Tryd.prog, Φ := phi [(12, mk f12_pk f12_rk f12_F)], k := k, live := fun _ => [] }
def f10_A : Nat → Ann := fun _ => ⟨[], []⟩
def f10_raw0 (k : Nat) : Unit → Option (Bool × Unit)
  | () => (f12_F k ((((1 : Int), (8 : Int), (8000 : Int), ()), [], [[(0 : Int), (-128 : Int), (127 : Int)]], ()), ())).bind fun y => bif y.1.2.1 == (0 : Int) then bif Int.ofNat (List.length y.1.1) == (48 : Int) then bif decide ((0 : Int) ≤ (0 : Int) ∧ (0 : Int) ≤ (4 : Int) ∧ (4 : Int) ≤ Int.ofNat (List.length y.1.1)) then bif (ByteArray.mk (List.map (fun n => UInt8.ofNat n.toNat) (List.drop (0 : Nat) (List.take (4 : Nat) y.1.1))).toArray).toList == (ByteArray.mk #[OfNat.ofNat (82 : Nat), OfNat.ofNat (73 : Nat), OfNat.ofNat (70 : Nat), OfNat.ofNat (70 : Nat)]).toList then bif decide ((0 : Int) ≤ (36 : Int) ∧ (36 : Int) ≤ (40 : Int) ∧ (40 : Int) ≤ Int.ofNat (List.length y.1.1)) then bif (ByteArray.mk (List.map (fun n => UInt8.ofNat n.toNat) (List.drop (36 : Nat) (List.take (40 : Nat) y.1.1))).toArray).toList == (ByteArray.mk #[OfNat.ofNat (100 : Nat), OfNat.ofNat (97 : Nat), OfNat.ofNat (116 : Nat), OfNat.ofNat (97 : Nat)]).toList then bif decide ((0 : Int) ≤ (44 : Int) ∧ (44 : Int) ≤ Int.ofNat (List.length y.1.1) ∧ Int.ofNat (List.length y.1.1) ≤ Int.ofNat (List.length y.1.1)) then some ((ByteArray.mk (List.map (fun n => UInt8.ofNat n.toNat) (List.drop (44 : Nat) (List.take (Int.ofNat (List.length y.1.1)).toNat y.1.1))).toArray).toList == (ByteArray.mk #[OfNat.ofNat (128 : Nat), OfNat.ofNat (0 : Nat), OfNat.ofNat (255 : Nat), OfNat.ofNat (0 : Nat)]).toList, ()) else none else some (false, ()) else none else some (false, ()) else none else some (false, ()) else some (false, ())
def f10_F (k : Nat) : Unit → Option (Bool × Unit) := f10_raw0 k
theorem f10_eq (k : Nat) (x : Kd.dens f10_pk) : runF (f10_C k) f10_A Tryd.f10.ntmps f10_code Tryd.f10.results.toList f10_pk f10_rk (encs f10_pk x) (decR f10_pk f10_rk) = f10_F k x := by
  show _ = f10_raw0 k x
  obtain ⟨⟩ := x
  kernel_rfl
theorem f10_fits : fitsC Tryd.prog Tryd.f10.ntmps f10_code = true := by kernel_rfl
theorem f10_ctr (k : Nat) : Ctr Tryd.prog k 10 (mk f10_pk f10_rk f10_F) :=
  fun_law (C := f10_C k) (phi_ok (ctr_cons (f12_ctr k) ctr_nil)) prog_mixed (A := f10_A) (fn := Tryd.f10) (code := f10_code) (by kernel_rfl) (by kernel_rfl) (by kernel_rfl) f10_fits (fun x y h => (f10_eq k x).trans h)
abbrev f13_pk : List Kd := [.view trackT]
abbrev f13_rk : Kd := .view trackT
noncomputable def f13_code : Code := Tryd.f13.body.getD .skip
noncomputable def f13_C (k : Nat) : Ctx := { P := Tryd.prog, Φ := phi [], k := k, live := fun _ => [] }
def f13_A : Nat → Ann := fun id => bif Nat.beq id 3 then ⟨[4, 1, 3, 2], [.cell 3 4 ((Ty.int IntKind.i64).sl)]⟩ else ⟨[], []⟩
def f13_S1 : Int × Int × Int × Int × List ByteArray × List (List Int) × Int × Int × Int × List ByteArray × List (List Int) × Int × Int × Int → St
  | (v0, v1, v2, v3, v4, v5, v6, v7, v8, v9, v10, v11, v12, v13) => St.mk (envOf [(nat_lit 4, AV.val (PV.v (Value.int IntKind.i64 v0))), (nat_lit 1, AV.bx (nat_lit 8192) (nat_lit 0)), (nat_lit 3, AV.bx (nat_lit 8193) (nat_lit 0)), (nat_lit 2, AV.bx (nat_lit 8196) (nat_lit 0))]) (tblOf [(nat_lit 8192, RS.live (Res.box [AV.val (PV.v (Value.int IntKind.i64 v1)), AV.val (PV.v (Value.int IntKind.i64 v2)), AV.val (PV.v (Value.int IntKind.i64 v3)), AV.val (PV.sl Ty.str v4), AV.val (PV.sl (Ty.int IntKind.i64).sl v5)])), (nat_lit 8193, RS.live (Res.box [AV.val (PV.v (Value.int IntKind.i64 v6)), AV.val (PV.v (Value.int IntKind.i64 v7)), AV.val (PV.v (Value.int IntKind.i64 v8)), AV.own (nat_lit 8194), AV.own (nat_lit 8195)])), (nat_lit 8194, RS.live (Res.arr Ty.str v9 false)), (nat_lit 8195, RS.live (Res.arr (Ty.int IntKind.i64).sl v10 false)), (nat_lit 8196, RS.live (Res.box [AV.val (PV.v (Value.int IntKind.i64 v11)), AV.val (PV.v (Value.int IntKind.i64 v12)), AV.val (PV.v (Value.int IntKind.i64 v13)), AV.val (PV.v (Value.slice none (0 : Nat) (0 : Nat))), AV.val (PV.v (Value.slice none (0 : Nat) (0 : Nat)))]))])
def f13_raw1 (k : Nat) (L1 : Int × Int × Int × Int × List ByteArray × List (List Int) × Int × Int × Int × List ByteArray × List (List Int) × Int × Int × Int → Option (((Int × Int × Int × Unit) × List ByteArray × List (List Int) × Unit) × Unit)) : Int × Int × Int × Int × List ByteArray × List (List Int) × Int × Int × Int × List ByteArray × List (List Int) × Int × Int × Int → Option (((Int × Int × Int × Unit) × List ByteArray × List (List Int) × Unit) × Unit)
  | (v0, v1, v2, v3, v4, v5, v6, v7, v8, v9, v10, v11, v12, v13) => bif decide (v0 < Int.ofNat v5.length) then bif decide ((0 : Int) ≤ v0 ∧ v0 < Int.ofNat v5.length) then bif decide ((0 : Int) ≤ (0 : Int) ∧ (0 : Int) ≤ IntKind.i64.wrap (Int.ofNat (List.length (v5.getD v0.toNat [])) + (1 : Int)) ∧ IntKind.i64.wrap (Int.ofNat (List.length (v5.getD v0.toNat [])) + (1 : Int)) < (4294967296 : Int)) then bif decide ((0 : Int) ≤ v0 ∧ v0 < Int.ofNat v5.length) then bif decide ((0 : Nat) + List.length (v5.getD v0.toNat []) < (2147483648 : Nat)) then bif decide (v10.length + [List.replicate (0 : Nat) (0 : Int) ++ v5.getD v0.toNat []].length < (2147483648 : Nat)) then L1 (IntKind.i64.wrap (v0 + (1 : Int)), v1, v2, v3, v4, v5, v6, v7, v8, v9, v10 ++ [List.replicate (0 : Nat) (0 : Int) ++ v5.getD v0.toNat []], v11, v12, v13) else none else none else none else none else none else some (((v6, v7, v8, ()), v9, v10, ()), ())
def f13_L1 (k : Nat) : Int × Int × Int × Int × List ByteArray × List (List Int) × Int × Int × Int × List ByteArray × List (List Int) × Int × Int × Int → Option (((Int × Int × Int × Unit) × List ByteArray × List (List Int) × Unit) × Unit) := iter (fun L1 => f13_raw1 k L1) k
noncomputable def f13_at1 (k : Nat) (n : Nat) (v : Int × Int × Int × Int × List ByteArray × List (List Int) × Int × Int × Int × List ByteArray × List (List Int) × Int × Int × Int) : Option (((Int × Int × Int × Unit) × List ByteArray × List (List Int) × Unit) × Unit) :=
  loopAt (f13_C k) f13_A [] [1, 1, 0, 1, 0] [] f13_code (leaveK (f13_C k) Tryd.f13.results.toList f13_pk [] f13_rk (decR f13_pk f13_rk)) n (f13_S1 v)
def f13_raw0 (k : Nat) (L1 : Int × Int × Int × Int × List ByteArray × List (List Int) × Int × Int × Int × List ByteArray × List (List Int) × Int × Int × Int → Option (((Int × Int × Int × Unit) × List ByteArray × List (List Int) × Unit) × Unit)) : ((Int × Int × Int × Unit) × List ByteArray × List (List Int) × Unit) × Unit → Option (((Int × Int × Int × Unit) × List ByteArray × List (List Int) × Unit) × Unit)
  | (((a0, a1, a2, ()), a3, a4, ()), ()) => bif decide ((0 : Nat) + a3.length < (2147483648 : Nat)) then L1 ((0 : Int), a0, a1, a2, a3, a4, a0, a1, a2, [] ++ a3, [], (0 : Int), (0 : Int), (0 : Int)) else none
def f13_F (k : Nat) : ((Int × Int × Int × Unit) × List ByteArray × List (List Int) × Unit) × Unit → Option (((Int × Int × Int × Unit) × List ByteArray × List (List Int) × Unit) × Unit) := f13_raw0 k (f13_L1 k)
theorem f13_law1 (k : Nat) : ∀ n, f13_at1 k n = iter (fun L1 => f13_raw1 k L1) n :=
  iter_law (fun v => by kernel_rfl) (fun n v => by
    show f13_at1 k (n + 1) v = f13_raw1 k (f13_at1 k n) v
    obtain ⟨v0, v1, v2, v3, v4, v5, v6, v7, v8, v9, v10, v11, v12, v13⟩ := v
    kernel_rfl)
theorem f13_eq (k : Nat) (x : Kd.dens f13_pk) : runF (f13_C k) f13_A Tryd.f13.ntmps f13_code Tryd.f13.results.toList f13_pk f13_rk (encs f13_pk x) (decR f13_pk f13_rk) = f13_F k x := by
  show _ = f13_raw0 k (f13_L1 k) x
  rw [show f13_L1 k = f13_at1 k k from (f13_law1 k k).symm]
  obtain ⟨⟨⟨a0, ⟨a1, ⟨a2, ⟨⟩⟩⟩⟩, ⟨a3, ⟨a4, ⟨⟩⟩⟩⟩, ⟨⟩⟩ := x
  kernel_rfl
theorem f13_fits : fitsC Tryd.prog Tryd.f13.ntmps f13_code = true := by kernel_rfl
theorem f13_ctr (k : Nat) : Ctr Tryd.prog k 13 (mk f13_pk f13_rk f13_F) :=
  fun_law (C := f13_C k) (phi_ok ctr_nil) prog_mixed (A := f13_A) (fn := Tryd.f13) (code := f13_code) (by kernel_rfl) (by kernel_rfl) (by kernel_rfl) f13_fits (fun x y h => (f13_eq k x).trans h)
abbrev f20_pk : List Kd := [.view trackT]
abbrev f20_rk : Kd := .view trackT
noncomputable def f20_code : Code := Tryd.f20.body.getD .skip
noncomputable def f20_C (k : Nat) : Ctx := { P := Tryd.prog, Φ := phi [], k := k, live := fun _ => [] }
def f20_A : Nat → Ann := fun _ => ⟨[], []⟩
def f20_raw0 (k : Nat) : ((Int × Int × Int × Unit) × List ByteArray × List (List Int) × Unit) × Unit → Option (((Int × Int × Int × Unit) × List ByteArray × List (List Int) × Unit) × Unit)
  | (((a0, a1, a2, ()), a3, a4, ()), ()) => some (((a0, a1, a2, ()), a3, a4, ()), ())
def f20_F (k : Nat) : ((Int × Int × Int × Unit) × List ByteArray × List (List Int) × Unit) × Unit → Option (((Int × Int × Int × Unit) × List ByteArray × List (List Int) × Unit) × Unit) := f20_raw0 k
theorem f20_eq (k : Nat) (x : Kd.dens f20_pk) : runF (f20_C k) f20_A Tryd.f20.ntmps f20_code Tryd.f20.results.toList f20_pk f20_rk (encs f20_pk x) (decR f20_pk f20_rk) = f20_F k x := by
  show _ = f20_raw0 k x
  obtain ⟨⟨⟨a0, ⟨a1, ⟨a2, ⟨⟩⟩⟩⟩, ⟨a3, ⟨a4, ⟨⟩⟩⟩⟩, ⟨⟩⟩ := x
  kernel_rfl
theorem f20_fits : fitsC Tryd.prog Tryd.f20.ntmps f20_code = true := by kernel_rfl
theorem f20_ctr (k : Nat) : Ctr Tryd.prog k 20 (mk f20_pk f20_rk f20_F) :=
  fun_law (C := f20_C k) (phi_ok ctr_nil) prog_mixed (A := f20_A) (fn := Tryd.f20) (code := f20_code) (by kernel_rfl) (by kernel_rfl) (by kernel_rfl) f20_fits (fun x y h => (f20_eq k x).trans h)
abbrev f17_pk : List Kd := [.view trackT, .view (.int .i64), .view (.int .i64)]
abbrev f17_rk : Kd := .view trackT
noncomputable def f17_code : Code := Tryd.f17.body.getD .skip
noncomputable def f17_C (k : Nat) : Ctx := { P := Tryd.prog, Φ := phi [], k := k, live := fun _ => [] }
def f17_A : Nat → Ann := fun id => bif Nat.beq id 3 then ⟨[8, 3, 7, 1, 2, 6], [.cell 7 4 ((Ty.int IntKind.i64).sl)]⟩ else ⟨[], []⟩
def f17_S1 : Int × Int × Int × Int × Int × Int × List ByteArray × List (List Int) × Int × Int × Int × List ByteArray × List (List Int) × Int × Int × Int → St
  | (v0, v1, v2, v3, v4, v5, v6, v7, v8, v9, v10, v11, v12, v13, v14, v15) => St.mk (envOf [(nat_lit 8, AV.val (PV.v (Value.int IntKind.i64 v0))), (nat_lit 3, AV.bx (nat_lit 8192) (nat_lit 0)), (nat_lit 7, AV.bx (nat_lit 8193) (nat_lit 0)), (nat_lit 1, AV.val (PV.v (Value.int IntKind.i64 v1))), (nat_lit 2, AV.val (PV.v (Value.int IntKind.i64 v2))), (nat_lit 6, AV.bx (nat_lit 8195) (nat_lit 0))]) (tblOf [(nat_lit 8192, RS.live (Res.box [AV.val (PV.v (Value.int IntKind.i64 v3)), AV.val (PV.v (Value.int IntKind.i64 v4)), AV.val (PV.v (Value.int IntKind.i64 v5)), AV.val (PV.sl Ty.str v6), AV.val (PV.sl (Ty.int IntKind.i64).sl v7)])), (nat_lit 8193, RS.live (Res.box [AV.val (PV.v (Value.int IntKind.i64 v8)), AV.val (PV.v (Value.int IntKind.i64 v9)), AV.val (PV.v (Value.int IntKind.i64 v10)), AV.val (PV.sl Ty.str v11), AV.own (nat_lit 8194)])), (nat_lit 8194, RS.live (Res.arr (Ty.int IntKind.i64).sl v12 false)), (nat_lit 8195, RS.live (Res.box [AV.val (PV.v (Value.int IntKind.i64 v13)), AV.val (PV.v (Value.int IntKind.i64 v14)), AV.val (PV.v (Value.int IntKind.i64 v15)), AV.val (PV.v (Value.slice none (0 : Nat) (0 : Nat))), AV.val (PV.v (Value.slice none (0 : Nat) (0 : Nat)))]))])
def f17_raw1 (k : Nat) (L1 : Int × Int × Int × Int × Int × Int × List ByteArray × List (List Int) × Int × Int × Int × List ByteArray × List (List Int) × Int × Int × Int → Option (((Int × Int × Int × Unit) × List ByteArray × List (List Int) × Unit) × Unit)) : Int × Int × Int × Int × Int × Int × List ByteArray × List (List Int) × Int × Int × Int × List ByteArray × List (List Int) × Int × Int × Int → Option (((Int × Int × Int × Unit) × List ByteArray × List (List Int) × Unit) × Unit)
  | (v0, v1, v2, v3, v4, v5, v6, v7, v8, v9, v10, v11, v12, v13, v14, v15) => bif decide (v0 < Int.ofNat v7.length) then bif decide ((0 : Int) ≤ v0 ∧ v0 < Int.ofNat v7.length) then bif decide ((0 : Int) ≤ v1 ∧ v1 ≤ v2 ∧ v2 ≤ Int.ofNat (List.length (v7.getD v0.toNat []))) then bif decide (v12.length + [List.drop v1.toNat (List.take v2.toNat (v7.getD v0.toNat []))].length < (2147483648 : Nat)) then L1 (IntKind.i64.wrap (v0 + (1 : Int)), v1, v2, v3, v4, v5, v6, v7, v8, v9, v10, v11, v12 ++ [List.drop v1.toNat (List.take v2.toNat (v7.getD v0.toNat []))], v13, v14, v15) else none else none else none else some (((v8, v9, v10, ()), v11, v12, ()), ())
def f17_L1 (k : Nat) : Int × Int × Int × Int × Int × Int × List ByteArray × List (List Int) × Int × Int × Int × List ByteArray × List (List Int) × Int × Int × Int → Option (((Int × Int × Int × Unit) × List ByteArray × List (List Int) × Unit) × Unit) := iter (fun L1 => f17_raw1 k L1) k
noncomputable def f17_at1 (k : Nat) (n : Nat) (v : Int × Int × Int × Int × Int × Int × List ByteArray × List (List Int) × Int × Int × Int × List ByteArray × List (List Int) × Int × Int × Int) : Option (((Int × Int × Int × Unit) × List ByteArray × List (List Int) × Unit) × Unit) :=
  loopAt (f17_C k) f17_A [] [1, 1, 0, 1, 0] [] f17_code (leaveK (f17_C k) Tryd.f17.results.toList f17_pk [] f17_rk (decR f17_pk f17_rk)) n (f17_S1 v)
def f17_raw0 (k : Nat) (L1 : Int × Int × Int × Int × Int × Int × List ByteArray × List (List Int) × Int × Int × Int × List ByteArray × List (List Int) × Int × Int × Int → Option (((Int × Int × Int × Unit) × List ByteArray × List (List Int) × Unit) × Unit)) : ((Int × Int × Int × Unit) × List ByteArray × List (List Int) × Unit) × Int × Int × Unit → Option (((Int × Int × Int × Unit) × List ByteArray × List (List Int) × Unit) × Unit)
  | (((a0, a1, a2, ()), a3, a4, ()), a5, a6, ()) => L1 ((0 : Int), a5, a6, a0, a1, a2, a3, a4, a0, a1, a2, a3, [], (0 : Int), (0 : Int), (0 : Int))
def f17_F (k : Nat) : ((Int × Int × Int × Unit) × List ByteArray × List (List Int) × Unit) × Int × Int × Unit → Option (((Int × Int × Int × Unit) × List ByteArray × List (List Int) × Unit) × Unit) := f17_raw0 k (f17_L1 k)
theorem f17_law1 (k : Nat) : ∀ n, f17_at1 k n = iter (fun L1 => f17_raw1 k L1) n :=
  iter_law (fun v => by kernel_rfl) (fun n v => by
    show f17_at1 k (n + 1) v = f17_raw1 k (f17_at1 k n) v
    obtain ⟨v0, v1, v2, v3, v4, v5, v6, v7, v8, v9, v10, v11, v12, v13, v14, v15⟩ := v
    kernel_rfl)
theorem f17_eq (k : Nat) (x : Kd.dens f17_pk) : runF (f17_C k) f17_A Tryd.f17.ntmps f17_code Tryd.f17.results.toList f17_pk f17_rk (encs f17_pk x) (decR f17_pk f17_rk) = f17_F k x := by
  show _ = f17_raw0 k (f17_L1 k) x
  rw [show f17_L1 k = f17_at1 k k from (f17_law1 k k).symm]
  obtain ⟨⟨⟨a0, ⟨a1, ⟨a2, ⟨⟩⟩⟩⟩, ⟨a3, ⟨a4, ⟨⟩⟩⟩⟩, ⟨a5, ⟨a6, ⟨⟩⟩⟩⟩ := x
  kernel_rfl
theorem f17_fits : fitsC Tryd.prog Tryd.f17.ntmps f17_code = true := by kernel_rfl
theorem f17_ctr (k : Nat) : Ctr Tryd.prog k 17 (mk f17_pk f17_rk f17_F) :=
  fun_law (C := f17_C k) (phi_ok ctr_nil) prog_mixed (A := f17_A) (fn := Tryd.f17) (code := f17_code) (by kernel_rfl) (by kernel_rfl) (by kernel_rfl) f17_fits (fun x y h => (f17_eq k x).trans h)
abbrev f42_pk : List Kd := [.view (.sl (.int .i64)), .view (.sl (.int .i64))]
abbrev f42_rk : Kd := .view .bool
noncomputable def f42_code : Code := Tryd.f42.body.getD .skip
noncomputable def f42_C (k : Nat) : Ctx := { P := Tryd.prog, Φ := phi [], k := k, live := fun _ => [] }
def f42_A : Nat → Ann := fun id => bif Nat.beq id 4 then ⟨[5, 0, 1], []⟩ else ⟨[], []⟩
def f42_S1 : Int × List Int × List Int → St
  | (v0, v1, v2) => St.mk (envOf [(nat_lit 5, AV.val (PV.v (Value.int IntKind.i64 v0))), (nat_lit 0, AV.val (PV.sl (Ty.int IntKind.i64) v1)), (nat_lit 1, AV.val (PV.sl (Ty.int IntKind.i64) v2))]) (tblOf [])
def f42_raw1 (k : Nat) (L1 : Int × List Int × List Int → Option (Bool × Unit)) : Int × List Int × List Int → Option (Bool × Unit)
  | (v0, v1, v2) => bif decide (v0 < Int.ofNat v1.length) then bif decide ((0 : Int) ≤ v0 ∧ v0 < Int.ofNat v1.length) then bif decide ((0 : Int) ≤ v0 ∧ v0 < Int.ofNat v2.length) then bif v1.getD v0.toNat (OfNat.ofNat (0 : Nat)) != v2.getD v0.toNat (OfNat.ofNat (0 : Nat)) then some (false, ()) else L1 (IntKind.i64.wrap (v0 + (1 : Int)), v1, v2) else none else none else some (true, ())
def f42_L1 (k : Nat) : Int × List Int × List Int → Option (Bool × Unit) := iter (fun L1 => f42_raw1 k L1) k
noncomputable def f42_at1 (k : Nat) (n : Nat) (v : Int × List Int × List Int) : Option (Bool × Unit) :=
  loopAt (f42_C k) f42_A [] [1, 1, 0, 1, 0] [] f42_code (leaveK (f42_C k) Tryd.f42.results.toList f42_pk [] f42_rk (decR f42_pk f42_rk)) n (f42_S1 v)
def f42_raw0 (k : Nat) (L1 : Int × List Int × List Int → Option (Bool × Unit)) : List Int × List Int × Unit → Option (Bool × Unit)
  | (a0, a1, ()) => bif Int.ofNat a0.length != Int.ofNat a1.length then some (false, ()) else L1 ((0 : Int), a0, a1)
def f42_F (k : Nat) : List Int × List Int × Unit → Option (Bool × Unit) := f42_raw0 k (f42_L1 k)
theorem f42_law1 (k : Nat) : ∀ n, f42_at1 k n = iter (fun L1 => f42_raw1 k L1) n :=
  iter_law (fun v => by kernel_rfl) (fun n v => by
    show f42_at1 k (n + 1) v = f42_raw1 k (f42_at1 k n) v
    obtain ⟨v0, v1, v2⟩ := v
    kernel_rfl)
theorem f42_eq (k : Nat) (x : Kd.dens f42_pk) : runF (f42_C k) f42_A Tryd.f42.ntmps f42_code Tryd.f42.results.toList f42_pk f42_rk (encs f42_pk x) (decR f42_pk f42_rk) = f42_F k x := by
  show _ = f42_raw0 k (f42_L1 k) x
  rw [show f42_L1 k = f42_at1 k k from (f42_law1 k k).symm]
  obtain ⟨a0, ⟨a1, ⟨⟩⟩⟩ := x
  kernel_rfl
theorem f42_fits : fitsC Tryd.prog Tryd.f42.ntmps f42_code = true := by kernel_rfl
theorem f42_ctr (k : Nat) : Ctr Tryd.prog k 42 (mk f42_pk f42_rk f42_F) :=
  fun_law (C := f42_C k) (phi_ok ctr_nil) prog_mixed (A := f42_A) (fn := Tryd.f42) (code := f42_code) (by kernel_rfl) (by kernel_rfl) (by kernel_rfl) f42_fits (fun x y h => (f42_eq k x).trans h)
abbrev f25_pk : List Kd := [.view frameT, .view frameT]
abbrev f25_rk : Kd := .view .bool
noncomputable def f25_code : Code := Tryd.f25.body.getD .skip
noncomputable def f25_C (k : Nat) : Ctx := { P := Tryd.prog, Φ := phi [(42, mk f42_pk f42_rk f42_F)], k := k, live := fun _ => [] }
def f25_A : Nat → Ann := fun id => bif Nat.beq id 4 then ⟨[5, 2, 3], []⟩ else ⟨[], []⟩
def f25_S1 : Int × Int × List (List Int) × Int × List (List Int) → St
  | (v0, v1, v2, v3, v4) => St.mk (envOf [(nat_lit 5, AV.val (PV.v (Value.int IntKind.i64 v0))), (nat_lit 2, AV.bx (nat_lit 8192) (nat_lit 0)), (nat_lit 3, AV.bx (nat_lit 8193) (nat_lit 0))]) (tblOf [(nat_lit 8192, RS.live (Res.box [AV.val (PV.v (Value.int IntKind.i64 v1)), AV.val (PV.sl (Ty.int IntKind.i64).sl v2)])), (nat_lit 8193, RS.live (Res.box [AV.val (PV.v (Value.int IntKind.i64 v3)), AV.val (PV.sl (Ty.int IntKind.i64).sl v4)]))])
def f25_raw1 (k : Nat) (L1 : Int × Int × List (List Int) × Int × List (List Int) → Option (Bool × Unit)) : Int × Int × List (List Int) × Int × List (List Int) → Option (Bool × Unit)
  | (v0, v1, v2, v3, v4) => bif decide (v0 < Int.ofNat v2.length) then bif decide ((0 : Int) ≤ v0 ∧ v0 < Int.ofNat v2.length) then bif decide ((0 : Int) ≤ v0 ∧ v0 < Int.ofNat v4.length) then (f42_F k (v2.getD v0.toNat [], v4.getD v0.toNat [], ())).bind fun y => bif !y.1 then some (false, ()) else L1 (IntKind.i64.wrap (v0 + (1 : Int)), v1, v2, v3, v4) else none else none else some (true, ())
def f25_L1 (k : Nat) : Int × Int × List (List Int) × Int × List (List Int) → Option (Bool × Unit) := iter (fun L1 => f25_raw1 k L1) k
noncomputable def f25_at1 (k : Nat) (n : Nat) (v : Int × Int × List (List Int) × Int × List (List Int)) : Option (Bool × Unit) :=
  loopAt (f25_C k) f25_A [] [1, 1, 0, 1, 0] [] f25_code (leaveK (f25_C k) Tryd.f25.results.toList f25_pk [] f25_rk (decR f25_pk f25_rk)) n (f25_S1 v)
def f25_raw0 (k : Nat) (L1 : Int × Int × List (List Int) × Int × List (List Int) → Option (Bool × Unit)) : (Int × List (List Int) × Unit) × (Int × List (List Int) × Unit) × Unit → Option (Bool × Unit)
  | ((a0, a1, ()), (a2, a3, ()), ()) => bif a0 != a2 then some (false, ()) else bif Int.ofNat a1.length != Int.ofNat a3.length then some (false, ()) else L1 ((0 : Int), a0, a1, a2, a3)
def f25_F (k : Nat) : (Int × List (List Int) × Unit) × (Int × List (List Int) × Unit) × Unit → Option (Bool × Unit) := f25_raw0 k (f25_L1 k)
theorem f25_law1 (k : Nat) : ∀ n, f25_at1 k n = iter (fun L1 => f25_raw1 k L1) n :=
  iter_law (fun v => by kernel_rfl) (fun n v => by
    show f25_at1 k (n + 1) v = f25_raw1 k (f25_at1 k n) v
    obtain ⟨v0, v1, v2, v3, v4⟩ := v
    kernel_rfl)
theorem f25_eq (k : Nat) (x : Kd.dens f25_pk) : runF (f25_C k) f25_A Tryd.f25.ntmps f25_code Tryd.f25.results.toList f25_pk f25_rk (encs f25_pk x) (decR f25_pk f25_rk) = f25_F k x := by
  show _ = f25_raw0 k (f25_L1 k) x
  rw [show f25_L1 k = f25_at1 k k from (f25_law1 k k).symm]
  obtain ⟨⟨a0, ⟨a1, ⟨⟩⟩⟩, ⟨⟨a2, ⟨a3, ⟨⟩⟩⟩, ⟨⟩⟩⟩ := x
  kernel_rfl
theorem f25_fits : fitsC Tryd.prog Tryd.f25.ntmps f25_code = true := by kernel_rfl
theorem f25_ctr (k : Nat) : Ctr Tryd.prog k 25 (mk f25_pk f25_rk f25_F) :=
  fun_law (C := f25_C k) (phi_ok (ctr_cons (f42_ctr k) ctr_nil)) prog_mixed (A := f25_A) (fn := Tryd.f25) (code := f25_code) (by kernel_rfl) (by kernel_rfl) (by kernel_rfl) f25_fits (fun x y h => (f25_eq k x).trans h)
abbrev f19_pk : List Kd := [.view trackT, .view trackT]
abbrev f19_rk : Kd := .view .bool
noncomputable def f19_code : Code := Tryd.f19.body.getD .skip
noncomputable def f19_C (k : Nat) : Ctx := { P := Tryd.prog, Φ := phi [(25, mk f25_pk f25_rk f25_F)], k := k, live := fun _ => [] }
def f19_A : Nat → Ann := fun id => bif Nat.beq id 4 then ⟨[5, 2, 3], []⟩ else ⟨[], []⟩
def f19_S1 : Int × Int × Int × Int × List ByteArray × List (List Int) × Int × Int × Int × List ByteArray × List (List Int) → St
  | (v0, v1, v2, v3, v4, v5, v6, v7, v8, v9, v10) => St.mk (envOf [(nat_lit 5, AV.val (PV.v (Value.int IntKind.i64 v0))), (nat_lit 2, AV.bx (nat_lit 8192) (nat_lit 0)), (nat_lit 3, AV.bx (nat_lit 8193) (nat_lit 0))]) (tblOf [(nat_lit 8192, RS.live (Res.box [AV.val (PV.v (Value.int IntKind.i64 v1)), AV.val (PV.v (Value.int IntKind.i64 v2)), AV.val (PV.v (Value.int IntKind.i64 v3)), AV.val (PV.sl Ty.str v4), AV.val (PV.sl (Ty.int IntKind.i64).sl v5)])), (nat_lit 8193, RS.live (Res.box [AV.val (PV.v (Value.int IntKind.i64 v6)), AV.val (PV.v (Value.int IntKind.i64 v7)), AV.val (PV.v (Value.int IntKind.i64 v8)), AV.val (PV.sl Ty.str v9), AV.val (PV.sl (Ty.int IntKind.i64).sl v10)]))])
def f19_raw1 (k : Nat) (L1 : Int × Int × Int × Int × List ByteArray × List (List Int) × Int × Int × Int × List ByteArray × List (List Int) → Option (Bool × Unit)) : Int × Int × Int × Int × List ByteArray × List (List Int) × Int × Int × Int × List ByteArray × List (List Int) → Option (Bool × Unit)
  | (v0, v1, v2, v3, v4, v5, v6, v7, v8, v9, v10) => bif decide (v0 < Int.ofNat v4.length) then bif decide ((0 : Int) ≤ v0 ∧ v0 < Int.ofNat v4.length) then bif decide ((0 : Int) ≤ v0 ∧ v0 < Int.ofNat v9.length) then bif !ByteArray.toList (v4.getD v0.toNat (ByteArray.mk #[])) == ByteArray.toList (v9.getD v0.toNat (ByteArray.mk #[])) then some (false, ()) else L1 (IntKind.i64.wrap (v0 + (1 : Int)), v1, v2, v3, v4, v5, v6, v7, v8, v9, v10) else none else none else some (true, ())
def f19_L1 (k : Nat) : Int × Int × Int × Int × List ByteArray × List (List Int) × Int × Int × Int × List ByteArray × List (List Int) → Option (Bool × Unit) := iter (fun L1 => f19_raw1 k L1) k
noncomputable def f19_at1 (k : Nat) (n : Nat) (v : Int × Int × Int × Int × List ByteArray × List (List Int) × Int × Int × Int × List ByteArray × List (List Int)) : Option (Bool × Unit) :=
  loopAt (f19_C k) f19_A [] [1, 1, 0, 1, 0] [] f19_code (leaveK (f19_C k) Tryd.f19.results.toList f19_pk [] f19_rk (decR f19_pk f19_rk)) n (f19_S1 v)
def f19_raw0 (k : Nat) (L1 : Int × Int × Int × Int × List ByteArray × List (List Int) × Int × Int × Int × List ByteArray × List (List Int) → Option (Bool × Unit)) : ((Int × Int × Int × Unit) × List ByteArray × List (List Int) × Unit) × ((Int × Int × Int × Unit) × List ByteArray × List (List Int) × Unit) × Unit → Option (Bool × Unit)
  | (((a0, a1, a2, ()), a3, a4, ()), ((a5, a6, a7, ()), a8, a9, ()), ()) => bif !(decide (a0 = a5) && (decide (a1 = a6) && (decide (a2 = a7) && true))) then some (false, ()) else bif Int.ofNat a3.length != Int.ofNat a8.length then some (false, ()) else (f25_F k (((0 : Int), a4, ()), ((0 : Int), a9, ()), ())).bind fun y => bif !y.1 then some (false, ()) else L1 ((0 : Int), a0, a1, a2, a3, a4, a5, a6, a7, a8, a9)
def f19_F (k : Nat) : ((Int × Int × Int × Unit) × List ByteArray × List (List Int) × Unit) × ((Int × Int × Int × Unit) × List ByteArray × List (List Int) × Unit) × Unit → Option (Bool × Unit) := f19_raw0 k (f19_L1 k)
theorem f19_law1 (k : Nat) : ∀ n, f19_at1 k n = iter (fun L1 => f19_raw1 k L1) n :=
  iter_law (fun v => by kernel_rfl) (fun n v => by
    show f19_at1 k (n + 1) v = f19_raw1 k (f19_at1 k n) v
    obtain ⟨v0, v1, v2, v3, v4, v5, v6, v7, v8, v9, v10⟩ := v
    kernel_rfl)
theorem f19_eq (k : Nat) (x : Kd.dens f19_pk) : runF (f19_C k) f19_A Tryd.f19.ntmps f19_code Tryd.f19.results.toList f19_pk f19_rk (encs f19_pk x) (decR f19_pk f19_rk) = f19_F k x := by
  show _ = f19_raw0 k (f19_L1 k) x
  rw [show f19_L1 k = f19_at1 k k from (f19_law1 k k).symm]
  obtain ⟨⟨⟨a0, ⟨a1, ⟨a2, ⟨⟩⟩⟩⟩, ⟨a3, ⟨a4, ⟨⟩⟩⟩⟩, ⟨⟨⟨a5, ⟨a6, ⟨a7, ⟨⟩⟩⟩⟩, ⟨a8, ⟨a9, ⟨⟩⟩⟩⟩, ⟨⟩⟩⟩ := x
  kernel_rfl
theorem f19_fits : fitsC Tryd.prog Tryd.f19.ntmps f19_code = true := by kernel_rfl
theorem f19_ctr (k : Nat) : Ctr Tryd.prog k 19 (mk f19_pk f19_rk f19_F) :=
  fun_law (C := f19_C k) (phi_ok (ctr_cons (f25_ctr k) ctr_nil)) prog_mixed (A := f19_A) (fn := Tryd.f19) (code := f19_code) (by kernel_rfl) (by kernel_rfl) (by kernel_rfl) f19_fits (fun x y h => (f19_eq k x).trans h)
abbrev f18_pk : List Kd := [.view (.sl (.int .u8))]
abbrev f18_rk : Kd := .tup [.view trackT, .view (.int .i64)]
noncomputable def f18_code : Code := Tryd.f18.body.getD .skip
noncomputable def f18_C (k : Nat) : Ctx := { P := Tryd.prog, Φ := phi [(33, mk f33_pk f33_rk f33_F), (30, mk f30_pk f30_rk f30_F), (34, mk f34_pk f34_rk f34_F), (38, mk f38_pk f38_rk f38_F), (12, mk f12_pk f12_rk f12_F), (39, mk f39_pk f39_rk f39_F)], k := k, live := fun n => bif Nat.beq n 1 then [25] else bif Nat.beq n 20 then [6, 4] else [] }
def f18_A : Nat → Ann := fun id => bif Nat.beq id 8 then ⟨[44, 45, 8, 7, 4, 6, 0, 2], []⟩ else ⟨[], []⟩
def f18_S1 : Int × Int × Int × List Int × List Int × Bool × Int × Int × Int × List ByteArray × List Int × Int × Int × Int × List ByteArray × List (List Int) × Int × Int × Int → St
  | (v0, v1, v2, v3, v4, v5, v6, v7, v8, v9, v10, v11, v12, v13, v14, v15, v16, v17, v18) => St.mk (envOf [(nat_lit 44, AV.val (PV.v (Value.int IntKind.i64 v0))), (nat_lit 45, AV.val (PV.v (Value.int IntKind.i64 v1))), (nat_lit 8, AV.bx (nat_lit 8192) (nat_lit 0)), (nat_lit 7, AV.val (PV.v (Value.int IntKind.i64 v2))), (nat_lit 4, AV.bx (nat_lit 8193) (nat_lit 0)), (nat_lit 6, AV.bx (nat_lit 8194) (nat_lit 0)), (nat_lit 0, AV.val (PV.sl (Ty.int IntKind.u8) v3)), (nat_lit 2, AV.bx (nat_lit 8196) (nat_lit 0))]) (tblOf [(nat_lit 8192, RS.live (Res.box [AV.val (PV.sl (Ty.int IntKind.u8) v4), AV.val (PV.v (Value.bool v5))])), (nat_lit 8193, RS.live (Res.box [AV.val (PV.v (Value.int IntKind.i64 v6)), AV.val (PV.v (Value.int IntKind.i64 v7)), AV.val (PV.v (Value.int IntKind.i64 v8)), AV.val (PV.sl Ty.str v9), AV.val (PV.sl (Ty.int IntKind.u8) v10)])), (nat_lit 8194, RS.live (Res.box [AV.val (PV.v (Value.int IntKind.i64 v11)), AV.val (PV.v (Value.int IntKind.i64 v12)), AV.val (PV.v (Value.int IntKind.i64 v13)), AV.val (PV.sl Ty.str v14), AV.own (nat_lit 8195)])), (nat_lit 8195, RS.live (Res.nest (Ty.int IntKind.i64) v15 none)), (nat_lit 8196, RS.live (Res.box [AV.val (PV.v (Value.int IntKind.i64 v16)), AV.val (PV.v (Value.int IntKind.i64 v17)), AV.val (PV.v (Value.int IntKind.i64 v18)), AV.val (PV.v (Value.slice none (0 : Nat) (0 : Nat))), AV.val (PV.v (Value.slice none (0 : Nat) (0 : Nat)))]))])
def f18_raw1 (k : Nat) (L1 : Int × Int × Int × List Int × List Int × Bool × Int × Int × Int × List ByteArray × List Int × Int × Int × Int × List ByteArray × List (List Int) × Int × Int × Int → Option ((((Int × Int × Int × Unit) × List ByteArray × List (List Int) × Unit) × Int × Unit) × Unit)) : Int × Int × Int × List Int × List Int × Bool × Int × Int × Int × List ByteArray × List Int × Int × Int × Int × List ByteArray × List (List Int) × Int × Int × Int → Option ((((Int × Int × Int × Unit) × List ByteArray × List (List Int) × Unit) × Int × Unit) × Unit)
  | (v0, v1, v2, v3, v4, v5, v6, v7, v8, v9, v10, v11, v12, v13, v14, v15, v16, v17, v18) => bif decide (v1 < v0) then (f38_F k ((v4, v5, ()), v2, ())).bind fun y => bif v2 == (1 : Int) then bif decide ¬v6 = (0 : Int) then bif decide ((0 : Int) ≤ v1.tmod v6 ∧ v1.tmod v6 < Int.ofNat v15.length) then bif decide ((v1.tmod v6).toNat < v15.length) then bif decide ((0 : Int) ≤ IntKind.i64.wrap (IntKind.i64.wrap ((8 : Int) * v2) - v7)) then bif decide ((v15.getD (v1.tmod v6).toNat []).length + [(IntKind.i64.wrap (y.1 - (128 : Int))).fdiv ((2 : Int) ^ min (IntKind.i64.wrap (IntKind.i64.wrap ((8 : Int) * v2) - v7)).toNat (64 : Nat))].length < (2147483648 : Nat)) then bif decide ((0 : Int) ≤ v1.tmod v6 ∧ v1.tmod v6 < Int.ofNat v15.length) then bif decide ((v1.tmod v6).toNat = (v1.tmod v6).toNat) then bif decide ((v1.tmod v6).toNat < v15.length) then L1 (v0, IntKind.i64.wrap (v1 + (1 : Int)), v2, v3, y.2.1.1, y.2.1.2.1, v6, v7, v8, v9, v10, v11, v12, v13, v14, v15.set (v1.tmod v6).toNat (v15.getD (v1.tmod v6).toNat [] ++ [(IntKind.i64.wrap (y.1 - (128 : Int))).fdiv ((2 : Int) ^ min (IntKind.i64.wrap (IntKind.i64.wrap ((8 : Int) * v2) - v7)).toNat (64 : Nat))]), v16, v17, v18) else none else none else none else none else none else none else none else none else bif decide ((0 : Int) ≤ IntKind.i64.wrap (IntKind.i64.wrap ((8 : Int) * v2) - (1 : Int))) then bif Int.fdiv y.1 ((2 : Int) ^ min (IntKind.i64.wrap (IntKind.i64.wrap ((8 : Int) * v2) - (1 : Int))).toNat (64 : Nat)) == (1 : Int) then bif decide ((0 : Int) ≤ IntKind.i64.wrap ((8 : Int) * v2)) then bif decide ¬v6 = (0 : Int) then bif decide ((0 : Int) ≤ v1.tmod v6 ∧ v1.tmod v6 < Int.ofNat v15.length) then bif decide ((v1.tmod v6).toNat < v15.length) then bif decide ((0 : Int) ≤ IntKind.i64.wrap (IntKind.i64.wrap ((8 : Int) * v2) - v7)) then bif decide ((v15.getD (v1.tmod v6).toNat []).length + [(IntKind.i64.wrap (y.1 - IntKind.i64.wrap ((1 : Int) * (2 : Int) ^ min (IntKind.i64.wrap ((8 : Int) * v2)).toNat (64 : Nat)))).fdiv ((2 : Int) ^ min (IntKind.i64.wrap (IntKind.i64.wrap ((8 : Int) * v2) - v7)).toNat (64 : Nat))].length < (2147483648 : Nat)) then bif decide ((0 : Int) ≤ v1.tmod v6 ∧ v1.tmod v6 < Int.ofNat v15.length) then bif decide ((v1.tmod v6).toNat = (v1.tmod v6).toNat) then bif decide ((v1.tmod v6).toNat < v15.length) then L1 (v0, IntKind.i64.wrap (v1 + (1 : Int)), v2, v3, y.2.1.1, y.2.1.2.1, v6, v7, v8, v9, v10, v11, v12, v13, v14, v15.set (v1.tmod v6).toNat (v15.getD (v1.tmod v6).toNat [] ++ [(IntKind.i64.wrap (y.1 - IntKind.i64.wrap ((1 : Int) * (2 : Int) ^ min (IntKind.i64.wrap ((8 : Int) * v2)).toNat (64 : Nat)))).fdiv ((2 : Int) ^ min (IntKind.i64.wrap (IntKind.i64.wrap ((8 : Int) * v2) - v7)).toNat (64 : Nat))]), v16, v17, v18) else none else none else none else none else none else none else none else none else none else bif decide ¬v6 = (0 : Int) then bif decide ((0 : Int) ≤ v1.tmod v6 ∧ v1.tmod v6 < Int.ofNat v15.length) then bif decide ((v1.tmod v6).toNat < v15.length) then bif decide ((0 : Int) ≤ IntKind.i64.wrap (IntKind.i64.wrap ((8 : Int) * v2) - v7)) then bif decide ((v15.getD (v1.tmod v6).toNat []).length + [Int.fdiv y.1 ((2 : Int) ^ min (IntKind.i64.wrap (IntKind.i64.wrap ((8 : Int) * v2) - v7)).toNat (64 : Nat))].length < (2147483648 : Nat)) then bif decide ((0 : Int) ≤ v1.tmod v6 ∧ v1.tmod v6 < Int.ofNat v15.length) then bif decide ((v1.tmod v6).toNat = (v1.tmod v6).toNat) then bif decide ((v1.tmod v6).toNat < v15.length) then L1 (v0, IntKind.i64.wrap (v1 + (1 : Int)), v2, v3, y.2.1.1, y.2.1.2.1, v6, v7, v8, v9, v10, v11, v12, v13, v14, v15.set (v1.tmod v6).toNat (v15.getD (v1.tmod v6).toNat [] ++ [Int.fdiv y.1 ((2 : Int) ^ min (IntKind.i64.wrap (IntKind.i64.wrap ((8 : Int) * v2) - v7)).toNat (64 : Nat))]), v16, v17, v18) else none else none else none else none else none else none else none else none else none else (f12_F k (((v11, v12, v13, ()), v14, v15, ()), ())).bind fun y => bif y.1.2.1 != (0 : Int) then some (((((0 : Int), (0 : Int), (0 : Int), ()), [], [], ()), OfNat.ofNat (2 : Nat), ()), ()) else (f39_F k (v3, y.1.1, ())).bind fun y => bif !y.1 then some (((((0 : Int), (0 : Int), (0 : Int), ()), [], [], ()), OfNat.ofNat (2 : Nat), ()), ()) else some ((((v11, v12, v13, ()), v14, v15, ()), OfNat.ofNat (0 : Nat), ()), ())
def f18_L1 (k : Nat) : Int × Int × Int × List Int × List Int × Bool × Int × Int × Int × List ByteArray × List Int × Int × Int × Int × List ByteArray × List (List Int) × Int × Int × Int → Option ((((Int × Int × Int × Unit) × List ByteArray × List (List Int) × Unit) × Int × Unit) × Unit) := iter (fun L1 => f18_raw1 k L1) k
noncomputable def f18_at1 (k : Nat) (n : Nat) (v : Int × Int × Int × List Int × List Int × Bool × Int × Int × Int × List ByteArray × List Int × Int × Int × Int × List ByteArray × List (List Int) × Int × Int × Int) : Option ((((Int × Int × Int × Unit) × List ByteArray × List (List Int) × Unit) × Int × Unit) × Unit) :=
  loopAt (f18_C k) f18_A [] [1, 1, 1, 1, 1, 1, 0, 1, 0] [] f18_code (leaveK (f18_C k) Tryd.f18.results.toList f18_pk [] f18_rk (decR f18_pk f18_rk)) n (f18_S1 v)
def f18_raw0 (k : Nat) (L1 : Int × Int × Int × List Int × List Int × Bool × Int × Int × Int × List ByteArray × List Int × Int × Int × Int × List ByteArray × List (List Int) × Int × Int × Int → Option ((((Int × Int × Int × Unit) × List ByteArray × List (List Int) × Unit) × Int × Unit) × Unit)) : List Int × Unit → Option ((((Int × Int × Int × Unit) × List ByteArray × List (List Int) × Unit) × Int × Unit) × Unit)
  | (a0, ()) => (f33_F k (a0, ())).bind fun y => bif y.1.2.1 != (0 : Int) then some (((((0 : Int), (0 : Int), (0 : Int), ()), [], [], ()), y.1.2.1, ()), ()) else bif decide ((0 : Int) ≤ y.1.1.1.1 ∧ y.1.1.1.1 ≤ y.1.1.1.1 ∧ y.1.1.1.1 < (4294967296 : Int)) then (f30_F k ((y.1.1.1.1, y.1.1.1.2.1, y.1.1.1.2.2.1, ()), ())).bind fun y_1 => (f34_F k (((y.1.1.1.1, y.1.1.1.2.1, y.1.1.1.2.2.1, ()), y.1.1.2.1, y.1.1.2.2.1, ()), ())).bind fun y_2 => L1 (IntKind.i64.wrap (y_2.1 * y.1.1.1.1), (0 : Int), y_1.1, a0, y.1.1.2.2.1, false, y.1.1.1.1, y.1.1.1.2.1, y.1.1.1.2.2.1, y.1.1.2.1, y.1.1.2.2.1, y.1.1.1.1, y.1.1.1.2.1, y.1.1.1.2.2.1, y.1.1.2.1, List.replicate (Int.toNat y.1.1.1.1) [], (0 : Int), (0 : Int), (0 : Int)) else none
def f18_F (k : Nat) : List Int × Unit → Option ((((Int × Int × Int × Unit) × List ByteArray × List (List Int) × Unit) × Int × Unit) × Unit) := f18_raw0 k (f18_L1 k)
theorem f18_law1 (k : Nat) : ∀ n, f18_at1 k n = iter (fun L1 => f18_raw1 k L1) n :=
  iter_law (fun v => by kernel_rfl) (fun n v => by
    show f18_at1 k (n + 1) v = f18_raw1 k (f18_at1 k n) v
    obtain ⟨v0, v1, v2, v3, v4, v5, v6, v7, v8, v9, v10, v11, v12, v13, v14, v15, v16, v17, v18⟩ := v
    kernel_rfl)
theorem f18_eq (k : Nat) (x : Kd.dens f18_pk) : runF (f18_C k) f18_A Tryd.f18.ntmps f18_code Tryd.f18.results.toList f18_pk f18_rk (encs f18_pk x) (decR f18_pk f18_rk) = f18_F k x := by
  show _ = f18_raw0 k (f18_L1 k) x
  rw [show f18_L1 k = f18_at1 k k from (f18_law1 k k).symm]
  obtain ⟨a0, ⟨⟩⟩ := x
  kernel_rfl
theorem f18_fits : fitsC Tryd.prog Tryd.f18.ntmps f18_code = true := by kernel_rfl
theorem f18_ctr (k : Nat) : Ctr Tryd.prog k 18 (mk f18_pk f18_rk f18_F) :=
  fun_law (C := f18_C k) (phi_ok (ctr_cons (f33_ctr k) (ctr_cons (f30_ctr k) (ctr_cons (f34_ctr k) (ctr_cons (f38_ctr k) (ctr_cons (f12_ctr k) (ctr_cons (f39_ctr k) ctr_nil))))))) prog_mixed (A := f18_A) (fn := Tryd.f18) (code := f18_code) (by kernel_rfl) (by kernel_rfl) (by kernel_rfl) f18_fits (fun x y h => (f18_eq k x).trans h)
abbrev f21_pk : List Kd := [.view .str]
abbrev f21_rk : Kd := .tup [.view trackT, .view (.int .i64)]
noncomputable def f21_code : Code := Tryd.f21.body.getD .skip
noncomputable def f21_C (k : Nat) : Ctx := { P := Tryd.prog, Φ := phi [(35, mk f35_pk f35_rk f35_F), (36, mk f36_pk f36_rk f36_F), (40, mk f40_pk f40_rk f40_F), (11, mk f11_pk f11_rk f11_F)], k := k, live := fun n => bif Nat.beq n 1 then [25] else bif Nat.beq n 18 then [9, 4] else [] }
def f21_A : Nat → Ann := fun id => bif Nat.beq id 7 then ⟨[10, 6, 8, 4, 9, 0, 2], []⟩ else ⟨[], []⟩
def f21_S1 : Int × ByteArray × Int × ByteArray × Int × Int × Int × Int × Int × Int × List ByteArray × List (List Int) × Int × Int × Int → St
  | (v0, v1, v2, v3, v4, v5, v6, v7, v8, v9, v10, v11, v12, v13, v14) => St.mk (envOf [(nat_lit 10, AV.val (PV.v (Value.int IntKind.i64 v0))), (nat_lit 6, AV.val (PV.v (Value.string v1))), (nat_lit 8, AV.val (PV.v (Value.int IntKind.i64 v2))), (nat_lit 4, AV.bx (nat_lit 8192) (nat_lit 0)), (nat_lit 9, AV.bx (nat_lit 8193) (nat_lit 0)), (nat_lit 0, AV.val (PV.v (Value.string v3))), (nat_lit 2, AV.bx (nat_lit 8195) (nat_lit 0))]) (tblOf [(nat_lit 8192, RS.live (Res.box [AV.val (PV.v (Value.int IntKind.i64 v4)), AV.val (PV.v (Value.int IntKind.i64 v5)), AV.val (PV.v (Value.int IntKind.i64 v6))])), (nat_lit 8193, RS.live (Res.box [AV.val (PV.v (Value.int IntKind.i64 v7)), AV.val (PV.v (Value.int IntKind.i64 v8)), AV.val (PV.v (Value.int IntKind.i64 v9)), AV.val (PV.sl Ty.str v10), AV.own (nat_lit 8194)])), (nat_lit 8194, RS.live (Res.nest (Ty.int IntKind.i64) v11 none)), (nat_lit 8195, RS.live (Res.box [AV.val (PV.v (Value.int IntKind.i64 v12)), AV.val (PV.v (Value.int IntKind.i64 v13)), AV.val (PV.v (Value.int IntKind.i64 v14)), AV.val (PV.v (Value.slice none (0 : Nat) (0 : Nat))), AV.val (PV.v (Value.slice none (0 : Nat) (0 : Nat)))]))])
def f21_raw1 (k : Nat) (L1 : Int × ByteArray × Int × ByteArray × Int × Int × Int × Int × Int × Int × List ByteArray × List (List Int) × Int × Int × Int → Option ((((Int × Int × Int × Unit) × List ByteArray × List (List Int) × Unit) × Int × Unit) × Unit)) : Int × ByteArray × Int × ByteArray × Int × Int × Int × Int × Int × Int × List ByteArray × List (List Int) × Int × Int × Int → Option ((((Int × Int × Int × Unit) × List ByteArray × List (List Int) × Unit) × Int × Unit) × Unit)
  | (v0, v1, v2, v3, v4, v5, v6, v7, v8, v9, v10, v11, v12, v13, v14) => bif decide ¬v2 = (0 : Int) then bif decide (v0 < IntKind.i64.wrap ((Int.ofNat v1.size).tdiv v2)) then bif decide ((0 : Int) ≤ IntKind.i64.wrap (v0 * v2) ∧ IntKind.i64.wrap (v0 * v2) ≤ IntKind.i64.wrap (IntKind.i64.wrap (v0 + (1 : Int)) * v2) ∧ IntKind.i64.wrap (IntKind.i64.wrap (v0 + (1 : Int)) * v2) ≤ Int.ofNat v1.size) then (f40_F k (v1.extract (IntKind.i64.wrap (v0 * v2)).toNat (IntKind.i64.wrap (IntKind.i64.wrap (v0 + (1 : Int)) * v2)).toNat, ())).bind fun y => bif v2 == (1 : Int) then bif decide ¬v4 = (0 : Int) then bif decide ((0 : Int) ≤ v0.tmod v4 ∧ v0.tmod v4 < Int.ofNat v11.length) then bif decide ((v0.tmod v4).toNat < v11.length) then bif decide ((0 : Int) ≤ IntKind.i64.wrap (IntKind.i64.wrap ((8 : Int) * v2) - v5)) then bif decide ((v11.getD (v0.tmod v4).toNat []).length + [(IntKind.i64.wrap (y.1 - (128 : Int))).fdiv ((2 : Int) ^ min (IntKind.i64.wrap (IntKind.i64.wrap ((8 : Int) * v2) - v5)).toNat (64 : Nat))].length < (2147483648 : Nat)) then bif decide ((0 : Int) ≤ v0.tmod v4 ∧ v0.tmod v4 < Int.ofNat v11.length) then bif decide ((v0.tmod v4).toNat = (v0.tmod v4).toNat) then bif decide ((v0.tmod v4).toNat < v11.length) then L1 (IntKind.i64.wrap (v0 + (1 : Int)), v1, v2, v3, v4, v5, v6, v7, v8, v9, v10, v11.set (v0.tmod v4).toNat (v11.getD (v0.tmod v4).toNat [] ++ [(IntKind.i64.wrap (y.1 - (128 : Int))).fdiv ((2 : Int) ^ min (IntKind.i64.wrap (IntKind.i64.wrap ((8 : Int) * v2) - v5)).toNat (64 : Nat))]), v12, v13, v14) else none else none else none else none else none else none else none else none else bif decide ((0 : Int) ≤ IntKind.i64.wrap (IntKind.i64.wrap ((8 : Int) * v2) - (1 : Int))) then bif decide (IntKind.i64.wrap ((1 : Int) * (2 : Int) ^ min (IntKind.i64.wrap (IntKind.i64.wrap ((8 : Int) * v2) - (1 : Int))).toNat (64 : Nat)) ≤ y.1) then bif decide ((0 : Int) ≤ IntKind.i64.wrap ((8 : Int) * v2)) then bif decide ¬v4 = (0 : Int) then bif decide ((0 : Int) ≤ v0.tmod v4 ∧ v0.tmod v4 < Int.ofNat v11.length) then bif decide ((v0.tmod v4).toNat < v11.length) then bif decide ((0 : Int) ≤ IntKind.i64.wrap (IntKind.i64.wrap ((8 : Int) * v2) - v5)) then bif decide ((v11.getD (v0.tmod v4).toNat []).length + [(IntKind.i64.wrap (y.1 - IntKind.i64.wrap ((1 : Int) * (2 : Int) ^ min (IntKind.i64.wrap ((8 : Int) * v2)).toNat (64 : Nat)))).fdiv ((2 : Int) ^ min (IntKind.i64.wrap (IntKind.i64.wrap ((8 : Int) * v2) - v5)).toNat (64 : Nat))].length < (2147483648 : Nat)) then bif decide ((0 : Int) ≤ v0.tmod v4 ∧ v0.tmod v4 < Int.ofNat v11.length) then bif decide ((v0.tmod v4).toNat = (v0.tmod v4).toNat) then bif decide ((v0.tmod v4).toNat < v11.length) then L1 (IntKind.i64.wrap (v0 + (1 : Int)), v1, v2, v3, v4, v5, v6, v7, v8, v9, v10, v11.set (v0.tmod v4).toNat (v11.getD (v0.tmod v4).toNat [] ++ [(IntKind.i64.wrap (y.1 - IntKind.i64.wrap ((1 : Int) * (2 : Int) ^ min (IntKind.i64.wrap ((8 : Int) * v2)).toNat (64 : Nat)))).fdiv ((2 : Int) ^ min (IntKind.i64.wrap (IntKind.i64.wrap ((8 : Int) * v2) - v5)).toNat (64 : Nat))]), v12, v13, v14) else none else none else none else none else none else none else none else none else none else bif decide ¬v4 = (0 : Int) then bif decide ((0 : Int) ≤ v0.tmod v4 ∧ v0.tmod v4 < Int.ofNat v11.length) then bif decide ((v0.tmod v4).toNat < v11.length) then bif decide ((0 : Int) ≤ IntKind.i64.wrap (IntKind.i64.wrap ((8 : Int) * v2) - v5)) then bif decide ((v11.getD (v0.tmod v4).toNat []).length + [Int.fdiv y.1 ((2 : Int) ^ min (IntKind.i64.wrap (IntKind.i64.wrap ((8 : Int) * v2) - v5)).toNat (64 : Nat))].length < (2147483648 : Nat)) then bif decide ((0 : Int) ≤ v0.tmod v4 ∧ v0.tmod v4 < Int.ofNat v11.length) then bif decide ((v0.tmod v4).toNat = (v0.tmod v4).toNat) then bif decide ((v0.tmod v4).toNat < v11.length) then L1 (IntKind.i64.wrap (v0 + (1 : Int)), v1, v2, v3, v4, v5, v6, v7, v8, v9, v10, v11.set (v0.tmod v4).toNat (v11.getD (v0.tmod v4).toNat [] ++ [Int.fdiv y.1 ((2 : Int) ^ min (IntKind.i64.wrap (IntKind.i64.wrap ((8 : Int) * v2) - v5)).toNat (64 : Nat))]), v12, v13, v14) else none else none else none else none else none else none else none else none else none else none else (f11_F k (((v7, v8, v9, ()), v10, v11, ()), ())).bind fun y => bif y.1.2.1 != (0 : Int) then some (((((0 : Int), (0 : Int), (0 : Int), ()), [], [], ()), OfNat.ofNat (2 : Nat), ()), ()) else bif !ByteArray.toList y.1.1 == v3.toList then some (((((0 : Int), (0 : Int), (0 : Int), ()), [], [], ()), OfNat.ofNat (2 : Nat), ()), ()) else some ((((v7, v8, v9, ()), v10, v11, ()), OfNat.ofNat (0 : Nat), ()), ()) else none
def f21_L1 (k : Nat) : Int × ByteArray × Int × ByteArray × Int × Int × Int × Int × Int × Int × List ByteArray × List (List Int) × Int × Int × Int → Option ((((Int × Int × Int × Unit) × List ByteArray × List (List Int) × Unit) × Int × Unit) × Unit) := iter (fun L1 => f21_raw1 k L1) k
noncomputable def f21_at1 (k : Nat) (n : Nat) (v : Int × ByteArray × Int × ByteArray × Int × Int × Int × Int × Int × Int × List ByteArray × List (List Int) × Int × Int × Int) : Option ((((Int × Int × Int × Unit) × List ByteArray × List (List Int) × Unit) × Int × Unit) × Unit) :=
  loopAt (f21_C k) f21_A [] [1, 1, 1, 1, 1, 0, 1, 0] [] f21_code (leaveK (f21_C k) Tryd.f21.results.toList f21_pk [] f21_rk (decR f21_pk f21_rk)) n (f21_S1 v)
def f21_raw0 (k : Nat) (L1 : Int × ByteArray × Int × ByteArray × Int × Int × Int × Int × Int × Int × List ByteArray × List (List Int) × Int × Int × Int → Option ((((Int × Int × Int × Unit) × List ByteArray × List (List Int) × Unit) × Int × Unit) × Unit)) : ByteArray × Unit → Option ((((Int × Int × Int × Unit) × List ByteArray × List (List Int) × Unit) × Int × Unit) × Unit)
  | (a0, ()) => (f35_F k (a0, ())).bind fun y => bif !y.1.2.2.2.1 then some (((((0 : Int), (0 : Int), (0 : Int), ()), [], [], ()), OfNat.ofNat (2 : Nat), ()), ()) else (f36_F k (y.1.1.2.1, ())).bind fun y_1 => bif decide ((0 : Int) ≤ y.1.1.1 ∧ y.1.1.1 ≤ y.1.1.1 ∧ y.1.1.1 < (4294967296 : Int)) then L1 ((0 : Int), y.1.2.2.1, y_1.1, a0, y.1.1.1, y.1.1.2.1, y.1.1.2.2.1, y.1.1.1, y.1.1.2.1, y.1.1.2.2.1, y.1.2.1, List.replicate (Int.toNat y.1.1.1) [], (0 : Int), (0 : Int), (0 : Int)) else none
def f21_F (k : Nat) : ByteArray × Unit → Option ((((Int × Int × Int × Unit) × List ByteArray × List (List Int) × Unit) × Int × Unit) × Unit) := f21_raw0 k (f21_L1 k)
theorem f21_law1 (k : Nat) : ∀ n, f21_at1 k n = iter (fun L1 => f21_raw1 k L1) n :=
  iter_law (fun v => by kernel_rfl) (fun n v => by
    show f21_at1 k (n + 1) v = f21_raw1 k (f21_at1 k n) v
    obtain ⟨v0, v1, v2, v3, v4, v5, v6, v7, v8, v9, v10, v11, v12, v13, v14⟩ := v
    kernel_rfl)
theorem f21_eq (k : Nat) (x : Kd.dens f21_pk) : runF (f21_C k) f21_A Tryd.f21.ntmps f21_code Tryd.f21.results.toList f21_pk f21_rk (encs f21_pk x) (decR f21_pk f21_rk) = f21_F k x := by
  show _ = f21_raw0 k (f21_L1 k) x
  rw [show f21_L1 k = f21_at1 k k from (f21_law1 k k).symm]
  obtain ⟨a0, ⟨⟩⟩ := x
  kernel_rfl
theorem f21_fits : fitsC Tryd.prog Tryd.f21.ntmps f21_code = true := by kernel_rfl
theorem f21_ctr (k : Nat) : Ctr Tryd.prog k 21 (mk f21_pk f21_rk f21_F) :=
  fun_law (C := f21_C k) (phi_ok (ctr_cons (f35_ctr k) (ctr_cons (f36_ctr k) (ctr_cons (f40_ctr k) (ctr_cons (f11_ctr k) ctr_nil))))) prog_mixed (A := f21_A) (fn := Tryd.f21) (code := f21_code) (by kernel_rfl) (by kernel_rfl) (by kernel_rfl) f21_fits (fun x y h => (f21_eq k x).trans h)
abbrev f3_pk : List Kd := [.view trackT]
abbrev f3_rk : Kd := .view .bool
noncomputable def f3_code : Code := Tryd.f3.body.getD .skip
noncomputable def f3_C (k : Nat) : Ctx := { P := Tryd.prog, Φ := phi [(10, mk f10_pk f10_rk f10_F), (11, mk f11_pk f11_rk f11_F), (13, mk f13_pk f13_rk f13_F), (12, mk f12_pk f12_rk f12_F), (14, mk f14_pk f14_rk f14_F)], k := k, live := fun _ => [] }
def f3_A : Nat → Ann := fun _ => ⟨[], []⟩
def f3_raw0 (k : Nat) : ((Int × Int × Int × Unit) × List ByteArray × List (List Int) × Unit) × Unit → Option (Bool × Unit)
  | (((a0, a1, a2, ()), a3, a4, ()), ()) => (f10_F k ()).bind fun y => bif !y.1 then some (false, ()) else (f11_F k (((a0, a1, a2, ()), a3, a4, ()), ())).bind fun y => (f13_F k (((a0, a1, a2, ()), a3, a4, ()), ())).bind fun y_1 => (f12_F k (((y_1.1.1.1, y_1.1.1.2.1, y_1.1.1.2.2.1, ()), y_1.1.2.1, y_1.1.2.2.1, ()), ())).bind fun y_2 => bif y_2.1.2.1 != y.1.2.1 then some (false, ()) else bif !(ByteArray.mk (List.map (fun n => UInt8.ofNat n.toNat) y_2.1.1).toArray).toList == ByteArray.toList y.1.1 then some (false, ()) else bif y_2.1.2.1 != (0 : Int) then some (true, ()) else (f14_F k (y_2.1.1, ())).bind fun y => bif y.1.2.2.1 == (0 : Int) then bif decide (y.1.1.1 = a0) && (decide (y.1.1.2.1 = a1) && (decide (y.1.1.2.2.1 = a2) && true)) then bif decide ((0 : Int) ≤ (0 : Int) ∧ (0 : Int) < Int.ofNat a4.length) then some (y.1.2.1 == Int.ofNat (List.length (a4.getD (0 : Nat) [])), ()) else none else some (false, ()) else some (false, ())
def f3_F (k : Nat) : ((Int × Int × Int × Unit) × List ByteArray × List (List Int) × Unit) × Unit → Option (Bool × Unit) := f3_raw0 k
theorem f3_eq (k : Nat) (x : Kd.dens f3_pk) : runF (f3_C k) f3_A Tryd.f3.ntmps f3_code Tryd.f3.results.toList f3_pk f3_rk (encs f3_pk x) (decR f3_pk f3_rk) = f3_F k x := by
  show _ = f3_raw0 k x
  obtain ⟨⟨⟨a0, ⟨a1, ⟨a2, ⟨⟩⟩⟩⟩, ⟨a3, ⟨a4, ⟨⟩⟩⟩⟩, ⟨⟩⟩ := x
  kernel_rfl
theorem f3_fits : fitsC Tryd.prog Tryd.f3.ntmps f3_code = true := by kernel_rfl
theorem f3_ctr (k : Nat) : Ctr Tryd.prog k 3 (mk f3_pk f3_rk f3_F) :=
  fun_law (C := f3_C k) (phi_ok (ctr_cons (f10_ctr k) (ctr_cons (f11_ctr k) (ctr_cons (f13_ctr k) (ctr_cons (f12_ctr k) (ctr_cons (f14_ctr k) ctr_nil)))))) prog_mixed (A := f3_A) (fn := Tryd.f3) (code := f3_code) (by kernel_rfl) (by kernel_rfl) (by kernel_rfl) f3_fits (fun x y h => (f3_eq k x).trans h)
abbrev f4_pk : List Kd := [.view cuttingT]
abbrev f4_rk : Kd := .view .bool
noncomputable def f4_code : Code := Tryd.f4.body.getD .skip
noncomputable def f4_C (k : Nat) : Ctx := { P := Tryd.prog, Φ := phi [(10, mk f10_pk f10_rk f10_F), (15, mk f15_pk f15_rk f15_F), (16, mk f16_pk f16_rk f16_F), (12, mk f12_pk f12_rk f12_F), (13, mk f13_pk f13_rk f13_F), (17, mk f17_pk f17_rk f17_F)], k := k, live := fun _ => [] }
def f4_A : Nat → Ann := fun _ => ⟨[], []⟩
def f4_raw0 (k : Nat) : (((Int × Int × Int × Unit) × List ByteArray × List (List Int) × Unit) × List Int × Int × Int × Unit) × Unit → Option (Bool × Unit)
  | ((((a0, a1, a2, ()), a3, a4, ()), a5, a6, a7, ()), ()) => (f10_F k ()).bind fun y => bif !y.1 then (f10_F k ()).bind fun y => some (y.1, ()) else bif decide ((5000 : Int) < Int.ofNat a5.length) then (f10_F k ()).bind fun y => some (y.1, ()) else (f15_F k (ByteArray.mk (List.map (fun n => UInt8.ofNat n.toNat) a5).toArray, a6, a7, ())).bind fun y => (f16_F k (a5, a6, a7, ())).bind fun y_1 => bif y_1.1.2.1 != y.1.2.1 then some (false, ()) else bif !(ByteArray.mk (List.map (fun n => UInt8.ofNat n.toNat) y_1.1.1).toArray).toList == ByteArray.toList y.1.1 then some (false, ()) else (f13_F k (((a0, a1, a2, ()), a3, a4, ()), ())).bind fun y => (f12_F k (((y.1.1.1, y.1.1.2.1, y.1.1.2.2.1, ()), y.1.2.1, y.1.2.2.1, ()), ())).bind fun y => bif y.1.2.1 != (0 : Int) then some (true, ()) else bif decide ((0 : Int) ≤ (0 : Int) ∧ (0 : Int) < Int.ofNat a4.length) then (f16_F k (y.1.1, a6, a7, ())).bind fun y => bif decide (a6 < (0 : Int)) then bif y.1.2.1 == (9 : Int) then some (Int.ofNat (List.length y.1.1) == (0 : Int), ()) else some (false, ()) else bif decide (a7 < (0 : Int)) then bif y.1.2.1 == (9 : Int) then some (Int.ofNat (List.length y.1.1) == (0 : Int), ()) else some (false, ()) else bif decide (Int.ofNat (List.length (a4.getD (0 : Nat) [])) < a6) then bif y.1.2.1 == (9 : Int) then some (Int.ofNat (List.length y.1.1) == (0 : Int), ()) else some (false, ()) else bif decide (IntKind.i64.wrap (Int.ofNat (List.length (a4.getD (0 : Nat) [])) - a6) < a7) then bif y.1.2.1 == (9 : Int) then some (Int.ofNat (List.length y.1.1) == (0 : Int), ()) else some (false, ()) else (f17_F k (((a0, a1, a2, ()), a3, a4, ()), a6, IntKind.i64.wrap (a6 + a7), ())).bind fun y_2 => (f13_F k (((y_2.1.1.1, y_2.1.1.2.1, y_2.1.1.2.2.1, ()), y_2.1.2.1, y_2.1.2.2.1, ()), ())).bind fun y_3 => (f12_F k (((y_3.1.1.1, y_3.1.1.2.1, y_3.1.1.2.2.1, ()), y_3.1.2.1, y_3.1.2.2.1, ()), ())).bind fun y_4 => bif y.1.2.1 == (0 : Int) then bif y_4.1.2.1 == (0 : Int) then some ((ByteArray.mk (List.map (fun n => UInt8.ofNat n.toNat) y.1.1).toArray).toList == (ByteArray.mk (List.map (fun n => UInt8.ofNat n.toNat) y_4.1.1).toArray).toList, ()) else some (false, ()) else some (false, ()) else none
def f4_F (k : Nat) : (((Int × Int × Int × Unit) × List ByteArray × List (List Int) × Unit) × List Int × Int × Int × Unit) × Unit → Option (Bool × Unit) := f4_raw0 k
theorem f4_eq (k : Nat) (x : Kd.dens f4_pk) : runF (f4_C k) f4_A Tryd.f4.ntmps f4_code Tryd.f4.results.toList f4_pk f4_rk (encs f4_pk x) (decR f4_pk f4_rk) = f4_F k x := by
  show _ = f4_raw0 k x
  obtain ⟨⟨⟨⟨a0, ⟨a1, ⟨a2, ⟨⟩⟩⟩⟩, ⟨a3, ⟨a4, ⟨⟩⟩⟩⟩, ⟨a5, ⟨a6, ⟨a7, ⟨⟩⟩⟩⟩⟩, ⟨⟩⟩ := x
  kernel_rfl
theorem f4_fits : fitsC Tryd.prog Tryd.f4.ntmps f4_code = true := by kernel_rfl
theorem f4_ctr (k : Nat) : Ctr Tryd.prog k 4 (mk f4_pk f4_rk f4_F) :=
  fun_law (C := f4_C k) (phi_ok (ctr_cons (f10_ctr k) (ctr_cons (f15_ctr k) (ctr_cons (f16_ctr k) (ctr_cons (f12_ctr k) (ctr_cons (f13_ctr k) (ctr_cons (f17_ctr k) ctr_nil))))))) prog_mixed (A := f4_A) (fn := Tryd.f4) (code := f4_code) (by kernel_rfl) (by kernel_rfl) (by kernel_rfl) f4_fits (fun x y h => (f4_eq k x).trans h)
abbrev f5_pk : List Kd := [.view trackT, .view (.sl (.int .u8))]
abbrev f5_rk : Kd := .view .bool
noncomputable def f5_code : Code := Tryd.f5.body.getD .skip
noncomputable def f5_C (k : Nat) : Ctx := { P := Tryd.prog, Φ := phi [(10, mk f10_pk f10_rk f10_F), (13, mk f13_pk f13_rk f13_F), (12, mk f12_pk f12_rk f12_F), (18, mk f18_pk f18_rk f18_F), (20, mk f20_pk f20_rk f20_F), (19, mk f19_pk f19_rk f19_F)], k := k, live := fun _ => [] }
def f5_A : Nat → Ann := fun _ => ⟨[], []⟩
def f5_raw0 (k : Nat) : ((Int × Int × Int × Unit) × List ByteArray × List (List Int) × Unit) × List Int × Unit → Option (Bool × Unit)
  | (((a0, a1, a2, ()), a3, a4, ()), a5, ()) => (f10_F k ()).bind fun y => bif !y.1 then some (false, ()) else (f13_F k (((a0, a1, a2, ()), a3, a4, ()), ())).bind fun y => (f12_F k (((y.1.1.1, y.1.1.2.1, y.1.1.2.2.1, ()), y.1.2.1, y.1.2.2.1, ()), ())).bind fun y => bif y.1.2.1 == (0 : Int) then (f18_F k (y.1.1, ())).bind fun y_1 => bif decide ((0 : Int) ≤ (0 : Int) ∧ (0 : Int) ≤ IntKind.i64.wrap (Int.ofNat (List.length y.1.1) - (1 : Int)) ∧ IntKind.i64.wrap (Int.ofNat (List.length y.1.1) - (1 : Int)) ≤ Int.ofNat (List.length y.1.1)) then (f18_F k (List.drop (0 : Nat) (List.take (IntKind.i64.wrap (Int.ofNat (List.length y.1.1) - (1 : Int))).toNat y.1.1), ())).bind fun y_2 => bif decide ((0 : Nat) + List.length y.1.1 < (2147483648 : Nat)) then bif decide (([] ++ y.1.1).length + (1 : Nat) < (2147483648 : Nat)) then (f18_F k ([] ++ y.1.1 ++ [(0 : Int)], ())).bind fun y => bif y_1.1.2.1 != (0 : Int) then some (false, ()) else (f20_F k (((y_1.1.1.1.1, y_1.1.1.1.2.1, y_1.1.1.1.2.2.1, ()), y_1.1.1.2.1, y_1.1.1.2.2.1, ()), ())).bind fun y_3 => (f19_F k (((y_3.1.1.1, y_3.1.1.2.1, y_3.1.1.2.2.1, ()), y_3.1.2.1, y_3.1.2.2.1, ()), ((a0, a1, a2, ()), a3, a4, ()), ())).bind fun y_4 => bif !y_4.1 then some (false, ()) else bif y_2.1.2.1 != (2 : Int) then some (false, ()) else bif y.1.2.1 != (2 : Int) then some (false, ()) else bif decide ((5000 : Int) < Int.ofNat a5.length) then some (true, ()) else (f18_F k (a5, ())).bind fun y => bif y.1.2.1 != (0 : Int) then bif y.1.2.1 == (2 : Int) then some (Int.ofNat (List.length y.1.1.2.2.1) == (0 : Int), ()) else some (false, ()) else (f12_F k (((y.1.1.1.1, y.1.1.1.2.1, y.1.1.1.2.2.1, ()), y.1.1.2.1, y.1.1.2.2.1, ()), ())).bind fun y => bif y.1.2.1 == (0 : Int) then some ((ByteArray.mk (List.map (fun n => UInt8.ofNat n.toNat) y.1.1).toArray).toList == (ByteArray.mk (List.map (fun n => UInt8.ofNat n.toNat) a5).toArray).toList, ()) else some (false, ()) else none else none else none else bif decide ((5000 : Int) < Int.ofNat a5.length) then some (true, ()) else (f18_F k (a5, ())).bind fun y => bif y.1.2.1 != (0 : Int) then bif y.1.2.1 == (2 : Int) then some (Int.ofNat (List.length y.1.1.2.2.1) == (0 : Int), ()) else some (false, ()) else (f12_F k (((y.1.1.1.1, y.1.1.1.2.1, y.1.1.1.2.2.1, ()), y.1.1.2.1, y.1.1.2.2.1, ()), ())).bind fun y => bif y.1.2.1 == (0 : Int) then some ((ByteArray.mk (List.map (fun n => UInt8.ofNat n.toNat) y.1.1).toArray).toList == (ByteArray.mk (List.map (fun n => UInt8.ofNat n.toNat) a5).toArray).toList, ()) else some (false, ())
def f5_F (k : Nat) : ((Int × Int × Int × Unit) × List ByteArray × List (List Int) × Unit) × List Int × Unit → Option (Bool × Unit) := f5_raw0 k
theorem f5_eq (k : Nat) (x : Kd.dens f5_pk) : runF (f5_C k) f5_A Tryd.f5.ntmps f5_code Tryd.f5.results.toList f5_pk f5_rk (encs f5_pk x) (decR f5_pk f5_rk) = f5_F k x := by
  show _ = f5_raw0 k x
  obtain ⟨⟨⟨a0, ⟨a1, ⟨a2, ⟨⟩⟩⟩⟩, ⟨a3, ⟨a4, ⟨⟩⟩⟩⟩, ⟨a5, ⟨⟩⟩⟩ := x
  kernel_rfl
theorem f5_fits : fitsC Tryd.prog Tryd.f5.ntmps f5_code = true := by kernel_rfl
theorem f5_ctr (k : Nat) : Ctr Tryd.prog k 5 (mk f5_pk f5_rk f5_F) :=
  fun_law (C := f5_C k) (phi_ok (ctr_cons (f10_ctr k) (ctr_cons (f13_ctr k) (ctr_cons (f12_ctr k) (ctr_cons (f18_ctr k) (ctr_cons (f20_ctr k) (ctr_cons (f19_ctr k) ctr_nil))))))) prog_mixed (A := f5_A) (fn := Tryd.f5) (code := f5_code) (by kernel_rfl) (by kernel_rfl) (by kernel_rfl) f5_fits (fun x y h => (f5_eq k x).trans h)
abbrev f6_pk : List Kd := [.view (.sl (.int .u8))]
abbrev f6_rk : Kd := .view .bool
noncomputable def f6_code : Code := Tryd.f6.body.getD .skip
noncomputable def f6_C (k : Nat) : Ctx := { P := Tryd.prog, Φ := phi [(10, mk f10_pk f10_rk f10_F), (21, mk f21_pk f21_rk f21_F), (18, mk f18_pk f18_rk f18_F), (22, mk f22_pk f22_rk f22_F), (14, mk f14_pk f14_rk f14_F), (20, mk f20_pk f20_rk f20_F), (19, mk f19_pk f19_rk f19_F)], k := k, live := fun _ => [] }
def f6_A : Nat → Ann := fun _ => ⟨[], []⟩
def f6_raw0 (k : Nat) : List Int × Unit → Option (Bool × Unit)
  | (a0, ()) => (f10_F k ()).bind fun y => bif !y.1 then (f10_F k ()).bind fun y => some (y.1, ()) else bif decide ((5000 : Int) < Int.ofNat a0.length) then (f10_F k ()).bind fun y => some (y.1, ()) else (f21_F k (ByteArray.mk (List.map (fun n => UInt8.ofNat n.toNat) a0).toArray, ())).bind fun y => (f18_F k (a0, ())).bind fun y_1 => (f22_F k (ByteArray.mk (List.map (fun n => UInt8.ofNat n.toNat) a0).toArray, ())).bind fun y_2 => (f14_F k (a0, ())).bind fun y_3 => bif y_1.1.2.1 == y.1.2.1 then (f20_F k (((y_1.1.1.1.1, y_1.1.1.1.2.1, y_1.1.1.1.2.2.1, ()), y_1.1.1.2.1, y_1.1.1.2.2.1, ()), ())).bind fun y_4 => (f19_F k (((y_4.1.1.1, y_4.1.1.2.1, y_4.1.1.2.2.1, ()), y_4.1.2.1, y_4.1.2.2.1, ()), ((y.1.1.1.1, y.1.1.1.2.1, y.1.1.1.2.2.1, ()), y.1.1.2.1, y.1.1.2.2.1, ()), ())).bind fun y => bif y.1 then bif decide (y_2.1.1.1 = y_3.1.1.1) && (decide (y_2.1.1.2.1 = y_3.1.1.2.1) && (decide (y_2.1.1.2.2.1 = y_3.1.1.2.2.1) && true)) then bif y_2.1.2.1 == y_3.1.2.1 then some (y_2.1.2.2.1 == y_3.1.2.2.1, ()) else some (false, ()) else some (false, ()) else some (false, ()) else some (false, ())
def f6_F (k : Nat) : List Int × Unit → Option (Bool × Unit) := f6_raw0 k
theorem f6_eq (k : Nat) (x : Kd.dens f6_pk) : runF (f6_C k) f6_A Tryd.f6.ntmps f6_code Tryd.f6.results.toList f6_pk f6_rk (encs f6_pk x) (decR f6_pk f6_rk) = f6_F k x := by
  show _ = f6_raw0 k x
  obtain ⟨a0, ⟨⟩⟩ := x
  kernel_rfl
theorem f6_fits : fitsC Tryd.prog Tryd.f6.ntmps f6_code = true := by kernel_rfl
theorem f6_ctr (k : Nat) : Ctr Tryd.prog k 6 (mk f6_pk f6_rk f6_F) :=
  fun_law (C := f6_C k) (phi_ok (ctr_cons (f10_ctr k) (ctr_cons (f21_ctr k) (ctr_cons (f18_ctr k) (ctr_cons (f22_ctr k) (ctr_cons (f14_ctr k) (ctr_cons (f20_ctr k) (ctr_cons (f19_ctr k) ctr_nil)))))))) prog_mixed (A := f6_A) (fn := Tryd.f6) (code := f6_code) (by kernel_rfl) (by kernel_rfl) (by kernel_rfl) f6_fits (fun x y h => (f6_eq k x).trans h)
abbrev f7_pk : List Kd := [.view (.int .i64), .view (.int .i64), .view (.int .i64)]
abbrev f7_rk : Kd := .view .bool
noncomputable def f7_code : Code := Tryd.f7.body.getD .skip
noncomputable def f7_C (k : Nat) : Ctx := { P := Tryd.prog, Φ := phi [(10, mk f10_pk f10_rk f10_F), (12, mk f12_pk f12_rk f12_F), (23, mk f23_pk f23_rk f23_F), (14, mk f14_pk f14_rk f14_F)], k := k, live := fun _ => [] }
def f7_A : Nat → Ann := fun _ => ⟨[], []⟩
def f7_raw0 (k : Nat) : Int × Int × Int × Unit → Option (Bool × Unit)
  | (a0, a1, a2, ()) => (f10_F k ()).bind fun y => bif !y.1 then some (false, ()) else bif decide ((0 : Int) ≤ IntKind.i64.wrap ((IntKind.u64.wrap a0).tmod (4097 : Int)) ∧ IntKind.i64.wrap ((IntKind.u64.wrap a0).tmod (4097 : Int)) ≤ IntKind.i64.wrap ((IntKind.u64.wrap a0).tmod (4097 : Int)) ∧ IntKind.i64.wrap ((IntKind.u64.wrap a0).tmod (4097 : Int)) < (4294967296 : Int)) then (f12_F k ((((1 : Int), IntKind.i64.wrap ((4 : Int) + IntKind.i64.wrap ((IntKind.u64.wrap a2).tmod (5 : Int))), (8000 : Int), ()), [], [List.replicate (IntKind.i64.wrap ((IntKind.u64.wrap a0).tmod (4097 : Int))).toNat (0 : Int)], ()), ())).bind fun y => bif decide ((0 : Int) ≤ IntKind.i64.wrap ((IntKind.u64.wrap a1).tmod (4097 : Int)) ∧ IntKind.i64.wrap ((IntKind.u64.wrap a1).tmod (4097 : Int)) ≤ IntKind.i64.wrap ((IntKind.u64.wrap a1).tmod (4097 : Int)) ∧ IntKind.i64.wrap ((IntKind.u64.wrap a1).tmod (4097 : Int)) < (4294967296 : Int)) then (f12_F k ((((1 : Int), IntKind.i64.wrap ((4 : Int) + IntKind.i64.wrap ((IntKind.u64.wrap a2).tmod (5 : Int))), (8000 : Int), ()), [], [List.replicate (IntKind.i64.wrap ((IntKind.u64.wrap a1).tmod (4097 : Int))).toNat (0 : Int)], ()), ())).bind fun y_1 => bif decide ((0 : Int) ≤ IntKind.i64.wrap ((IntKind.u64.wrap a1).tmod (4097 : Int)) ∧ IntKind.i64.wrap ((IntKind.u64.wrap a1).tmod (4097 : Int)) ≤ IntKind.i64.wrap ((IntKind.u64.wrap a1).tmod (4097 : Int)) ∧ IntKind.i64.wrap ((IntKind.u64.wrap a1).tmod (4097 : Int)) < (4294967296 : Int)) then (f12_F k ((((1 : Int), IntKind.i64.wrap ((4 : Int) + IntKind.i64.wrap ((IntKind.u64.wrap a2).tmod (5 : Int))), (8001 : Int), ()), [], [List.replicate (IntKind.i64.wrap ((IntKind.u64.wrap a1).tmod (4097 : Int))).toNat (0 : Int)], ()), ())).bind fun y_2 => bif y.1.2.1 != (0 : Int) then some (false, ()) else bif y_1.1.2.1 != (0 : Int) then some (false, ()) else bif y_2.1.2.1 != (0 : Int) then some (false, ()) else (f23_F k (y.1.1, y_1.1.1, ())).bind fun y_3 => (f23_F k (y.1.1, y_2.1.1, ())).bind fun y => bif decide ((0 : Int) ≤ (0 : Int) ∧ (0 : Int) ≤ (10 : Int) ∧ (10 : Int) ≤ Int.ofNat (List.length y_1.1.1)) then (f23_F k (y_2.1.1, List.drop (0 : Nat) (List.take (10 : Nat) y_1.1.1), ())).bind fun y_4 => (f23_F k ([], y_2.1.1, ())).bind fun y_5 => bif y.1.2.1 != (1 : Int) then some (false, ()) else bif y_4.1.2.1 != (2 : Int) then some (false, ()) else bif y_5.1.2.1 != (2 : Int) then some (false, ()) else bif decide ((4096 : Int) < IntKind.i64.wrap (IntKind.i64.wrap ((IntKind.u64.wrap a0).tmod (4097 : Int)) + IntKind.i64.wrap ((IntKind.u64.wrap a1).tmod (4097 : Int)))) then bif y_3.1.2.1 == (14 : Int) then some (Int.ofNat (List.length y_3.1.1) == (0 : Int), ()) else some (false, ()) else (f14_F k (y_3.1.1, ())).bind fun y => bif y_3.1.2.1 == (0 : Int) then bif y.1.2.2.1 == (0 : Int) then some (y.1.2.1 == IntKind.i64.wrap (IntKind.i64.wrap ((IntKind.u64.wrap a0).tmod (4097 : Int)) + IntKind.i64.wrap ((IntKind.u64.wrap a1).tmod (4097 : Int))), ()) else some (false, ()) else some (false, ()) else none else none else none else none
def f7_F (k : Nat) : Int × Int × Int × Unit → Option (Bool × Unit) := f7_raw0 k
theorem f7_eq (k : Nat) (x : Kd.dens f7_pk) : runF (f7_C k) f7_A Tryd.f7.ntmps f7_code Tryd.f7.results.toList f7_pk f7_rk (encs f7_pk x) (decR f7_pk f7_rk) = f7_F k x := by
  show _ = f7_raw0 k x
  obtain ⟨a0, ⟨a1, ⟨a2, ⟨⟩⟩⟩⟩ := x
  kernel_rfl
theorem f7_fits : fitsC Tryd.prog Tryd.f7.ntmps f7_code = true := by kernel_rfl
theorem f7_ctr (k : Nat) : Ctr Tryd.prog k 7 (mk f7_pk f7_rk f7_F) :=
  fun_law (C := f7_C k) (phi_ok (ctr_cons (f10_ctr k) (ctr_cons (f12_ctr k) (ctr_cons (f23_ctr k) (ctr_cons (f14_ctr k) ctr_nil))))) prog_mixed (A := f7_A) (fn := Tryd.f7) (code := f7_code) (by kernel_rfl) (by kernel_rfl) (by kernel_rfl) f7_fits (fun x y h => (f7_eq k x).trans h)
abbrev f8_pk : List Kd := [.view trackT, .view (.sl (.int .u8)), .view (.int .i64)]
abbrev f8_rk : Kd := .view .bool
noncomputable def f8_code : Code := Tryd.f8.body.getD .skip
noncomputable def f8_C (k : Nat) : Ctx := { P := Tryd.prog, Φ := phi [(10, mk f10_pk f10_rk f10_F), (12, mk f12_pk f12_rk f12_F), (13, mk f13_pk f13_rk f13_F), (24, mk f24_pk f24_rk f24_F), (23, mk f23_pk f23_rk f23_F), (16, mk f16_pk f16_rk f16_F)], k := k, live := fun _ => [] }
def f8_A : Nat → Ann := fun _ => ⟨[], []⟩
def f8_raw0 (k : Nat) : ((Int × Int × Int × Unit) × List ByteArray × List (List Int) × Unit) × List Int × Int × Unit → Option (Bool × Unit)
  | (((a0, a1, a2, ()), a3, a4, ()), a5, a6, ()) => (f10_F k ()).bind fun y => bif !y.1 then (f10_F k ()).bind fun y => some (y.1, ()) else bif decide ((5000 : Int) < Int.ofNat a5.length) then (f10_F k ()).bind fun y => some (y.1, ()) else (f13_F k (((a0, a1, a2, ()), a3, a4, ()), ())).bind fun y => (f12_F k (((y.1.1.1, y.1.1.2.1, y.1.1.2.2.1, ()), y.1.2.1, y.1.2.2.1, ()), ())).bind fun y => bif y.1.2.1 != (0 : Int) then some (true, ()) else bif decide ((0 : Int) ≤ (0 : Int) ∧ (0 : Int) < Int.ofNat a4.length) then bif decide (Int.ofNat (List.length (a4.getD (0 : Nat) [])) ≤ (600 : Int)) then (f24_F k (ByteArray.mk (List.map (fun n => UInt8.ofNat n.toNat) y.1.1).toArray, ByteArray.mk (List.map (fun n => UInt8.ofNat n.toNat) a5).toArray, ())).bind fun y_1 => (f23_F k (y.1.1, a5, ())).bind fun y_2 => bif y_2.1.2.1 != y_1.1.2.1 then some (false, ()) else bif !(ByteArray.mk (List.map (fun n => UInt8.ofNat n.toNat) y_2.1.1).toArray).toList == ByteArray.toList y_1.1.1 then some (false, ()) else bif decide ((0 : Int) ≤ (0 : Int) ∧ (0 : Int) < Int.ofNat a4.length) then bif decide ¬IntKind.u64.wrap (IntKind.i64.wrap (Int.ofNat (List.length (a4.getD (0 : Nat) [])) + (1 : Int))) = (0 : Int) then (f16_F k (y.1.1, OfNat.ofNat (0 : Nat), IntKind.i64.wrap ((IntKind.i64.wrap ((IntKind.u64.wrap a6).tmod (IntKind.u64.wrap (IntKind.i64.wrap (Int.ofNat (List.length (a4.getD (0 : Nat) [])) + (1 : Int)))))).tdiv (2 : Int)), ())).bind fun y_3 => (f16_F k (y.1.1, IntKind.i64.wrap ((IntKind.i64.wrap ((IntKind.u64.wrap a6).tmod (IntKind.u64.wrap (IntKind.i64.wrap (Int.ofNat (List.length (a4.getD (0 : Nat) [])) + (1 : Int)))))).tdiv (2 : Int)), IntKind.i64.wrap (IntKind.i64.wrap ((IntKind.u64.wrap a6).tmod (IntKind.u64.wrap (IntKind.i64.wrap (Int.ofNat (List.length (a4.getD (0 : Nat) [])) + (1 : Int))))) - IntKind.i64.wrap ((IntKind.i64.wrap ((IntKind.u64.wrap a6).tmod (IntKind.u64.wrap (IntKind.i64.wrap (Int.ofNat (List.length (a4.getD (0 : Nat) [])) + (1 : Int)))))).tdiv (2 : Int))), ())).bind fun y_4 => (f16_F k (y.1.1, IntKind.i64.wrap ((IntKind.u64.wrap a6).tmod (IntKind.u64.wrap (IntKind.i64.wrap (Int.ofNat (List.length (a4.getD (0 : Nat) [])) + (1 : Int))))), IntKind.i64.wrap (Int.ofNat (List.length (a4.getD (0 : Nat) [])) - IntKind.i64.wrap ((IntKind.u64.wrap a6).tmod (IntKind.u64.wrap (IntKind.i64.wrap (Int.ofNat (List.length (a4.getD (0 : Nat) [])) + (1 : Int)))))), ())).bind fun y_5 => bif y_3.1.2.1 != (0 : Int) then some (false, ()) else bif y_4.1.2.1 != (0 : Int) then some (false, ()) else bif y_5.1.2.1 != (0 : Int) then some (false, ()) else (f23_F k (y_3.1.1, y_4.1.1, ())).bind fun y_6 => (f23_F k (y_4.1.1, y_5.1.1, ())).bind fun y_7 => (f23_F k (y_6.1.1, y_5.1.1, ())).bind fun y_8 => (f23_F k (y_3.1.1, y_7.1.1, ())).bind fun y_9 => bif y_6.1.2.1 == (0 : Int) then bif y_7.1.2.1 == (0 : Int) then bif y_8.1.2.1 == (0 : Int) then bif y_9.1.2.1 == (0 : Int) then bif (ByteArray.mk (List.map (fun n => UInt8.ofNat n.toNat) y_8.1.1).toArray).toList == (ByteArray.mk (List.map (fun n => UInt8.ofNat n.toNat) y.1.1).toArray).toList then some ((ByteArray.mk (List.map (fun n => UInt8.ofNat n.toNat) y_9.1.1).toArray).toList == (ByteArray.mk (List.map (fun n => UInt8.ofNat n.toNat) y.1.1).toArray).toList, ()) else some (false, ()) else some (false, ()) else some (false, ()) else some (false, ()) else some (false, ()) else none else none else bif decide ((0 : Int) ≤ (0 : Int) ∧ (0 : Int) < Int.ofNat a4.length) then bif decide ¬IntKind.u64.wrap (IntKind.i64.wrap (Int.ofNat (List.length (a4.getD (0 : Nat) [])) + (1 : Int))) = (0 : Int) then (f16_F k (y.1.1, OfNat.ofNat (0 : Nat), IntKind.i64.wrap ((IntKind.i64.wrap ((IntKind.u64.wrap a6).tmod (IntKind.u64.wrap (IntKind.i64.wrap (Int.ofNat (List.length (a4.getD (0 : Nat) [])) + (1 : Int)))))).tdiv (2 : Int)), ())).bind fun y_1 => (f16_F k (y.1.1, IntKind.i64.wrap ((IntKind.i64.wrap ((IntKind.u64.wrap a6).tmod (IntKind.u64.wrap (IntKind.i64.wrap (Int.ofNat (List.length (a4.getD (0 : Nat) [])) + (1 : Int)))))).tdiv (2 : Int)), IntKind.i64.wrap (IntKind.i64.wrap ((IntKind.u64.wrap a6).tmod (IntKind.u64.wrap (IntKind.i64.wrap (Int.ofNat (List.length (a4.getD (0 : Nat) [])) + (1 : Int))))) - IntKind.i64.wrap ((IntKind.i64.wrap ((IntKind.u64.wrap a6).tmod (IntKind.u64.wrap (IntKind.i64.wrap (Int.ofNat (List.length (a4.getD (0 : Nat) [])) + (1 : Int)))))).tdiv (2 : Int))), ())).bind fun y_2 => (f16_F k (y.1.1, IntKind.i64.wrap ((IntKind.u64.wrap a6).tmod (IntKind.u64.wrap (IntKind.i64.wrap (Int.ofNat (List.length (a4.getD (0 : Nat) [])) + (1 : Int))))), IntKind.i64.wrap (Int.ofNat (List.length (a4.getD (0 : Nat) [])) - IntKind.i64.wrap ((IntKind.u64.wrap a6).tmod (IntKind.u64.wrap (IntKind.i64.wrap (Int.ofNat (List.length (a4.getD (0 : Nat) [])) + (1 : Int)))))), ())).bind fun y_3 => bif y_1.1.2.1 != (0 : Int) then some (false, ()) else bif y_2.1.2.1 != (0 : Int) then some (false, ()) else bif y_3.1.2.1 != (0 : Int) then some (false, ()) else (f23_F k (y_1.1.1, y_2.1.1, ())).bind fun y_4 => (f23_F k (y_2.1.1, y_3.1.1, ())).bind fun y_5 => (f23_F k (y_4.1.1, y_3.1.1, ())).bind fun y_6 => (f23_F k (y_1.1.1, y_5.1.1, ())).bind fun y_7 => bif y_4.1.2.1 == (0 : Int) then bif y_5.1.2.1 == (0 : Int) then bif y_6.1.2.1 == (0 : Int) then bif y_7.1.2.1 == (0 : Int) then bif (ByteArray.mk (List.map (fun n => UInt8.ofNat n.toNat) y_6.1.1).toArray).toList == (ByteArray.mk (List.map (fun n => UInt8.ofNat n.toNat) y.1.1).toArray).toList then some ((ByteArray.mk (List.map (fun n => UInt8.ofNat n.toNat) y_7.1.1).toArray).toList == (ByteArray.mk (List.map (fun n => UInt8.ofNat n.toNat) y.1.1).toArray).toList, ()) else some (false, ()) else some (false, ()) else some (false, ()) else some (false, ()) else some (false, ()) else none else none else none
def f8_F (k : Nat) : ((Int × Int × Int × Unit) × List ByteArray × List (List Int) × Unit) × List Int × Int × Unit → Option (Bool × Unit) := f8_raw0 k
theorem f8_eq (k : Nat) (x : Kd.dens f8_pk) : runF (f8_C k) f8_A Tryd.f8.ntmps f8_code Tryd.f8.results.toList f8_pk f8_rk (encs f8_pk x) (decR f8_pk f8_rk) = f8_F k x := by
  show _ = f8_raw0 k x
  obtain ⟨⟨⟨a0, ⟨a1, ⟨a2, ⟨⟩⟩⟩⟩, ⟨a3, ⟨a4, ⟨⟩⟩⟩⟩, ⟨a5, ⟨a6, ⟨⟩⟩⟩⟩ := x
  kernel_rfl
theorem f8_fits : fitsC Tryd.prog Tryd.f8.ntmps f8_code = true := by kernel_rfl
theorem f8_ctr (k : Nat) : Ctr Tryd.prog k 8 (mk f8_pk f8_rk f8_F) :=
  fun_law (C := f8_C k) (phi_ok (ctr_cons (f10_ctr k) (ctr_cons (f12_ctr k) (ctr_cons (f13_ctr k) (ctr_cons (f24_ctr k) (ctr_cons (f23_ctr k) (ctr_cons (f16_ctr k) ctr_nil))))))) prog_mixed (A := f8_A) (fn := Tryd.f8) (code := f8_code) (by kernel_rfl) (by kernel_rfl) (by kernel_rfl) f8_fits (fun x y h => (f8_eq k x).trans h)
end Go.Sh
