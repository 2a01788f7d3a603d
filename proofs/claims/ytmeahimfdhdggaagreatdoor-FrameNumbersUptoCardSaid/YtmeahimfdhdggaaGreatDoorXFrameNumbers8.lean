/-
  What the row needs, part 8.
-/
import Derived.Test.YtmeahimfdhdggaaGreatDoorXFrameNumbers7
import Derived.Test.YtmeahimfdhdggaaGreatDoorProg
set_option linter.unusedSimpArgs false
set_option linter.unusedVariables false
set_option linter.unusedSectionVars false
namespace Go.Sh
open Go Go.Proofs
def deBruijnT : List Int := [0, 1, 56, 2, 57, 49, 28, 3, 61, 58, 42, 50, 38, 29, 17, 4, 62, 47, 59, 36, 45, 43, 51, 22, 53, 39, 33, 30, 24, 18, 12, 5, 63, 55, 48, 27, 60, 41, 37, 16, 46, 35, 44, 21, 52, 32, 23, 11, 54, 26, 40, 15, 34, 20, 31, 10, 25, 14, 19, 9, 13, 8, 7, 6]
instance frameGl : Gl := ⟨fun g => bif Nat.beq g 1 then (.u8, deBruijnT) else (.u8, [])⟩
abbrev Zff : Ty := .pair (.int .i64) (.pair (.int .i64) (.pair (.int .i64) .unit))
abbrev frameT : Ty := .pair (.int .i64) (.pair (.sl (.sl (.int .i64))) .unit)
abbrev K5 : Ty := .pair (.sl (.int .i64)) (.pair (.int .i64) .unit)
abbrev Ztm : Ty := .pair (.int .i64) (.pair (.int .i64) (.pair (.int .i64) (.pair (.sl (.int .i64)) (.pair K5 (.pair (.sl (.int .i64)) (.pair (.int .i64) .unit))))))
abbrev ZDV : Ty := .pair (.int .i64) (.pair (.int .i64) (.pair (.int .i64) .unit))
abbrev ZL6 : Ty := .pair (.int .i64) (.pair (.int .i64) (.pair (.sl ZDV) (.pair (.int .i64) .unit)))
theorem ZeW : Tryz.prog.follows .mixedOrders = true := by kernel_rfl
abbrev Zp (v : Int) : AV := AV.val (PV.v (Value.int IntKind.i64 v))
abbrev XI (v : List Int) : AV := AV.val (PV.sl (Ty.int IntKind.i64) v)
abbrev avB (v : Bool) : AV := AV.val (PV.v (Value.bool v))
noncomputable abbrev W0 (f : Func) : Code := f.body.getD .skip
noncomputable def Qo (k : Nat) (l : List (Nat × Callee)) (live : Nat → List Nat := fun _ => []) : Ctx := { P := Tryz.prog, Φ := phi l, k := k, live := live }
def nA : Nat → Ann := fun _ => ⟨[], []⟩
noncomputable abbrev ZD (C : Ctx) (A : Nat → Ann) (fn : Func) (pk : List Kd) (rk : Kd) (x : Kd.dens pk) := Zx4 C A fn.ntmps (W0 fn) fn.results.toList pk rk (WD pk x) (ZDy pk rk)
noncomputable abbrev Xq (C : Ctx) (fn : Func) (pk : List Kd) (rk : Kd) (a : List AV) (b : List (List Nat)) := XS C fn.results.toList pk a b rk (ZDy pk rk)
theorem ZE {l : List (Nat × Callee)} {live : Nat → List Nat} {A : Nat → Ann} {f k : Nat} {fn : Func} {pk : List Kd} {rk : Kd} {F : Nat → Kd.dens pk → Option (Ans pk rk)} (hC : ∀ f cal, phi l f = some cal → Ctr Tryz.prog k f cal)
    (hf : Tryz.prog.funcs[f]? = some fn) (hb : fn.body = some (W0 fn)) (hname : (fn.name == "runtime.NumGoroutine") = false) (hfit : Xp Tryz.prog fn.ntmps (W0 fn) = true)
    (h : ∀ x, ZD (Qo k l live) A fn pk rk x = F k x) : Ctr Tryz.prog k f (mk pk rk F) :=
  ZHd (C := Qo k l live) hC ZeW hf hb hname hfit (fun x y e => (h x).trans e)
abbrev ZtF : List Kd := [.view Zff]
abbrev ZxM : Kd := .view (.int .i64)
noncomputable def ZNP (k : Nat) := Qo k []
def Zhc (k : Nat) : (Int × Int × Int × Unit) × Unit → Option (Int × Unit)
  | ((a0, a1, a2, ()), ()) => bif decide (a0 < (1 : Int)) then some (2, ()) else bif decide ((2 : Int) < a0) then some (2, ()) else bif decide (a1 < (4 : Int)) then some (2, ()) else bif decide ((24 : Int) < a1) then some (2, ()) else bif decide (a2 < (1 : Int)) then some (2, ()) else bif decide ((655350 : Int) < a2) then some (2, ()) else some (0, ())
def Zql (k : Nat) := Zhc k
theorem ZLk (k : Nat) (x : Kd.dens ZtF) : ZD (ZNP k) nA Tryz.f11 ZtF ZxM x = Zql k x := by
  show _ = Zhc k x
  obtain ⟨⟨a0, ⟨a1, ⟨a2, ⟨⟩⟩⟩⟩, ⟨⟩⟩ := x
  kernel_rfl
theorem Zzl (k : Nat) : Ctr Tryz.prog k 11 (mk ZtF ZxM Zql) :=
  ZE (fn := Tryz.f11) (Zh Zd) (by kernel_rfl) (by kernel_rfl) (by kernel_rfl) (by kernel_rfl) (ZLk k)
noncomputable abbrev ZJf : Nat × Callee := (11, mk ZtF ZxM Zql)
abbrev Ze1 : List Kd := [.view Zff, .view frameT]
abbrev Zij : Kd := .view (.int .i64)
noncomputable def ZmA (k : Nat) := Qo k [ZJf]
def ZzQ : Nat → Ann := fun id => bif Nat.beq id 17 then ⟨[68, 69, 67, 2, 63, 62, 61], []⟩ else bif Nat.beq id 14 then ⟨[62, 63, 61, 2], []⟩ else bif Nat.beq id 8 then ⟨[42, 43, 41, 6, 3, 2], []⟩ else ⟨[], []⟩
abbrev Zya := Int × Int × List Int × Int × Int × List (List Int) × Int × Int × Int
abbrev ZrI := Zya → Option (Int × Unit)
abbrev ZyZ := Int × Int × List (List Int) × Int × Int × Int
abbrev Ziq := ZyZ → Option (Int × Unit)
abbrev Zx9 := Int × Int × List (List Int) × Int × Int × List (List Int) × Int × Int × Int
abbrev Zrc := Zx9 → Option (Int × Unit)
def ZJP : Zya → St
  | (v0, v1, v2, v3, v4, v5, v6, v7, v8) => St.mk (ZC [(nat_lit 68, Zp v0), (nat_lit 69, Zp v1), (nat_lit 67, XI v2), (nat_lit 2, AV.bx (nat_lit 8192) (nat_lit 0)), (nat_lit 63, Zp v3), (nat_lit 62, Zp v4), (nat_lit 61, AV.val (PV.sl (Ty.int IntKind.i64).sl v5))]) (ZA [(nat_lit 8192, RS.live (Res.box [Zp v6, Zp v7, Zp v8]))])
def ZaZ (k : Nat) (L2 : Ziq) (L3 : ZrI) : ZrI
  | (v0, v1, v2, v3, v4, v5, v6, v7, v8) => bif decide (v1 < v0) then bif decide ((0 : Int) ≤ v1 ∧ v1 < Int.ofNat v2.length) then bif decide ((0 : Int) ≤ IntKind.i64.wrap (v7 - (1 : Int))) then bif Int.fdiv (v2.getD v1.toNat 0) ((2 : Int) ^ min (IntKind.i64.wrap (v7 - (1 : Int))).toNat (64 : Nat)) != (0 : Int) then bif Int.fdiv (v2.getD v1.toNat 0) ((2 : Int) ^ min (IntKind.i64.wrap (v7 - (1 : Int))).toNat (64 : Nat)) != (-1 : Int) then some (12, ()) else L3 (v0, IntKind.i64.wrap (v1 + (1 : Int)), v2, v3, v4, v5, v6, v7, v8) else L3 (v0, IntKind.i64.wrap (v1 + (1 : Int)), v2, v3, v4, v5, v6, v7, v8) else none else none else L2 (v4, IntKind.i64.wrap (v3 + (1 : Int)), v5, v6, v7, v8)
def ZiS (k : Nat) (L2 : Ziq) : ZrI := Zr (fun L3 => ZaZ k L2 L3) k
noncomputable def ZkN (k : Nat) (n2 : Nat) (n : Nat) (v : Zya) : Option (Int × Unit) :=
  ZB (ZmA k) ZzQ [] [1, 1, 1, 1, 1, 0, 1, 0, 0, 1, 1, 0, 0, 1, 1, 0] [n2] (W0 Tryz.f23) (Xq (ZmA k) Tryz.f23 Ze1 Zij [] []) n (ZJP v)
def ZMm : ZyZ → St
  | (v0, v1, v2, v3, v4, v5) => St.mk (ZC [(nat_lit 62, Zp v0), (nat_lit 63, Zp v1), (nat_lit 61, AV.val (PV.sl (Ty.int IntKind.i64).sl v2)), (nat_lit 2, AV.bx (nat_lit 8192) (nat_lit 0))]) (ZA [(nat_lit 8192, RS.live (Res.box [Zp v3, Zp v4, Zp v5]))])
def Ky (k : Nat) (L3 : ZrI) (L2 : Ziq) : Ziq
  | (v0, v1, v2, v3, v4, v5) => bif decide (v1 < v0) then bif decide ((0 : Int) ≤ v1 ∧ v1 < Int.ofNat v2.length) then L3 (Int.ofNat (List.length (v2.getD v1.toNat [])), (0 : Int), v2.getD v1.toNat [], v1, v0, v2, v3, v4, v5) else none else some (0, ())
def Zbt (k : Nat) : Ziq := Zr (fun L2 => Ky k (ZiS k L2) L2) k
noncomputable def KA (k : Nat) (n : Nat) (v : ZyZ) : Option (Int × Unit) :=
  ZB (ZmA k) ZzQ [] [1, 1, 1, 1, 1, 0, 1, 0] [] (W0 Tryz.f23) (Xq (ZmA k) Tryz.f23 Ze1 Zij [] []) n (ZMm v)
def ZKN : Zx9 → St
  | (v0, v1, v2, v3, v4, v5, v6, v7, v8) => St.mk (ZC [(nat_lit 42, Zp v0), (nat_lit 43, Zp v1), (nat_lit 41, AV.val (PV.sl (Ty.int IntKind.i64).sl v2)), (nat_lit 6, Zp v3), (nat_lit 3, AV.bx (nat_lit 8192) (nat_lit 0)), (nat_lit 2, AV.bx (nat_lit 8193) (nat_lit 0))]) (ZA [(nat_lit 8192, RS.live (Res.box [Zp v4, AV.val (PV.sl (Ty.int IntKind.i64).sl v5)])), (nat_lit 8193, RS.live (Res.box [Zp v6, Zp v7, Zp v8]))])
def Ku (k : Nat) (L2 : Ziq) (L1 : Zrc) : Zrc
  | (v0, v1, v2, v3, v4, v5, v6, v7, v8) => bif decide (v1 < v0) then bif decide ((0 : Int) ≤ v1 ∧ v1 < Int.ofNat v2.length) then bif Int.ofNat (List.length (v2.getD v1.toNat [])) != v3 then some (1, ()) else bif decide (v3 < (1 : Int)) then some (1, ()) else bif decide ((512 : Int) < v3) then some (1, ()) else L1 (v0, IntKind.i64.wrap (v1 + (1 : Int)), v2, v3, v4, v5, v6, v7, v8) else none else L2 (Int.ofNat v5.length, (0 : Int), v5, v6, v7, v8)
def ZlS (k : Nat) : Zrc := Zr (fun L1 => Ku k (Zbt k) L1) k
noncomputable def Zkw (k : Nat) (n : Nat) (v : Zx9) : Option (Int × Unit) :=
  ZB (ZmA k) ZzQ [] [1, 1, 1, 1, 0, 1, 0] [] (W0 Tryz.f23) (Xq (ZmA k) Tryz.f23 Ze1 Zij [] []) n (ZKN v)
def ZfB (k : Nat) (L1 : Zrc) : (Int × Int × Int × Unit) × (Int × List (List Int) × Unit) × Unit → Option (Int × Unit)
  | ((a0, a1, a2, ()), (a3, a4, ()), ()) => (Zql k ((a0, a1, a2, ()), ())).bind fun y => bif y.1 != (0 : Int) then some (y.1, ()) else bif decide (a3 < (0 : Int)) then some (1, ()) else bif decide ((2147483647 : Int) < a3) then some (1, ()) else bif Int.ofNat a4.length != a0 then some (1, ()) else bif decide ((0 : Int) ≤ (0 : Int) ∧ (0 : Int) < Int.ofNat a4.length) then L1 (Int.ofNat a4.length, (0 : Int), a4, Int.ofNat (List.length (a4.getD (0 : Nat) [])), a3, a4, a0, a1, a2) else none
def Zet (k : Nat) := ZfB k (ZlS k)
theorem ZEz (k : Nat) (n2 : Nat) : ∀ n, ZkN k n2 n = Zr (fun L3 => ZaZ k (KA k n2) L3) n :=
  Zn (fun v => by kernel_rfl) (fun n v => by
    show ZkN k n2 (n + 1) v = ZaZ k (KA k n2) (ZkN k n2 n) v
    obtain ⟨v0, v1, v2, v3, v4, v5, v6, v7, v8⟩ := v
    kernel_rfl)
theorem ZDh (k : Nat) : ∀ n, KA k n = Zr (fun L2 => Ky k (ZiS k L2) L2) n :=
  Zn (fun v => by kernel_rfl) (fun n v => by
    show KA k (n + 1) v = Ky k (ZiS k (KA k n)) (KA k n) v
    rw [show (ZiS k (KA k n)) = ZkN k n k from (ZEz k n k).symm]
    obtain ⟨v0, v1, v2, v3, v4, v5⟩ := v
    kernel_rfl)
theorem ZEB (k : Nat) : ∀ n, Zkw k n = Zr (fun L1 => Ku k (Zbt k) L1) n :=
  Zn (fun v => by kernel_rfl) (fun n v => by
    show Zkw k (n + 1) v = Ku k (Zbt k) (Zkw k n) v
    rw [show (Zbt k) = KA k k from (ZDh k k).symm]
    obtain ⟨v0, v1, v2, v3, v4, v5, v6, v7, v8⟩ := v
    kernel_rfl)
theorem ZJZ (k : Nat) (x : Kd.dens Ze1) : ZD (ZmA k) ZzQ Tryz.f23 Ze1 Zij x = Zet k x := by
  show _ = ZfB k (ZlS k) x
  rw [show ZlS k = Zkw k k from (ZEB k k).symm]
  obtain ⟨⟨a0, ⟨a1, ⟨a2, ⟨⟩⟩⟩⟩, ⟨⟨a3, ⟨a4, ⟨⟩⟩⟩, ⟨⟩⟩⟩ := x
  kernel_rfl
theorem Zy9 (k : Nat) : Ctr Tryz.prog k 23 (mk Ze1 Zij Zet) :=
  ZE (fn := Tryz.f23) (Zh (Za (Zzl k) Zd)) (by kernel_rfl) (by kernel_rfl) (by kernel_rfl) (by kernel_rfl) (ZJZ k)
noncomputable abbrev ZJA : Nat × Callee := (23, mk Ze1 Zij Zet)
abbrev Zmr : List Kd := [.view (.sl (.int .i64)), .view (.sl (.int .i64))]
abbrev Ztg : Kd := .tup [.view (.sl (.cx .f64)), .view (.int .i64)]
noncomputable def ZCE (k : Nat) := Qo k []
def ZJH : Nat → Ann := fun id => bif Nat.beq id 7 then ⟨[21, 22, 20, 1, 6], [.slot 6 ((Ty.cx FloatKind.f64))]⟩ else ⟨[], []⟩
abbrev Zxf := Int × Int × List Int × List Int × List (Nat × Nat)
abbrev Zr4 := Zxf → Option ((List (Nat × Nat) × Int × Unit) × Unit)
def ZLa : Zxf → St
  | (v0, v1, v2, v3, v4) => St.mk (ZC [(nat_lit 21, Zp v0), (nat_lit 22, Zp v1), (nat_lit 20, XI v2), (nat_lit 1, XI v3), (nat_lit 6, AV.own (nat_lit 8192))]) (ZA [(nat_lit 8192, RS.live (Res.arr (Ty.cx FloatKind.f64) v4 false))])
def XD (k : Nat) (L1 : Zr4) : Zr4
  | (v0, v1, v2, v3, v4) => bif decide (v1 < v0) then bif decide ((0 : Int) ≤ v1 ∧ v1 < Int.ofNat v2.length) then bif decide ((0 : Int) ≤ v1 ∧ v1 < Int.ofNat v3.length) then bif decide (v2.getD v1.toNat 0 < (-16777216 : Int)) then some (([], 12, ()), ()) else bif decide ((16777216 : Int) < v2.getD v1.toNat 0) then some (([], 12, ()), ()) else bif decide (v3.getD v1.toNat 0 < (-16777216 : Int)) then some (([], 12, ()), ()) else bif decide ((16777216 : Int) < v3.getD v1.toNat 0) then some (([], 12, ()), ()) else bif decide (v4.length + [(FloatKind.f64.nearest (v2.getD v1.toNat 0), FloatKind.f64.nearest (v3.getD v1.toNat 0))].length < (2147483648 : Nat)) then L1 (v0, IntKind.i64.wrap (v1 + (1 : Int)), v2, v3, v4 ++ [(FloatKind.f64.nearest (v2.getD v1.toNat 0), FloatKind.f64.nearest (v3.getD v1.toNat 0))]) else none else none else none else some ((v4, 0, ()), ())
def ZnT (k : Nat) : Zr4 := Zr (fun L1 => XD k L1) k
noncomputable def Zkd (k : Nat) (n : Nat) (v : Zxf) : Option ((List (Nat × Nat) × Int × Unit) × Unit) :=
  ZB (ZCE k) ZJH [] [1, 1, 1, 0, 1, 0] [] (W0 Tryz.f59) (Xq (ZCE k) Tryz.f59 Zmr Ztg [] []) n (ZLa v)
def ZaB (k : Nat) (L1 : Zr4) : List Int × List Int × Unit → Option ((List (Nat × Nat) × Int × Unit) × Unit)
  | (a0, a1, ()) => bif Int.ofNat a0.length != Int.ofNat a1.length then some (([], 1, ()), ()) else bif decide ((8192 : Int) < Int.ofNat a0.length) then some (([], 14, ()), ()) else L1 (Int.ofNat a0.length, (0 : Int), a0, a1, [])
def Zmt (k : Nat) := ZaB k (ZnT k)
theorem ZEt (k : Nat) : ∀ n, Zkd k n = Zr (fun L1 => XD k L1) n :=
  Zn (fun v => by kernel_rfl) (fun n v => by
    show Zkd k (n + 1) v = XD k (Zkd k n) v
    obtain ⟨v0, v1, v2, v3, v4⟩ := v
    kernel_rfl)
theorem ZLR (k : Nat) (x : Kd.dens Zmr) : ZD (ZCE k) ZJH Tryz.f59 Zmr Ztg x = Zmt k x := by
  show _ = ZaB k (ZnT k) x
  rw [show ZnT k = Zkd k k from (ZEt k k).symm]
  obtain ⟨a0, ⟨a1, ⟨⟩⟩⟩ := x
  kernel_rfl
theorem Zz4 (k : Nat) : Ctr Tryz.prog k 59 (mk Zmr Ztg Zmt) :=
  ZE (fn := Tryz.f59) (Zh Zd) (by kernel_rfl) (by kernel_rfl) (by kernel_rfl) (by kernel_rfl) (ZLR k)
noncomputable abbrev ZJe : Nat × Callee := (59, mk Zmr Ztg Zmt)
abbrev Zrn : List Kd := [.view (.int .i64)]
abbrev ZwU : Kd := .view .bool
noncomputable def ZNg (k : Nat) := Qo k []
def ZuA (k : Nat) : Int × Unit → Option (Bool × Unit)
  | (a0, ()) => bif a0 == (0 : Int) then some (true, ()) else bif decide ((8 : Int) ≤ a0) then some (decide (a0 ≤ (10 : Int)), ()) else some (false, ())
def Zpw (k : Nat) := ZuA k
theorem ZMw (k : Nat) (x : Kd.dens Zrn) : ZD (ZNg k) nA Tryz.f91 Zrn ZwU x = Zpw k x := by
  show _ = ZuA k x
  obtain ⟨a0, ⟨⟩⟩ := x
  kernel_rfl
theorem Zzw (k : Nat) : Ctr Tryz.prog k 91 (mk Zrn ZwU Zpw) :=
  ZE (fn := Tryz.f91) (Zh Zd) (by kernel_rfl) (by kernel_rfl) (by kernel_rfl) (by kernel_rfl) (ZMw k)
noncomputable abbrev ZJo : Nat × Callee := (91, mk Zrn ZwU Zpw)
abbrev Zj3 : List Kd := [.view (.fl .f64)]
abbrev Zsm : Kd := .view (.fl .f64)
noncomputable def ZMD (k : Nat) := Qo k []
def Zdf (k : Nat) : Nat × Unit → Option (Nat × Unit)
  | (a0, ()) => some ((IntKind.u64.wrap (Int.ofNat (BitVec.ofInt (64 : Nat) (Int.ofNat a0) &&& ~~~BitVec.ofInt (64 : Nat) (9223372036854775808 : Int)).toNat)).toNat, ())
def Zca (k : Nat) := Zdf k
theorem ZHG (k : Nat) (x : Kd.dens Zj3) : ZD (ZMD k) nA Tryz.f143 Zj3 Zsm x = Zca k x := by
  show _ = Zdf k x
  obtain ⟨a0, ⟨⟩⟩ := x
  kernel_rfl
theorem Zni (k : Nat) : Ctr Tryz.prog k 143 (mk Zj3 Zsm Zca) :=
  ZE (fn := Tryz.f143) (Zh Zd) (by kernel_rfl) (by kernel_rfl) (by kernel_rfl) (by kernel_rfl) (ZHG k)
noncomputable abbrev Zxz : Nat × Callee := (143, mk Zj3 Zsm Zca)
abbrev Zk7 : List Kd := [.view (.fl .f64), .view (.fl .f64)]
abbrev ZrK : Kd := .view (.fl .f64)
noncomputable def ZKP (k : Nat) := Qo k []
def Zo0 (k : Nat) : Nat × Nat × Unit → Option (Nat × Unit)
  | (a0, a1, ()) => some ((IntKind.u64.wrap (Int.ofNat (BitVec.ofInt (64 : Nat) (IntKind.u64.wrap (Int.ofNat (BitVec.ofInt (64 : Nat) (Int.ofNat a0) &&& ~~~BitVec.ofInt (64 : Nat) (9223372036854775808 : Int)).toNat)) ||| BitVec.ofInt (64 : Nat) (IntKind.u64.wrap (Int.ofNat (BitVec.ofInt (64 : Nat) (Int.ofNat a1) &&& BitVec.ofInt (64 : Nat) (9223372036854775808 : Int)).toNat))).toNat)).toNat, ())
def Znk (k : Nat) := Zo0 k
theorem ZIs (k : Nat) (x : Kd.dens Zk7) : ZD (ZKP k) nA Tryz.f193 Zk7 ZrK x = Znk k x := by
  show _ = Zo0 k x
  obtain ⟨a0, ⟨a1, ⟨⟩⟩⟩ := x
  kernel_rfl
theorem ZvG (k : Nat) : Ctr Tryz.prog k 193 (mk Zk7 ZrK Znk) :=
  ZE (fn := Tryz.f193) (Zh Zd) (by kernel_rfl) (by kernel_rfl) (by kernel_rfl) (by kernel_rfl) (ZIs k)
noncomputable abbrev ZEZ : Nat × Callee := (193, mk Zk7 ZrK Znk)
abbrev ZkJ : List Kd := [.view (.fl .f64)]
abbrev Zs9 : Kd := .view (.fl .f64)
noncomputable def ZMd (k : Nat) := Qo k [Zxz, ZEZ]
def Zp6 (k : Nat) : Nat × Unit → Option (Nat × Unit)
  | (a0, ()) => (Zca k (a0, ())).bind fun y => bif FloatKind.f64.format.order y.1 (4607182418800017408 : Nat) == some Ordering.lt then (Znk k (0, a0, ())).bind fun y => some (y.1, ()) else bif decide (IntKind.u64.wrap (IntKind.u64.wrap (Int.ofNat (BitVec.ofInt (64 : Nat) ((Int.ofNat a0).fdiv (4503599627370496 : Int)) &&& BitVec.ofInt (64 : Nat) (2047 : Int)).toNat) - (1023 : Int)) < (52 : Int)) then bif decide ((0 : Int) ≤ IntKind.u64.wrap ((52 : Int) - IntKind.u64.wrap (IntKind.u64.wrap (Int.ofNat (BitVec.ofInt (64 : Nat) ((Int.ofNat a0).fdiv (4503599627370496 : Int)) &&& BitVec.ofInt (64 : Nat) (2047 : Int)).toNat) - (1023 : Int)))) then some ((IntKind.u64.wrap (Int.ofNat (BitVec.ofInt (64 : Nat) (Int.ofNat a0) &&& ~~~BitVec.ofInt (64 : Nat) (IntKind.u64.wrap (IntKind.u64.wrap ((1 : Int) * (2 : Int) ^ min (IntKind.u64.wrap ((52 : Int) - IntKind.u64.wrap (IntKind.u64.wrap (Int.ofNat (BitVec.ofInt (64 : Nat) ((Int.ofNat a0).fdiv (4503599627370496 : Int)) &&& BitVec.ofInt (64 : Nat) (2047 : Int)).toNat) - (1023 : Int)))).toNat (64 : Nat)) - (1 : Int)))).toNat)).toNat, ()) else none else some ((Int.ofNat a0).toNat, ())
def Zy6 (k : Nat) := Zp6 k
theorem ZIe (k : Nat) (x : Kd.dens ZkJ) : ZD (ZMd k) nA Tryz.f177 ZkJ Zs9 x = Zy6 k x := by
  show _ = Zp6 k x
  obtain ⟨a0, ⟨⟩⟩ := x
  kernel_rfl
theorem ZFe (k : Nat) : Ctr Tryz.prog k 177 (mk ZkJ Zs9 Zy6) :=
  ZE (fn := Tryz.f177) (Zh (Za (Zni k) (Za (ZvG k) Zd))) (by kernel_rfl) (by kernel_rfl) (by kernel_rfl) (by kernel_rfl) (ZIe k)
noncomputable abbrev ZKu : Nat × Callee := (177, mk ZkJ Zs9 Zy6)
abbrev Zkr : List Kd := [.view (.fl .f64)]
abbrev Ztd : Kd := .view (.fl .f64)
noncomputable def ZLf (k : Nat) := Qo k [ZKu]
def Zdv (k : Nat) : Nat × Unit → Option (Nat × Unit)
  | (a0, ()) => (Q2 Ieee.Toward.zero a0).bind fun y => some (y, ())
def ZcC (k : Nat) := Zdv k
theorem ZI6 (k : Nat) (x : Kd.dens Zkr) : ZD (ZLf k) nA Tryz.f141 Zkr Ztd x = ZcC k x := by
  show _ = Zdv k x
  obtain ⟨a0, ⟨⟩⟩ := x
  kernel_rfl
theorem Zvz (k : Nat) : Ctr Tryz.prog k 141 (mk Zkr Ztd ZcC) :=
  ZE (fn := Tryz.f141) (Zh (Za (ZFe k) Zd)) (by kernel_rfl) (by kernel_rfl) (by kernel_rfl) (by kernel_rfl) (ZI6 k)
noncomputable abbrev ZFI : Nat × Callee := (141, mk Zkr Ztd ZcC)
abbrev Zkt : List Kd := [.view (.fl .f64), .view (.int .i64)]
abbrev ZqL : Kd := .view .bool
noncomputable def ZLD (k : Nat) := Qo k [Zxz]
def Zdl (k : Nat) : Nat × Int × Unit → Option (Bool × Unit)
  | (a0, a1, ()) => bif a1 == (0 : Int) then (Zca k (a0, ())).bind fun y => some (FloatKind.f64.format.order y.1 (9218868437227405311 : Nat) == some Ordering.gt, ()) else bif decide (a1 < (0 : Int)) then some (FloatKind.f64.format.order (a0 ^^^ (9223372036854775808 : Nat)) (9218868437227405311 : Nat) == some Ordering.gt, ()) else some (FloatKind.f64.format.order a0 (9218868437227405311 : Nat) == some Ordering.gt, ())
def ZhX (k : Nat) := Zdl k
theorem ZHp (k : Nat) (x : Kd.dens Zkt) : ZD (ZLD k) nA Tryz.f142 Zkt ZqL x = ZhX k x := by
  show _ = Zdl k x
  obtain ⟨a0, ⟨a1, ⟨⟩⟩⟩ := x
  kernel_rfl
theorem Zvs (k : Nat) : Ctr Tryz.prog k 142 (mk Zkt ZqL ZhX) :=
  ZE (fn := Tryz.f142) (Zh (Za (Zni k) Zd)) (by kernel_rfl) (by kernel_rfl) (by kernel_rfl) (by kernel_rfl) (ZHp k)
noncomputable abbrev ZDq : Nat × Callee := (142, mk Zkt ZqL ZhX)
abbrev ZbC : List Kd := [.view (.sl (.cx .f64))]
abbrev Zdt : Kd := .view (.int .i64)
noncomputable def Zfm (k : Nat) := Qo k [ZFI, ZDq, Zxz]
def Zry : Nat → Ann := fun id => bif Nat.beq id 14 then ⟨[37, 38, 36], []⟩ else bif Nat.beq id 7 then ⟨[23, 22, 14, 13, 12, 0], []⟩ else bif Nat.beq id 4 then ⟨[13, 14, 12, 0], []⟩ else ⟨[], []⟩
abbrev ZsH := Int × Nat × Nat × Int × Int × List (Nat × Nat) × List (Nat × Nat)
abbrev ZjX := ZsH → Option (Int × Unit)
abbrev ZqW := Int × Int × List (Nat × Nat)
abbrev ZkU := ZqW → Option (Int × Unit)
abbrev ZsR := Int × Int × List (Nat × Nat) × List (Nat × Nat)
abbrev Zc4 := ZsR → Option (Int × Unit)
def ZHq : ZsH → St
  | (v0, v1, v2, v3, v4, v5, v6) => St.mk (ZC [(nat_lit 23, Zp v0), (nat_lit 22, AV.agg [AV.val (PV.v (Value.float FloatKind.f64 v1)), AV.val (PV.v (Value.float FloatKind.f64 v2))]), (nat_lit 14, Zp v3), (nat_lit 13, Zp v4), (nat_lit 12, AV.val (PV.sl (Ty.cx FloatKind.f64) v5)), (nat_lit 0, AV.val (PV.sl (Ty.cx FloatKind.f64) v6))]) (ZA [])
def X4 (k : Nat) (L1 : Zc4) (L2 : ZjX) : ZjX
  | (v0, v1, v2, v3, v4, v5, v6) => bif decide (v0 < (2 : Int)) then bif decide ((0 : Int) ≤ v0 ∧ v0 < (2 : Int)) then (ZcC k ([v1, v2].getD v0.toNat (0 : Nat), ())).bind fun y => bif FloatKind.f64.format.order y.1 ([v1, v2].getD v0.toNat (0 : Nat)) != some Ordering.eq then some (2, ()) else (ZhX k ([v1, v2].getD v0.toNat (0 : Nat), 0, ())).bind fun y => bif y.1 then some (2, ()) else L2 (IntKind.i64.wrap (v0 + (1 : Int)), v1, v2, v3, v4, v5, v6) else none else L1 (v4, IntKind.i64.wrap (v3 + (1 : Int)), v5, v6)
def ZdL (k : Nat) (L1 : Zc4) : ZjX := Zr (fun L2 => X4 k L1 L2) k
noncomputable def Zg2 (k : Nat) (n1 : Nat) (n : Nat) (v : ZsH) : Option (Int × Unit) :=
  ZB (Zfm k) Zry [] [1, 1, 0, 1, 0, 0, 1, 1, 0, 0, 1, 1, 0] [n1] (W0 Tryz.f100) (Xq (Zfm k) Tryz.f100 ZbC Zdt [] []) n (ZHq v)
def ZHA : ZqW → St
  | (v0, v1, v2) => St.mk (ZC [(nat_lit 37, Zp v0), (nat_lit 38, Zp v1), (nat_lit 36, AV.val (PV.sl (Ty.cx FloatKind.f64) v2))]) (ZA [])
def YL (k : Nat) (L3 : ZkU) : ZkU
  | (v0, v1, v2) => bif decide (v1 < v0) then bif decide ((0 : Int) ≤ v1 ∧ v1 < Int.ofNat v2.length) then (Zca k ((v2.getD v1.toNat ((0 : Nat), (0 : Nat))).1, ())).bind fun y => (Zca k ((v2.getD v1.toNat ((0 : Nat), (0 : Nat))).2, ())).bind fun y_1 => (ZvC FloatKind.f64 y.1 y_1.1).bind fun y => bif FloatKind.f64.format.order y (4715268809856909312 : Nat) == some Ordering.gt then some (12, ()) else L3 (v0, IntKind.i64.wrap (v1 + (1 : Int)), v2) else none else some (0, ())
def Zdr (k : Nat) : ZkU := Zr (fun L3 => YL k L3) k
noncomputable def ZfX (k : Nat) (n : Nat) (v : ZqW) : Option (Int × Unit) :=
  ZB (Zfm k) Zry [] [1, 1, 1, 0, 1, 0] [] (W0 Tryz.f100) (Xq (Zfm k) Tryz.f100 ZbC Zdt [] []) n (ZHA v)
def ZIx : ZsR → St
  | (v0, v1, v2, v3) => St.mk (ZC [(nat_lit 13, Zp v0), (nat_lit 14, Zp v1), (nat_lit 12, AV.val (PV.sl (Ty.cx FloatKind.f64) v2)), (nat_lit 0, AV.val (PV.sl (Ty.cx FloatKind.f64) v3))]) (ZA [])
def Y6 (k : Nat) (L2 : ZjX) (L3 : ZkU) (L1 : Zc4) : Zc4
  | (v0, v1, v2, v3) => bif decide (v1 < v0) then bif decide ((0 : Int) ≤ v1 ∧ v1 < Int.ofNat v2.length) then L2 ((0 : Int), (v2.getD v1.toNat ((0 : Nat), (0 : Nat))).1, (v2.getD v1.toNat ((0 : Nat), (0 : Nat))).2, v1, v0, v2, v3) else none else L3 (Int.ofNat v3.length, (0 : Int), v3)
def Zls (k : Nat) : Zc4 := Zr (fun L1 => Y6 k (ZdL k L1) (Zdr k) L1) k
noncomputable def Yl (k : Nat) (n : Nat) (v : ZsR) : Option (Int × Unit) :=
  ZB (Zfm k) Zry [] [1, 1, 0, 1, 0] [] (W0 Tryz.f100) (Xq (Zfm k) Tryz.f100 ZbC Zdt [] []) n (ZIx v)
def Zc9 (k : Nat) (L1 : Zc4) : List (Nat × Nat) × Unit → Option (Int × Unit)
  | (a0, ()) => bif decide ((8192 : Int) < Int.ofNat a0.length) then some (14, ()) else L1 (Int.ofNat a0.length, (0 : Int), a0, a0)
def Znd (k : Nat) := Zc9 k (Zls k)
theorem ZCb (k : Nat) (n1 : Nat) : ∀ n, Zg2 k n1 n = Zr (fun L2 => X4 k (Yl k n1) L2) n :=
  Zn (fun v => by kernel_rfl) (fun n v => by
    show Zg2 k n1 (n + 1) v = X4 k (Yl k n1) (Zg2 k n1 n) v
    obtain ⟨v0, v1, v2, v3, v4, v5, v6⟩ := v
    kernel_rfl)
theorem ZBz (k : Nat) : ∀ n, ZfX k n = Zr (fun L3 => YL k L3) n :=
  Zn (fun v => by kernel_rfl) (fun n v => by
    show ZfX k (n + 1) v = YL k (ZfX k n) v
    obtain ⟨v0, v1, v2⟩ := v
    kernel_rfl)
theorem ZBC (k : Nat) : ∀ n, Yl k n = Zr (fun L1 => Y6 k (ZdL k L1) (Zdr k) L1) n :=
  Zn (fun v => by kernel_rfl) (fun n v => by
    show Yl k (n + 1) v = Y6 k (ZdL k (Yl k n)) (Zdr k) (Yl k n) v
    rw [show (ZdL k (Yl k n)) = Zg2 k n k from (ZCb k n k).symm, show (Zdr k) = ZfX k k from (ZBz k k).symm]
    obtain ⟨v0, v1, v2, v3⟩ := v
    kernel_rfl)
theorem ZGY (k : Nat) (x : Kd.dens ZbC) : ZD (Zfm k) Zry Tryz.f100 ZbC Zdt x = Znd k x := by
  show _ = Zc9 k (Zls k) x
  rw [show Zls k = Yl k k from (ZBC k k).symm]
  obtain ⟨a0, ⟨⟩⟩ := x
  kernel_rfl
theorem ZCD (k : Nat) : Ctr Tryz.prog k 100 (mk ZbC Zdt Znd) :=
  ZE (fn := Tryz.f100) (Zh (Za (Zvz k) (Za (Zvs k) (Za (Zni k) Zd)))) (by kernel_rfl) (by kernel_rfl) (by kernel_rfl) (by kernel_rfl) (ZGY k)
noncomputable abbrev ZKg : Nat × Callee := (100, mk ZbC Zdt Znd)
abbrev ZjJ : List Kd := [.view (.cx .f64)]
abbrev ZtK : Kd := .view (.fl .f64)
noncomputable def ZKG (k : Nat) := Qo k []
def ZdM (k : Nat) : (Nat × Nat) × Unit → Option (Nat × Unit)
  | (a0, ()) => (cMulBits a0.1 a0.2 (4607182418800017408 : Nat) (4607182418800017408 : Nat)).bind fun y => some (y.1, ())
def ZeI (k : Nat) := ZdM k
theorem ZHZ (k : Nat) (x : Kd.dens ZjJ) : ZD (ZKG k) nA Tryz.f101 ZjJ ZtK x = ZeI k x := by
  show _ = ZdM k x
  obtain ⟨a0, ⟨⟩⟩ := x
  kernel_rfl
theorem ZEa (k : Nat) : Ctr Tryz.prog k 101 (mk ZjJ ZtK ZeI) :=
  ZE (fn := Tryz.f101) (Zh Zd) (by kernel_rfl) (by kernel_rfl) (by kernel_rfl) (by kernel_rfl) (ZHZ k)
noncomputable abbrev ZMA : Nat × Callee := (101, mk ZjJ ZtK ZeI)
abbrev ZjY : List Kd := [.view (.fl .f64)]
abbrev ZrM : Kd := .view .bool
noncomputable def ZKk (k : Nat) := Qo k []
def Zo9 (k : Nat) : Nat × Unit → Option (Bool × Unit)
  | (a0, ()) => some (FloatKind.f64.format.order a0 a0 != some Ordering.eq, ())
def Ztb (k : Nat) := Zo9 k
theorem ZGu (k : Nat) (x : Kd.dens ZjY) : ZD (ZKk k) nA Tryz.f180 ZjY ZrM x = Ztb k x := by
  show _ = Zo9 k x
  obtain ⟨a0, ⟨⟩⟩ := x
  kernel_rfl
theorem ZGj (k : Nat) : Ctr Tryz.prog k 180 (mk ZjY ZrM Ztb) :=
  ZE (fn := Tryz.f180) (Zh Zd) (by kernel_rfl) (by kernel_rfl) (by kernel_rfl) (by kernel_rfl) (ZGu k)
noncomputable abbrev ZL9 : Nat × Callee := (180, mk ZjY ZrM Ztb)
abbrev Zj0 : List Kd := [.view (.fl .f64)]
abbrev Zrh : Kd := .tup [.view (.fl .f64), .view (.fl .f64)]
noncomputable def ZMv (k : Nat) := Qo k [ZFI, ZEZ]
def Zpu (k : Nat) : Nat × Unit → Option ((Nat × Nat × Unit) × Unit)
  | (a0, ()) => (ZcC k (a0, ())).bind fun y => (floatBits BinOp.sub FloatKind.f64 a0 y.1).bind fun y_1 => (Znk k (y_1, a0, ())).bind fun y_2 => some ((y.1, y_2.1, ()), ())
def Zmy (k : Nat) := Zpu k
theorem ZHi (k : Nat) (x : Kd.dens Zj0) : ZD (ZMv k) nA Tryz.f181 Zj0 Zrh x = Zmy k x := by
  show _ = Zpu k x
  obtain ⟨a0, ⟨⟩⟩ := x
  kernel_rfl
theorem ZFN (k : Nat) : Ctr Tryz.prog k 181 (mk Zj0 Zrh Zmy) :=
  ZE (fn := Tryz.f181) (Zh (Za (Zvz k) (Za (ZvG k) Zd))) (by kernel_rfl) (by kernel_rfl) (by kernel_rfl) (by kernel_rfl) (ZHi k)
noncomputable abbrev ZLo : Nat × Callee := (181, mk Zj0 Zrh Zmy)
abbrev Zlf : List Kd := [.view (.fl .f64)]
abbrev Zro : Kd := .view (.fl .f64)
noncomputable def ZJ0 (k : Nat) := Qo k [ZDq, ZL9, ZLo]
def ZpC (k : Nat) : Nat × Unit → Option (Nat × Unit)
  | (a0, ()) => bif FloatKind.f64.format.order a0 (0 : Nat) == some Ordering.eq then some (a0, ()) else (Ztb k (a0, ())).bind fun y => bif y.1 then some (a0, ()) else (ZhX k (a0, 0, ())).bind fun y => bif y.1 then some (a0, ()) else bif FloatKind.f64.format.order a0 (0 : Nat) == some Ordering.lt then (Zmy k (a0 ^^^ (9223372036854775808 : Nat), ())).bind fun y => bif FloatKind.f64.format.order y.1.2.1 (0 : Nat) != some Ordering.eq then (floatBits BinOp.add FloatKind.f64 y.1.1 (4607182418800017408 : Nat)).bind fun y => some (y ^^^ (9223372036854775808 : Nat), ()) else some (y.1.1 ^^^ (9223372036854775808 : Nat), ()) else (Zmy k (a0, ())).bind fun y => some (y.1.1, ())
def ZxZ (k : Nat) := ZpC k
theorem ZGt (k : Nat) (x : Kd.dens Zlf) : ZD (ZJ0 k) nA Tryz.f145 Zlf Zro x = ZxZ k x := by
  show _ = ZpC k x
  obtain ⟨a0, ⟨⟩⟩ := x
  kernel_rfl
theorem ZD2 (k : Nat) : Ctr Tryz.prog k 145 (mk Zlf Zro ZxZ) :=
  ZE (fn := Tryz.f145) (Zh (Za (Zvs k) (Za (ZGj k) (Za (ZFN k) Zd)))) (by kernel_rfl) (by kernel_rfl) (by kernel_rfl) (by kernel_rfl) (ZGt k)
noncomputable abbrev ZLj : Nat × Callee := (145, mk Zlf Zro ZxZ)
abbrev Zll : List Kd := [.view (.fl .f64)]
abbrev ZsE : Kd := .view (.fl .f64)
noncomputable def ZLd (k : Nat) := Qo k [ZLj]
def Zdy (k : Nat) : Nat × Unit → Option (Nat × Unit)
  | (a0, ()) => (Q2 Ieee.Toward.down a0).bind fun y => some (y, ())
def ZlN (k : Nat) := Zdy k
theorem ZH8 (k : Nat) (x : Kd.dens Zll) : ZD (ZLd k) nA Tryz.f102 Zll ZsE x = ZlN k x := by
  show _ = Zdy k x
  obtain ⟨a0, ⟨⟩⟩ := x
  kernel_rfl
theorem ZEf (k : Nat) : Ctr Tryz.prog k 102 (mk Zll ZsE ZlN) :=
  ZE (fn := Tryz.f102) (Zh (Za (ZD2 k) Zd)) (by kernel_rfl) (by kernel_rfl) (by kernel_rfl) (by kernel_rfl) (ZH8 k)
noncomputable abbrev ZLe : Nat × Callee := (102, mk Zll ZsE ZlN)
abbrev Zn0 : List Kd := [.view (.sl (.cx .f64)), .view (.int .i64)]
abbrev Ztl : Kd := .tup [.view (.sl (.int .i64)), .view (.sl (.int .i64)), .view (.int .i64)]
noncomputable def ZFl (k : Nat) := Qo k [ZJo, ZKg, ZMA, ZLe]
def ZJF : Nat → Ann := fun id => bif Nat.beq id 8 then ⟨[23, 24, 22, 1, 8, 9], [.slot 8 ((Ty.int IntKind.i64)), .slot 9 ((Ty.int IntKind.i64))]⟩ else ⟨[], []⟩
abbrev Zw0 := Int × Int × List (Nat × Nat) × Int × List Int × List Int
abbrev ZtM := Zw0 → Option ((List Int × List Int × Int × Unit) × Unit)
def ZK0 : Zw0 → St
  | (v0, v1, v2, v3, v4, v5) => St.mk (ZC [(nat_lit 23, Zp v0), (nat_lit 24, Zp v1), (nat_lit 22, AV.val (PV.sl (Ty.cx FloatKind.f64) v2)), (nat_lit 1, Zp v3), (nat_lit 8, AV.own (nat_lit 8192)), (nat_lit 9, AV.own (nat_lit 8193))]) (ZA [(nat_lit 8192, RS.live (Res.arr (Ty.int IntKind.i64) v4 false)), (nat_lit 8193, RS.live (Res.arr (Ty.int IntKind.i64) v5 false))])
def ZaX (k : Nat) (L1 : ZtM) : ZtM
  | (v0, v1, v2, v3, v4, v5) => bif decide (v1 < v0) then bif decide ((0 : Int) ≤ v1 ∧ v1 < Int.ofNat v2.length) then bif v3 == (8 : Int) then (ZeI k (((v2.getD v1.toNat ((0 : Nat), (0 : Nat))).1, (v2.getD v1.toNat ((0 : Nat), (0 : Nat))).2), ())).bind fun y => (floatToIntVal FloatKind.f64 (v2.getD v1.toNat ((0 : Nat), (0 : Nat))).1 IntKind.i64).bind fun y_1 => bif decide (v4.length + [y_1].length < (2147483648 : Nat)) then (floatToIntVal FloatKind.f64 y.1 IntKind.i64).bind fun y => bif decide (v5.length + [y].length < (2147483648 : Nat)) then L1 (v0, IntKind.i64.wrap (v1 + (1 : Int)), v2, v3, v4 ++ [y_1], v5 ++ [y]) else none else none else bif v3 == (9 : Int) then (ZeI k (((v2.getD v1.toNat ((0 : Nat), (0 : Nat))).1, (v2.getD v1.toNat ((0 : Nat), (0 : Nat))).2), ())).bind fun y => (floatToIntVal FloatKind.f64 y.1 IntKind.i64).bind fun y => bif decide (v4.length + [y].length < (2147483648 : Nat)) then (floatToIntVal FloatKind.f64 (v2.getD v1.toNat ((0 : Nat), (0 : Nat))).2 IntKind.i64).bind fun y_1 => bif decide (v5.length + [y_1].length < (2147483648 : Nat)) then L1 (v0, IntKind.i64.wrap (v1 + (1 : Int)), v2, v3, v4 ++ [y], v5 ++ [y_1]) else none else none else bif v3 == (10 : Int) then (floatBits BinOp.add FloatKind.f64 (v2.getD v1.toNat ((0 : Nat), (0 : Nat))).1 (v2.getD v1.toNat ((0 : Nat), (0 : Nat))).2).bind fun y => (floatBits BinOp.quo FloatKind.f64 y (4611686018427387904 : Nat)).bind fun y => (ZlN k (y, ())).bind fun y => (ZeI k (((v2.getD v1.toNat ((0 : Nat), (0 : Nat))).1, (v2.getD v1.toNat ((0 : Nat), (0 : Nat))).2), ())).bind fun y_1 => (floatToIntVal FloatKind.f64 y.1 IntKind.i64).bind fun y => bif decide (v4.length + [y].length < (2147483648 : Nat)) then (floatToIntVal FloatKind.f64 y_1.1 IntKind.i64).bind fun y_2 => bif decide (v5.length + [y_2].length < (2147483648 : Nat)) then L1 (v0, IntKind.i64.wrap (v1 + (1 : Int)), v2, v3, v4 ++ [y], v5 ++ [y_2]) else none else none else (floatToIntVal FloatKind.f64 (v2.getD v1.toNat ((0 : Nat), (0 : Nat))).1 IntKind.i64).bind fun y => bif decide (v4.length + [y].length < (2147483648 : Nat)) then (floatToIntVal FloatKind.f64 (v2.getD v1.toNat ((0 : Nat), (0 : Nat))).2 IntKind.i64).bind fun y_1 => bif decide (v5.length + [y_1].length < (2147483648 : Nat)) then L1 (v0, IntKind.i64.wrap (v1 + (1 : Int)), v2, v3, v4 ++ [y], v5 ++ [y_1]) else none else none else none else some ((v4, v5, 0, ()), ())
def Zr2 (k : Nat) : ZtM := Zr (fun L1 => ZaX k L1) k
noncomputable def Zj1 (k : Nat) (n : Nat) (v : Zw0) : Option ((List Int × List Int × Int × Unit) × Unit) :=
  ZB (ZFl k) ZJF [] [1, 1, 1, 1, 0, 1, 0] [] (W0 Tryz.f61) (Xq (ZFl k) Tryz.f61 Zn0 Ztl [] []) n (ZK0 v)
def Zgl (k : Nat) (L1 : ZtM) : List (Nat × Nat) × Int × Unit → Option ((List Int × List Int × Int × Unit) × Unit)
  | (a0, a1, ()) => (Zpw k (a1, ())).bind fun y => bif !y.1 then some (([], [], 1, ()), ()) else (Znd k (a0, ())).bind fun y => bif y.1 != (0 : Int) then some (([], [], y.1, ()), ()) else L1 (Int.ofNat a0.length, (0 : Int), a0, a1, [], [])
def ZlO (k : Nat) := Zgl k (Zr2 k)
theorem ZGe (k : Nat) : ∀ n, Zj1 k n = Zr (fun L1 => ZaX k L1) n :=
  Zn (fun v => by kernel_rfl) (fun n v => by
    show Zj1 k (n + 1) v = ZaX k (Zj1 k n) v
    obtain ⟨v0, v1, v2, v3, v4, v5⟩ := v
    kernel_rfl)
theorem ZLP (k : Nat) (x : Kd.dens Zn0) : ZD (ZFl k) ZJF Tryz.f61 Zn0 Ztl x = ZlO k x := by
  show _ = Zgl k (Zr2 k) x
  rw [show Zr2 k = Zj1 k k from (ZGe k k).symm]
  obtain ⟨a0, ⟨a1, ⟨⟩⟩⟩ := x
  kernel_rfl
theorem Zsc (k : Nat) : Ctr Tryz.prog k 61 (mk Zn0 Ztl ZlO) :=
  ZE (fn := Tryz.f61) (Zh (Za (Zzw k) (Za (ZCD k) (Za (ZEa k) (Za (ZEf k) Zd))))) (by kernel_rfl) (by kernel_rfl) (by kernel_rfl) (by kernel_rfl) (ZLP k)
noncomputable abbrev ZEj : Nat × Callee := (61, mk Zn0 Ztl ZlO)
abbrev ZlY : List Kd := [.view (.sl (.int .i64))]
abbrev ZrN : Kd := .view (.int .i64)
noncomputable def ZEn (k : Nat) := Qo k []
def ZJz : Nat → Ann := fun id => bif Nat.beq id 3 then ⟨[8, 9, 7, 3, 4], []⟩ else ⟨[], []⟩
abbrev ZwP := Int × Int × List Int × Int × Int
abbrev ZsQ := ZwP → Option (Int × Unit)
def ZLz : ZwP → St
  | (v0, v1, v2, v3, v4) => St.mk (ZC [(nat_lit 8, Zp v0), (nat_lit 9, Zp v1), (nat_lit 7, XI v2), (nat_lit 3, Zp v3), (nat_lit 4, Zp v4)]) (ZA [])
def Zae (k : Nat) (L1 : ZsQ) : ZsQ
  | (v0, v1, v2, v3, v4) => bif decide (v1 < v0) then bif decide ((0 : Int) ≤ v1 ∧ v1 < Int.ofNat v2.length) then L1 (v0, IntKind.i64.wrap (v1 + (1 : Int)), v2, IntKind.i64.wrap (v3 + if IntKind.i64.wrap (v2.getD v1.toNat 0 - v4) < IntKind.i64.wrap (v4 - v2.getD v1.toNat 0) then IntKind.i64.wrap (v4 - v2.getD v1.toNat 0) else IntKind.i64.wrap (v2.getD v1.toNat 0 - v4)), v2.getD v1.toNat 0) else none else some (v3, ())
def ZtI (k : Nat) : ZsQ := Zr (fun L1 => Zae k L1) k
noncomputable def Zkl (k : Nat) (n : Nat) (v : ZwP) : Option (Int × Unit) :=
  ZB (ZEn k) ZJz [] [1, 1, 0, 1, 0] [] (W0 Tryz.f99) (Xq (ZEn k) Tryz.f99 ZlY ZrN [] []) n (ZLz v)
def Zgq (k : Nat) (L1 : ZsQ) : List Int × Unit → Option (Int × Unit)
  | (a0, ()) => L1 (Int.ofNat a0.length, (0 : Int), a0, (0 : Int), (0 : Int))
def Zp2 (k : Nat) := Zgq k (ZtI k)
theorem ZDr (k : Nat) : ∀ n, Zkl k n = Zr (fun L1 => Zae k L1) n :=
  Zn (fun v => by kernel_rfl) (fun n v => by
    show Zkl k (n + 1) v = Zae k (Zkl k n) v
    obtain ⟨v0, v1, v2, v3, v4⟩ := v
    kernel_rfl)
theorem ZMk (k : Nat) (x : Kd.dens ZlY) : ZD (ZEn k) ZJz Tryz.f99 ZlY ZrN x = Zp2 k x := by
  show _ = Zgq k (ZtI k) x
  rw [show ZtI k = Zkl k k from (ZDr k k).symm]
  obtain ⟨a0, ⟨⟩⟩ := x
  kernel_rfl
theorem ZHN (k : Nat) : Ctr Tryz.prog k 99 (mk ZlY ZrN Zp2) :=
  ZE (fn := Tryz.f99) (Zh Zd) (by kernel_rfl) (by kernel_rfl) (by kernel_rfl) (by kernel_rfl) (ZMk k)
noncomputable abbrev ZMY : Nat × Callee := (99, mk ZlY ZrN Zp2)
abbrev Zn9 : List Kd := [.view (.sl (.cx .f64))]
abbrev ZtD : Kd := .tup [.view (.int .i64), .view (.int .i64)]
noncomputable def ZD8 (k : Nat) := Qo k [ZEj, ZMY]
def ZJk : Nat → Ann := fun id => bif Nat.beq id 3 then ⟨[13, 12, 0, 5, 4], []⟩ else ⟨[], []⟩
abbrev Zxj := Int × Int × Int × Int × Int × List (Nat × Nat) × Int × Int
abbrev Zta := Zxj → Option ((Int × Int × Unit) × Unit)
def ZLp : Zxj → St
  | (v0, v1, v2, v3, v4, v5, v6, v7) => St.mk (ZC [(nat_lit 13, Zp v0), (nat_lit 12, AV.agg [Zp v1, Zp v2, Zp v3, Zp v4]), (nat_lit 0, AV.val (PV.sl (Ty.cx FloatKind.f64) v5)), (nat_lit 5, Zp v6), (nat_lit 4, Zp v7)]) (ZA [])
def Ki (k : Nat) (L1 : Zta) : Zta
  | (v0, v1, v2, v3, v4, v5, v6, v7) => bif decide (v0 < (4 : Int)) then bif decide ((0 : Int) ≤ v0 ∧ v0 < (4 : Int)) then (ZlO k (v5, [v1, v2, v3, v4].getD v0.toNat (0 : Int), ())).bind fun y => bif y.1.2.2.1 != (0 : Int) then some ((0, y.1.2.2.1, ()), ()) else (Zp2 k (y.1.1, ())).bind fun y_1 => (Zp2 k (y.1.2.1, ())).bind fun y => bif decide (v6 < (0 : Int)) then L1 (IntKind.i64.wrap (v0 + (1 : Int)), v1, v2, v3, v4, v5, IntKind.i64.wrap (y_1.1 + y.1), [v1, v2, v3, v4].getD v0.toNat (0 : Int)) else bif decide (IntKind.i64.wrap (y_1.1 + y.1) < v6) then L1 (IntKind.i64.wrap (v0 + (1 : Int)), v1, v2, v3, v4, v5, IntKind.i64.wrap (y_1.1 + y.1), [v1, v2, v3, v4].getD v0.toNat (0 : Int)) else L1 (IntKind.i64.wrap (v0 + (1 : Int)), v1, v2, v3, v4, v5, v6, v7) else none else some ((v7, 0, ()), ())
def ZxH (k : Nat) : Zta := Zr (fun L1 => Ki k L1) k
noncomputable def ZlB (k : Nat) (n : Nat) (v : Zxj) : Option ((Int × Int × Unit) × Unit) :=
  ZB (ZD8 k) ZJk [] [1, 1, 0, 1, 0] [] (W0 Tryz.f60) (Xq (ZD8 k) Tryz.f60 Zn9 ZtD [] []) n (ZLp v)
def Zv5 (k : Nat) (L1 : Zta) : List (Nat × Nat) × Unit → Option ((Int × Int × Unit) × Unit)
  | (a0, ()) => L1 ((0 : Int), (0 : Int), (8 : Int), (9 : Int), (10 : Int), a0, (-1 : Int), (0 : Int))
def ZuS (k : Nat) := Zv5 k (ZxH k)
theorem ZCZ (k : Nat) : ∀ n, ZlB k n = Zr (fun L1 => Ki k L1) n :=
  Zn (fun v => by kernel_rfl) (fun n v => by
    show ZlB k (n + 1) v = Ki k (ZlB k n) v
    obtain ⟨v0, v1, v2, v3, v4, v5, v6, v7⟩ := v
    kernel_rfl)
theorem ZLT (k : Nat) (x : Kd.dens Zn9) : ZD (ZD8 k) ZJk Tryz.f60 Zn9 ZtD x = ZuS k x := by
  show _ = Zv5 k (ZxH k) x
  rw [show ZxH k = ZlB k k from (ZCZ k k).symm]
  obtain ⟨a0, ⟨⟩⟩ := x
  kernel_rfl
theorem ZHX (k : Nat) : Ctr Tryz.prog k 60 (mk Zn9 ZtD ZuS) :=
  ZE (fn := Tryz.f60) (Zh (Za (Zsc k) (Za (ZHN k) Zd))) (by kernel_rfl) (by kernel_rfl) (by kernel_rfl) (by kernel_rfl) (ZLT k)
noncomputable abbrev ZNI : Nat × Callee := (60, mk Zn9 ZtD ZuS)
abbrev Zug : List Kd := [.view frameT]
abbrev ZyV : Kd := .tup [.view (.sl (.sl (.int .i64))), .view (.int .i64), .view (.int .i64)]
noncomputable def ZMR (k : Nat) := Qo k [ZJe, ZNI, ZEj]
def ZgR (k : Nat) : (Int × List (List Int) × Unit) × Unit → Option ((List (List Int) × Int × Int × Unit) × Unit)
  | ((a0, a1, ()), ()) => bif Int.ofNat a1.length == (1 : Int) then some ((a1, 0, 0, ()), ()) else bif decide ((0 : Int) ≤ (0 : Int) ∧ (0 : Int) < Int.ofNat a1.length) then bif decide ((0 : Int) ≤ (1 : Int) ∧ (1 : Int) < Int.ofNat a1.length) then (Zmt k (a1.getD (0 : Nat) [], a1.getD (1 : Nat) [], ())).bind fun y => bif y.1.2.1 != (0 : Int) then some (([], 0, y.1.2.1, ()), ()) else (ZuS k (y.1.1, ())).bind fun y_1 => bif y_1.1.2.1 != (0 : Int) then some (([], 0, y_1.1.2.1, ()), ()) else (ZlO k (y.1.1, y_1.1.1, ())).bind fun y => bif y_1.1.1 == (0 : Int) then some (([y.1.1, y.1.2.1], 1, y.1.2.2.1, ()), ()) else some (([y.1.1, y.1.2.1], y_1.1.1, y.1.2.2.1, ()), ()) else none else none
def Zus (k : Nat) := ZgR k
theorem ZLv (k : Nat) (x : Kd.dens Zug) : ZD (ZMR k) nA Tryz.f24 Zug ZyV x = Zus k x := by
  show _ = ZgR k x
  obtain ⟨⟨a0, ⟨a1, ⟨⟩⟩⟩, ⟨⟩⟩ := x
  kernel_rfl
theorem ZIF (k : Nat) : Ctr Tryz.prog k 24 (mk Zug ZyV Zus) :=
  ZE (fn := Tryz.f24) (Zh (Za (Zz4 k) (Za (ZHX k) (Za (Zsc k) Zd)))) (by kernel_rfl) (by kernel_rfl) (by kernel_rfl) (by kernel_rfl) (ZLv k)
noncomputable abbrev ZM2 : Nat × Callee := (24, mk Zug ZyV Zus)
abbrev ZrG : List Kd := []
abbrev ZyE : Kd := .box [.own (.int .u8) false, .view (.int .i64)]
noncomputable def ZMV (k : Nat) := Qo k []
def Zwp (k : Nat) : Unit → Option ((List Int × Int × Unit) × Unit)
  | () => some (([], 0, ()), ())
def Zl8 (k : Nat) := Zwp k
theorem ZJM (k : Nat) (x : Kd.dens ZrG) : ZD (ZMV k) nA Tryz.f25 ZrG ZyE x = Zl8 k x := by
  show _ = Zwp k x
  obtain ⟨⟩ := x
  kernel_rfl
theorem ZGN (k : Nat) : Ctr Tryz.prog k 25 (mk ZrG ZyE Zl8) :=
  ZE (fn := Tryz.f25) (Zh Zd) (by kernel_rfl) (by kernel_rfl) (by kernel_rfl) (by kernel_rfl) (ZJM k)
noncomputable abbrev ZNk : Nat × Callee := (25, mk ZrG ZyE Zl8)
abbrev Zra : List Kd := [.view (.int .i64)]
abbrev ZyQ : Kd := .view .bool
noncomputable def ZNJ (k : Nat) := Qo k []
def ZgQ (k : Nat) : Int × Unit → Option (Bool × Unit)
  | (a0, ()) => bif decide (a0 < (0 : Int)) then some (true, ()) else some (decide ((32 : Int) < a0), ())
def ZmR (k : Nat) := ZgQ k
theorem ZK4 (k : Nat) (x : Kd.dens Zra) : ZD (ZNJ k) nA Tryz.f62 Zra ZyQ x = ZmR k x := by
  show _ = ZgQ k x
  obtain ⟨a0, ⟨⟩⟩ := x
  kernel_rfl
theorem ZrS (k : Nat) : Ctr Tryz.prog k 62 (mk Zra ZyQ ZmR) :=
  ZE (fn := Tryz.f62) (Zh Zd) (by kernel_rfl) (by kernel_rfl) (by kernel_rfl) (by kernel_rfl) (ZK4 k)
noncomputable abbrev ZFQ : Nat × Callee := (62, mk Zra ZyQ ZmR)
abbrev Zli : List Kd := [.box [.own (.int .u8) false, .view (.int .i64)], .view (.int .i64)]
abbrev Zq9 : Kd := .tup []
noncomputable def ZKJ (k : Nat) := Qo k []
def ZcI (k : Nat) : (List Int × Int × Unit) × Int × Unit → Option (Unit × (List Int × Int × Unit) × Unit)
  | ((a0, a1, ()), a2, ()) => bif a1.tmod (8 : Int) == (0 : Int) then bif decide (a0.length + (1 : Nat) < (2147483648 : Nat)) then bif decide ((0 : Int) ≤ IntKind.i64.wrap (a1.tdiv (8 : Int)) ∧ IntKind.i64.wrap (a1.tdiv (8 : Int)) < Int.ofNat (a0 ++ [(0 : Int)]).length) then bif decide ((IntKind.i64.wrap (a1.tdiv (8 : Int))).toNat < (a0 ++ [(0 : Int)]).length) then bif decide ((0 : Int) ≤ IntKind.i64.wrap ((7 : Int) - a1.tmod (8 : Int))) then bif decide ((0 : Int) ≤ IntKind.i64.wrap (a1.tdiv (8 : Int)) ∧ IntKind.i64.wrap (a1.tdiv (8 : Int)) < Int.ofNat (a0 ++ [(0 : Int)]).length) then bif decide ((IntKind.i64.wrap (a1.tdiv (8 : Int))).toNat < (a0 ++ [(0 : Int)]).length) then some ((), ((a0 ++ [(0 : Int)]).set (IntKind.i64.wrap (a1.tdiv (8 : Int))).toNat (IntKind.u8.wrap (Int.ofNat (BitVec.ofInt (8 : Nat) ((a0 ++ [(0 : Int)]).getD (IntKind.i64.wrap (a1.tdiv (8 : Int))).toNat 0) ||| BitVec.ofInt (8 : Nat) (IntKind.u8.wrap (IntKind.i64.wrap (a2 * (2 : Int) ^ min (IntKind.i64.wrap ((7 : Int) - a1.tmod (8 : Int))).toNat (64 : Nat))))).toNat)), IntKind.i64.wrap (a1 + (1 : Int)), ()), ()) else none else none else none else none else none else none else bif decide ((0 : Int) ≤ IntKind.i64.wrap (a1.tdiv (8 : Int)) ∧ IntKind.i64.wrap (a1.tdiv (8 : Int)) < Int.ofNat a0.length) then bif decide ((IntKind.i64.wrap (a1.tdiv (8 : Int))).toNat < a0.length) then bif decide ((0 : Int) ≤ IntKind.i64.wrap ((7 : Int) - a1.tmod (8 : Int))) then bif decide ((0 : Int) ≤ IntKind.i64.wrap (a1.tdiv (8 : Int)) ∧ IntKind.i64.wrap (a1.tdiv (8 : Int)) < Int.ofNat a0.length) then bif decide ((IntKind.i64.wrap (a1.tdiv (8 : Int))).toNat < a0.length) then some ((), (a0.set (IntKind.i64.wrap (a1.tdiv (8 : Int))).toNat (IntKind.u8.wrap (Int.ofNat (BitVec.ofInt (8 : Nat) (a0.getD (IntKind.i64.wrap (a1.tdiv (8 : Int))).toNat 0) ||| BitVec.ofInt (8 : Nat) (IntKind.u8.wrap (IntKind.i64.wrap (a2 * (2 : Int) ^ min (IntKind.i64.wrap ((7 : Int) - a1.tmod (8 : Int))).toNat (64 : Nat))))).toNat)), IntKind.i64.wrap (a1 + (1 : Int)), ()), ()) else none else none else none else none else none
def Ze4 (k : Nat) := ZcI k
theorem ZGV (k : Nat) (x : Kd.dens Zli) : ZD (ZKJ k) nA Tryz.f103 Zli Zq9 x = Ze4 k x := by
  show _ = ZcI k x
  obtain ⟨⟨a0, ⟨a1, ⟨⟩⟩⟩, ⟨a2, ⟨⟩⟩⟩ := x
  kernel_rfl
theorem ZuZ (k : Nat) : Ctr Tryz.prog k 103 (mk Zli Zq9 Ze4) :=
  ZE (fn := Tryz.f103) (Zh Zd) (by kernel_rfl) (by kernel_rfl) (by kernel_rfl) (by kernel_rfl) (ZGV k)
noncomputable abbrev ZGm : Nat × Callee := (103, mk Zli Zq9 Ze4)
abbrev Zov : List Kd := [.box [.own (.int .u8) false, .view (.int .i64)], .view (.int .u64), .view (.int .i64)]
abbrev Zrm : Kd := .tup []
noncomputable def ZFn (k : Nat) := Qo k [ZGm]
def ZJJ : Nat → Ann := fun id => bif Nat.beq id 1 then ⟨[6, 0, 1], []⟩ else ⟨[], []⟩
abbrev Zyk := Int × Int × Int × List Int
abbrev Ztz := Zyk → Option (Unit × (List Int × Int × Unit) × Unit)
def ZMi : Zyk → St
  | (v0, v1, v2, v3) => St.mk (ZC [(nat_lit 6, Zp v0), (nat_lit 0, AV.bx (nat_lit 0) (nat_lit 0)), (nat_lit 1, AV.val (PV.v (Value.int IntKind.u64 v1)))]) (ZA [(nat_lit 0, RS.live (Res.box [AV.own (nat_lit 8192), Zp v2])), (nat_lit 8192, RS.live (Res.arr (Ty.int IntKind.u8) v3 false))])
def ZaI (k : Nat) (L1 : Ztz) : Ztz
  | (v0, v1, v2, v3) => bif decide ((0 : Int) ≤ v0) then bif decide ((0 : Int) ≤ v0) then (Ze4 k ((v3, v2, ()), IntKind.i64.wrap (IntKind.u64.wrap (Int.ofNat (BitVec.ofInt (64 : Nat) (v1.fdiv ((2 : Int) ^ min v0.toNat (64 : Nat))) &&& BitVec.ofInt (64 : Nat) (1 : Int)).toNat)), ())).bind fun y => L1 (IntKind.i64.wrap (v0 - (1 : Int)), v1, y.2.1.2.1, y.2.1.1) else none else some ((), (v3, v2, ()), ())
def ZsU (k : Nat) : Ztz := Zr (fun L1 => ZaI k L1) k
noncomputable def Zlo (k : Nat) (n : Nat) (v : Zyk) : Option (Unit × (List Int × Int × Unit) × Unit) :=
  ZB (ZFn k) ZJJ [0] [1, 0] [] (W0 Tryz.f63) (Xq (ZFn k) Tryz.f63 Zov Zrm [AV.bx (nat_lit 0) (nat_lit 0)] [[]]) n (ZMi v)
def Zhw (k : Nat) (L1 : Ztz) : (List Int × Int × Unit) × Int × Int × Unit → Option (Unit × (List Int × Int × Unit) × Unit)
  | ((a0, a1, ()), a2, a3, ()) => L1 (IntKind.i64.wrap (a3 - (1 : Int)), a2, a1, a0)
def ZbR (k : Nat) := Zhw k (ZsU k)
theorem ZDK (k : Nat) : ∀ n, Zlo k n = Zr (fun L1 => ZaI k L1) n :=
  Zn (fun v => by kernel_rfl) (fun n v => by
    show Zlo k (n + 1) v = ZaI k (Zlo k n) v
    obtain ⟨v0, v1, v2, v3⟩ := v
    kernel_rfl)
theorem ZJL (k : Nat) (x : Kd.dens Zov) : ZD (ZFn k) ZJJ Tryz.f63 Zov Zrm x = ZbR k x := by
  show _ = Zhw k (ZsU k) x
  rw [show ZsU k = Zlo k k from (ZDK k k).symm]
  obtain ⟨⟨a0, ⟨a1, ⟨⟩⟩⟩, ⟨a2, ⟨a3, ⟨⟩⟩⟩⟩ := x
  kernel_rfl
theorem ZzA (k : Nat) : Ctr Tryz.prog k 63 (mk Zov Zrm ZbR) :=
  ZE (fn := Tryz.f63) (Zh (Za (ZuZ k) Zd)) (by kernel_rfl) (by kernel_rfl) (by kernel_rfl) (by kernel_rfl) (ZJL k)
noncomputable abbrev ZJI : Nat × Callee := (63, mk Zov Zrm ZbR)
abbrev ZtA : List Kd := [.box [.own (.int .u8) false, .view (.int .i64)], .view (.int .i64), .view (.int .i64)]
abbrev Zyt : Kd := .view (.int .i64)
noncomputable def ZMH (k : Nat) := Qo k [ZFQ, ZJI]
def ZgA (k : Nat) : (List Int × Int × Unit) × Int × Int × Unit → Option (Int × (List Int × Int × Unit) × Unit)
  | ((a0, a1, ()), a2, a3, ()) => (ZmR k (a3, ())).bind fun y => bif y.1 then some (1, (a0, a1, ()), ()) else bif decide (a2 < (0 : Int)) then some (12, (a0, a1, ()), ()) else bif decide ((0 : Int) ≤ a3) then bif a2.fdiv ((2 : Int) ^ min a3.toNat (64 : Nat)) != (0 : Int) then some (12, (a0, a1, ()), ()) else (ZbR k ((a0, a1, ()), IntKind.u64.wrap a2, a3, ())).bind fun y => some (0, (y.2.1.1, y.2.1.2.1, ()), ()) else none
def Qp (k : Nat) := ZgA k
theorem ZKI (k : Nat) (x : Kd.dens ZtA) : ZD (ZMH k) nA Tryz.f26 ZtA Zyt x = Qp k x := by
  show _ = ZgA k x
  obtain ⟨⟨a0, ⟨a1, ⟨⟩⟩⟩, ⟨a2, ⟨a3, ⟨⟩⟩⟩⟩ := x
  kernel_rfl
theorem Zsx (k : Nat) : Ctr Tryz.prog k 26 (mk ZtA Zyt Qp) :=
  ZE (fn := Tryz.f26) (Zh (Za (ZrS k) (Za (ZzA k) Zd))) (by kernel_rfl) (by kernel_rfl) (by kernel_rfl) (by kernel_rfl) (ZKI k)
noncomputable abbrev ZEx : Nat × Callee := (26, mk ZtA Zyt Qp)
abbrev Zs2 : List Kd := [.view (.int .i64)]
abbrev Zyg : Kd := .view (.int .i64)
noncomputable def ZNH (k : Nat) := Qo k []
def Zgc (k : Nat) : Int × Unit → Option (Int × Unit)
  | (a0, ()) => bif a0 == (1 : Int) then some (7, ()) else some (IntKind.i64.wrap (IntKind.i64.wrap ((5 : Int) * a0) + (1 : Int)), ())
def Zpb (k : Nat) := Zgc k
theorem ZKf (k : Nat) (x : Kd.dens Zs2) : ZD (ZNH k) nA Tryz.f64 Zs2 Zyg x = Zpb k x := by
  show _ = Zgc k x
  obtain ⟨a0, ⟨⟩⟩ := x
  kernel_rfl
theorem ZzH (k : Nat) : Ctr Tryz.prog k 64 (mk Zs2 Zyg Zpb) :=
  ZE (fn := Tryz.f64) (Zh Zd) (by kernel_rfl) (by kernel_rfl) (by kernel_rfl) (by kernel_rfl) (ZKf k)
noncomputable abbrev ZJv : Nat × Callee := (64, mk Zs2 Zyg Zpb)
abbrev ZhW : List Kd := [.view (.int .i64)]
abbrev ZmW : Kd := .tup [.view (.sl (.int .u8)), .view (.int .i64)]
noncomputable def Zut (k : Nat) := Qo k [ZJv]
def ZFC : Nat → Ann := fun id => bif Nat.beq id 10 then ⟨[6, 5, 0, 4], []⟩ else bif Nat.beq id 6 then ⟨[0, 4], []⟩ else ⟨[], []⟩
abbrev ZwN := Int × Int × Int × List Int
abbrev Zrg := ZwN → Option ((List Int × Int × Unit) × Unit)
abbrev ZxG := Int × Int
abbrev ZrD := ZxG → Option ((List Int × Int × Unit) × Unit)
def ZJ9 : ZwN → St
  | (v0, v1, v2, v3) => St.mk (ZC [(nat_lit 6, Zp v0), (nat_lit 5, AV.own (nat_lit 8192)), (nat_lit 0, Zp v1), (nat_lit 4, Zp v2)]) (ZA [(nat_lit 8192, RS.live (Res.arr (Ty.int IntKind.u8) v3 false))])
def ZaN (k : Nat) (L2 : Zrg) : Zrg
  | (v0, v1, v2, v3) => bif decide ((0 : Int) < v0) then bif decide ((0 : Int) ≤ v0 ∧ v0 < Int.ofNat v3.length) then bif decide (v0.toNat < v3.length) then L2 (IntKind.i64.wrap (v0 - (1 : Int)), v1.fdiv (64 : Int), v2, v3.set v0.toNat (IntKind.u8.wrap (Int.ofNat (BitVec.ofInt (8 : Nat) (128 : Int) ||| BitVec.ofInt (8 : Nat) (IntKind.u8.wrap (IntKind.i64.wrap (Int.ofNat (BitVec.ofInt (64 : Nat) v1 &&& BitVec.ofInt (64 : Nat) (63 : Int)).toNat)))).toNat))) else none else none else bif decide ((0 : Int) ≤ v2) then bif decide ((0 : Int) ≤ (0 : Int) ∧ (0 : Int) < Int.ofNat v3.length) then bif decide ((0 : Nat) < v3.length) then some ((v3.set (0 : Nat) (IntKind.u8.wrap (Int.ofNat (BitVec.ofInt (8 : Nat) (IntKind.u8.wrap (Int.fdiv (65280 : Int) ((2 : Int) ^ min v2.toNat (64 : Nat)))) ||| BitVec.ofInt (8 : Nat) (IntKind.u8.wrap v1)).toNat)), 0, ()), ()) else none else none else none
def ZhO (k : Nat) : Zrg := Zr (fun L2 => ZaN k L2) k
noncomputable def ZkF (k : Nat) (n : Nat) (v : ZwN) : Option ((List Int × Int × Unit) × Unit) :=
  ZB (Zut k) ZFC [] [1, 1, 1, 1, 1, 1, 0, 1, 0] [] (W0 Tryz.f27) (Xq (Zut k) Tryz.f27 ZhW ZmW [] []) n (ZJ9 v)
def ZL2 : ZxG → St
  | (v0, v1) => St.mk (ZC [(nat_lit 0, Zp v0), (nat_lit 4, Zp v1)]) (ZA [])
def Zap (k : Nat) (L2 : Zrg) (L1 : ZrD) : ZrD
  | (v0, v1) => (Zpb k (v1, ())).bind fun y => bif decide ((0 : Int) ≤ y.1) then bif decide ((0 : Int) < v0.fdiv ((2 : Int) ^ min (Int.toNat y.1) (64 : Nat))) then L1 (v0, IntKind.i64.wrap (v1 + (1 : Int))) else bif decide ((0 : Int) ≤ v1 ∧ v1 ≤ v1 ∧ v1 < (4294967296 : Int)) then L2 (IntKind.i64.wrap (v1 - (1 : Int)), v0, v1, List.replicate v1.toNat (0 : Int)) else none else none
def Zrr (k : Nat) : ZrD := Zr (fun L1 => Zap k (ZhO k) L1) k
noncomputable def Zlt (k : Nat) (n : Nat) (v : ZxG) : Option ((List Int × Int × Unit) × Unit) :=
  ZB (Zut k) ZFC [] [1, 1, 1, 1, 0, 0] [] (W0 Tryz.f27) (Xq (Zut k) Tryz.f27 ZhW ZmW [] []) n (ZL2 v)
def Zhu (k : Nat) (L1 : ZrD) : Int × Unit → Option ((List Int × Int × Unit) × Unit)
  | (a0, ()) => bif decide (a0 < (0 : Int)) then some (([], 12, ()), ()) else bif decide ((68719476735 : Int) < a0) then some (([], 12, ()), ()) else bif decide (a0 < (128 : Int)) then some (([IntKind.u8.wrap a0], 0, ()), ()) else L1 (a0, (2 : Int))
def ZnA (k : Nat) := Zhu k (Zrr k)
theorem ZCT (k : Nat) : ∀ n, ZkF k n = Zr (fun L2 => ZaN k L2) n :=
  Zn (fun v => by kernel_rfl) (fun n v => by
    show ZkF k (n + 1) v = ZaN k (ZkF k n) v
    obtain ⟨v0, v1, v2, v3⟩ := v
    kernel_rfl)
theorem ZE7 (k : Nat) : ∀ n, Zlt k n = Zr (fun L1 => Zap k (ZhO k) L1) n :=
  Zn (fun v => by kernel_rfl) (fun n v => by
    show Zlt k (n + 1) v = Zap k (ZhO k) (Zlt k n) v
    rw [show (ZhO k) = ZkF k k from (ZCT k k).symm]
    obtain ⟨v0, v1⟩ := v
    kernel_rfl)
theorem ZL3 (k : Nat) (x : Kd.dens ZhW) : ZD (Zut k) ZFC Tryz.f27 ZhW ZmW x = ZnA k x := by
  show _ = Zhu k (Zrr k) x
  rw [show Zrr k = Zlt k k from (ZE7 k k).symm]
  obtain ⟨a0, ⟨⟩⟩ := x
  kernel_rfl
theorem ZIu (k : Nat) : Ctr Tryz.prog k 27 (mk ZhW ZmW ZnA) :=
  ZE (fn := Tryz.f27) (Zh (Za (ZzH k) Zd)) (by kernel_rfl) (by kernel_rfl) (by kernel_rfl) (by kernel_rfl) (ZL3 k)
noncomputable abbrev ZNK : Nat × Callee := (27, mk ZhW ZmW ZnA)
abbrev Ziv : List Kd := [.view (.sl (.int .u8)), .view (.int .i64), .view (.int .u64)]
abbrev Zl6 : Kd := .view (.int .i64)
noncomputable def ZwF (k : Nat) := Qo k []
def ZCF : Nat → Ann := fun id => bif Nat.beq id 7 then ⟨[24, 7, 1, 2, 13, 12, 11], []⟩ else bif Nat.beq id 3 then ⟨[12, 13, 11, 7, 1, 2], []⟩ else ⟨[], []⟩
abbrev Zyq := Int × Int × Int × Int × Int × Int × List Int
abbrev ZqX := Zyq → Option (Int × Unit)
abbrev Zy0 := Int × Int × List Int × Int × Int × Int
abbrev ZiA := Zy0 → Option (Int × Unit)
def ZKR : Zyq → St
  | (v0, v1, v2, v3, v4, v5, v6) => St.mk (ZC [(nat_lit 24, Zp v0), (nat_lit 7, AV.val (PV.v (Value.int IntKind.u64 v1))), (nat_lit 1, Zp v2), (nat_lit 2, AV.val (PV.v (Value.int IntKind.u64 v3))), (nat_lit 13, Zp v4), (nat_lit 12, Zp v5), (nat_lit 11, AV.val (PV.sl (Ty.int IntKind.u8) v6))]) (ZA [])
def Zao (k : Nat) (L1 : ZiA) (L2 : ZqX) : ZqX
  | (v0, v1, v2, v3, v4, v5, v6) => bif decide (v0 < (8 : Int)) then bif decide ((0 : Int) ≤ IntKind.i64.wrap (v2 - (1 : Int))) then bif decide ((0 : Int) ≤ v2) then L2 (IntKind.i64.wrap (v0 + (1 : Int)), IntKind.u64.wrap (Int.ofNat (BitVec.ofInt (64 : Nat) (IntKind.u64.wrap (Int.ofNat (BitVec.ofInt (64 : Nat) (IntKind.u64.wrap (v1 * (2 : Int))) &&& BitVec.ofInt (64 : Nat) (IntKind.u64.wrap (IntKind.u64.wrap ((1 : Int) * (2 : Int) ^ min v2.toNat (64 : Nat)) - (1 : Int)))).toNat)) ^^^ BitVec.ofInt (64 : Nat) (IntKind.u64.wrap (IntKind.u64.wrap (Int.ofNat (BitVec.ofInt (64 : Nat) (v1.fdiv ((2 : Int) ^ min (IntKind.i64.wrap (v2 - (1 : Int))).toNat (64 : Nat))) &&& BitVec.ofInt (64 : Nat) (1 : Int)).toNat) * v3))).toNat), v2, v3, v4, v5, v6) else none else none else L1 (v5, IntKind.i64.wrap (v4 + (1 : Int)), v6, v1, v2, v3)
def Zn4 (k : Nat) (L1 : ZiA) : ZqX := Zr (fun L2 => Zao k L1 L2) k
noncomputable def Zla (k : Nat) (n1 : Nat) (n : Nat) (v : Zyq) : Option (Int × Unit) :=
  ZB (ZwF k) ZCF [] [1, 1, 0, 1, 0, 0, 1, 1, 0, 0, 1, 1, 1, 0] [n1] (W0 Tryz.f65) (Xq (ZwF k) Tryz.f65 Ziv Zl6 [] []) n (ZKR v)
def ZKA : Zy0 → St
  | (v0, v1, v2, v3, v4, v5) => St.mk (ZC [(nat_lit 12, Zp v0), (nat_lit 13, Zp v1), (nat_lit 11, AV.val (PV.sl (Ty.int IntKind.u8) v2)), (nat_lit 7, AV.val (PV.v (Value.int IntKind.u64 v3))), (nat_lit 1, Zp v4), (nat_lit 2, AV.val (PV.v (Value.int IntKind.u64 v5)))]) (ZA [])
def Zal (k : Nat) (L2 : ZqX) (L1 : ZiA) : ZiA
  | (v0, v1, v2, v3, v4, v5) => bif decide (v1 < v0) then bif decide ((0 : Int) ≤ v1 ∧ v1 < Int.ofNat v2.length) then bif decide ((0 : Int) ≤ IntKind.i64.wrap (v4 - (8 : Int))) then L2 ((0 : Int), IntKind.u64.wrap (Int.ofNat (BitVec.ofInt (64 : Nat) v3 ^^^ BitVec.ofInt (64 : Nat) (IntKind.u64.wrap (IntKind.u64.wrap (v2.getD v1.toNat 0) * (2 : Int) ^ min (IntKind.i64.wrap (v4 - (8 : Int))).toNat (64 : Nat)))).toNat), v4, v5, v1, v0, v2) else none else none else some (IntKind.i64.wrap v3, ())
def Zq8 (k : Nat) : ZiA := Zr (fun L1 => Zal k (Zn4 k L1) L1) k
noncomputable def KZ (k : Nat) (n : Nat) (v : Zy0) : Option (Int × Unit) :=
  ZB (ZwF k) ZCF [] [1, 1, 0, 1, 0] [] (W0 Tryz.f65) (Xq (ZwF k) Tryz.f65 Ziv Zl6 [] []) n (ZKA v)
def Zgd (k : Nat) (L1 : ZiA) : List Int × Int × Int × Unit → Option (Int × Unit)
  | (a0, a1, a2, ()) => L1 (Int.ofNat a0.length, (0 : Int), a0, (0 : Int), a1, a2)
def Zep (k : Nat) := Zgd k (Zq8 k)
theorem ZFJ (k : Nat) (n1 : Nat) : ∀ n, Zla k n1 n = Zr (fun L2 => Zao k (KZ k n1) L2) n :=
  Zn (fun v => by kernel_rfl) (fun n v => by
    show Zla k n1 (n + 1) v = Zao k (KZ k n1) (Zla k n1 n) v
    obtain ⟨v0, v1, v2, v3, v4, v5, v6⟩ := v
    kernel_rfl)
theorem ZCH (k : Nat) : ∀ n, KZ k n = Zr (fun L1 => Zal k (Zn4 k L1) L1) n :=
  Zn (fun v => by kernel_rfl) (fun n v => by
    show KZ k (n + 1) v = Zal k (Zn4 k (KZ k n)) (KZ k n) v
    rw [show (Zn4 k (KZ k n)) = Zla k n k from (ZFJ k n k).symm]
    obtain ⟨v0, v1, v2, v3, v4, v5⟩ := v
    kernel_rfl)
theorem ZKK (k : Nat) (x : Kd.dens Ziv) : ZD (ZwF k) ZCF Tryz.f65 Ziv Zl6 x = Zep k x := by
  show _ = Zgd k (Zq8 k) x
  rw [show Zq8 k = KZ k k from (ZCH k k).symm]
  obtain ⟨a0, ⟨a1, ⟨a2, ⟨⟩⟩⟩⟩ := x
  kernel_rfl
theorem Zzv (k : Nat) : Ctr Tryz.prog k 65 (mk Ziv Zl6 Zep) :=
  ZE (fn := Tryz.f65) (Zh Zd) (by kernel_rfl) (by kernel_rfl) (by kernel_rfl) (by kernel_rfl) (ZKK k)
noncomputable abbrev ZJs : Nat × Callee := (65, mk Ziv Zl6 Zep)
abbrev ZtS : List Kd := [.view (.sl (.int .u8))]
abbrev Zw9 : Kd := .view (.int .i64)
noncomputable def ZNl (k : Nat) := Qo k [ZJs]
def ZgU (k : Nat) : List Int × Unit → Option (Int × Unit)
  | (a0, ()) => (Zep k (a0, 8, 7, ())).bind fun y => some (y.1, ())
def ZoZ (k : Nat) := ZgU k
theorem ZMl (k : Nat) (x : Kd.dens ZtS) : ZD (ZNl k) nA Tryz.f28 ZtS Zw9 x = ZoZ k x := by
  show _ = ZgU k x
  obtain ⟨a0, ⟨⟩⟩ := x
  kernel_rfl
theorem ZzE (k : Nat) : Ctr Tryz.prog k 28 (mk ZtS Zw9 ZoZ) :=
  ZE (fn := Tryz.f28) (Zh (Za (Zzv k) Zd)) (by kernel_rfl) (by kernel_rfl) (by kernel_rfl) (by kernel_rfl) (ZMl k)
noncomputable abbrev ZJj : Nat × Callee := (28, mk ZtS Zw9 ZoZ)
abbrev ZEU : List Kd := [.view (.sl (.int .u8))]
abbrev ZDv : Kd := .own (.int .u8) false
def ZpY (k : Nat) : List Int × Unit → Option (List Int × Unit) := fun x => Ys x
noncomputable def ZMI (k : Nat) : Ctx := { P := Tryz.prog, Φ := phi [], k := k, live := fun _ => [] }
noncomputable def Zvh : Code := ZDf Tryz.f66
theorem Zze (k : Nat) : Ctr Tryz.prog k 66 (mk ZEU ZDv ZpY) :=
  ZpA (C := ZMI k) (A := fun _ => ⟨[], []⟩) (Zh Zd) ZeW (f := 66) (fn := Tryz.f66) (o0 := Zit (KF [0] Zvh) 0) (o1 := Zit (KF [1, 0, 0] Zvh) 0) (o2 := Zit (KF [1, 0, 0] Zvh) 1)
    (r0 := 0) (r1 := 1) (X := KF [1, 0, 1, 0] Zvh) (Y := KF [1, 1] Zvh) (T := 32) (E := 5) (U := 32) (t := (.int .u8))
    (by kernel_rfl) (by kernel_rfl) (by kernel_rfl) (by kernel_rfl) (by kernel_rfl) (of_decide_eq_true (by kernel_rfl)) (by kernel_rfl) ⟨by kernel_rfl, by kernel_rfl, by kernel_rfl⟩ ⟨by kernel_rfl, by kernel_rfl, by kernel_rfl⟩ ⟨by kernel_rfl, by kernel_rfl, by kernel_rfl⟩ (fun xs => by kernel_rfl) (by kernel_rfl)
noncomputable abbrev ZJi : Nat × Callee := (66, mk ZEU ZDv ZpY)
abbrev ZqP : List Kd := [.box [.own (.int .u8) false, .view (.int .i64)]]
abbrev Zyd : Kd := .own (.int .u8) false
noncomputable def ZND (k : Nat) := Qo k [ZJi] (fun r => bif Nat.beq r 999998 then [66] else [])
def ZgZ (k : Nat) : (List Int × Int × Unit) × Unit → Option (List Int × (List Int × Int × Unit) × Unit)
  | ((a0, a1, ()), ()) => (ZpY k (a0, ())).bind fun y => some (y.1, (a0, a1, ()), ())
def ZmQ (k : Nat) := ZgZ k
theorem ZKl (k : Nat) (x : Kd.dens ZqP) : ZD (ZND k) nA Tryz.f29 ZqP Zyd x = ZmQ k x := by
  show _ = ZgZ k x
  obtain ⟨⟨a0, ⟨a1, ⟨⟩⟩⟩, ⟨⟩⟩ := x
  kernel_rfl
theorem ZG7 (k : Nat) : Ctr Tryz.prog k 29 (mk ZqP Zyd ZmQ) :=
  ZE (fn := Tryz.f29) (Zh (Za (Zze k) Zd)) (by kernel_rfl) (by kernel_rfl) (by kernel_rfl) (by kernel_rfl) (ZKl k)
noncomputable abbrev ZNn : Nat × Callee := (29, mk ZqP Zyd ZmQ)
abbrev ZsG : List Kd := [.view Zff, .view (.int .i64)]
abbrev ZxS : Kd := .view (.sl (.int .i64))
noncomputable def ZM3 (k : Nat) := Qo k [] (fun r => bif Nat.beq r 999999 then [1] else [])
def Zhv (k : Nat) : (Int × Int × Int × Unit) × Int × Unit → Option (List Int × Unit)
  | ((a0, a1, a2, ()), a3, ()) => bif decide ((0 : Int) ≤ (0 : Int) ∧ (0 : Int) ≤ a0 ∧ a0 ≤ Int.ofNat [a1, a1].length) then bif a3 == (8 : Int) then bif decide ((0 : Nat) ≤ a0.toNat ∧ a0.toNat ≤ [a1, a1].length ∧ (0 : Int) ≤ (1 : Int) ∧ (1 : Nat) < a0.toNat - (0 : Nat)) then bif decide ((0 : Nat) ≤ a0.toNat ∧ a0.toNat ≤ [a1, a1].length ∧ (0 : Int) ≤ (1 : Int) ∧ (1 : Nat) < a0.toNat - (0 : Nat)) then bif decide ((0 : Nat) ≤ a0.toNat ∧ a0.toNat ≤ ([a1, a1].set (1 : Nat) (IntKind.i64.wrap ([a1, a1].getD (1 : Nat) 0 + (1 : Int)))).length) then some (List.drop (0 : Nat) (List.take a0.toNat ([a1, a1].set (1 : Nat) (IntKind.i64.wrap ([a1, a1].getD (1 : Nat) 0 + (1 : Int))))), ()) else none else none else none else bif a3 == (10 : Int) then bif decide ((0 : Nat) ≤ a0.toNat ∧ a0.toNat ≤ [a1, a1].length ∧ (0 : Int) ≤ (1 : Int) ∧ (1 : Nat) < a0.toNat - (0 : Nat)) then bif decide ((0 : Nat) ≤ a0.toNat ∧ a0.toNat ≤ [a1, a1].length ∧ (0 : Int) ≤ (1 : Int) ∧ (1 : Nat) < a0.toNat - (0 : Nat)) then bif decide ((0 : Nat) ≤ a0.toNat ∧ a0.toNat ≤ ([a1, a1].set (1 : Nat) (IntKind.i64.wrap ([a1, a1].getD (1 : Nat) 0 + (1 : Int)))).length) then some (List.drop (0 : Nat) (List.take a0.toNat ([a1, a1].set (1 : Nat) (IntKind.i64.wrap ([a1, a1].getD (1 : Nat) 0 + (1 : Int))))), ()) else none else none else none else bif a3 == (9 : Int) then bif decide ((0 : Nat) ≤ a0.toNat ∧ a0.toNat ≤ [a1, a1].length ∧ (0 : Int) ≤ (0 : Int) ∧ (0 : Nat) < a0.toNat - (0 : Nat)) then bif decide ((0 : Nat) ≤ a0.toNat ∧ a0.toNat ≤ [a1, a1].length ∧ (0 : Int) ≤ (0 : Int) ∧ (0 : Nat) < a0.toNat - (0 : Nat)) then bif decide ((0 : Nat) ≤ a0.toNat ∧ a0.toNat ≤ ([a1, a1].set (0 : Nat) (IntKind.i64.wrap ([a1, a1].getD (0 : Nat) 0 + (1 : Int)))).length) then some (List.drop (0 : Nat) (List.take a0.toNat ([a1, a1].set (0 : Nat) (IntKind.i64.wrap ([a1, a1].getD (0 : Nat) 0 + (1 : Int))))), ()) else none else none else none else bif decide ((0 : Nat) ≤ a0.toNat ∧ a0.toNat ≤ [a1, a1].length) then some (List.drop (0 : Nat) (List.take a0.toNat [a1, a1]), ()) else none else none
def Zp7 (k : Nat) := Zhv k
theorem ZKd (k : Nat) (x : Kd.dens ZsG) : ZD (ZM3 k) nA Tryz.f30 ZsG ZxS x = Zp7 k x := by
  show _ = Zhv k x
  obtain ⟨⟨a0, ⟨a1, ⟨a2, ⟨⟩⟩⟩⟩, ⟨a3, ⟨⟩⟩⟩ := x
  kernel_rfl
theorem ZzF (k : Nat) : Ctr Tryz.prog k 30 (mk ZsG ZxS Zp7) :=
  ZE (fn := Tryz.f30) (Zh Zd) (by kernel_rfl) (by kernel_rfl) (by kernel_rfl) (by kernel_rfl) (ZKd k)
noncomputable abbrev ZJE : Nat × Callee := (30, mk ZsG ZxS Zp7)
abbrev Zsq : List Kd := [.view (.int .i64), .view (.int .i64)]
abbrev ZxQ : Kd := .view .bool
noncomputable def ZNx (k : Nat) := Qo k []
def ZfK (k : Nat) : Int × Int × Unit → Option (Bool × Unit)
  | (a0, a1, ()) => bif decide ((1 : Int) ≤ a0) then bif decide (a0 ≤ (512 : Int)) then bif decide ((4 : Int) ≤ a1) then some (decide (a1 ≤ (25 : Int)), ()) else some (false, ()) else some (false, ()) else some (false, ())
def ZpH (k : Nat) := ZfK k
theorem ZMq (k : Nat) (x : Kd.dens Zsq) : ZD (ZNx k) nA Tryz.f86 Zsq ZxQ x = ZpH k x := by
  show _ = ZfK k x
  obtain ⟨a0, ⟨a1, ⟨⟩⟩⟩ := x
  kernel_rfl
theorem Zz3 (k : Nat) : Ctr Tryz.prog k 86 (mk Zsq ZxQ ZpH) :=
  ZE (fn := Tryz.f86) (Zh Zd) (by kernel_rfl) (by kernel_rfl) (by kernel_rfl) (by kernel_rfl) (ZMq k)
noncomputable abbrev ZJu : Nat × Callee := (86, mk Zsq ZxQ ZpH)
abbrev Ztt : List Kd := [.view (.int .i64), .view (.int .i64)]
abbrev ZxE : Kd := .view .bool
noncomputable def ZMU (k : Nat) := Qo k []
def ZgJ (k : Nat) : Int × Int × Unit → Option (Bool × Unit)
  | (a0, a1, ()) => bif decide ((0 : Int) ≤ IntKind.i64.wrap (a1 - (1 : Int))) then bif a0.fdiv ((2 : Int) ^ min (IntKind.i64.wrap (a1 - (1 : Int))).toNat (64 : Nat)) == (0 : Int) then some (true, ()) else bif decide ((0 : Int) ≤ IntKind.i64.wrap (a1 - (1 : Int))) then some (a0.fdiv ((2 : Int) ^ min (IntKind.i64.wrap (a1 - (1 : Int))).toNat (64 : Nat)) == (-1 : Int), ()) else none else none
def Zqa (k : Nat) := ZgJ k
theorem ZK9 (k : Nat) (x : Kd.dens Ztt) : ZD (ZMU k) nA Tryz.f89 Ztt ZxE x = Zqa k x := by
  show _ = ZgJ k x
  obtain ⟨a0, ⟨a1, ⟨⟩⟩⟩ := x
  kernel_rfl
theorem ZzM (k : Nat) : Ctr Tryz.prog k 89 (mk Ztt ZxE Zqa) :=
  ZE (fn := Tryz.f89) (Zh Zd) (by kernel_rfl) (by kernel_rfl) (by kernel_rfl) (by kernel_rfl) (ZK9 k)
noncomputable abbrev ZJq : Nat × Callee := (89, mk Ztt ZxE Zqa)
abbrev ZlG : List Kd := [.view (.int .i64), .box [.view (.int .i64)]]
abbrev ZsN : Kd := .view .bool
noncomputable def ZMf (k : Nat) := Qo k [ZJq]
def ZdV (k : Nat) : Int × (Int × Unit) × Unit → Option (Bool × (Int × Unit) × Unit)
  | (a0, (a1, ()), ()) => (Zqa k (a0, a1, ())).bind fun y => some (!y.1, (a1, ()), ())
def Zn6 (k : Nat) := ZdV k
theorem ZHb (k : Nat) (x : Kd.dens ZlG) : ZD (ZMf k) nA Tryz.f105 ZlG ZsN x = Zn6 k x := by
  show _ = ZdV k x
  obtain ⟨a0, ⟨⟨a1, ⟨⟩⟩, ⟨⟩⟩⟩ := x
  kernel_rfl
theorem ZEK (k : Nat) : Ctr Tryz.prog k 105 (mk ZlG ZsN Zn6) :=
  ZE (fn := Tryz.f105) (Zh (Za (ZzM k) Zd)) (by kernel_rfl) (by kernel_rfl) (by kernel_rfl) (by kernel_rfl) (ZHb k)
noncomputable abbrev ZKt : Nat × Callee := (105, mk ZlG ZsN Zn6)
abbrev Zaz : List Kd := [.view (.sl (.int .i64)), .clo 105 [.box [.view (.int .i64)]]]
abbrev Zc8 : Kd := .view (.int .i64)
noncomputable def Znh (k : Nat) := Qo k [ZKt]
def Zvf : Nat → Ann := fun id => bif Nat.beq id 2 then ⟨[7, 8, 1, 0], []⟩ else ⟨[], []⟩
abbrev ZiG := Int × Int × List Int × Int
abbrev ZdD := ZiG → Option (Int × (Int × Unit) × Unit)
def ZAx : ZiG → St
  | (v0, v1, v2, v3) => St.mk (ZC [(nat_lit 7, Zp v0), (nat_lit 8, Zp v1), (nat_lit 1, AV.clo (nat_lit 105) [AV.bx (nat_lit 0) (nat_lit 0)]), (nat_lit 0, XI v2)]) (ZA [(nat_lit 0, RS.live (Res.box [Zp v3]))])
def Xd (k : Nat) (L1 : ZdD) : ZdD
  | (v0, v1, v2, v3) => bif decide (v1 < v0) then bif decide ((0 : Int) ≤ v1 ∧ v1 < Int.ofNat v2.length) then (Zn6 k (v2.getD v1.toNat 0, (v3, ()), ())).bind fun y => bif y.1 then some (v1, (y.2.1.1, ()), ()) else L1 (v0, IntKind.i64.wrap (v1 + (1 : Int)), v2, y.2.1.1) else none else some ((-1 : Int), (v3, ()), ())
def ZiO (k : Nat) : ZdD := Zr (fun L1 => Xd k L1) k
noncomputable def Zbr (k : Nat) (n : Nat) (v : ZiG) : Option (Int × (Int × Unit) × Unit) :=
  ZB (Znh k) Zvf [0] [1, 0, 1, 0] [] (W0 Tryz.f146) (Xq (Znh k) Tryz.f146 Zaz Zc8 [AV.bx (nat_lit 0) (nat_lit 0)] [[]]) n (ZAx v)
def Zi4 (k : Nat) (L1 : ZdD) : List Int × ((Int × Unit) × Unit) × Unit → Option (Int × (Int × Unit) × Unit)
  | (a0, ((a1, ()), ()), ()) => L1 (Int.ofNat a0.length, (0 : Int), a0, a1)
def ZbW (k : Nat) := Zi4 k (ZiO k)
theorem Zur (k : Nat) : ∀ n, Zbr k n = Zr (fun L1 => Xd k L1) n :=
  Zn (fun v => by kernel_rfl) (fun n v => by
    show Zbr k (n + 1) v = Xd k (Zbr k n) v
    obtain ⟨v0, v1, v2, v3⟩ := v
    kernel_rfl)
theorem ZBa (k : Nat) (x : Kd.dens Zaz) : ZD (Znh k) Zvf Tryz.f146 Zaz Zc8 x = ZbW k x := by
  show _ = Zi4 k (ZiO k) x
  rw [show ZiO k = Zbr k k from (Zur k k).symm]
  obtain ⟨a0, ⟨⟨⟨a1, ⟨⟩⟩, ⟨⟩⟩, ⟨⟩⟩⟩ := x
  kernel_rfl
theorem Zxu (k : Nat) : Ctr Tryz.prog k 146 (mk Zaz Zc8 ZbW) :=
  ZE (fn := Tryz.f146) (Zh (Za (ZEK k) Zd)) (by kernel_rfl) (by kernel_rfl) (by kernel_rfl) (by kernel_rfl) (ZBa k)
noncomputable abbrev ZDW : Nat × Callee := (146, mk Zaz Zc8 ZbW)
abbrev Zdn : List Kd := [.view (.sl (.int .i64)), .clo 105 [.box [.view (.int .i64)]]]
abbrev Zim : Kd := .view .bool
noncomputable def ZFB (k : Nat) := Qo k [ZDW]
def KW (k : Nat) : List Int × ((Int × Unit) × Unit) × Unit → Option (Bool × (Int × Unit) × Unit)
  | (a0, ((a1, ()), ()), ()) => (ZbW k (a0, ((a1, ()), ()), ())).bind fun y => some (decide ((0 : Int) ≤ y.1), (y.2.1.1, ()), ())
def Zb8 (k : Nat) := KW k
theorem ZBO (k : Nat) (x : Kd.dens Zdn) : ZD (ZFB k) nA Tryz.f104 Zdn Zim x = Zb8 k x := by
  show _ = KW k x
  obtain ⟨a0, ⟨⟨⟨a1, ⟨⟩⟩, ⟨⟩⟩, ⟨⟩⟩⟩ := x
  kernel_rfl
theorem ZyR (k : Nat) : Ctr Tryz.prog k 104 (mk Zdn Zim Zb8) :=
  ZE (fn := Tryz.f104) (Zh (Za (Zxu k) Zd)) (by kernel_rfl) (by kernel_rfl) (by kernel_rfl) (by kernel_rfl) (ZBO k)
noncomputable abbrev ZE8 : Nat × Callee := (104, mk Zdn Zim Zb8)
abbrev Zse : List Kd := [.view (.sl (.int .i64)), .view (.int .i64)]
abbrev Zy2 : Kd := .view (.int .i64)
noncomputable def ZNm (k : Nat) := Qo k [ZJu, ZE8]
def Zgy (k : Nat) : List Int × Int × Unit → Option (Int × Unit)
  | (a0, a1, ()) => (ZpH k (Int.ofNat a0.length, a1, ())).bind fun y => bif !y.1 then some (1, ()) else (Zb8 k (a0, ((a1, ()), ()), ())).bind fun y => bif y.1 then some (12, ()) else some (0, ())
def ZoY (k : Nat) := Zgy k
theorem ZLc (k : Nat) (x : Kd.dens Zse) : ZD (ZNm k) nA Tryz.f67 Zse Zy2 x = ZoY k x := by
  show _ = Zgy k x
  obtain ⟨a0, ⟨a1, ⟨⟩⟩⟩ := x
  kernel_rfl
theorem ZHB (k : Nat) : Ctr Tryz.prog k 67 (mk Zse Zy2 ZoY) :=
  ZE (fn := Tryz.f67) (Zh (Za (Zz3 k) (Za (ZyR k) Zd))) (by kernel_rfl) (by kernel_rfl) (by kernel_rfl) (by kernel_rfl) (ZLc k)
noncomputable abbrev ZNe : Nat × Callee := (67, mk Zse Zy2 ZoY)
abbrev ZlK : List Kd := [.view (.int .i64), .box [.view (.int .i64), .view (.int .i64), .view (.int .i64), .view (.sl (.int .i64)), .view (.sl (.int .i64)), .view (.int .i64), .view (.sl (.int .i64)), .view (.int .i64)]]
abbrev ZqF : Kd := .view .bool
noncomputable def ZMr (k : Nat) := Qo k []
def ZdE (k : Nat) : Int × (Int × Int × Int × List Int × List Int × Int × List Int × Int × Unit) × Unit → Option (Bool × (Int × Int × Int × List Int × List Int × Int × List Int × Int × Unit) × Unit)
  | (a0, (a1, a2, a3, a4, a5, a6, a7, a8, ()), ()) => bif decide ((0 : Int) ≤ (0 : Int) ∧ (0 : Int) < Int.ofNat a4.length) then some (a0 != a4.getD (0 : Nat) 0, (a1, a2, a3, a4, a5, a6, a7, a8, ()), ()) else none
def ZmX (k : Nat) := ZdE k
theorem ZGr (k : Nat) (x : Kd.dens ZlK) : ZD (ZMr k) nA Tryz.f108 ZlK ZqF x = ZmX k x := by
  show _ = ZdE k x
  obtain ⟨a0, ⟨⟨a1, ⟨a2, ⟨a3, ⟨a4, ⟨a5, ⟨a6, ⟨a7, ⟨a8, ⟨⟩⟩⟩⟩⟩⟩⟩⟩⟩, ⟨⟩⟩⟩ := x
  kernel_rfl
theorem ZDR (k : Nat) : Ctr Tryz.prog k 108 (mk ZlK ZqF ZmX) :=
  ZE (fn := Tryz.f108) (Zh Zd) (by kernel_rfl) (by kernel_rfl) (by kernel_rfl) (by kernel_rfl) (ZGr k)
noncomputable abbrev ZMo : Nat × Callee := (108, mk ZlK ZqF ZmX)
abbrev Zan : List Kd := [.view (.sl (.int .i64)), .clo 108 [.box [.view (.int .i64), .view (.int .i64), .view (.int .i64), .view (.sl (.int .i64)), .view (.sl (.int .i64)), .view (.int .i64), .view (.sl (.int .i64)), .view (.int .i64)]]]
abbrev ZdX : Kd := .view (.int .i64)
noncomputable def Zm3 (k : Nat) := Qo k [ZMo]
def ZvS : Nat → Ann := fun id => bif Nat.beq id 2 then ⟨[7, 8, 1, 0], []⟩ else ⟨[], []⟩
abbrev ZhT := Int × Int × List Int × Int × Int × Int × List Int × List Int × Int × List Int × Int
abbrev Zdk := ZhT → Option (Int × (Int × Int × Int × List Int × List Int × Int × List Int × Int × Unit) × Unit)
def ZBJ : ZhT → St
  | (v0, v1, v2, v3, v4, v5, v6, v7, v8, v9, v10) => St.mk (ZC [(nat_lit 7, Zp v0), (nat_lit 8, Zp v1), (nat_lit 1, AV.clo (nat_lit 108) [AV.bx (nat_lit 0) (nat_lit 0)]), (nat_lit 0, XI v2)]) (ZA [(nat_lit 0, RS.live (Res.box [Zp v3, Zp v4, Zp v5, XI v6, XI v7, Zp v8, XI v9, Zp v10]))])
def Xc (k : Nat) (L1 : Zdk) : Zdk
  | (v0, v1, v2, v3, v4, v5, v6, v7, v8, v9, v10) => bif decide (v1 < v0) then bif decide ((0 : Int) ≤ v1 ∧ v1 < Int.ofNat v2.length) then (ZmX k (v2.getD v1.toNat 0, (v3, v4, v5, v6, v7, v8, v9, v10, ()), ())).bind fun y => bif y.1 then some (v1, (y.2.1.1, y.2.1.2.1, y.2.1.2.2.1, y.2.1.2.2.2.1, y.2.1.2.2.2.2.1, y.2.1.2.2.2.2.2.1, y.2.1.2.2.2.2.2.2.1, y.2.1.2.2.2.2.2.2.2.1, ()), ()) else L1 (v0, IntKind.i64.wrap (v1 + (1 : Int)), v2, y.2.1.1, y.2.1.2.1, y.2.1.2.2.1, y.2.1.2.2.2.1, y.2.1.2.2.2.2.1, y.2.1.2.2.2.2.2.1, y.2.1.2.2.2.2.2.2.1, y.2.1.2.2.2.2.2.2.2.1) else none else some ((-1 : Int), (v3, v4, v5, v6, v7, v8, v9, v10, ()), ())
def Zh8 (k : Nat) : Zdk := Zr (fun L1 => Xc k L1) k
noncomputable def Zbj (k : Nat) (n : Nat) (v : ZhT) : Option (Int × (Int × Int × Int × List Int × List Int × Int × List Int × Int × Unit) × Unit) :=
  ZB (Zm3 k) ZvS [0] [1, 0, 1, 0] [] (W0 Tryz.f146) (Xq (Zm3 k) Tryz.f146 Zan ZdX [AV.bx (nat_lit 0) (nat_lit 0)] [[]]) n (ZBJ v)
def Zi6 (k : Nat) (L1 : Zdk) : List Int × ((Int × Int × Int × List Int × List Int × Int × List Int × Int × Unit) × Unit) × Unit → Option (Int × (Int × Int × Int × List Int × List Int × Int × List Int × Int × Unit) × Unit)
  | (a0, ((a1, a2, a3, a4, a5, a6, a7, a8, ()), ()), ()) => L1 (Int.ofNat a0.length, (0 : Int), a0, a1, a2, a3, a4, a5, a6, a7, a8)
def ZcA (k : Nat) := Zi6 k (Zh8 k)
theorem Zwo (k : Nat) : ∀ n, Zbj k n = Zr (fun L1 => Xc k L1) n :=
  Zn (fun v => by kernel_rfl) (fun n v => by
    show Zbj k (n + 1) v = Xc k (Zbj k n) v
    obtain ⟨v0, v1, v2, v3, v4, v5, v6, v7, v8, v9, v10⟩ := v
    kernel_rfl)
theorem ZCa (k : Nat) (x : Kd.dens Zan) : ZD (Zm3 k) ZvS Tryz.f146 Zan ZdX x = ZcA k x := by
  show _ = Zi6 k (Zh8 k) x
  rw [show Zh8 k = Zbj k k from (Zwo k k).symm]
  obtain ⟨a0, ⟨⟨⟨a1, ⟨a2, ⟨a3, ⟨a4, ⟨a5, ⟨a6, ⟨a7, ⟨a8, ⟨⟩⟩⟩⟩⟩⟩⟩⟩⟩, ⟨⟩⟩, ⟨⟩⟩⟩ := x
  kernel_rfl
theorem ZxK (k : Nat) : Ctr Tryz.prog k 146 (mk Zan ZdX ZcA) :=
  ZE (fn := Tryz.f146) (Zh (Za (ZDR k) Zd)) (by kernel_rfl) (by kernel_rfl) (by kernel_rfl) (by kernel_rfl) (ZCa k)
noncomputable abbrev ZC2 : Nat × Callee := (146, mk Zan ZdX ZcA)
abbrev Zdz : List Kd := [.view (.sl (.int .i64)), .clo 108 [.box [.view (.int .i64), .view (.int .i64), .view (.int .i64), .view (.sl (.int .i64)), .view (.sl (.int .i64)), .view (.int .i64), .view (.sl (.int .i64)), .view (.int .i64)]]]
abbrev ZiN : Kd := .view .bool
noncomputable def ZER (k : Nat) := Qo k [ZC2]
def KQ (k : Nat) : List Int × ((Int × Int × Int × List Int × List Int × Int × List Int × Int × Unit) × Unit) × Unit → Option (Bool × (Int × Int × Int × List Int × List Int × Int × List Int × Int × Unit) × Unit)
  | (a0, ((a1, a2, a3, a4, a5, a6, a7, a8, ()), ()), ()) => (ZcA k (a0, ((a1, a2, a3, a4, a5, a6, a7, a8, ()), ()), ())).bind fun y => some (decide ((0 : Int) ≤ y.1), (y.2.1.1, y.2.1.2.1, y.2.1.2.2.1, y.2.1.2.2.2.1, y.2.1.2.2.2.2.1, y.2.1.2.2.2.2.2.1, y.2.1.2.2.2.2.2.2.1, y.2.1.2.2.2.2.2.2.2.1, ()), ())
def Zce (k : Nat) := KQ k
theorem ZB4 (k : Nat) (x : Kd.dens Zdz) : ZD (ZER k) nA Tryz.f104 Zdz ZiN x = Zce k x := by
  show _ = KQ k x
  obtain ⟨a0, ⟨⟨⟨a1, ⟨a2, ⟨a3, ⟨a4, ⟨a5, ⟨a6, ⟨a7, ⟨a8, ⟨⟩⟩⟩⟩⟩⟩⟩⟩⟩, ⟨⟩⟩, ⟨⟩⟩⟩ := x
  kernel_rfl
theorem ZwV (k : Nat) : Ctr Tryz.prog k 104 (mk Zdz ZiN Zce) :=
  ZE (fn := Tryz.f104) (Zh (Za (ZxK k) Zd)) (by kernel_rfl) (by kernel_rfl) (by kernel_rfl) (by kernel_rfl) (ZB4 k)
noncomputable abbrev ZCw : Nat × Callee := (104, mk Zdz ZiN Zce)
abbrev Zzd : List Kd := [.view (.int .u64)]
abbrev Zy8 : Kd := .view (.int .i64)
def ZwR (k : Nat) : Int × Unit → Option (Int × Unit) := fun x => tzF x
def ZNi : Go.Shelf.Ren := ⟨fun n => match n with | 29 => 147 | _ => 0, fun n => match n with | 0 => 0 | 3 => 3 | 4 => 4 | 5 => 5 | 22 => 49 | 25 => 114 | 54 => 216 | _ => 0, fun n => n⟩
set_option maxRecDepth 100000 in
theorem ZLV : Go.Proofs.Lays7.n29 Tryz.prog ZNi := by
  constructor <;> first | kernel_rfl | (intro w; rfl)
set_option maxRecDepth 100000 in
theorem ZGg (k : Nat) : Ctr Tryz.prog k 147 (mk Zzd Zy8 ZwR) := ZMB ZLV (fn := Tryz.f147) (by kernel_rfl) rfl (by kernel_rfl) (by kernel_rfl) (by kernel_rfl)
noncomputable abbrev ZLQ : Nat × Callee := (147, mk Zzd Zy8 ZwR)
abbrev ZgG : List Kd := [.view (.sl (.int .i64))]
abbrev Zk4 : Kd := .view (.int .i64)
noncomputable def Zw5 (k : Nat) := Qo k [ZLQ]
def ZFc : Nat → Ann := fun id => bif Nat.beq id 3 then ⟨[7, 8, 6, 3], []⟩ else ⟨[], []⟩
abbrev Zsn := Int × Int × List Int × Int
abbrev ZkH := Zsn → Option (Int × Unit)
def ZGD : Zsn → St
  | (v0, v1, v2, v3) => St.mk (ZC [(nat_lit 7, Zp v0), (nat_lit 8, Zp v1), (nat_lit 6, XI v2), (nat_lit 3, Zp v3)]) (ZA [])
def Y1 (k : Nat) (L1 : ZkH) : ZkH
  | (v0, v1, v2, v3) => bif decide (v1 < v0) then bif decide ((0 : Int) ≤ v1 ∧ v1 < Int.ofNat v2.length) then L1 (v0, IntKind.i64.wrap (v1 + (1 : Int)), v2, IntKind.i64.wrap (Int.ofNat (BitVec.ofInt (64 : Nat) v3 ||| BitVec.ofInt (64 : Nat) (v2.getD v1.toNat 0)).toNat)) else none else bif v3 == (0 : Int) then some (0, ()) else (ZwR k (IntKind.u64.wrap v3, ())).bind fun y => some (y.1, ())
def Zj2 (k : Nat) : ZkH := Zr (fun L1 => Y1 k L1) k
noncomputable def Zgf (k : Nat) (n : Nat) (v : Zsn) : Option (Int × Unit) :=
  ZB (Zw5 k) ZFc [] [1, 1, 0, 1, 0] [] (W0 Tryz.f106) (Xq (Zw5 k) Tryz.f106 ZgG Zk4 [] []) n (ZGD v)
def Zd0 (k : Nat) (L1 : ZkH) : List Int × Unit → Option (Int × Unit)
  | (a0, ()) => L1 (Int.ofNat a0.length, (0 : Int), a0, (0 : Int))
def ZlU (k : Nat) := Zd0 k (Zj2 k)
theorem ZAM (k : Nat) : ∀ n, Zgf k n = Zr (fun L1 => Y1 k L1) n :=
  Zn (fun v => by kernel_rfl) (fun n v => by
    show Zgf k (n + 1) v = Y1 k (Zgf k n) v
    obtain ⟨v0, v1, v2, v3⟩ := v
    kernel_rfl)
theorem ZHW (k : Nat) (x : Kd.dens ZgG) : ZD (Zw5 k) ZFc Tryz.f106 ZgG Zk4 x = ZlU k x := by
  show _ = Zd0 k (Zj2 k) x
  rw [show Zj2 k = Zgf k k from (ZAM k k).symm]
  obtain ⟨a0, ⟨⟩⟩ := x
  kernel_rfl
theorem ZDl (k : Nat) : Ctr Tryz.prog k 106 (mk ZgG Zk4 ZlU) :=
  ZE (fn := Tryz.f106) (Zh (Za (ZGg k) Zd)) (by kernel_rfl) (by kernel_rfl) (by kernel_rfl) (by kernel_rfl) (ZHW k)
noncomputable abbrev ZKO : Nat × Callee := (106, mk ZgG Zk4 ZlU)
abbrev ZbJ : List Kd := [.view (.int .i64)]
abbrev Zdq : Kd := .tup [.view K5, .view (.int .i64)]
noncomputable def Zfg (k : Nat) := Qo k []
def Zq5 : Nat → Ann := fun id => bif Nat.beq id 17 then ⟨[48, 49, 47, 8, 2], [.cell 8 0 ((Ty.int IntKind.i64))]⟩ else bif Nat.beq id 9 then ⟨[29, 30, 28, 5, 20, 19, 2], []⟩ else bif Nat.beq id 5 then ⟨[19, 20, 4, 2], []⟩ else ⟨[], []⟩
abbrev ZsO := Int × Int × Int × Int × List Int × List Int × Int
abbrev ZjM := ZsO → Option (((List Int × Int × Unit) × Int × Unit) × Unit)
abbrev Zre := Int × Int × List Int × Int × List Int × Int
abbrev Zkz := Zre → Option (((List Int × Int × Unit) × Int × Unit) × Unit)
abbrev ZsK := Int × Int × List Int × Int
abbrev ZdI := ZsK → Option (((List Int × Int × Unit) × Int × Unit) × Unit)
def ZHt : ZsO → St
  | (v0, v1, v2, v3, v4, v5, v6) => St.mk (ZC [(nat_lit 29, Zp v0), (nat_lit 30, Zp v1), (nat_lit 28, AV.own (nat_lit 8192)), (nat_lit 5, AV.own (nat_lit 8193)), (nat_lit 20, Zp v2), (nat_lit 19, Zp v3), (nat_lit 2, AV.bx (nat_lit 8194) (nat_lit 0))]) (ZA [(nat_lit 8192, RS.live (Res.arr (Ty.int IntKind.i64) v4 false)), (nat_lit 8193, RS.live (Res.arr (Ty.int IntKind.i64) v5 false)), (nat_lit 8194, RS.live (Res.box [AV.val (PV.v (Value.slice none (0 : Nat) (0 : Nat))), Zp v6]))])
def ZhB (k : Nat) (L1 : ZdI) (L2 : ZjM) : ZjM
  | (v0, v1, v2, v3, v4, v5, v6) => bif decide (v1 < v0) then bif decide ((0 : Int) ≤ v1 ∧ v1 < Int.ofNat v4.length) then bif decide (v1.toNat < v4.length) then bif decide ((0 : Int) ≤ IntKind.i64.wrap (v1 + (1 : Int)) ∧ IntKind.i64.wrap (v1 + (1 : Int)) < Int.ofNat v5.length) then bif decide ((IntKind.i64.wrap (v1 + (1 : Int))).toNat < v5.length) then bif decide ((0 : Int) ≤ IntKind.i64.wrap (v1 + (1 : Int)) ∧ IntKind.i64.wrap (v1 + (1 : Int)) < Int.ofNat v5.length) then bif decide ((IntKind.i64.wrap (v1 + (1 : Int))).toNat < v5.length) then L2 (v0, IntKind.i64.wrap (v1 + (1 : Int)), v2, v3, v4, v5.set (IntKind.i64.wrap (v1 + (1 : Int))).toNat (IntKind.i64.wrap (v5.getD (IntKind.i64.wrap (v1 + (1 : Int))).toNat 0 - v4.getD v1.toNat 0)), v6) else none else none else none else none else none else none else L1 (v3, IntKind.i64.wrap (v2 + (1 : Int)), v5, v6)
def Zk8 (k : Nat) (L1 : ZdI) : ZjM := Zr (fun L2 => ZhB k L1 L2) k
noncomputable def Zhs (k : Nat) (n1 : Nat) (n : Nat) (v : ZsO) : Option (((List Int × Int × Unit) × Int × Unit) × Unit) :=
  ZB (Zfg k) Zq5 [] [1, 1, 1, 0, 1, 0, 0, 1, 1, 0, 0, 1, 1, 0, 1, 0] [n1] (W0 Tryz.f109) (Xq (Zfg k) Tryz.f109 ZbJ Zdq [] []) n (ZHt v)
def ZIa : Zre → St
  | (v0, v1, v2, v3, v4, v5) => St.mk (ZC [(nat_lit 48, Zp v0), (nat_lit 49, Zp v1), (nat_lit 47, XI v2), (nat_lit 8, AV.bx (nat_lit 8192) (nat_lit 0)), (nat_lit 2, AV.bx (nat_lit 8194) (nat_lit 0))]) (ZA [(nat_lit 8192, RS.live (Res.box [AV.own (nat_lit 8193), Zp v3])), (nat_lit 8193, RS.live (Res.arr (Ty.int IntKind.i64) v4 false)), (nat_lit 8194, RS.live (Res.box [AV.val (PV.v (Value.slice none (0 : Nat) (0 : Nat))), Zp v5]))])
def ZiY (k : Nat) (L3 : Zkz) : Zkz
  | (v0, v1, v2, v3, v4, v5) => bif decide (v1 < v0) then bif decide ((0 : Int) ≤ v1 ∧ v1 < Int.ofNat v2.length) then bif decide (v4.length + [IntKind.i64.wrap ((0 : Int) - v2.getD v1.toNat 0)].length < (2147483648 : Nat)) then L3 (v0, IntKind.i64.wrap (v1 + (1 : Int)), v2, v3, v4 ++ [IntKind.i64.wrap ((0 : Int) - v2.getD v1.toNat 0)], v5) else none else none else some (((v4, v3, ()), 0, ()), ())
def Zlw (k : Nat) : Zkz := Zr (fun L3 => ZiY k L3) k
noncomputable def ZgF (k : Nat) (n : Nat) (v : Zre) : Option (((List Int × Int × Unit) × Int × Unit) × Unit) :=
  ZB (Zfg k) Zq5 [] [1, 1, 1, 1, 1, 0, 1, 0] [] (W0 Tryz.f109) (Xq (Zfg k) Tryz.f109 ZbJ Zdq [] []) n (ZIa v)
def ZH4 : ZsK → St
  | (v0, v1, v2, v3) => St.mk (ZC [(nat_lit 19, Zp v0), (nat_lit 20, Zp v1), (nat_lit 4, AV.own (nat_lit 8192)), (nat_lit 2, AV.bx (nat_lit 8193) (nat_lit 0))]) (ZA [(nat_lit 8192, RS.live (Res.arr (Ty.int IntKind.i64) v2 false)), (nat_lit 8193, RS.live (Res.box [AV.val (PV.v (Value.slice none (0 : Nat) (0 : Nat))), Zp v3]))])
def Ziu (k : Nat) (L2 : ZjM) (L3 : Zkz) (L1 : ZdI) : ZdI
  | (v0, v1, v2, v3) => bif decide (v1 < v0) then bif decide ((0 : Nat) + v2.length < (2147483648 : Nat)) then bif decide (([] ++ v2).length + (1 : Nat) < (2147483648 : Nat)) then L2 (Int.ofNat v2.length, (0 : Int), v1, v0, v2, [] ++ v2 ++ [(0 : Int)], v3) else none else none else bif decide ((0 : Int) ≤ (1 : Int) ∧ (1 : Int) ≤ Int.ofNat v2.length ∧ Int.ofNat v2.length ≤ Int.ofNat v2.length) then L3 (Int.ofNat (List.drop (1 : Nat) (List.take (Int.ofNat v2.length).toNat v2)).length, (0 : Int), List.drop (1 : Nat) (List.take (Int.ofNat v2.length).toNat v2), (0 : Int), [], v3) else none
def Zs0 (k : Nat) : ZdI := Zr (fun L1 => Ziu k (Zk8 k L1) (Zlw k) L1) k
noncomputable def Yc (k : Nat) (n : Nat) (v : ZsK) : Option (((List Int × Int × Unit) × Int × Unit) × Unit) :=
  ZB (Zfg k) Zq5 [] [1, 1, 1, 0, 1, 0] [] (W0 Tryz.f109) (Xq (Zfg k) Tryz.f109 ZbJ Zdq [] []) n (ZH4 v)
def Zp1 (k : Nat) (L1 : ZdI) : Int × Unit → Option (((List Int × Int × Unit) × Int × Unit) × Unit)
  | (a0, ()) => bif decide (a0 < (0 : Int)) then some ((([], (0 : Int), ()), 1, ()), ()) else bif decide ((4 : Int) < a0) then some ((([], (0 : Int), ()), 1, ()), ()) else L1 (a0, (0 : Int), [(1 : Int)], (0 : Int))
def Zck (k : Nat) := Zp1 k (Zs0 k)
theorem ZAQ (k : Nat) (n1 : Nat) : ∀ n, Zhs k n1 n = Zr (fun L2 => ZhB k (Yc k n1) L2) n :=
  Zn (fun v => by kernel_rfl) (fun n v => by
    show Zhs k n1 (n + 1) v = ZhB k (Yc k n1) (Zhs k n1 n) v
    obtain ⟨v0, v1, v2, v3, v4, v5, v6⟩ := v
    kernel_rfl)
theorem ZAZ (k : Nat) : ∀ n, ZgF k n = Zr (fun L3 => ZiY k L3) n :=
  Zn (fun v => by kernel_rfl) (fun n v => by
    show ZgF k (n + 1) v = ZiY k (ZgF k n) v
    obtain ⟨v0, v1, v2, v3, v4, v5⟩ := v
    kernel_rfl)
theorem ZCk (k : Nat) : ∀ n, Yc k n = Zr (fun L1 => Ziu k (Zk8 k L1) (Zlw k) L1) n :=
  Zn (fun v => by kernel_rfl) (fun n v => by
    show Yc k (n + 1) v = Ziu k (Zk8 k (Yc k n)) (Zlw k) (Yc k n) v
    rw [show (Zk8 k (Yc k n)) = Zhs k n k from (ZAQ k n k).symm, show (Zlw k) = ZgF k k from (ZAZ k k).symm]
    obtain ⟨v0, v1, v2, v3⟩ := v
    kernel_rfl)
theorem ZIi (k : Nat) (x : Kd.dens ZbJ) : ZD (Zfg k) Zq5 Tryz.f109 ZbJ Zdq x = Zck k x := by
  show _ = Zp1 k (Zs0 k) x
  rw [show Zs0 k = Yc k k from (ZCk k k).symm]
  obtain ⟨a0, ⟨⟩⟩ := x
  kernel_rfl
theorem Zny (k : Nat) : Ctr Tryz.prog k 109 (mk ZbJ Zdq Zck) :=
  ZE (fn := Tryz.f109) (Zh Zd) (by kernel_rfl) (by kernel_rfl) (by kernel_rfl) (by kernel_rfl) (ZIi k)
noncomputable abbrev ZyL : Nat × Callee := (109, mk ZbJ Zdq Zck)
abbrev ZjR : List Kd := [.view (.int .i64)]
abbrev Zrl : Kd := .view .bool
noncomputable def ZMe (k : Nat) := Qo k []
def ZcT (k : Nat) : Int × Unit → Option (Bool × Unit)
  | (a0, ()) => bif decide (a0 ≤ (-2147483648 : Int)) then some (true, ()) else some (decide ((2147483648 : Int) ≤ a0), ())
def Zfb (k : Nat) := ZcT k
theorem ZI3 (k : Nat) (x : Kd.dens ZjR) : ZD (ZMe k) nA Tryz.f150 ZjR Zrl x = Zfb k x := by
  show _ = ZcT k x
  obtain ⟨a0, ⟨⟩⟩ := x
  kernel_rfl
theorem ZmT (k : Nat) : Ctr Tryz.prog k 150 (mk ZjR Zrl Zfb) :=
  ZE (fn := Tryz.f150) (Zh Zd) (by kernel_rfl) (by kernel_rfl) (by kernel_rfl) (by kernel_rfl) (ZI3 k)
noncomputable abbrev Zw8 : Nat × Callee := (150, mk ZjR Zrl Zfb)
abbrev ZaK : List Kd := [.view (.sl (.int .i64)), .fn 150]
abbrev ZdA : Kd := .view (.int .i64)
noncomputable def Zmb (k : Nat) := Qo k [Zw8]
def Zu2 : Nat → Ann := fun id => bif Nat.beq id 2 then ⟨[7, 8, 1, 0], []⟩ else ⟨[], []⟩
abbrev Zis := Int × Int × List Int
abbrev Zdi := Zis → Option (Int × Unit)
def ZBZ : Zis → St
  | (v0, v1, v2) => St.mk (ZC [(nat_lit 7, Zp v0), (nat_lit 8, Zp v1), (nat_lit 1, AV.fn (nat_lit 150)), (nat_lit 0, XI v2)]) (ZA [])
def Xr (k : Nat) (L1 : Zdi) : Zdi
  | (v0, v1, v2) => bif decide (v1 < v0) then bif decide ((0 : Int) ≤ v1 ∧ v1 < Int.ofNat v2.length) then (Zfb k (v2.getD v1.toNat 0, ())).bind fun y => bif y.1 then some (v1, ()) else L1 (v0, IntKind.i64.wrap (v1 + (1 : Int)), v2) else none else some ((-1 : Int), ())
def ZiQ (k : Nat) : Zdi := Zr (fun L1 => Xr k L1) k
noncomputable def Za5 (k : Nat) (n : Nat) (v : Zis) : Option (Int × Unit) :=
  ZB (Zmb k) Zu2 [] [1, 0, 1, 0] [] (W0 Tryz.f146) (Xq (Zmb k) Tryz.f146 ZaK ZdA [] []) n (ZBZ v)
def Zjj (k : Nat) (L1 : Zdi) : List Int × Unit × Unit → Option (Int × Unit)
  | (a0, (), ()) => L1 (Int.ofNat a0.length, (0 : Int), a0)
def Zcg (k : Nat) := Zjj k (ZiQ k)
theorem Zu1 (k : Nat) : ∀ n, Za5 k n = Zr (fun L1 => Xr k L1) n :=
  Zn (fun v => by kernel_rfl) (fun n v => by
    show Za5 k (n + 1) v = Xr k (Za5 k n) v
    obtain ⟨v0, v1, v2⟩ := v
    kernel_rfl)
theorem ZCi (k : Nat) (x : Kd.dens ZaK) : ZD (Zmb k) Zu2 Tryz.f146 ZaK ZdA x = Zcg k x := by
  show _ = Zjj k (ZiQ k) x
  rw [show ZiQ k = Za5 k k from (Zu1 k k).symm]
  obtain ⟨a0, ⟨⟨⟩, ⟨⟩⟩⟩ := x
  kernel_rfl
theorem Zy5 (k : Nat) : Ctr Tryz.prog k 146 (mk ZaK ZdA Zcg) :=
  ZE (fn := Tryz.f146) (Zh (Za (ZmT k) Zd)) (by kernel_rfl) (by kernel_rfl) (by kernel_rfl) (by kernel_rfl) (ZCi k)
noncomputable abbrev ZFR : Nat × Callee := (146, mk ZaK ZdA Zcg)
abbrev Zdu : List Kd := [.view (.sl (.int .i64)), .fn 150]
abbrev ZhF : Kd := .view .bool
noncomputable def ZCR (k : Nat) := Qo k [ZFR]
def KX (k : Nat) : List Int × Unit × Unit → Option (Bool × Unit)
  | (a0, (), ()) => (Zcg k (a0, (), ())).bind fun y => some (decide ((0 : Int) ≤ y.1), ())
def Yr (k : Nat) := KX k
theorem ZB7 (k : Nat) (x : Kd.dens Zdu) : ZD (ZCR k) nA Tryz.f104 Zdu ZhF x = Yr k x := by
  show _ = KX k x
  obtain ⟨a0, ⟨⟨⟩, ⟨⟩⟩⟩ := x
  kernel_rfl
theorem ZeX (k : Nat) : Ctr Tryz.prog k 104 (mk Zdu ZhF Yr) :=
  ZE (fn := Tryz.f104) (Zh (Za (Zy5 k) Zd)) (by kernel_rfl) (by kernel_rfl) (by kernel_rfl) (by kernel_rfl) (ZB7 k)
noncomputable abbrev ZnS : Nat × Callee := (104, mk Zdu ZhF Yr)
abbrev ZkW : List Kd := [.view (.int .i64)]
abbrev Zsy : Kd := .view .bool
noncomputable def ZJR (k : Nat) := Qo k []
def Zc1 (k : Nat) : Int × Unit → Option (Bool × Unit)
  | (a0, ()) => bif decide (a0 < (-2048 : Int)) then some (true, ()) else some (decide ((2047 : Int) < a0), ())
def Znf (k : Nat) := Zc1 k
theorem ZG5 (k : Nat) (x : Kd.dens ZkW) : ZD (ZJR k) nA Tryz.f192 ZkW Zsy x = Znf k x := by
  show _ = Zc1 k x
  obtain ⟨a0, ⟨⟩⟩ := x
  kernel_rfl
theorem ZFU (k : Nat) : Ctr Tryz.prog k 192 (mk ZkW Zsy Znf) :=
  ZE (fn := Tryz.f192) (Zh Zd) (by kernel_rfl) (by kernel_rfl) (by kernel_rfl) (by kernel_rfl) (ZG5 k)
noncomputable abbrev ZLG : Nat × Callee := (192, mk ZkW Zsy Znf)
abbrev ZaO : List Kd := [.view (.sl (.int .i64)), .fn 192]
abbrev ZcK : Kd := .view (.int .i64)
noncomputable def ZmM (k : Nat) := Qo k [ZLG]
def Zuo : Nat → Ann := fun id => bif Nat.beq id 2 then ⟨[7, 8, 1, 0], []⟩ else ⟨[], []⟩
abbrev ZiR := Int × Int × List Int
abbrev ZcP := ZiR → Option (Int × Unit)
def ZBM : ZiR → St
  | (v0, v1, v2) => St.mk (ZC [(nat_lit 7, Zp v0), (nat_lit 8, Zp v1), (nat_lit 1, AV.fn (nat_lit 192)), (nat_lit 0, XI v2)]) (ZA [])
def Xg (k : Nat) (L1 : ZcP) : ZcP
  | (v0, v1, v2) => bif decide (v1 < v0) then bif decide ((0 : Int) ≤ v1 ∧ v1 < Int.ofNat v2.length) then (Znf k (v2.getD v1.toNat 0, ())).bind fun y => bif y.1 then some (v1, ()) else L1 (v0, IntKind.i64.wrap (v1 + (1 : Int)), v2) else none else some ((-1 : Int), ())
def ZhD (k : Nat) : ZcP := Zr (fun L1 => Xg k L1) k
noncomputable def Zbe (k : Nat) (n : Nat) (v : ZiR) : Option (Int × Unit) :=
  ZB (ZmM k) Zuo [] [1, 0, 1, 0] [] (W0 Tryz.f146) (Xq (ZmM k) Tryz.f146 ZaO ZcK [] []) n (ZBM v)
def Zje (k : Nat) (L1 : ZcP) : List Int × Unit × Unit → Option (Int × Unit)
  | (a0, (), ()) => L1 (Int.ofNat a0.length, (0 : Int), a0)
def Zb9 (k : Nat) := Zje k (ZhD k)
theorem ZvX (k : Nat) : ∀ n, Zbe k n = Zr (fun L1 => Xg k L1) n :=
  Zn (fun v => by kernel_rfl) (fun n v => by
    show Zbe k (n + 1) v = Xg k (Zbe k n) v
    obtain ⟨v0, v1, v2⟩ := v
    kernel_rfl)
theorem ZAh (k : Nat) (x : Kd.dens ZaO) : ZD (ZmM k) Zuo Tryz.f146 ZaO ZcK x = Zb9 k x := by
  show _ = Zje k (ZhD k) x
  rw [show ZhD k = Zbe k k from (ZvX k k).symm]
  obtain ⟨a0, ⟨⟨⟩, ⟨⟩⟩⟩ := x
  kernel_rfl
theorem Zxk (k : Nat) : Ctr Tryz.prog k 146 (mk ZaO ZcK Zb9) :=
  ZE (fn := Tryz.f146) (Zh (Za (ZFU k) Zd)) (by kernel_rfl) (by kernel_rfl) (by kernel_rfl) (by kernel_rfl) (ZAh k)
noncomputable abbrev ZGa : Nat × Callee := (146, mk ZaO ZcK Zb9)
abbrev Zdp : List Kd := [.view (.sl (.int .i64)), .fn 192]
abbrev ZiC : Kd := .view .bool
noncomputable def ZF2 (k : Nat) := Qo k [ZGa]
def KS (k : Nat) : List Int × Unit × Unit → Option (Bool × Unit)
  | (a0, (), ()) => (Zb9 k (a0, (), ())).bind fun y => some (decide ((0 : Int) ≤ y.1), ())
def ZcH (k : Nat) := KS k
theorem ZBS (k : Nat) (x : Kd.dens Zdp) : ZD (ZF2 k) nA Tryz.f104 Zdp ZiC x = ZcH k x := by
  show _ = KS k x
  obtain ⟨a0, ⟨⟨⟩, ⟨⟩⟩⟩ := x
  kernel_rfl
theorem Zxg (k : Nat) : Ctr Tryz.prog k 104 (mk Zdp ZiC ZcH) :=
  ZE (fn := Tryz.f104) (Zh (Za (Zxk k) Zd)) (by kernel_rfl) (by kernel_rfl) (by kernel_rfl) (by kernel_rfl) (ZBS k)
noncomputable abbrev ZET : Nat × Callee := (104, mk Zdp ZiC ZcH)
abbrev ZlJ : List Kd := [.view K5]
abbrev Zsk : Kd := .view (.int .i64)
noncomputable def ZMb (k : Nat) := Qo k [ZET]
def Zd7 (k : Nat) : (List Int × Int × Unit) × Unit → Option (Int × Unit)
  | ((a0, a1, ()), ()) => bif decide ((8 : Int) < Int.ofNat a0.length) then some (2, ()) else bif decide (a1 < (0 : Int)) then some (2, ()) else bif decide ((15 : Int) < a1) then some (2, ()) else (ZcH k (a0, (), ())).bind fun y => bif y.1 then some (2, ()) else some (0, ())
def ZiL (k : Nat) := Zd7 k
theorem ZGP (k : Nat) (x : Kd.dens ZlJ) : ZD (ZMb k) nA Tryz.f172 ZlJ Zsk x = ZiL k x := by
  show _ = Zd7 k x
  obtain ⟨⟨a0, ⟨a1, ⟨⟩⟩⟩, ⟨⟩⟩ := x
  kernel_rfl
theorem ZuH (k : Nat) : Ctr Tryz.prog k 172 (mk ZlJ Zsk ZiL) :=
  ZE (fn := Tryz.f172) (Zh (Za (Zxg k) Zd)) (by kernel_rfl) (by kernel_rfl) (by kernel_rfl) (by kernel_rfl) (ZGP k)
noncomputable abbrev ZEg : Nat × Callee := (172, mk ZlJ Zsk ZiL)
abbrev ZfL : List Kd := [.view K5, .view (.sl (.int .i64))]
abbrev ZjT : Kd := .view (.int .i64)
noncomputable def ZxY (k : Nat) := Qo k []
def ZD9 : Nat → Ann := fun id => bif Nat.beq id 3 then ⟨[10, 11, 9, 5, 1, 2], []⟩ else ⟨[], []⟩
abbrev ZrJ := Int × Int × List Int × Int × List Int × List Int × Int
abbrev ZlF := ZrJ → Option (Int × Unit)
def ZIK : ZrJ → St
  | (v0, v1, v2, v3, v4, v5, v6) => St.mk (ZC [(nat_lit 10, Zp v0), (nat_lit 11, Zp v1), (nat_lit 9, XI v2), (nat_lit 5, Zp v3), (nat_lit 1, XI v4), (nat_lit 2, AV.bx (nat_lit 8192) (nat_lit 0))]) (ZA [(nat_lit 8192, RS.live (Res.box [XI v5, Zp v6]))])
def YO (k : Nat) (L1 : ZlF) : ZlF
  | (v0, v1, v2, v3, v4, v5, v6) => bif decide (v1 < v0) then bif decide ((0 : Int) ≤ v1 ∧ v1 < Int.ofNat v2.length) then bif decide ((0 : Int) ≤ IntKind.i64.wrap (IntKind.i64.wrap (Int.ofNat v4.length - (1 : Int)) - v1) ∧ IntKind.i64.wrap (IntKind.i64.wrap (Int.ofNat v4.length - (1 : Int)) - v1) < Int.ofNat v4.length) then L1 (v0, IntKind.i64.wrap (v1 + (1 : Int)), v2, IntKind.i64.wrap (v3 + IntKind.i64.wrap (v2.getD v1.toNat 0 * v4.getD (IntKind.i64.wrap (IntKind.i64.wrap (Int.ofNat v4.length - (1 : Int)) - v1)).toNat 0)), v4, v5, v6) else none else none else bif decide ((0 : Int) ≤ v6) then some (v3.fdiv ((2 : Int) ^ min v6.toNat (64 : Nat)), ()) else none
def Zk1 (k : Nat) : ZlF := Zr (fun L1 => YO k L1) k
noncomputable def Zg9 (k : Nat) (n : Nat) (v : ZrJ) : Option (Int × Unit) :=
  ZB (ZxY k) ZD9 [] [1, 1, 0, 1, 0] [] (W0 Tryz.f173) (Xq (ZxY k) Tryz.f173 ZfL ZjT [] []) n (ZIK v)
def Zd5 (k : Nat) (L1 : ZlF) : (List Int × Int × Unit) × List Int × Unit → Option (Int × Unit)
  | ((a0, a1, ()), a2, ()) => L1 (Int.ofNat a0.length, (0 : Int), a0, (0 : Int), a2, a0, a1)
def Zh7 (k : Nat) := Zd5 k (Zk1 k)
theorem ZBQ (k : Nat) : ∀ n, Zg9 k n = Zr (fun L1 => YO k L1) n :=
  Zn (fun v => by kernel_rfl) (fun n v => by
    show Zg9 k (n + 1) v = YO k (Zg9 k n) v
    obtain ⟨v0, v1, v2, v3, v4, v5, v6⟩ := v
    kernel_rfl)
theorem ZIm (k : Nat) (x : Kd.dens ZfL) : ZD (ZxY k) ZD9 Tryz.f173 ZfL ZjT x = Zh7 k x := by
  show _ = Zd5 k (Zk1 k) x
  rw [show Zk1 k = Zg9 k k from (ZBQ k k).symm]
  obtain ⟨⟨a0, ⟨a1, ⟨⟩⟩⟩, ⟨a2, ⟨⟩⟩⟩ := x
  kernel_rfl
theorem Zwm (k : Nat) : Ctr Tryz.prog k 173 (mk ZfL ZjT Zh7) :=
  ZE (fn := Tryz.f173) (Zh Zd) (by kernel_rfl) (by kernel_rfl) (by kernel_rfl) (by kernel_rfl) (ZIm k)
noncomputable abbrev ZC8 : Nat × Callee := (173, mk ZfL ZjT Zh7)
abbrev Zhm : List Kd := [.view K5, .view (.sl (.int .i64))]
abbrev Zj8 : Kd := .tup [.view (.sl (.int .i64)), .view (.int .i64)]
noncomputable def Zxx (k : Nat) := Qo k [ZnS, Zw8, ZEg, ZC8]
def ZDb : Nat → Ann := fun id => bif Nat.beq id 9 then ⟨[7, 1, 2, 6], [.slot 6 ((Ty.int IntKind.i64))]⟩ else ⟨[], []⟩
abbrev Ztj := Int × List Int × List Int × Int × List Int
abbrev ZkK := Ztj → Option ((List Int × Int × Unit) × Unit)
def ZIQ : Ztj → St
  | (v0, v1, v2, v3, v4) => St.mk (ZC [(nat_lit 7, Zp v0), (nat_lit 1, XI v1), (nat_lit 2, AV.bx (nat_lit 8192) (nat_lit 0)), (nat_lit 6, AV.own (nat_lit 8193))]) (ZA [(nat_lit 8192, RS.live (Res.box [XI v2, Zp v3])), (nat_lit 8193, RS.live (Res.arr (Ty.int IntKind.i64) v4 false))])
def YZ (k : Nat) (L1 : ZkK) : ZkK
  | (v0, v1, v2, v3, v4) => bif decide (v0 < Int.ofNat v1.length) then bif decide ((0 : Int) ≤ v0 ∧ v0 < Int.ofNat v1.length) then bif decide ((0 : Int) ≤ (0 : Int) ∧ (0 : Int) ≤ v0 ∧ v0 ≤ Int.ofNat v1.length) then (Zh7 k ((v2, v3, ()), List.drop (0 : Nat) (List.take v0.toNat v1), ())).bind fun y => (Zfb k (IntKind.i64.wrap (v1.getD v0.toNat 0 - y.1), ())).bind fun y_1 => bif y_1.1 then some (([], 12, ()), ()) else bif decide (v4.length + [IntKind.i64.wrap (v1.getD v0.toNat 0 - y.1)].length < (2147483648 : Nat)) then L1 (IntKind.i64.wrap (v0 + (1 : Int)), v1, v2, v3, v4 ++ [IntKind.i64.wrap (v1.getD v0.toNat 0 - y.1)]) else none else none else none else some ((v4, 0, ()), ())
def Zku (k : Nat) : ZkK := Zr (fun L1 => YZ k L1) k
noncomputable def ZfY (k : Nat) (n : Nat) (v : Ztj) : Option ((List Int × Int × Unit) × Unit) :=
  ZB (Zxx k) ZDb [] [1, 1, 1, 0, 1, 0] [] (W0 Tryz.f148) (Xq (Zxx k) Tryz.f148 Zhm Zj8 [] []) n (ZIQ v)
def Zee (k : Nat) (L1 : ZkK) : (List Int × Int × Unit) × List Int × Unit → Option ((List Int × Int × Unit) × Unit)
  | ((a0, a1, ()), a2, ()) => (ZiL k ((a0, a1, ()), ())).bind fun y => bif y.1 != (0 : Int) then some (([], 2, ()), ()) else bif decide (Int.ofNat a2.length < Int.ofNat a0.length) then some (([], 1, ()), ()) else (Yr k (a2, (), ())).bind fun y => bif y.1 then some (([], 12, ()), ()) else L1 (Int.ofNat a0.length, a2, a0, a1, [])
def ZhN (k : Nat) := Zee k (Zku k)
theorem ZAX (k : Nat) : ∀ n, ZfY k n = Zr (fun L1 => YZ k L1) n :=
  Zn (fun v => by kernel_rfl) (fun n v => by
    show ZfY k (n + 1) v = YZ k (ZfY k n) v
    obtain ⟨v0, v1, v2, v3, v4⟩ := v
    kernel_rfl)
theorem ZIj (k : Nat) (x : Kd.dens Zhm) : ZD (Zxx k) ZDb Tryz.f148 Zhm Zj8 x = ZhN k x := by
  show _ = Zee k (Zku k) x
  rw [show Zku k = ZfY k k from (ZAX k k).symm]
  obtain ⟨⟨a0, ⟨a1, ⟨⟩⟩⟩, ⟨a2, ⟨⟩⟩⟩ := x
  kernel_rfl
theorem ZuK (k : Nat) : Ctr Tryz.prog k 148 (mk Zhm Zj8 ZhN) :=
  ZE (fn := Tryz.f148) (Zh (Za (ZeX k) (Za (ZmT k) (Za (ZuH k) (Za (Zwm k) Zd))))) (by kernel_rfl) (by kernel_rfl) (by kernel_rfl) (by kernel_rfl) (ZIj k)
noncomputable abbrev ZDQ : Nat × Callee := (148, mk Zhm Zj8 ZhN)
abbrev ZjV : List Kd := [.view (.int .i64)]
abbrev Zri : Kd := .view .bool
noncomputable def ZKa (k : Nat) := Qo k []
def ZdN (k : Nat) : Int × Unit → Option (Bool × Unit)
  | (a0, ()) => bif decide (a0 ≤ (-2147483648 : Int)) then some (true, ()) else some (decide ((2147483648 : Int) ≤ a0), ())
def Zmf (k : Nat) := ZdN k
theorem ZHy (k : Nat) (x : Kd.dens ZjV) : ZD (ZKa k) nA Tryz.f155 ZjV Zri x = Zmf k x := by
  show _ = ZdN k x
  obtain ⟨a0, ⟨⟩⟩ := x
  kernel_rfl
theorem ZDs (k : Nat) : Ctr Tryz.prog k 155 (mk ZjV Zri Zmf) :=
  ZE (fn := Tryz.f155) (Zh Zd) (by kernel_rfl) (by kernel_rfl) (by kernel_rfl) (by kernel_rfl) (ZHy k)
noncomputable abbrev ZKn : Nat × Callee := (155, mk ZjV Zri Zmf)
abbrev ZaQ : List Kd := [.view (.sl (.int .i64)), .fn 155]
abbrev ZdT : Kd := .view (.int .i64)
noncomputable def Zna (k : Nat) := Qo k [ZKn]
def ZvM : Nat → Ann := fun id => bif Nat.beq id 2 then ⟨[7, 8, 1, 0], []⟩ else ⟨[], []⟩
abbrev Zix := Int × Int × List Int
abbrev ZcR := Zix → Option (Int × Unit)
def ZA8 : Zix → St
  | (v0, v1, v2) => St.mk (ZC [(nat_lit 7, Zp v0), (nat_lit 8, Zp v1), (nat_lit 1, AV.fn (nat_lit 155)), (nat_lit 0, XI v2)]) (ZA [])
def Xf (k : Nat) (L1 : ZcR) : ZcR
  | (v0, v1, v2) => bif decide (v1 < v0) then bif decide ((0 : Int) ≤ v1 ∧ v1 < Int.ofNat v2.length) then (Zmf k (v2.getD v1.toNat 0, ())).bind fun y => bif y.1 then some (v1, ()) else L1 (v0, IntKind.i64.wrap (v1 + (1 : Int)), v2) else none else some ((-1 : Int), ())
def Zir (k : Nat) : ZcR := Zr (fun L1 => Xf k L1) k
noncomputable def Zbp (k : Nat) (n : Nat) (v : Zix) : Option (Int × Unit) :=
  ZB (Zna k) ZvM [] [1, 0, 1, 0] [] (W0 Tryz.f146) (Xq (Zna k) Tryz.f146 ZaQ ZdT [] []) n (ZA8 v)
def Zjw (k : Nat) (L1 : ZcR) : List Int × Unit × Unit → Option (Int × Unit)
  | (a0, (), ()) => L1 (Int.ofNat a0.length, (0 : Int), a0)
def Zch (k : Nat) := Zjw k (Zir k)
theorem ZvQ (k : Nat) : ∀ n, Zbp k n = Zr (fun L1 => Xf k L1) n :=
  Zn (fun v => by kernel_rfl) (fun n v => by
    show Zbp k (n + 1) v = Xf k (Zbp k n) v
    obtain ⟨v0, v1, v2⟩ := v
    kernel_rfl)
theorem ZAW (k : Nat) (x : Kd.dens ZaQ) : ZD (Zna k) ZvM Tryz.f146 ZaQ ZdT x = Zch k x := by
  show _ = Zjw k (Zir k) x
  rw [show Zir k = Zbp k k from (ZvQ k k).symm]
  obtain ⟨a0, ⟨⟨⟩, ⟨⟩⟩⟩ := x
  kernel_rfl
theorem Zx6 (k : Nat) : Ctr Tryz.prog k 146 (mk ZaQ ZdT Zch) :=
  ZE (fn := Tryz.f146) (Zh (Za (ZDs k) Zd)) (by kernel_rfl) (by kernel_rfl) (by kernel_rfl) (by kernel_rfl) (ZAW k)
noncomputable abbrev ZDu : Nat × Callee := (146, mk ZaQ ZdT Zch)
abbrev ZdY : List Kd := [.view (.sl (.int .i64)), .fn 155]
abbrev Zik : Kd := .view .bool
noncomputable def ZD5 (k : Nat) := Qo k [ZDu]
def KD (k : Nat) : List Int × Unit × Unit → Option (Bool × Unit)
  | (a0, (), ()) => (Zch k (a0, (), ())).bind fun y => some (decide ((0 : Int) ≤ y.1), ())
def Zb1 (k : Nat) := KD k
theorem ZBb (k : Nat) (x : Kd.dens ZdY) : ZD (ZD5 k) nA Tryz.f104 ZdY Zik x = Zb1 k x := by
  show _ = KD k x
  obtain ⟨a0, ⟨⟨⟩, ⟨⟩⟩⟩ := x
  kernel_rfl
theorem Zw7 (k : Nat) : Ctr Tryz.prog k 104 (mk ZdY Zik Zb1) :=
  ZE (fn := Tryz.f104) (Zh (Za (Zx6 k) Zd)) (by kernel_rfl) (by kernel_rfl) (by kernel_rfl) (by kernel_rfl) (ZBb k)
noncomputable abbrev ZFw : Nat × Callee := (104, mk ZdY Zik Zb1)
abbrev Zkx : List Kd := [.view (.int .i64), .view (.int .i64)]
abbrev ZsS : Kd := .view .bool
noncomputable def ZMt (k : Nat) := Qo k []
def ZcW (k : Nat) : Int × Int × Unit → Option (Bool × Unit)
  | (a0, a1, ()) => bif decide ((1 : Int) ≤ a0) then bif decide (a0 ≤ (512 : Int)) then bif decide ((0 : Int) ≤ a1) then some (decide (a1 ≤ if a0 < (8 : Int) then a0 else (8 : Int)), ()) else some (false, ()) else some (false, ()) else some (false, ())
def Zi2 (k : Nat) := ZcW k
theorem ZHr (k : Nat) (x : Kd.dens Zkx) : ZD (ZMt k) nA Tryz.f154 Zkx ZsS x = Zi2 k x := by
  show _ = ZcW k x
  obtain ⟨a0, ⟨a1, ⟨⟩⟩⟩ := x
  kernel_rfl
theorem ZvD (k : Nat) : Ctr Tryz.prog k 154 (mk Zkx ZsS Zi2) :=
  ZE (fn := Tryz.f154) (Zh Zd) (by kernel_rfl) (by kernel_rfl) (by kernel_rfl) (by kernel_rfl) (ZHr k)
noncomputable abbrev ZDi : Nat × Callee := (154, mk Zkx ZsS Zi2)
abbrev Zkb : List Kd := [.view (.sl (.int .i64)), .view (.int .i64)]
abbrev ZsL : Kd := .view (.int .i64)
noncomputable def ZLY (k : Nat) := Qo k [ZFw, ZDi]
def ZcN (k : Nat) : List Int × Int × Unit → Option (Int × Unit)
  | (a0, a1, ()) => bif decide (a1 < (0 : Int)) then some (1, ()) else bif decide ((8 : Int) < a1) then some (1, ()) else (Zi2 k (IntKind.i64.wrap (Int.ofNat a0.length + a1), a1, ())).bind fun y => bif !y.1 then some (1, ()) else (Zb1 k (a0, (), ())).bind fun y => bif y.1 then some (12, ()) else some (0, ())
def Zic (k : Nat) := ZcN k
theorem ZHY (k : Nat) (x : Kd.dens Zkb) : ZD (ZLY k) nA Tryz.f113 Zkb ZsL x = Zic k x := by
  show _ = ZcN k x
  obtain ⟨a0, ⟨a1, ⟨⟩⟩⟩ := x
  kernel_rfl
theorem ZvB (k : Nat) : Ctr Tryz.prog k 113 (mk Zkb ZsL Zic) :=
  ZE (fn := Tryz.f113) (Zh (Za (Zw7 k) (Za (ZvD k) Zd))) (by kernel_rfl) (by kernel_rfl) (by kernel_rfl) (by kernel_rfl) (ZHY k)
noncomputable abbrev ZDg : Nat × Callee := (113, mk Zkb ZsL Zic)
abbrev Zgo : List Kd := [.view (.sl (.int .i64)), .view (.int .i64), .view (.int .i64)]
abbrev ZkL : Kd := .view (.sl (.sl (.int .i64)))
noncomputable def ZyU (k : Nat) := Qo k []
def ZC5 : Nat → Ann := fun id => bif Nat.beq id 4 then ⟨[8, 2, 9, 7], []⟩ else ⟨[], []⟩
abbrev ZqZ := Int × List Int × Int × List (List Int)
abbrev Zj6 := ZqZ → Option (List (List Int) × Unit)
def ZGK : ZqZ → St
  | (v0, v1, v2, v3) => St.mk (ZC [(nat_lit 8, AV.own (nat_lit 8192)), (nat_lit 2, Zp v0), (nat_lit 9, XI v1), (nat_lit 7, Zp v2)]) (ZA [(nat_lit 8192, RS.live (Res.arr (Ty.int IntKind.i64).sl v3 false))])
def YT (k : Nat) (L1 : Zj6) : Zj6
  | (v0, v1, v2, v3) => bif decide ((0 : Int) ≤ v0) then bif decide (Int.ofNat v3.length < IntKind.i64.wrap ((1 : Int) * (2 : Int) ^ min v0.toNat (64 : Nat))) then bif decide ((0 : Int) ≤ (0 : Int) ∧ (0 : Int) ≤ v2 ∧ v2 ≤ Int.ofNat v1.length) then bif decide (v3.length + [List.drop (0 : Nat) (List.take v2.toNat v1)].length < (2147483648 : Nat)) then bif decide ((0 : Int) ≤ v2 ∧ v2 ≤ Int.ofNat v1.length ∧ Int.ofNat v1.length ≤ Int.ofNat v1.length) then L1 (v0, List.drop v2.toNat (List.take (Int.ofNat v1.length).toNat v1), v2, v3 ++ [List.drop (0 : Nat) (List.take v2.toNat v1)]) else none else none else none else some (v3, ()) else none
def ZkQ (k : Nat) : Zj6 := Zr (fun L1 => YT k L1) k
noncomputable def ZgO (k : Nat) (n : Nat) (v : ZqZ) : Option (List (List Int) × Unit) :=
  ZB (ZyU k) ZC5 [] [1, 1, 1, 0, 1, 0] [] (W0 Tryz.f115) (Xq (ZyU k) Tryz.f115 Zgo ZkL [] []) n (ZGK v)
def Zc5 (k : Nat) (L1 : Zj6) : List Int × Int × Int × Unit → Option (List (List Int) × Unit)
  | (a0, a1, a2, ()) => bif decide ((0 : Int) ≤ a2) then bif decide ((0 : Int) ≤ (0 : Int) ∧ (0 : Int) ≤ IntKind.i64.wrap ((IntKind.i64.wrap (Int.ofNat a0.length + a1)).fdiv ((2 : Int) ^ min a2.toNat (64 : Nat)) - a1) ∧ IntKind.i64.wrap ((IntKind.i64.wrap (Int.ofNat a0.length + a1)).fdiv ((2 : Int) ^ min a2.toNat (64 : Nat)) - a1) ≤ Int.ofNat a0.length) then bif decide ((0 : Int) ≤ IntKind.i64.wrap ((IntKind.i64.wrap (Int.ofNat a0.length + a1)).fdiv ((2 : Int) ^ min a2.toNat (64 : Nat)) - a1) ∧ IntKind.i64.wrap ((IntKind.i64.wrap (Int.ofNat a0.length + a1)).fdiv ((2 : Int) ^ min a2.toNat (64 : Nat)) - a1) ≤ Int.ofNat a0.length ∧ Int.ofNat a0.length ≤ Int.ofNat a0.length) then L1 (a2, List.drop (IntKind.i64.wrap ((IntKind.i64.wrap (Int.ofNat a0.length + a1)).fdiv ((2 : Int) ^ min a2.toNat (64 : Nat)) - a1)).toNat (List.take (Int.ofNat a0.length).toNat a0), (IntKind.i64.wrap (Int.ofNat a0.length + a1)).fdiv ((2 : Int) ^ min a2.toNat (64 : Nat)), [List.drop (0 : Nat) (List.take (IntKind.i64.wrap ((IntKind.i64.wrap (Int.ofNat a0.length + a1)).fdiv ((2 : Int) ^ min a2.toNat (64 : Nat)) - a1)).toNat a0)]) else none else none else none
def ZiZ (k : Nat) := Zc5 k (ZkQ k)
theorem ZAA (k : Nat) : ∀ n, ZgO k n = Zr (fun L1 => YT k L1) n :=
  Zn (fun v => by kernel_rfl) (fun n v => by
    show ZgO k (n + 1) v = YT k (ZgO k n) v
    obtain ⟨v0, v1, v2, v3⟩ := v
    kernel_rfl)
theorem ZHT (k : Nat) (x : Kd.dens Zgo) : ZD (ZyU k) ZC5 Tryz.f115 Zgo ZkL x = ZiZ k x := by
  show _ = Zc5 k (ZkQ k) x
  rw [show ZkQ k = ZgO k k from (ZAA k k).symm]
  obtain ⟨a0, ⟨a1, ⟨a2, ⟨⟩⟩⟩⟩ := x
  kernel_rfl
theorem ZvW (k : Nat) : Ctr Tryz.prog k 115 (mk Zgo ZkL ZiZ) :=
  ZE (fn := Tryz.f115) (Zh Zd) (by kernel_rfl) (by kernel_rfl) (by kernel_rfl) (by kernel_rfl) (ZHT k)
noncomputable abbrev ZD4 : Nat × Callee := (115, mk Zgo ZkL ZiZ)
abbrev KH : List Kd := [.view (.int .i64)]
abbrev Zbc : Kd := .view (.int .i64)
noncomputable def ZJN (k : Nat) := Qo k []
def ZpZ (k : Nat) : Int × Unit → Option (Int × Unit)
  | (a0, ()) => some (IntKind.i64.wrap ((4 : Int) + a0), ())
def Kx (k : Nat) := ZpZ k
theorem ZIE (k : Nat) (x : Kd.dens KH) : ZD (ZJN k) nA Tryz.f116 KH Zbc x = Kx k x := by
  show _ = ZpZ k x
  obtain ⟨a0, ⟨⟩⟩ := x
  kernel_rfl
theorem Zv9 (k : Nat) : Ctr Tryz.prog k 116 (mk KH Zbc Kx) :=
  ZE (fn := Tryz.f116) (Zh Zd) (by kernel_rfl) (by kernel_rfl) (by kernel_rfl) (by kernel_rfl) (ZIE k)
noncomputable abbrev ZJS : Nat × Callee := (116, mk KH Zbc Kx)
abbrev Zef : List Kd := [.view (.int .i64), .view (.int .i64), .view (.int .i64)]
abbrev Zgg : Kd := .view .bool
noncomputable def ZKQ (k : Nat) := Qo k []
def ZcM (k : Nat) : Int × Int × Int × Unit → Option (Bool × Unit)
  | (a0, a1, a2, ()) => bif decide ((0 : Int) ≤ a2) then bif IntKind.i64.wrap (Int.ofNat (BitVec.ofInt (64 : Nat) a0 &&& BitVec.ofInt (64 : Nat) (IntKind.i64.wrap (IntKind.i64.wrap ((1 : Int) * (2 : Int) ^ min a2.toNat (64 : Nat)) - (1 : Int)))).toNat) == (0 : Int) then bif decide ((0 : Int) ≤ a2) then some (decide (a1 ≤ a0.fdiv ((2 : Int) ^ min a2.toNat (64 : Nat))), ()) else none else some (false, ()) else none
def Kk (k : Nat) := ZcM k
theorem ZIO (k : Nat) (x : Kd.dens Zef) : ZD (ZKQ k) nA Tryz.f156 Zef Zgg x = Kk k x := by
  show _ = ZcM k x
  obtain ⟨a0, ⟨a1, ⟨a2, ⟨⟩⟩⟩⟩ := x
  kernel_rfl
theorem ZuI (k : Nat) : Ctr Tryz.prog k 156 (mk Zef Zgg Kk) :=
  ZE (fn := Tryz.f156) (Zh Zd) (by kernel_rfl) (by kernel_rfl) (by kernel_rfl) (by kernel_rfl) (ZIO k)
noncomputable abbrev ZKc : Nat × Callee := (156, mk Zef Zgg Kk)
abbrev KJ : List Kd := [.view (.int .i64)]
abbrev ZbA : Kd := .view (.int .i64)
noncomputable def ZKh (k : Nat) := Qo k [ZJS]
def Zqh (k : Nat) : Int × Unit → Option (Int × Unit)
  | (a0, ()) => (Kx k (a0, ())).bind fun y => bif decide ((0 : Int) ≤ y.1) then some (IntKind.i64.wrap (IntKind.i64.wrap ((1 : Int) * (2 : Int) ^ min (Int.toNat y.1) (64 : Nat)) - (1 : Int)), ()) else none
def Ke (k : Nat) := Zqh k
theorem ZHI (k : Nat) (x : Kd.dens KJ) : ZD (ZKh k) nA Tryz.f117 KJ ZbA x = Ke k x := by
  show _ = Zqh k x
  obtain ⟨a0, ⟨⟩⟩ := x
  kernel_rfl
theorem ZDX (k : Nat) : Ctr Tryz.prog k 117 (mk KJ ZbA Ke) :=
  ZE (fn := Tryz.f117) (Zh (Za (Zv9 k) Zd)) (by kernel_rfl) (by kernel_rfl) (by kernel_rfl) (by kernel_rfl) (ZHI k)
noncomputable abbrev ZNV : Nat × Callee := (117, mk KJ ZbA Ke)
abbrev Zby : List Kd := [.view (.int .i64)]
abbrev ZdZ : Kd := .tup [.view (.int .i64), .view (.int .i64)]
noncomputable def ZL1 (k : Nat) := Qo k []
def ZdH (k : Nat) : Int × Unit → Option ((Int × Int × Unit) × Unit)
  | (a0, ()) => bif decide (a0 < (-1099511627776 : Int)) then some ((0, 12, ()), ()) else bif decide ((1099511627776 : Int) < a0) then some ((0, 12, ()), ()) else some ((IntKind.i64.wrap (Int.ofNat (BitVec.ofInt (64 : Nat) (IntKind.i64.wrap (a0 * (2 : Int))) ^^^ BitVec.ofInt (64 : Nat) (a0.fdiv (9223372036854775808 : Int))).toNat), 0, ()), ())
def K6 (k : Nat) := ZdH k
theorem ZIA (k : Nat) (x : Kd.dens Zby) : ZD (ZL1 k) nA Tryz.f118 Zby ZdZ x = K6 k x := by
  show _ = ZdH k x
  obtain ⟨a0, ⟨⟩⟩ := x
  kernel_rfl
theorem ZCL (k : Nat) : Ctr Tryz.prog k 118 (mk Zby ZdZ K6) :=
  ZE (fn := Tryz.f118) (Zh Zd) (by kernel_rfl) (by kernel_rfl) (by kernel_rfl) (by kernel_rfl) (ZIA k)
noncomputable abbrev ZN3 : Nat × Callee := (118, mk Zby ZdZ K6)
abbrev Zzq : List Kd := [.view (.int .u64)]
abbrev ZzO : Kd := .view (.int .i64)
def Zrb (k : Nat) : Int × Unit → Option (Int × Unit) := fun x => ZCS x
def ZLZ : Go.Shelf.Ren := ⟨fun n => match n with | 129 => 194 | _ => 0, fun n => match n with | 0 => 0 | 3 => 3 | 4 => 4 | 5 => 5 | 9 => 9 | 46 => 114 | 53 => 49 | _ => 0, fun n => n⟩
set_option maxRecDepth 100000 in
theorem ZIX : Go.Proofs.Lays.n129 Tryz.prog ZLZ := by
  constructor <;> first | kernel_rfl | (intro w; rfl)
set_option maxRecDepth 100000 in
theorem ZDn (k : Nat) : Ctr Tryz.prog k 194 (mk Zzq ZzO Zrb) := ZAU ZIX (fn := Tryz.f194) (by kernel_rfl) (by kernel_rfl) (by kernel_rfl) (by kernel_rfl)
noncomputable abbrev ZLJ : Nat × Callee := (194, mk Zzq ZzO Zrb)
abbrev ZjK : List Kd := [.view (.int .i64)]
abbrev Zrk : Kd := .view (.int .i64)
noncomputable def ZKM (k : Nat) := Qo k [ZLJ]
def Zdc (k : Nat) : Int × Unit → Option (Int × Unit)
  | (a0, ()) => (Zrb k (IntKind.u64.wrap (IntKind.i64.wrap (Int.ofNat (BitVec.ofInt (64 : Nat) a0 ^^^ BitVec.ofInt (64 : Nat) (a0.fdiv (9223372036854775808 : Int))).toNat)), ())).bind fun y => some (IntKind.i64.wrap (y.1 + (1 : Int)), ())
def Zoc (k : Nat) := Zdc k
theorem ZGT (k : Nat) (x : Kd.dens ZjK) : ZD (ZKM k) nA Tryz.f182 ZjK Zrk x = Zoc k x := by
  show _ = Zdc k x
  obtain ⟨a0, ⟨⟩⟩ := x
  kernel_rfl
theorem ZFO (k : Nat) : Ctr Tryz.prog k 182 (mk ZjK Zrk Zoc) :=
  ZE (fn := Tryz.f182) (Zh (Za (ZDn k) Zd)) (by kernel_rfl) (by kernel_rfl) (by kernel_rfl) (by kernel_rfl) (ZGT k)
noncomputable abbrev ZKs : Nat × Callee := (182, mk ZjK Zrk Zoc)
noncomputable def Yw : (k : Nat) → Int × Unit → Option (Int × Unit) := Classical.choose (⟨Ke, rfl⟩ : ∃ F : (k : Nat) → Int × Unit → Option (Int × Unit), F = Ke)
theorem Zpa : Yw = Ke := Classical.choose_spec (⟨Ke, rfl⟩ : ∃ F : (k : Nat) → Int × Unit → Option (Int × Unit), F = Ke)
theorem Zib (k : Nat) : Ctr Tryz.prog k 117 (mk KJ ZbA Yw) := by rw [Zpa]; exact ZDX k
noncomputable def ZeV : (k : Nat) → Int × Unit → Option ((Int × Int × Unit) × Unit) := Classical.choose (⟨K6, rfl⟩ : ∃ F : (k : Nat) → Int × Unit → Option ((Int × Int × Unit) × Unit), F = K6)
theorem Zo2 : ZeV = K6 := Classical.choose_spec (⟨K6, rfl⟩ : ∃ F : (k : Nat) → Int × Unit → Option ((Int × Int × Unit) × Unit), F = K6)
theorem Zqi (k : Nat) : Ctr Tryz.prog k 118 (mk Zby ZdZ ZeV) := by rw [Zo2]; exact ZCL k
abbrev Zba : List Kd := [.view (.sl (.int .i64)), .view (.int .i64)]
abbrev Zdx : Kd := .tup [.view ZDV, .view .bool]
noncomputable def ZeU (k : Nat) := Qo k [(117, mk KJ ZbA Yw), (118, mk Zby ZdZ ZeV), ZKs]
noncomputable def ZtW : Nat → Ann := fun id => bif Nat.beq id 16 then ⟨[55, 56, 54, 13, 12, 14, 7, 6, 46, 45, 0, 8, 9, 1, 4], []⟩ else bif Nat.beq id 12 then ⟨[45, 46, 0, 8, 7, 6, 9, 1, 4], []⟩ else bif Nat.beq id 5 then ⟨[23, 24, 22, 8, 9, 1, 0, 7, 6, 4], []⟩ else ⟨[], []⟩
abbrev ZrT := Int × Int × Int × Int × Bool × Bool × Int × Int × List Int × Int × Int × List Int × Int × Int × Int × Int × Int × Int
abbrev Zlk := ZrT → Option (((Int × Int × Int × Unit) × Bool × Unit) × Unit)
abbrev ZtN := Int × Int × List Int × Bool × Int × Int × List Int × Int × Int × Int × Int × Int × Int
abbrev ZdW := ZtN → Option (((Int × Int × Int × Unit) × Bool × Unit) × Unit)
abbrev Zrz := Int × Int × List Int × Int × Int × List Int × Bool × List Int × Int × Int × Int × Int × Int × Int
abbrev Zlz := Zrz → Option (((Int × Int × Int × Unit) × Bool × Unit) × Unit)
noncomputable def ZGH : ZrT → St
  | (v0, v1, v2, v3, v4, v5, v6, v7, v8, v9, v10, v11, v12, v13, v14, v15, v16, v17) => St.mk (ZC [(nat_lit 55, Zp v0), (nat_lit 56, Zp v1), (nat_lit 54, AV.own (nat_lit 8192)), (nat_lit 13, Zp v2), (nat_lit 12, Zp v3), (nat_lit 14, avB v4), (nat_lit 7, avB v5), (nat_lit 6, AV.bx (nat_lit 8193) (nat_lit 0)), (nat_lit 46, Zp v6), (nat_lit 45, Zp v7), (nat_lit 0, XI v8), (nat_lit 8, AV.own (nat_lit 8192)), (nat_lit 9, Zp v9), (nat_lit 1, Zp v10), (nat_lit 4, AV.bx (nat_lit 8194) (nat_lit 0))]) (ZA [(nat_lit 8192, RS.live (Res.arr (Ty.int IntKind.i64) v11 false)), (nat_lit 8193, RS.live (Res.box [Zp v12, Zp v13, Zp v14])), (nat_lit 8194, RS.live (Res.box [Zp v15, Zp v16, Zp v17]))])
noncomputable def YM (k : Nat) (L2 : ZdW) (L3 : Zlk) : Zlk
  | (v0, v1, v2, v3, v4, v5, v6, v7, v8, v9, v10, v11, v12, v13, v14, v15, v16, v17) => bif decide (v1 < v0) then bif decide ((0 : Int) ≤ v1 ∧ v1 < Int.ofNat v11.length) then bif decide (v1.toNat < v11.length) then bif decide ((0 : Int) ≤ v3) then bif v4 then L3 (v0, IntKind.i64.wrap (v1 + (1 : Int)), IntKind.i64.wrap (v2 + Int.fdiv (v11.getD v1.toNat 0) ((2 : Int) ^ min v3.toNat (64 : Nat))), v3, true, v5, v6, v7, v8, v9, v10, v11, v12, v13, v14, v15, v16, v17) else bif decide ((0 : Int) ≤ v3) then L3 (v0, IntKind.i64.wrap (v1 + (1 : Int)), IntKind.i64.wrap (v2 + Int.fdiv (v11.getD v1.toNat 0) ((2 : Int) ^ min v3.toNat (64 : Nat))), v3, decide ((65536 : Int) < Int.fdiv (v11.getD v1.toNat 0) ((2 : Int) ^ min v3.toNat (64 : Nat))), v5, v6, v7, v8, v9, v10, v11, v12, v13, v14, v15, v16, v17) else none else none else none else none else bif !v4 then bif !v5 then L2 (v7, IntKind.i64.wrap (v6 + (1 : Int)), v8, true, v9, v10, v11, v3, (0 : Int), v2, v15, v16, v17) else bif decide (v2 < v14) then L2 (v7, IntKind.i64.wrap (v6 + (1 : Int)), v8, true, v9, v10, v11, v3, (0 : Int), v2, v15, v16, v17) else L2 (v7, IntKind.i64.wrap (v6 + (1 : Int)), v8, v5, v9, v10, v11, v12, v13, v14, v15, v16, v17) else L2 (v7, IntKind.i64.wrap (v6 + (1 : Int)), v8, v5, v9, v10, v11, v12, v13, v14, v15, v16, v17)
noncomputable def Zd9 (k : Nat) (L2 : ZdW) : Zlk := Zr (fun L3 => YM k L2 L3) k
noncomputable def ZfF (k : Nat) (n2 : Nat) (n : Nat) (v : ZrT) : Option (((Int × Int × Int × Unit) × Bool × Unit) × Unit) :=
  ZB (ZeU k) ZtW [] [1, 1, 1, 1, 1, 0, 1, 0, 0, 1, 1, 0, 0, 1, 1, 0, 1, 0] [n2] (W0 Tryz.f157) (Xq (ZeU k) Tryz.f157 Zba Zdx [] []) n (ZGH v)
noncomputable def ZGQ : ZtN → St
  | (v0, v1, v2, v3, v4, v5, v6, v7, v8, v9, v10, v11, v12) => St.mk (ZC [(nat_lit 45, Zp v0), (nat_lit 46, Zp v1), (nat_lit 0, XI v2), (nat_lit 8, AV.own (nat_lit 8192)), (nat_lit 7, avB v3), (nat_lit 6, AV.bx (nat_lit 8193) (nat_lit 0)), (nat_lit 9, Zp v4), (nat_lit 1, Zp v5), (nat_lit 4, AV.bx (nat_lit 8194) (nat_lit 0))]) (ZA [(nat_lit 8192, RS.live (Res.arr (Ty.int IntKind.i64) v6 false)), (nat_lit 8193, RS.live (Res.box [Zp v7, Zp v8, Zp v9])), (nat_lit 8194, RS.live (Res.box [Zp v10, Zp v11, Zp v12]))])
noncomputable def YN (k : Nat) (L3 : Zlk) (L2 : ZdW) : ZdW
  | (v0, v1, v2, v3, v4, v5, v6, v7, v8, v9, v10, v11, v12) => bif decide (v1 < v0) then L3 (Int.ofNat v6.length, (0 : Int), IntKind.i64.wrap (IntKind.i64.wrap (v1 + (1 : Int)) * Int.ofNat v2.length), v1, false, v3, v1, v0, v2, v4, v5, v6, v7, v8, v9, v10, v11, v12) else bif decide (v4 ≤ (31 : Int)) then bif !v3 then (Yw k (v5, ())).bind fun y => some (((y.1, v4, IntKind.i64.wrap ((5 : Int) + IntKind.i64.wrap (v4 * Int.ofNat v2.length)), ()), true, ()), ()) else bif decide (IntKind.i64.wrap ((5 : Int) + IntKind.i64.wrap (v4 * Int.ofNat v2.length)) < v9) then (Yw k (v5, ())).bind fun y => some (((y.1, v4, IntKind.i64.wrap ((5 : Int) + IntKind.i64.wrap (v4 * Int.ofNat v2.length)), ()), true, ()), ()) else some (((v7, v8, v9, ()), v3, ()), ()) else some (((v7, v8, v9, ()), v3, ()), ())
noncomputable def ZcV (k : Nat) : ZdW := Zr (fun L2 => YN k (Zd9 k L2) L2) k
noncomputable def Yd (k : Nat) (n : Nat) (v : ZtN) : Option (((Int × Int × Int × Unit) × Bool × Unit) × Unit) :=
  ZB (ZeU k) ZtW [] [1, 1, 1, 1, 1, 0, 1, 0] [] (W0 Tryz.f157) (Xq (ZeU k) Tryz.f157 Zba Zdx [] []) n (ZGQ v)
noncomputable def ZI1 : Zrz → St
  | (v0, v1, v2, v3, v4, v5, v6, v7, v8, v9, v10, v11, v12, v13) => St.mk (ZC [(nat_lit 23, Zp v0), (nat_lit 24, Zp v1), (nat_lit 22, XI v2), (nat_lit 8, AV.own (nat_lit 8192)), (nat_lit 9, Zp v3), (nat_lit 1, Zp v4), (nat_lit 0, XI v5), (nat_lit 7, avB v6), (nat_lit 6, AV.bx (nat_lit 8193) (nat_lit 0)), (nat_lit 4, AV.bx (nat_lit 8194) (nat_lit 0))]) (ZA [(nat_lit 8192, RS.live (Res.arr (Ty.int IntKind.i64) v7 false)), (nat_lit 8193, RS.live (Res.box [Zp v8, Zp v9, Zp v10])), (nat_lit 8194, RS.live (Res.box [Zp v11, Zp v12, Zp v13]))])
noncomputable def YU (k : Nat) (L2 : ZdW) (L1 : Zlz) : Zlz
  | (v0, v1, v2, v3, v4, v5, v6, v7, v8, v9, v10, v11, v12, v13) => bif decide (v1 < v0) then bif decide ((0 : Int) ≤ v1 ∧ v1 < Int.ofNat v2.length) then (ZeV k (v2.getD v1.toNat 0, ())).bind fun y => bif decide ((0 : Int) ≤ v1 ∧ v1 < Int.ofNat v7.length) then bif decide (v1.toNat < v7.length) then bif v2.getD v1.toNat 0 != (0 : Int) then (Zoc k (v2.getD v1.toNat 0, ())).bind fun y_1 => L1 (v0, IntKind.i64.wrap (v1 + (1 : Int)), v2, if v3 < y_1.1 then y_1.1 else v3, v4, v5, v6, v7.set v1.toNat y.1.1, v8, v9, v10, v11, v12, v13) else L1 (v0, IntKind.i64.wrap (v1 + (1 : Int)), v2, v3, v4, v5, v6, v7.set v1.toNat y.1.1, v8, v9, v10, v11, v12, v13) else none else none else none else (Yw k (v4, ())).bind fun y => L2 (y.1, (0 : Int), v5, v6, v3, v4, v7, v8, v9, v10, v11, v12, v13)
noncomputable def ZlD (k : Nat) : Zlz := Zr (fun L1 => YU k (ZcV k) L1) k
noncomputable def Zf0 (k : Nat) (n : Nat) (v : Zrz) : Option (((Int × Int × Int × Unit) × Bool × Unit) × Unit) :=
  ZB (ZeU k) ZtW [] [1, 1, 1, 1, 0, 1, 0] [] (W0 Tryz.f157) (Xq (ZeU k) Tryz.f157 Zba Zdx [] []) n (ZI1 v)
noncomputable def Zda (k : Nat) (L1 : Zlz) : List Int × Int × Unit → Option (((Int × Int × Int × Unit) × Bool × Unit) × Unit)
  | (a0, a1, ()) => bif decide ((0 : Int) ≤ Int.ofNat a0.length ∧ Int.ofNat a0.length ≤ Int.ofNat a0.length ∧ Int.ofNat a0.length < (4294967296 : Int)) then L1 (Int.ofNat a0.length, (0 : Int), a0, (0 : Int), a1, a0, false, List.replicate (Int.ofNat a0.length).toNat (0 : Int), (0 : Int), (0 : Int), (0 : Int), (0 : Int), (0 : Int), (0 : Int)) else none
noncomputable def Zl3 (k : Nat) := Zda k (ZlD k)
theorem ZA4 (k : Nat) (n2 : Nat) : ∀ n, ZfF k n2 n = Zr (fun L3 => YM k (Yd k n2) L3) n :=
  Zn (fun v => by kernel_rfl) (fun n v => by
    show ZfF k n2 (n + 1) v = YM k (Yd k n2) (ZfF k n2 n) v
    obtain ⟨v0, v1, v2, v3, v4, v5, v6, v7, v8, v9, v10, v11, v12, v13, v14, v15, v16, v17⟩ := v
    kernel_rfl)
theorem ZBK (k : Nat) : ∀ n, Yd k n = Zr (fun L2 => YN k (Zd9 k L2) L2) n :=
  Zn (fun v => by kernel_rfl) (fun n v => by
    show Yd k (n + 1) v = YN k (Zd9 k (Yd k n)) (Yd k n) v
    rw [show (Zd9 k (Yd k n)) = ZfF k n k from (ZA4 k n k).symm]
    obtain ⟨v0, v1, v2, v3, v4, v5, v6, v7, v8, v9, v10, v11, v12⟩ := v
    kernel_rfl)
theorem ZBc (k : Nat) : ∀ n, Zf0 k n = Zr (fun L1 => YU k (ZcV k) L1) n :=
  Zn (fun v => by kernel_rfl) (fun n v => by
    show Zf0 k (n + 1) v = YU k (ZcV k) (Zf0 k n) v
    rw [show (ZcV k) = Yd k k from (ZBK k k).symm]
    obtain ⟨v0, v1, v2, v3, v4, v5, v6, v7, v8, v9, v10, v11, v12, v13⟩ := v
    kernel_rfl)
theorem ZH3 (k : Nat) (x : Kd.dens Zba) : ZD (ZeU k) ZtW Tryz.f157 Zba Zdx x = Zl3 k x := by
  show _ = Zda k (ZlD k) x
  rw [show ZlD k = Zf0 k k from (ZBc k k).symm]
  obtain ⟨a0, ⟨a1, ⟨⟩⟩⟩ := x
  kernel_rfl
theorem ZEb (k : Nat) : Ctr Tryz.prog k 157 (mk Zba Zdx Zl3) :=
  ZE (fn := Tryz.f157) (Zh (Za (Zib k) (Za (Zqi k) (Za (ZFO k) Zd)))) (by kernel_rfl) (by kernel_rfl) (by kernel_rfl) (by kernel_rfl) (ZH3 k)
noncomputable abbrev ZJ7 : Nat × Callee := (157, mk Zba Zdx Zl3)
noncomputable def ZbF : (k : Nat) → Int × Unit → Option (Int × Unit) := Classical.choose (⟨Kx, rfl⟩ : ∃ F : (k : Nat) → Int × Unit → Option (Int × Unit), F = Kx)
theorem Zp4 : ZbF = Kx := Classical.choose_spec (⟨Kx, rfl⟩ : ∃ F : (k : Nat) → Int × Unit → Option (Int × Unit), F = Kx)
theorem Zil (k : Nat) : Ctr Tryz.prog k 116 (mk KH Zbc ZbF) := by rw [Zp4]; exact Zv9 k
noncomputable def Zm9 : (k : Nat) → Int × Int × Int × Unit → Option (Bool × Unit) := Classical.choose (⟨Kk, rfl⟩ : ∃ F : (k : Nat) → Int × Int × Int × Unit → Option (Bool × Unit), F = Kk)
theorem Zqb : Zm9 = Kk := Classical.choose_spec (⟨Kk, rfl⟩ : ∃ F : (k : Nat) → Int × Int × Int × Unit → Option (Bool × Unit), F = Kk)
theorem ZBe (k : Nat) : Ctr Tryz.prog k 156 (mk Zef Zgg Zm9) := by rw [Zqb]; exact ZuI k
abbrev Zbf : List Kd := [.view (.sl (.int .i64)), .view (.int .i64)]
abbrev Zd2 : Kd := .view ZL6
noncomputable def ZeT (k : Nat) := Qo k [ZD4, (116, mk KH Zbc ZbF), (156, mk Zef Zgg Zm9), ZJ7]
noncomputable def Zuf : Nat → Ann := fun id => bif Nat.beq id 11 then ⟨[37, 38, 36, 7, 5, 8, 6, 0, 1, 4, 9], [.cell 8 2 (((Ty.int IntKind.i64).pair ((Ty.int IntKind.i64).pair ((Ty.int IntKind.i64).pair Ty.unit))))]⟩ else bif Nat.beq id 7 then ⟨[7, 6, 0, 1, 5, 4], [.cell 5 2 (((Ty.int IntKind.i64).pair ((Ty.int IntKind.i64).pair ((Ty.int IntKind.i64).pair Ty.unit))))]⟩ else bif Nat.beq id 3 then ⟨[6, 0, 1, 5, 4], [.cell 5 2 (((Ty.int IntKind.i64).pair ((Ty.int IntKind.i64).pair ((Ty.int IntKind.i64).pair Ty.unit))))]⟩ else ⟨[], []⟩
abbrev ZqU := Int × Int × List (List Int) × Int × Int × List Int × Int × Bool × Int × Int × Int × List (Int × Int × Int × Unit) × Int × Int × Int × List (Int × Int × Int × Unit) × Int × Int × Int
abbrev ZkS := ZqU → Option ((Int × Int × List (Int × Int × Int × Unit) × Int × Unit) × Unit)
abbrev Zq7 := Int × Int × List Int × Int × Int × Int × Int × List (Int × Int × Int × Unit) × Int × Int × Int
abbrev ZdQ := Zq7 → Option ((Int × Int × List (Int × Int × Int × Unit) × Int × Unit) × Unit)
abbrev ZqR := Int × List Int × Int × Int × Int × Int × List (Int × Int × Int × Unit) × Int × Int × Int
abbrev KI := ZqR → Option ((Int × Int × List (Int × Int × Int × Unit) × Int × Unit) × Unit)
noncomputable def ZIk : ZqU → St
  | (v0, v1, v2, v3, v4, v5, v6, v7, v8, v9, v10, v11, v12, v13, v14, v15, v16, v17, v18) => St.mk (ZC [(nat_lit 37, Zp v0), (nat_lit 38, Zp v1), (nat_lit 36, AV.val (PV.sl (Ty.int IntKind.i64).sl v2)), (nat_lit 7, Zp v3), (nat_lit 5, AV.bx (nat_lit 8192) (nat_lit 0)), (nat_lit 8, AV.bx (nat_lit 8194) (nat_lit 0)), (nat_lit 6, Zp v4), (nat_lit 0, XI v5), (nat_lit 1, Zp v6), (nat_lit 4, AV.bx (nat_lit 8196) (nat_lit 0)), (nat_lit 9, avB v7)]) (ZA [(nat_lit 8192, RS.live (Res.box [Zp v8, Zp v9, AV.own (nat_lit 8193), Zp v10])), (nat_lit 8193, RS.live (Res.arr ((Ty.int IntKind.i64).pair ((Ty.int IntKind.i64).pair ((Ty.int IntKind.i64).pair Ty.unit))) v11 false)), (nat_lit 8194, RS.live (Res.box [Zp v12, Zp v13, AV.own (nat_lit 8195), Zp v14])), (nat_lit 8195, RS.live (Res.arr ((Ty.int IntKind.i64).pair ((Ty.int IntKind.i64).pair ((Ty.int IntKind.i64).pair Ty.unit))) v15 false)), (nat_lit 8196, RS.live (Res.box [Zp v16, Zp v17, AV.val (PV.v (Value.slice none (0 : Nat) (0 : Nat))), Zp v18]))])
noncomputable def Y2 (k : Nat) (L1 : KI) (L2 : ZdQ) (L3 : ZkS) : ZkS
  | (v0, v1, v2, v3, v4, v5, v6, v7, v8, v9, v10, v11, v12, v13, v14, v15, v16, v17, v18) => bif decide (v1 < v0) then bif decide ((0 : Int) ≤ v1 ∧ v1 < Int.ofNat v2.length) then (Zl3 k (v2.getD v1.toNat [], v3, ())).bind fun y => bif !y.1.2.1 then bif y.1.2.1 then bif decide (v10 < (0 : Int)) then L2 (IntKind.i64.wrap (v3 + (1 : Int)), v4, v5, v6, v12, v13, v14, v15, v16, v17, v18) else bif decide (v14 < v10) then L2 (IntKind.i64.wrap (v3 + (1 : Int)), v4, v5, v6, v12, v13, v14, v15, v16, v17, v18) else L2 (IntKind.i64.wrap (v3 + (1 : Int)), v4, v5, v6, v8, v9, v10, v11, v16, v17, v18) else L2 (IntKind.i64.wrap (v3 + (1 : Int)), v4, v5, v6, v8, v9, v10, v11, v16, v17, v18) else bif decide (v15.length + [(y.1.1.1, y.1.1.2.1, y.1.1.2.2.1, ())].length < (2147483648 : Nat)) then (ZbF k (v3, ())).bind fun y_1 => L3 (v0, IntKind.i64.wrap (v1 + (1 : Int)), v2, v3, v4, v5, v6, y.1.2.1, v8, v9, v10, v11, v12, v13, IntKind.i64.wrap (v14 + IntKind.i64.wrap (y_1.1 + y.1.1.2.2.1)), v15 ++ [(y.1.1.1, y.1.1.2.1, y.1.1.2.2.1, ())], v16, v17, v18) else none else none else bif v7 then bif decide (v10 < (0 : Int)) then L2 (IntKind.i64.wrap (v3 + (1 : Int)), v4, v5, v6, v12, v13, v14, v15, v16, v17, v18) else bif decide (v14 < v10) then L2 (IntKind.i64.wrap (v3 + (1 : Int)), v4, v5, v6, v12, v13, v14, v15, v16, v17, v18) else L2 (IntKind.i64.wrap (v3 + (1 : Int)), v4, v5, v6, v8, v9, v10, v11, v16, v17, v18) else L2 (IntKind.i64.wrap (v3 + (1 : Int)), v4, v5, v6, v8, v9, v10, v11, v16, v17, v18)
noncomputable def KE (k : Nat) (L1 : KI) (L2 : ZdQ) : ZkS := Zr (fun L3 => Y2 k L1 L2 L3) k
noncomputable def ZfO (k : Nat) (n1 n2 : Nat) (n : Nat) (v : ZqU) : Option ((Int × Int × List (Int × Int × Int × Unit) × Int × Unit) × Unit) :=
  ZB (ZeT k) Zuf [] [1, 1, 0, 1, 0, 0, 1, 0, 0, 1, 1, 0, 0, 1, 0, 0, 1, 0, 1, 0] [n1, n2] (W0 Tryz.f114) (Xq (ZeT k) Tryz.f114 Zbf Zd2 [] []) n (ZIk v)
noncomputable def ZHV : Zq7 → St
  | (v0, v1, v2, v3, v4, v5, v6, v7, v8, v9, v10) => St.mk (ZC [(nat_lit 7, Zp v0), (nat_lit 6, Zp v1), (nat_lit 0, XI v2), (nat_lit 1, Zp v3), (nat_lit 5, AV.bx (nat_lit 8192) (nat_lit 0)), (nat_lit 4, AV.bx (nat_lit 8194) (nat_lit 0))]) (ZA [(nat_lit 8192, RS.live (Res.box [Zp v4, Zp v5, AV.own (nat_lit 8193), Zp v6])), (nat_lit 8193, RS.live (Res.arr ((Ty.int IntKind.i64).pair ((Ty.int IntKind.i64).pair ((Ty.int IntKind.i64).pair Ty.unit))) v7 false)), (nat_lit 8194, RS.live (Res.box [Zp v8, Zp v9, AV.val (PV.v (Value.slice none (0 : Nat) (0 : Nat))), Zp v10]))])
noncomputable def Xe (k : Nat) (L3 : ZkS) (L1 : KI) (L2 : ZdQ) : ZdQ
  | (v0, v1, v2, v3, v4, v5, v6, v7, v8, v9, v10) => bif decide (v0 < (2 : Int)) then (ZiZ k (v2, v3, v1, ())).bind fun y => L3 (Int.ofNat (List.length y.1), (0 : Int), y.1, v0, v1, v2, v3, true, v4, v5, v6, v7, v0, v1, (6 : Int), [], v8, v9, v10) else L1 (IntKind.i64.wrap (v1 + (1 : Int)), v2, v3, v4, v5, v6, v7, v8, v9, v10)
noncomputable def ZdB (k : Nat) (L1 : KI) : ZdQ := Zr (fun L2 => Xe k (KE k L1 L2) L1 L2) k
noncomputable def Ya (k : Nat) (n1 : Nat) (n : Nat) (v : Zq7) : Option ((Int × Int × List (Int × Int × Int × Unit) × Int × Unit) × Unit) :=
  ZB (ZeT k) Zuf [] [1, 1, 0, 1, 0, 0, 1, 0, 0, 1, 1, 0] [n1] (W0 Tryz.f114) (Xq (ZeT k) Tryz.f114 Zbf Zd2 [] []) n (ZHV v)
noncomputable def ZHx : ZqR → St
  | (v0, v1, v2, v3, v4, v5, v6, v7, v8, v9) => St.mk (ZC [(nat_lit 6, Zp v0), (nat_lit 0, XI v1), (nat_lit 1, Zp v2), (nat_lit 5, AV.bx (nat_lit 8192) (nat_lit 0)), (nat_lit 4, AV.bx (nat_lit 8194) (nat_lit 0))]) (ZA [(nat_lit 8192, RS.live (Res.box [Zp v3, Zp v4, AV.own (nat_lit 8193), Zp v5])), (nat_lit 8193, RS.live (Res.arr ((Ty.int IntKind.i64).pair ((Ty.int IntKind.i64).pair ((Ty.int IntKind.i64).pair Ty.unit))) v6 false)), (nat_lit 8194, RS.live (Res.box [Zp v7, Zp v8, AV.val (PV.v (Value.slice none (0 : Nat) (0 : Nat))), Zp v9]))])
noncomputable def Y5 (k : Nat) (L2 : ZdQ) (L1 : KI) : KI
  | (v0, v1, v2, v3, v4, v5, v6, v7, v8, v9) => bif decide (v0 ≤ (4 : Int)) then (Zm9 k (IntKind.i64.wrap (Int.ofNat v1.length + v2), v2, v0, ())).bind fun y => bif !y.1 then L1 (IntKind.i64.wrap (v0 + (1 : Int)), v1, v2, v3, v4, v5, v6, v7, v8, v9) else L2 ((0 : Int), v0, v1, v2, v3, v4, v5, v6, v7, v8, v9) else some ((v3, v4, v6, v5, ()), ())
noncomputable def Zlm (k : Nat) : KI := Zr (fun L1 => Y5 k (ZdB k L1) L1) k
noncomputable def Q9 (k : Nat) (n : Nat) (v : ZqR) : Option ((Int × Int × List (Int × Int × Int × Unit) × Int × Unit) × Unit) :=
  ZB (ZeT k) Zuf [] [1, 1, 0, 1, 0] [] (W0 Tryz.f114) (Xq (ZeT k) Tryz.f114 Zbf Zd2 [] []) n (ZHx v)
noncomputable def Zdh (k : Nat) (L1 : KI) : List Int × Int × Unit → Option ((Int × Int × List (Int × Int × Int × Unit) × Int × Unit) × Unit)
  | (a0, a1, ()) => L1 ((0 : Int), a0, a1, (0 : Int), (0 : Int), (-1 : Int), [], (0 : Int), (0 : Int), (0 : Int))
noncomputable def Zi3 (k : Nat) := Zdh k (Zlm k)
theorem ZCf (k : Nat) (n1 n2 : Nat) : ∀ n, ZfO k n1 n2 n = Zr (fun L3 => Y2 k (Q9 k n1) (Ya k n1 n2) L3) n :=
  Zn (fun v => by kernel_rfl) (fun n v => by
    show ZfO k n1 n2 (n + 1) v = Y2 k (Q9 k n1) (Ya k n1 n2) (ZfO k n1 n2 n) v
    obtain ⟨v0, v1, v2, v3, v4, v5, v6, v7, v8, v9, v10, v11, v12, v13, v14, v15, v16, v17, v18⟩ := v
    kernel_rfl)
theorem ZBd (k : Nat) (n1 : Nat) : ∀ n, Ya k n1 n = Zr (fun L2 => Xe k (KE k (Q9 k n1) L2) (Q9 k n1) L2) n :=
  Zn (fun v => by kernel_rfl) (fun n v => by
    show Ya k n1 (n + 1) v = Xe k (KE k (Q9 k n1) (Ya k n1 n)) (Q9 k n1) (Ya k n1 n) v
    rw [show (KE k (Q9 k n1) (Ya k n1 n)) = ZfO k n1 n k from (ZCf k n1 n k).symm]
    obtain ⟨v0, v1, v2, v3, v4, v5, v6, v7, v8, v9, v10⟩ := v
    kernel_rfl)
theorem ZBE (k : Nat) : ∀ n, Q9 k n = Zr (fun L1 => Y5 k (ZdB k L1) L1) n :=
  Zn (fun v => by kernel_rfl) (fun n v => by
    show Q9 k (n + 1) v = Y5 k (ZdB k (Q9 k n)) (Q9 k n) v
    rw [show (ZdB k (Q9 k n)) = Ya k n k from (ZBd k n k).symm]
    obtain ⟨v0, v1, v2, v3, v4, v5, v6, v7, v8, v9⟩ := v
    kernel_rfl)
theorem ZH9 (k : Nat) (x : Kd.dens Zbf) : ZD (ZeT k) Zuf Tryz.f114 Zbf Zd2 x = Zi3 k x := by
  show _ = Zdh k (Zlm k) x
  rw [show Zlm k = Q9 k k from (ZBE k k).symm]
  obtain ⟨a0, ⟨a1, ⟨⟩⟩⟩ := x
  kernel_rfl
theorem Zvc (k : Nat) : Ctr Tryz.prog k 114 (mk Zbf Zd2 Zi3) :=
  ZE (fn := Tryz.f114) (Zh (Za (ZvW k) (Za (Zil k) (Za (ZBe k) (Za (ZEb k) Zd))))) (by kernel_rfl) (by kernel_rfl) (by kernel_rfl) (by kernel_rfl) (ZH9 k)
noncomputable abbrev ZC7 : Nat × Callee := (114, mk Zbf Zd2 Zi3)
abbrev Zko : List Kd := [.view (.sl (.int .i64)), .view (.int .i64)]
abbrev Zsd : Kd := .tup [.view (.int .i64), .view (.int .i64)]
noncomputable def ZLK (k : Nat) := Qo k [ZDg, ZC7]
noncomputable def Zd8 (k : Nat) : List Int × Int × Unit → Option ((Int × Int × Unit) × Unit)
  | (a0, a1, ()) => (Zic k (a0, a1, ())).bind fun y => bif y.1 != (0 : Int) then some ((0, y.1, ()), ()) else (Zi3 k (a0, a1, ())).bind fun y => some ((y.1.2.2.2.1, 0, ()), ())
noncomputable def Zor (k : Nat) := Zd8 k
theorem ZG0 (k : Nat) (x : Kd.dens Zko) : ZD (ZLK k) nA Tryz.f149 Zko Zsd x = Zor k x := by
  show _ = Zd8 k x
  obtain ⟨a0, ⟨a1, ⟨⟩⟩⟩ := x
  kernel_rfl
theorem ZFi (k : Nat) : Ctr Tryz.prog k 149 (mk Zko Zsd Zor) :=
  ZE (fn := Tryz.f149) (Zh (Za (ZvB k) (Za (Zvc k) Zd))) (by kernel_rfl) (by kernel_rfl) (by kernel_rfl) (by kernel_rfl) (ZG0 k)
noncomputable abbrev ZKB : Nat × Callee := (149, mk Zko Zsd Zor)
abbrev Zlb : List Kd := [.view Ztm, .view (.int .i64), .view K5, .view (.int .i64)]
abbrev Zsj : Kd := .tup [.view Ztm, .view .bool]
noncomputable def ZLn (k : Nat) := Qo k [ZDQ, ZKB]
noncomputable def ZdO (k : Nat) : (Int × Int × Int × List Int × (List Int × Int × Unit) × List Int × Int × Unit) × Int × (List Int × Int × Unit) × Int × Unit → Option (((Int × Int × Int × List Int × (List Int × Int × Unit) × List Int × Int × Unit) × Bool × Unit) × Unit)
  | ((a0, a1, a2, a3, (a4, a5, ()), a6, a7, ()), a8, (a9, a10, ()), a11, ()) => (ZhN k ((a9, a10, ()), a3, ())).bind fun y => bif y.1.2.1 != (0 : Int) then some (((a0, a1, a2, a3, (a4, a5, ()), a6, a7, ()), false, ()), ()) else (Zor k (y.1.1, Int.ofNat a9.length, ())).bind fun y_1 => bif y_1.1.2.1 != (0 : Int) then some (((a0, a1, a2, a3, (a4, a5, ()), a6, a7, ()), false, ()), ()) else some (((a8, a1, a2, a3, (a9, a10, ()), y.1.1, IntKind.i64.wrap (IntKind.i64.wrap (a11 + IntKind.i64.wrap (Int.ofNat a9.length * a2)) + y_1.1.1), ()), true, ()), ())
noncomputable def Zfd (k : Nat) := ZdO k
theorem ZGv (k : Nat) (x : Kd.dens Zlb) : ZD (ZLn k) nA Tryz.f110 Zlb Zsj x = Zfd k x := by
  show _ = ZdO k x
  obtain ⟨⟨a0, ⟨a1, ⟨a2, ⟨a3, ⟨⟨a4, ⟨a5, ⟨⟩⟩⟩, ⟨a6, ⟨a7, ⟨⟩⟩⟩⟩⟩⟩⟩⟩, ⟨a8, ⟨⟨a9, ⟨a10, ⟨⟩⟩⟩, ⟨a11, ⟨⟩⟩⟩⟩⟩ := x
  kernel_rfl
theorem ZCW (k : Nat) : Ctr Tryz.prog k 110 (mk Zlb Zsj Zfd) :=
  ZE (fn := Tryz.f110) (Zh (Za (ZuK k) (Za (ZFi k) Zd))) (by kernel_rfl) (by kernel_rfl) (by kernel_rfl) (by kernel_rfl) (ZGv k)
noncomputable abbrev ZLU : Nat × Callee := (110, mk Zlb Zsj Zfd)
abbrev Zgn : List Kd := [.view (.int .i64)]
abbrev Zlc : Kd := .view K5
noncomputable def ZyN (k : Nat) := Qo k [ZyL]
def ZDZ : Nat → Ann := fun id => bif Nat.beq id 4 then ⟨[19, 20, 18, 3, 2], []⟩ else ⟨[], []⟩
abbrev ZsD := Int × Int × List Int × Int × List Int × Int
abbrev Zlp := ZsD → Option ((List Int × Int × Unit) × Unit)
def ZGE : ZsD → St
  | (v0, v1, v2, v3, v4, v5) => St.mk (ZC [(nat_lit 19, Zp v0), (nat_lit 20, Zp v1), (nat_lit 18, XI v2), (nat_lit 3, AV.bx (nat_lit 8192) (nat_lit 0)), (nat_lit 2, AV.bx (nat_lit 8194) (nat_lit 0))]) (ZA [(nat_lit 8192, RS.live (Res.box [AV.own (nat_lit 8193), Zp v3])), (nat_lit 8193, RS.live (Res.arr (Ty.int IntKind.i64) v4 false)), (nat_lit 8194, RS.live (Res.box [AV.val (PV.v (Value.slice none (0 : Nat) (0 : Nat))), Zp v5]))])
def ZhE (k : Nat) (L1 : Zlp) : Zlp
  | (v0, v1, v2, v3, v4, v5) => bif decide (v1 < v0) then bif decide ((0 : Int) ≤ v1 ∧ v1 < Int.ofNat v2.length) then bif decide ((0 : Int) ≤ v1 ∧ v1 < Int.ofNat v4.length) then bif decide (v1.toNat < v4.length) then L1 (v0, IntKind.i64.wrap (v1 + (1 : Int)), v2, v3, v4.set v1.toNat (IntKind.i64.wrap (v2.getD v1.toNat 0 * (16 : Int))), v5) else none else none else none else some ((v4, v3, ()), ())
def ZtY (k : Nat) : Zlp := Zr (fun L1 => ZhE k L1) k
noncomputable def ZfZ (k : Nat) (n : Nat) (v : ZsD) : Option ((List Int × Int × Unit) × Unit) :=
  ZB (ZyN k) ZDZ [] [1, 1, 1, 0, 1, 0] [] (W0 Tryz.f151) (Xq (ZyN k) Tryz.f151 Zgn Zlc [] []) n (ZGE v)
def Zpt (k : Nat) (L1 : Zlp) : Int × Unit → Option ((List Int × Int × Unit) × Unit)
  | (a0, ()) => bif decide ((0 : Int) ≤ a0 ∧ a0 ≤ a0 ∧ a0 < (4294967296 : Int)) then (Zck k (if (4 : Int) < a0 then (4 : Int) else a0, ())).bind fun y => L1 (Int.ofNat (List.length y.1.1.1), (0 : Int), y.1.1.1, (4 : Int), List.replicate a0.toNat (0 : Int), (0 : Int)) else none
def Zm5 (k : Nat) := Zpt k (ZtY k)
theorem ZCg (k : Nat) : ∀ n, ZfZ k n = Zr (fun L1 => ZhE k L1) n :=
  Zn (fun v => by kernel_rfl) (fun n v => by
    show ZfZ k (n + 1) v = ZhE k (ZfZ k n) v
    obtain ⟨v0, v1, v2, v3, v4, v5⟩ := v
    kernel_rfl)
theorem ZIC (k : Nat) (x : Kd.dens Zgn) : ZD (ZyN k) ZDZ Tryz.f151 Zgn Zlc x = Zm5 k x := by
  show _ = Zpt k (ZtY k) x
  rw [show ZtY k = ZfZ k k from (ZCg k k).symm]
  obtain ⟨a0, ⟨⟩⟩ := x
  kernel_rfl
theorem ZC1 (k : Nat) : Ctr Tryz.prog k 151 (mk Zgn Zlc Zm5) :=
  ZE (fn := Tryz.f151) (Zh (Za (Zny k) Zd)) (by kernel_rfl) (by kernel_rfl) (by kernel_rfl) (by kernel_rfl) (ZIC k)
noncomputable abbrev ZK1 : Nat × Callee := (151, mk Zgn Zlc Zm5)
abbrev Zhf : List Kd := [.view K5, .view (.sl (.int .i64))]
abbrev Zkk : Kd := .tup [.view (.int .i64), .view (.int .i64)]
noncomputable def ZyG (k : Nat) := Qo k [ZDQ]
def ZFo : Nat → Ann := fun id => bif Nat.beq id 4 then ⟨[18, 19, 17, 8, 7], []⟩ else ⟨[], []⟩
abbrev Zsz := Int × Int × List Int × Int × Int
abbrev ZjW := Zsz → Option ((Int × Int × Unit) × Unit)
def ZHo : Zsz → St
  | (v0, v1, v2, v3, v4) => St.mk (ZC [(nat_lit 18, Zp v0), (nat_lit 19, Zp v1), (nat_lit 17, XI v2), (nat_lit 8, Zp v3), (nat_lit 7, Zp v4)]) (ZA [])
def YS (k : Nat) (L1 : ZjW) : ZjW
  | (v0, v1, v2, v3, v4) => bif decide (v1 < v0) then bif decide ((0 : Int) ≤ v1 ∧ v1 < Int.ofNat v2.length) then L1 (v0, IntKind.i64.wrap (v1 + (1 : Int)), v2, IntKind.i64.wrap (v3 + if v2.getD v1.toNat 0 < IntKind.i64.wrap ((0 : Int) - v2.getD v1.toNat 0) then IntKind.i64.wrap ((0 : Int) - v2.getD v1.toNat 0) else v2.getD v1.toNat 0), v4) else none else some ((v3, v4, ()), ())
def ZkV (k : Nat) : ZjW := Zr (fun L1 => YS k L1) k
noncomputable def Zfv (k : Nat) (n : Nat) (v : Zsz) : Option ((Int × Int × Unit) × Unit) :=
  ZB (ZyG k) ZFo [] [1, 1, 1, 0, 1, 0] [] (W0 Tryz.f152) (Xq (ZyG k) Tryz.f152 Zhf Zkk [] []) n (ZHo v)
def Zea (k : Nat) (L1 : ZjW) : (List Int × Int × Unit) × List Int × Unit → Option ((Int × Int × Unit) × Unit)
  | ((a0, a1, ()), a2, ()) => (ZhN k ((a0, a1, ()), a2, ())).bind fun y => L1 (Int.ofNat (List.length y.1.1), (0 : Int), y.1.1, (0 : Int), y.1.2.1)
def ZhH (k : Nat) := Zea k (ZkV k)
theorem ZBI (k : Nat) : ∀ n, Zfv k n = Zr (fun L1 => YS k L1) n :=
  Zn (fun v => by kernel_rfl) (fun n v => by
    show Zfv k (n + 1) v = YS k (Zfv k n) v
    obtain ⟨v0, v1, v2, v3, v4⟩ := v
    kernel_rfl)
theorem ZHz (k : Nat) (x : Kd.dens Zhf) : ZD (ZyG k) ZFo Tryz.f152 Zhf Zkk x = ZhH k x := by
  show _ = Zea k (ZkV k) x
  rw [show ZkV k = Zfv k k from (ZBI k k).symm]
  obtain ⟨⟨a0, ⟨a1, ⟨⟩⟩⟩, ⟨a2, ⟨⟩⟩⟩ := x
  kernel_rfl
theorem ZCP (k : Nat) : Ctr Tryz.prog k 152 (mk Zhf Zkk ZhH) :=
  ZE (fn := Tryz.f152) (Zh (Za (ZuK k) Zd)) (by kernel_rfl) (by kernel_rfl) (by kernel_rfl) (by kernel_rfl) (ZHz k)
noncomputable abbrev ZKj : Nat × Callee := (152, mk Zhf Zkk ZhH)
abbrev ZzB : List Kd := [.view (.sl (.int .i64))]
abbrev ZAb : Kd := .own (.int .i64) false
def ZhI (k : Nat) : List Int × Unit → Option (List Int × Unit) := fun x => Ys x
noncomputable def ZJQ (k : Nat) : Ctx := { P := Tryz.prog, Φ := phi [], k := k, live := fun _ => [] }
noncomputable def ZnR : Code := ZDf Tryz.f153
theorem ZuY (k : Nat) : Ctr Tryz.prog k 153 (mk ZzB ZAb ZhI) :=
  ZpA (C := ZJQ k) (A := fun _ => ⟨[], []⟩) (Zh Zd) ZeW (f := 153) (fn := Tryz.f153) (o0 := Zit (KF [0] ZnR) 0) (o1 := Zit (KF [1, 0, 0] ZnR) 0) (o2 := Zit (KF [1, 0, 0] ZnR) 1)
    (r0 := 0) (r1 := 1) (X := KF [1, 0, 1, 0] ZnR) (Y := KF [1, 1] ZnR) (T := 51) (E := 3) (U := 51) (t := (.int .i64))
    (by kernel_rfl) (by kernel_rfl) (by kernel_rfl) (by kernel_rfl) (by kernel_rfl) (of_decide_eq_true (by kernel_rfl)) (by kernel_rfl) ⟨by kernel_rfl, by kernel_rfl, by kernel_rfl⟩ ⟨by kernel_rfl, by kernel_rfl, by kernel_rfl⟩ ⟨by kernel_rfl, by kernel_rfl, by kernel_rfl⟩ (fun xs => by kernel_rfl) (by kernel_rfl)
noncomputable abbrev ZF5 : Nat × Callee := (153, mk ZzB ZAb ZhI)
abbrev Za4 : List Kd := [.view (.sl (.int .i64)), .view (.int .i64)]
abbrev Zc7 : Kd := .tup [.view K5, .view (.int .i64)]
noncomputable def Ze2 (k : Nat) := Qo k [ZnS, ZK1, ZKj, ZF5]
def Zs1 : Nat → Ann := fun id => bif Nat.beq id 15 then ⟨[57, 56, 6, 11, 0, 9, 7, 50, 49, 10, 1, 4], [.seen 6 0]⟩ else bif Nat.beq id 12 then ⟨[49, 50, 10, 6, 0, 9, 7, 1, 4], []⟩ else bif Nat.beq id 9 then ⟨[10, 1, 6, 0, 9, 7, 4], []⟩ else ⟨[], []⟩
abbrev Zr6 := Int × Int × Int × Int × List Int × Bool × Int × Int × Int × Int × Int × List Int × Int × Int
abbrev ZlL := Zr6 → Option (((List Int × Int × Unit) × Int × Unit) × Unit)
abbrev Zto := Int × Int × Int × List Int × Bool × Int × Int × List Int × Int × Int
abbrev Zc3 := Zto → Option (((List Int × Int × Unit) × Int × Unit) × Unit)
abbrev Zr8 := Int × Int × List Int × Bool × Int × List Int × Int × Int
abbrev KT := Zr8 → Option (((List Int × Int × Unit) × Int × Unit) × Unit)
def ZHE : Zr6 → St
  | (v0, v1, v2, v3, v4, v5, v6, v7, v8, v9, v10, v11, v12, v13) => St.mk (ZC [(nat_lit 57, Zp v0), (nat_lit 56, AV.agg [Zp v1, Zp v2]), (nat_lit 6, AV.bx (nat_lit 8192) (nat_lit 0)), (nat_lit 11, Zp v3), (nat_lit 0, XI v4), (nat_lit 9, avB v5), (nat_lit 7, Zp v6), (nat_lit 50, Zp v7), (nat_lit 49, Zp v8), (nat_lit 10, Zp v9), (nat_lit 1, Zp v10), (nat_lit 4, AV.bx (nat_lit 8193) (nat_lit 0))]) (ZA [(nat_lit 8192, RS.live (Res.box [XI v11, Zp v12])), (nat_lit 8193, RS.live (Res.box [AV.val (PV.v (Value.slice none (0 : Nat) (0 : Nat))), Zp v13]))])
def X1 (k : Nat) (L1 : KT) (L2 : Zc3) (L3 : ZlL) : ZlL
  | (v0, v1, v2, v3, v4, v5, v6, v7, v8, v9, v10, v11, v12, v13) => bif decide (v0 < (2 : Int)) then bif decide ((0 : Int) ≤ v0 ∧ v0 < (2 : Int)) then (ZhI k (v11, ())).bind fun y => bif decide ((0 : Int) ≤ v3 ∧ v3 < Int.ofNat (List.length y.1)) then bif decide (v3.toNat < List.length y.1) then bif decide ((0 : Int) ≤ v3 ∧ v3 < Int.ofNat (List.length y.1)) then bif decide (v3.toNat < List.length y.1) then (ZhH k ((List.set y.1 v3.toNat (IntKind.i64.wrap (List.getD y.1 v3.toNat 0 + [v1, v2].getD v0.toNat (0 : Int))), v12, ()), v4, ())).bind fun y_1 => bif y_1.1.2.1 == (0 : Int) then bif !v5 then L3 (IntKind.i64.wrap (v0 + (1 : Int)), v1, v2, v3, v4, true, y_1.1.1, v7, v8, v9, v10, List.set y.1 v3.toNat (IntKind.i64.wrap (List.getD y.1 v3.toNat 0 + [v1, v2].getD v0.toNat (0 : Int))), v12, v13) else bif decide (y_1.1.1 < v6) then L3 (IntKind.i64.wrap (v0 + (1 : Int)), v1, v2, v3, v4, true, y_1.1.1, v7, v8, v9, v10, List.set y.1 v3.toNat (IntKind.i64.wrap (List.getD y.1 v3.toNat 0 + [v1, v2].getD v0.toNat (0 : Int))), v12, v13) else L3 (IntKind.i64.wrap (v0 + (1 : Int)), v1, v2, v3, v4, v5, v6, v7, v8, v9, v10, v11, v12, v13) else L3 (IntKind.i64.wrap (v0 + (1 : Int)), v1, v2, v3, v4, v5, v6, v7, v8, v9, v10, v11, v12, v13) else none else none else none else none else none else L2 (v8, IntKind.i64.wrap (v7 + (1 : Int)), v9, v4, v5, v6, v10, v11, v12, v13)
def Zdd (k : Nat) (L1 : KT) (L2 : Zc3) : ZlL := Zr (fun L3 => X1 k L1 L2 L3) k
noncomputable def Zhp (k : Nat) (n1 n2 : Nat) (n : Nat) (v : Zr6) : Option (((List Int × Int × Unit) × Int × Unit) × Unit) :=
  ZB (Ze2 k) Zs1 [] [1, 1, 1, 1, 1, 0, 1, 0, 0, 1, 0, 0, 1, 0, 0, 1, 1, 0, 0, 1, 1, 0] [n1, n2] (W0 Tryz.f111) (Xq (Ze2 k) Tryz.f111 Za4 Zc7 [] []) n (ZHE v)
def ZHe : Zto → St
  | (v0, v1, v2, v3, v4, v5, v6, v7, v8, v9) => St.mk (ZC [(nat_lit 49, Zp v0), (nat_lit 50, Zp v1), (nat_lit 10, Zp v2), (nat_lit 6, AV.bx (nat_lit 8192) (nat_lit 0)), (nat_lit 0, XI v3), (nat_lit 9, avB v4), (nat_lit 7, Zp v5), (nat_lit 1, Zp v6), (nat_lit 4, AV.bx (nat_lit 8193) (nat_lit 0))]) (ZA [(nat_lit 8192, RS.live (Res.box [XI v7, Zp v8])), (nat_lit 8193, RS.live (Res.box [AV.val (PV.v (Value.slice none (0 : Nat) (0 : Nat))), Zp v9]))])
def YY (k : Nat) (L3 : ZlL) (L1 : KT) (L2 : Zc3) : Zc3
  | (v0, v1, v2, v3, v4, v5, v6, v7, v8, v9) => bif decide (v1 < v0) then L3 ((0 : Int), v2, IntKind.i64.wrap ((0 : Int) - v2), v1, v3, v4, v5, v1, v0, v2, v6, v7, v8, v9) else L1 (IntKind.i64.wrap (v2.tdiv (2 : Int)), v6, v3, v4, v5, v7, v8, v9)
def ZcO (k : Nat) (L1 : KT) : Zc3 := Zr (fun L2 => YY k (Zdd k L1 L2) L1 L2) k
noncomputable def Yh (k : Nat) (n1 : Nat) (n : Nat) (v : Zto) : Option (((List Int × Int × Unit) × Int × Unit) × Unit) :=
  ZB (Ze2 k) Zs1 [] [1, 1, 1, 1, 1, 0, 1, 0, 0, 1, 0, 0, 1, 0] [n1] (W0 Tryz.f111) (Xq (Ze2 k) Tryz.f111 Za4 Zc7 [] []) n (ZHe v)
def ZIr : Zr8 → St
  | (v0, v1, v2, v3, v4, v5, v6, v7) => St.mk (ZC [(nat_lit 10, Zp v0), (nat_lit 1, Zp v1), (nat_lit 6, AV.bx (nat_lit 8192) (nat_lit 0)), (nat_lit 0, XI v2), (nat_lit 9, avB v3), (nat_lit 7, Zp v4), (nat_lit 4, AV.bx (nat_lit 8193) (nat_lit 0))]) (ZA [(nat_lit 8192, RS.live (Res.box [XI v5, Zp v6])), (nat_lit 8193, RS.live (Res.box [AV.val (PV.v (Value.slice none (0 : Nat) (0 : Nat))), Zp v7]))])
def X3 (k : Nat) (L2 : Zc3) (L1 : KT) : KT
  | (v0, v1, v2, v3, v4, v5, v6, v7) => bif decide ((0 : Int) < v0) then L2 (v1, (0 : Int), v0, v2, v3, v4, v1, v5, v6, v7) else some (((v5, v6, ()), 0, ()), ())
def Zj4 (k : Nat) : KT := Zr (fun L1 => X3 k (ZcO k L1) L1) k
noncomputable def Q8 (k : Nat) (n : Nat) (v : Zr8) : Option (((List Int × Int × Unit) × Int × Unit) × Unit) :=
  ZB (Ze2 k) Zs1 [] [1, 1, 1, 1, 1, 0, 1, 0] [] (W0 Tryz.f111) (Xq (Ze2 k) Tryz.f111 Za4 Zc7 [] []) n (ZIr v)
def ZdP (k : Nat) (L1 : KT) : List Int × Int × Unit → Option (((List Int × Int × Unit) × Int × Unit) × Unit)
  | (a0, a1, ()) => bif decide (a1 < (0 : Int)) then some ((([], (0 : Int), ()), 1, ()), ()) else bif decide ((8 : Int) < a1) then some ((([], (0 : Int), ()), 1, ()), ()) else bif decide (Int.ofNat a0.length < a1) then some ((([], (0 : Int), ()), 1, ()), ()) else (Yr k (a0, (), ())).bind fun y => bif y.1 then some ((([], (0 : Int), ()), 12, ()), ()) else (Zm5 k (a1, ())).bind fun y => (ZhH k ((y.1.1, y.1.2.1, ()), a0, ())).bind fun y_1 => L1 ((8 : Int), a1, a0, y_1.1.2.1 == (0 : Int), y_1.1.1, y.1.1, y.1.2.1, (0 : Int))
def ZnP (k : Nat) := ZdP k (Zj4 k)
theorem ZBp (k : Nat) (n1 n2 : Nat) : ∀ n, Zhp k n1 n2 n = Zr (fun L3 => X1 k (Q8 k n1) (Yh k n1 n2) L3) n :=
  Zn (fun v => by kernel_rfl) (fun n v => by
    show Zhp k n1 n2 (n + 1) v = X1 k (Q8 k n1) (Yh k n1 n2) (Zhp k n1 n2 n) v
    obtain ⟨v0, v1, v2, v3, v4, v5, v6, v7, v8, v9, v10, v11, v12, v13⟩ := v
    kernel_rfl)
theorem ZBU (k : Nat) (n1 : Nat) : ∀ n, Yh k n1 n = Zr (fun L2 => YY k (Zdd k (Q8 k n1) L2) (Q8 k n1) L2) n :=
  Zn (fun v => by kernel_rfl) (fun n v => by
    show Yh k n1 (n + 1) v = YY k (Zdd k (Q8 k n1) (Yh k n1 n)) (Q8 k n1) (Yh k n1 n) v
    rw [show (Zdd k (Q8 k n1) (Yh k n1 n)) = Zhp k n1 n k from (ZBp k n1 n k).symm]
    obtain ⟨v0, v1, v2, v3, v4, v5, v6, v7, v8, v9⟩ := v
    kernel_rfl)
theorem ZAf (k : Nat) : ∀ n, Q8 k n = Zr (fun L1 => X3 k (ZcO k L1) L1) n :=
  Zn (fun v => by kernel_rfl) (fun n v => by
    show Q8 k (n + 1) v = X3 k (ZcO k (Q8 k n)) (Q8 k n) v
    rw [show (ZcO k (Q8 k n)) = Yh k n k from (ZBU k n k).symm]
    obtain ⟨v0, v1, v2, v3, v4, v5, v6, v7⟩ := v
    kernel_rfl)
theorem ZGB (k : Nat) (x : Kd.dens Za4) : ZD (Ze2 k) Zs1 Tryz.f111 Za4 Zc7 x = ZnP k x := by
  show _ = ZdP k (Zj4 k) x
  rw [show Zj4 k = Q8 k k from (ZAf k k).symm]
  obtain ⟨a0, ⟨a1, ⟨⟩⟩⟩ := x
  kernel_rfl
theorem ZE9 (k : Nat) : Ctr Tryz.prog k 111 (mk Za4 Zc7 ZnP) :=
  ZE (fn := Tryz.f111) (Zh (Za (ZeX k) (Za (ZC1 k) (Za (ZCP k) (Za (ZuY k) Zd))))) (by kernel_rfl) (by kernel_rfl) (by kernel_rfl) (by kernel_rfl) (ZGB k)
noncomputable abbrev ZKX : Nat × Callee := (111, mk Za4 Zc7 ZnP)
abbrev ZjP : List Kd := [.view Ztm, .view .bool, .box [.view (.int .i64), .view (.int .i64), .view (.int .i64), .view (.sl (.int .i64)), .view (.sl (.int .i64)), .view (.int .i64), .view (.sl (.int .i64)), .view (.int .i64)]]
abbrev Zq2 : Kd := .tup []
noncomputable def ZK6 (k : Nat) := Qo k []
def Zpe (k : Nat) : (Int × Int × Int × List Int × (List Int × Int × Unit) × List Int × Int × Unit) × Bool × (Int × Int × Int × List Int × List Int × Int × List Int × Int × Unit) × Unit → Option (Unit × (Int × Int × Int × List Int × List Int × Int × List Int × Int × Unit) × Unit)
  | ((a0, a1, a2, a3, (a4, a5, ()), a6, a7, ()), a8, (a9, a10, a11, a12, a13, a14, a15, a16, ()), ()) => bif a8 then bif decide (a16 < (0 : Int)) then some ((), (a0, a1, a2, a3, a4, a5, a6, a7, ()), ()) else bif decide (a7 < a16) then some ((), (a0, a1, a2, a3, a4, a5, a6, a7, ()), ()) else some ((), (a9, a10, a11, a12, a13, a14, a15, a16, ()), ()) else some ((), (a9, a10, a11, a12, a13, a14, a15, a16, ()), ())
def Zab (k : Nat) := Zpe k
theorem ZIg (k : Nat) (x : Kd.dens ZjP) : ZD (ZK6 k) nA Tryz.f107 ZjP Zq2 x = Zab k x := by
  show _ = Zpe k x
  obtain ⟨⟨a0, ⟨a1, ⟨a2, ⟨a3, ⟨⟨a4, ⟨a5, ⟨⟩⟩⟩, ⟨a6, ⟨a7, ⟨⟩⟩⟩⟩⟩⟩⟩⟩, ⟨a8, ⟨⟨a9, ⟨a10, ⟨a11, ⟨a12, ⟨a13, ⟨a14, ⟨a15, ⟨a16, ⟨⟩⟩⟩⟩⟩⟩⟩⟩⟩, ⟨⟩⟩⟩⟩ := x
  kernel_rfl
theorem ZD3 (k : Nat) : Ctr Tryz.prog k 107 (mk ZjP Zq2 Zab) :=
  ZE (fn := Tryz.f107) (Zh Zd) (by kernel_rfl) (by kernel_rfl) (by kernel_rfl) (by kernel_rfl) (ZIg k)
noncomputable abbrev ZLm : Nat × Callee := (107, mk ZjP Zq2 Zab)
abbrev ZeG : List Kd := [.view (.sl (.int .i64)), .view (.int .i64)]
abbrev ZhM : Kd := .view Ztm
noncomputable def ZnL (k : Nat) := Qo k [ZCw, ZKO, ZyL, ZLU, ZKX, ZLm]
def Zzm : Nat → Ann := fun id => bif Nat.beq id 21 then ⟨[82, 81, 11, 6, 10, 12, 9, 4], []⟩ else bif Nat.beq id 15 then ⟨[62, 63, 10, 6, 11, 12, 9, 4], []⟩ else bif Nat.beq id 4 then ⟨[28, 29, 27, 6, 5, 4], [.cell 6 3 ((Ty.int IntKind.i64))]⟩ else ⟨[], []⟩
abbrev ZwY := Int × Int × Int × Int × Int × Int × Int × Int × List Int × List Int × Int × List Int × Int × Int × Int × Int × List Int × List Int × Int × List Int × Int × Int × Int × Int × Int × Int × List Int × Int × Int × Int × Int × Int
abbrev Ztv := ZwY → Option ((Int × Int × Int × List Int × (List Int × Int × Unit) × List Int × Int × Unit) × Unit)
abbrev Zw2 := Int × Int × Int × Int × Int × Int × List Int × List Int × Int × List Int × Int × Int × Int × Int × List Int × List Int × Int × List Int × Int × Int × Int × Int × Int × Int × List Int × Int × Int × Int × Int × Int
abbrev ZtE := Zw2 → Option ((Int × Int × Int × List Int × (List Int × Int × Unit) × List Int × Int × Unit) × Unit)
abbrev ZxV := Int × Int × List Int × Int × Int × Int × Int × Int × Int × List Int × Int × Int × Int × Int × Int
abbrev Zrp := ZxV → Option ((Int × Int × Int × List Int × (List Int × Int × Unit) × List Int × Int × Unit) × Unit)
def ZLN : ZwY → St
  | (v0, v1, v2, v3, v4, v5, v6, v7, v8, v9, v10, v11, v12, v13, v14, v15, v16, v17, v18, v19, v20, v21, v22, v23, v24, v25, v26, v27, v28, v29, v30, v31) => St.mk (ZC [(nat_lit 82, Zp v0), (nat_lit 81, AV.agg [Zp v1, Zp v2, Zp v3]), (nat_lit 11, Zp v4), (nat_lit 6, AV.bx (nat_lit 8192) (nat_lit 0)), (nat_lit 10, AV.clo (nat_lit 107) [AV.bx (nat_lit 8193) (nat_lit 0)]), (nat_lit 12, AV.bx (nat_lit 8194) (nat_lit 0)), (nat_lit 9, AV.bx (nat_lit 8193) (nat_lit 0)), (nat_lit 4, AV.bx (nat_lit 8196) (nat_lit 0))]) (ZA [(nat_lit 8192, RS.live (Res.box [Zp v5, Zp v6, Zp v7, XI v8, XI v9, Zp v10, XI v11, Zp v12])), (nat_lit 8193, RS.live (Res.box [Zp v13, Zp v14, Zp v15, XI v16, XI v17, Zp v18, XI v19, Zp v20])), (nat_lit 8194, RS.live (Res.box [Zp v21, Zp v22, Zp v23, AV.own (nat_lit 8195), AV.val (PV.v (Value.slice none (0 : Nat) (0 : Nat))), Zp v24, AV.val (PV.v (Value.slice none (0 : Nat) (0 : Nat))), Zp v25])), (nat_lit 8195, RS.live (Res.arr (Ty.int IntKind.i64) v26 true)), (nat_lit 8196, RS.live (Res.box [Zp v27, Zp v28, Zp v29, AV.val (PV.v (Value.slice none (0 : Nat) (0 : Nat))), AV.val (PV.v (Value.slice none (0 : Nat) (0 : Nat))), Zp v30, AV.val (PV.v (Value.slice none (0 : Nat) (0 : Nat))), Zp v31]))])
noncomputable def Y7 (k : Nat) (L3 : Ztv) : Ztv
  | (v0, v1, v2, v3, v4, v5, v6, v7, v8, v9, v10, v11, v12, v13, v14, v15, v16, v17, v18, v19, v20, v21, v22, v23, v24, v25, v26, v27, v28, v29, v30, v31) => bif decide (v0 < (3 : Int)) then bif decide ((0 : Int) ≤ v0 ∧ v0 < (3 : Int)) then bif decide ([v1, v2, v3].getD v0.toNat (0 : Int) < v4) then (ZnP k (v8, [v1, v2, v3].getD v0.toNat (0 : Int), ())).bind fun y => (Zfd k ((v5, v6, v7, v8, (v9, v10, ()), v11, v12, ()), IntKind.i64.wrap ((31 : Int) + [v1, v2, v3].getD v0.toNat (0 : Int)), (y.1.1.1, y.1.1.2.1, ()), IntKind.i64.wrap ((9 : Int) + IntKind.i64.wrap ((12 : Int) * [v1, v2, v3].getD v0.toNat (0 : Int))), ())).bind fun y => (Zab k ((y.1.1.1, y.1.1.2.1, y.1.1.2.2.1, y.1.1.2.2.2.1, (y.1.1.2.2.2.2.1.1, y.1.1.2.2.2.2.1.2.1, ()), y.1.1.2.2.2.2.2.1, y.1.1.2.2.2.2.2.2.1, ()), y.1.2.1, (v13, v14, v15, v16, v17, v18, v19, v20, ()), ())).bind fun y => L3 (IntKind.i64.wrap (v0 + (1 : Int)), v1, v2, v3, v4, v5, v6, v7, v8, v9, v10, v11, v12, y.2.1.1, y.2.1.2.1, y.2.1.2.2.1, y.2.1.2.2.2.1, y.2.1.2.2.2.2.1, y.2.1.2.2.2.2.2.1, y.2.1.2.2.2.2.2.2.1, y.2.1.2.2.2.2.2.2.2.1, v21, v22, v23, v24, v25, v26, v27, v28, v29, v30, v31) else L3 (IntKind.i64.wrap (v0 + (1 : Int)), v1, v2, v3, v4, v5, v6, v7, v8, v9, v10, v11, v12, v13, v14, v15, v16, v17, v18, v19, v20, v21, v22, v23, v24, v25, v26, v27, v28, v29, v30, v31) else none else (Zab k (((1 : Int), v22, v23, v26, ([], v24, ()), [], IntKind.i64.wrap (v4 * v7), ()), true, (v13, v14, v15, v16, v17, v18, v19, v20, ()), ())).bind fun y => some ((y.2.1.1, y.2.1.2.1, y.2.1.2.2.1, y.2.1.2.2.2.1, (y.2.1.2.2.2.2.1, y.2.1.2.2.2.2.2.1, ()), y.2.1.2.2.2.2.2.2.1, y.2.1.2.2.2.2.2.2.2.1, ()), ())
noncomputable def ZeS (k : Nat) : Ztv := Zr (fun L3 => Y7 k L3) k
noncomputable def ZkP (k : Nat) (n : Nat) (v : ZwY) : Option ((Int × Int × Int × List Int × (List Int × Int × Unit) × List Int × Int × Unit) × Unit) :=
  ZB (ZnL k) Zzm [] [1, 1, 1, 1, 1, 1, 1, 1, 1, 1, 1, 0, 1, 0] [] (W0 Tryz.f68) (Xq (ZnL k) Tryz.f68 ZeG ZhM [] []) n (ZLN v)
def ZKS : Zw2 → St
  | (v0, v1, v2, v3, v4, v5, v6, v7, v8, v9, v10, v11, v12, v13, v14, v15, v16, v17, v18, v19, v20, v21, v22, v23, v24, v25, v26, v27, v28, v29) => St.mk (ZC [(nat_lit 62, Zp v0), (nat_lit 63, Zp v1), (nat_lit 10, AV.clo (nat_lit 107) [AV.bx (nat_lit 8192) (nat_lit 0)]), (nat_lit 6, AV.bx (nat_lit 8193) (nat_lit 0)), (nat_lit 11, Zp v2), (nat_lit 12, AV.bx (nat_lit 8194) (nat_lit 0)), (nat_lit 9, AV.bx (nat_lit 8192) (nat_lit 0)), (nat_lit 4, AV.bx (nat_lit 8196) (nat_lit 0))]) (ZA [(nat_lit 8192, RS.live (Res.box [Zp v3, Zp v4, Zp v5, XI v6, XI v7, Zp v8, XI v9, Zp v10])), (nat_lit 8193, RS.live (Res.box [Zp v11, Zp v12, Zp v13, XI v14, XI v15, Zp v16, XI v17, Zp v18])), (nat_lit 8194, RS.live (Res.box [Zp v19, Zp v20, Zp v21, AV.own (nat_lit 8195), AV.val (PV.v (Value.slice none (0 : Nat) (0 : Nat))), Zp v22, AV.val (PV.v (Value.slice none (0 : Nat) (0 : Nat))), Zp v23])), (nat_lit 8195, RS.live (Res.arr (Ty.int IntKind.i64) v24 true)), (nat_lit 8196, RS.live (Res.box [Zp v25, Zp v26, Zp v27, AV.val (PV.v (Value.slice none (0 : Nat) (0 : Nat))), AV.val (PV.v (Value.slice none (0 : Nat) (0 : Nat))), Zp v28, AV.val (PV.v (Value.slice none (0 : Nat) (0 : Nat))), Zp v29]))])
noncomputable def ZaU (k : Nat) (L3 : Ztv) (L2 : ZtE) : ZtE
  | (v0, v1, v2, v3, v4, v5, v6, v7, v8, v9, v10, v11, v12, v13, v14, v15, v16, v17, v18, v19, v20, v21, v22, v23, v24, v25, v26, v27, v28, v29) => bif decide (v1 < v0) then (Zck k (v1, ())).bind fun y => (Zfd k ((v11, v12, v13, v14, (v15, v16, ()), v17, v18, ()), IntKind.i64.wrap ((8 : Int) + v1), (y.1.1.1, y.1.1.2.1, ()), 0, ())).bind fun y => (Zab k ((y.1.1.1, y.1.1.2.1, y.1.1.2.2.1, y.1.1.2.2.2.1, (y.1.1.2.2.2.2.1.1, y.1.1.2.2.2.2.1.2.1, ()), y.1.1.2.2.2.2.2.1, y.1.1.2.2.2.2.2.2.1, ()), y.1.2.1, (v3, v4, v5, v6, v7, v8, v9, v10, ()), ())).bind fun y => L2 (v0, IntKind.i64.wrap (v1 + (1 : Int)), v2, y.2.1.1, y.2.1.2.1, y.2.1.2.2.1, y.2.1.2.2.2.1, y.2.1.2.2.2.2.1, y.2.1.2.2.2.2.2.1, y.2.1.2.2.2.2.2.2.1, y.2.1.2.2.2.2.2.2.2.1, v11, v12, v13, v14, v15, v16, v17, v18, v19, v20, v21, v22, v23, v24, v25, v26, v27, v28, v29) else L3 ((0 : Int), (2 : Int), (4 : Int), (8 : Int), v2, v11, v12, v13, v14, v15, v16, v17, v18, v3, v4, v5, v6, v7, v8, v9, v10, v19, v20, v21, v22, v23, v24, v25, v26, v27, v28, v29)
noncomputable def Ze6 (k : Nat) : ZtE := Zr (fun L2 => ZaU k (ZeS k) L2) k
noncomputable def ZkI (k : Nat) (n : Nat) (v : Zw2) : Option ((Int × Int × Int × List Int × (List Int × Int × Unit) × List Int × Int × Unit) × Unit) :=
  ZB (ZnL k) Zzm [] [1, 1, 1, 1, 1, 1, 1, 1, 1, 1, 0, 1, 0] [] (W0 Tryz.f68) (Xq (ZnL k) Tryz.f68 ZeG ZhM [] []) n (ZKS v)
def ZLX : ZxV → St
  | (v0, v1, v2, v3, v4, v5, v6, v7, v8, v9, v10, v11, v12, v13, v14) => St.mk (ZC [(nat_lit 28, Zp v0), (nat_lit 29, Zp v1), (nat_lit 27, XI v2), (nat_lit 6, AV.bx (nat_lit 8192) (nat_lit 0)), (nat_lit 5, Zp v3), (nat_lit 4, AV.bx (nat_lit 8194) (nat_lit 0))]) (ZA [(nat_lit 8192, RS.live (Res.box [Zp v4, Zp v5, Zp v6, AV.own (nat_lit 8193), AV.val (PV.v (Value.slice none (0 : Nat) (0 : Nat))), Zp v7, AV.val (PV.v (Value.slice none (0 : Nat) (0 : Nat))), Zp v8])), (nat_lit 8193, RS.live (Res.arr (Ty.int IntKind.i64) v9 false)), (nat_lit 8194, RS.live (Res.box [Zp v10, Zp v11, Zp v12, AV.val (PV.v (Value.slice none (0 : Nat) (0 : Nat))), AV.val (PV.v (Value.slice none (0 : Nat) (0 : Nat))), Zp v13, AV.val (PV.v (Value.slice none (0 : Nat) (0 : Nat))), Zp v14]))])
def XH (k : Nat) (L2 : ZtE) (L1 : Zrp) : Zrp
  | (v0, v1, v2, v3, v4, v5, v6, v7, v8, v9, v10, v11, v12, v13, v14) => bif decide (v1 < v0) then bif decide ((0 : Int) ≤ v1 ∧ v1 < Int.ofNat v2.length) then bif decide ((0 : Int) ≤ v3) then bif decide (v9.length + [Int.fdiv (v2.getD v1.toNat 0) ((2 : Int) ^ min v3.toNat (64 : Nat))].length < (2147483648 : Nat)) then L1 (v0, IntKind.i64.wrap (v1 + (1 : Int)), v2, v3, v4, v5, v6, v7, v8, v9 ++ [Int.fdiv (v2.getD v1.toNat 0) ((2 : Int) ^ min v3.toNat (64 : Nat))], v10, v11, v12, v13, v14) else none else none else none else (Zce k (v9, ((v4, v5, v6, v9, [], v7, [], v8, ()), ()), ())).bind fun y => (Zab k (((0 : Int), v5, v6, v9, ([], v7, ()), [], v6, ()), !y.1, (0, 0, 0, [], [], 0, [], (-1 : Int), ()), ())).bind fun y_1 => L2 (IntKind.i64.wrap ((if Int.ofNat v9.length < (4 : Int) then Int.ofNat v9.length else (4 : Int)) + (1 : Int)), (0 : Int), Int.ofNat v9.length, y_1.2.1.1, y_1.2.1.2.1, y_1.2.1.2.2.1, y_1.2.1.2.2.2.1, y_1.2.1.2.2.2.2.1, y_1.2.1.2.2.2.2.2.1, y_1.2.1.2.2.2.2.2.2.1, y_1.2.1.2.2.2.2.2.2.2.1, y.2.1.1, y.2.1.2.1, y.2.1.2.2.1, y.2.1.2.2.2.1, y.2.1.2.2.2.2.1, y.2.1.2.2.2.2.2.1, y.2.1.2.2.2.2.2.2.1, y.2.1.2.2.2.2.2.2.2.1, (0 : Int), v5, v6, v7, v6, v9, v10, v11, v12, v13, v14)
noncomputable def ZqH (k : Nat) : Zrp := Zr (fun L1 => XH k (Ze6 k) L1) k
noncomputable def Zj5 (k : Nat) (n : Nat) (v : ZxV) : Option ((Int × Int × Int × List Int × (List Int × Int × Unit) × List Int × Int × Unit) × Unit) :=
  ZB (ZnL k) Zzm [] [1, 1, 1, 0, 1, 0] [] (W0 Tryz.f68) (Xq (ZnL k) Tryz.f68 ZeG ZhM [] []) n (ZLX v)
def ZfC (k : Nat) (L1 : Zrp) : List Int × Int × Unit → Option ((Int × Int × Int × List Int × (List Int × Int × Unit) × List Int × Int × Unit) × Unit)
  | (a0, a1, ()) => (ZlU k (a0, ())).bind fun y => L1 (Int.ofNat a0.length, (0 : Int), a0, y.1, (0 : Int), y.1, IntKind.i64.wrap (a1 - y.1), (0 : Int), (0 : Int), [], (0 : Int), (0 : Int), (0 : Int), (0 : Int), (0 : Int))
noncomputable def Zp5 (k : Nat) := ZfC k (ZqH k)
theorem ZD0 (k : Nat) : ∀ n, ZkP k n = Zr (fun L3 => Y7 k L3) n :=
  Zn (fun v => by kernel_rfl) (fun n v => by
    show ZkP k (n + 1) v = Y7 k (ZkP k n) v
    obtain ⟨v0, v1, v2, v3, v4, v5, v6, v7, v8, v9, v10, v11, v12, v13, v14, v15, v16, v17, v18, v19, v20, v21, v22, v23, v24, v25, v26, v27, v28, v29, v30, v31⟩ := v
    kernel_rfl)
theorem ZEC (k : Nat) : ∀ n, ZkI k n = Zr (fun L2 => ZaU k (ZeS k) L2) n :=
  Zn (fun v => by kernel_rfl) (fun n v => by
    show ZkI k (n + 1) v = ZaU k (ZeS k) (ZkI k n) v
    rw [show (ZeS k) = ZkP k k from (ZD0 k k).symm]
    obtain ⟨v0, v1, v2, v3, v4, v5, v6, v7, v8, v9, v10, v11, v12, v13, v14, v15, v16, v17, v18, v19, v20, v21, v22, v23, v24, v25, v26, v27, v28, v29⟩ := v
    kernel_rfl)
theorem ZF7 (k : Nat) : ∀ n, Zj5 k n = Zr (fun L1 => XH k (Ze6 k) L1) n :=
  Zn (fun v => by kernel_rfl) (fun n v => by
    show Zj5 k (n + 1) v = XH k (Ze6 k) (Zj5 k n) v
    rw [show (Ze6 k) = ZkI k k from (ZEC k k).symm]
    obtain ⟨v0, v1, v2, v3, v4, v5, v6, v7, v8, v9, v10, v11, v12, v13, v14⟩ := v
    kernel_rfl)
theorem ZJ6 (k : Nat) (x : Kd.dens ZeG) : ZD (ZnL k) Zzm Tryz.f68 ZeG ZhM x = Zp5 k x := by
  show _ = ZfC k (ZqH k) x
  rw [show ZqH k = Zj5 k k from (ZF7 k k).symm]
  obtain ⟨a0, ⟨a1, ⟨⟩⟩⟩ := x
  kernel_rfl
theorem ZHD (k : Nat) : Ctr Tryz.prog k 68 (mk ZeG ZhM Zp5) :=
  ZE (fn := Tryz.f68) (Zh (Za (ZwV k) (Za (ZDl k) (Za (Zny k) (Za (ZCW k) (Za (ZE9 k) (Za (ZD3 k) Zd))))))) (by kernel_rfl) (by kernel_rfl) (by kernel_rfl) (by kernel_rfl) (ZJ6 k)
noncomputable abbrev ZNa : Nat × Callee := (68, mk ZeG ZhM Zp5)
abbrev Znm : List Kd := [.box [.own (.int .u8) false, .view (.int .i64)], .view (.int .i64)]
abbrev Zsf : Kd := .view (.int .i64)
noncomputable def ZEJ (k : Nat) := Qo k [ZGm]
def ZJh : Nat → Ann := fun id => bif Nat.beq id 4 then ⟨[15, 16, 0], []⟩ else ⟨[], []⟩
abbrev Zy7 := Int × Int × Int × List Int
abbrev Zsh := Zy7 → Option (Int × (List Int × Int × Unit) × Unit)
def ZKp : Zy7 → St
  | (v0, v1, v2, v3) => St.mk (ZC [(nat_lit 15, Zp v0), (nat_lit 16, Zp v1), (nat_lit 0, AV.bx (nat_lit 0) (nat_lit 0))]) (ZA [(nat_lit 0, RS.live (Res.box [AV.own (nat_lit 8192), Zp v2])), (nat_lit 8192, RS.live (Res.arr (Ty.int IntKind.u8) v3 false))])
def Zag (k : Nat) (L1 : Zsh) : Zsh
  | (v0, v1, v2, v3) => bif decide (v1 < v0) then (Ze4 k ((v3, v2, ()), 0, ())).bind fun y => L1 (v0, IntKind.i64.wrap (v1 + (1 : Int)), y.2.1.2.1, y.2.1.1) else (Ze4 k ((v3, v2, ()), 1, ())).bind fun y => some (0, (y.2.1.1, y.2.1.2.1, ()), ())
def Zq0 (k : Nat) : Zsh := Zr (fun L1 => Zag k L1) k
noncomputable def ZjL (k : Nat) (n : Nat) (v : Zy7) : Option (Int × (List Int × Int × Unit) × Unit) :=
  ZB (ZEJ k) ZJh [0] [1, 1, 0, 1, 0] [] (W0 Tryz.f69) (Xq (ZEJ k) Tryz.f69 Znm Zsf [AV.bx (nat_lit 0) (nat_lit 0)] [[]]) n (ZKp v)
def Zho (k : Nat) (L1 : Zsh) : (List Int × Int × Unit) × Int × Unit → Option (Int × (List Int × Int × Unit) × Unit)
  | ((a0, a1, ()), a2, ()) => bif decide (a2 < (0 : Int)) then some (1, (a0, a1, ()), ()) else bif decide ((65536 : Int) < a2) then some (1, (a0, a1, ()), ()) else L1 (a2, (0 : Int), a1, a0)
def Zi5 (k : Nat) := Zho k (Zq0 k)
theorem ZFh (k : Nat) : ∀ n, ZjL k n = Zr (fun L1 => Zag k L1) n :=
  Zn (fun v => by kernel_rfl) (fun n v => by
    show ZjL k (n + 1) v = Zag k (ZjL k n) v
    obtain ⟨v0, v1, v2, v3⟩ := v
    kernel_rfl)
theorem ZMc (k : Nat) (x : Kd.dens Znm) : ZD (ZEJ k) ZJh Tryz.f69 Znm Zsf x = Zi5 k x := by
  show _ = Zho k (Zq0 k) x
  rw [show Zq0 k = ZjL k k from (ZFh k k).symm]
  obtain ⟨⟨a0, ⟨a1, ⟨⟩⟩⟩, ⟨a2, ⟨⟩⟩⟩ := x
  kernel_rfl
theorem Zz8 (k : Nat) : Ctr Tryz.prog k 69 (mk Znm Zsf Zi5) :=
  ZE (fn := Tryz.f69) (Zh (Za (ZuZ k) Zd)) (by kernel_rfl) (by kernel_rfl) (by kernel_rfl) (by kernel_rfl) (ZMc k)
noncomputable abbrev ZI7 : Nat × Callee := (69, mk Znm Zsf Zi5)
abbrev Zkv : List Kd := [.box [.own (.int .u8) false, .view (.int .i64)], .view (.int .i64), .view (.int .i64)]
abbrev Zr9 : Kd := .view (.int .i64)
noncomputable def ZKi (k : Nat) := Qo k [ZFQ, ZJI]
def ZcZ (k : Nat) : (List Int × Int × Unit) × Int × Int × Unit → Option (Int × (List Int × Int × Unit) × Unit)
  | ((a0, a1, ()), a2, a3, ()) => (ZmR k (a3, ())).bind fun y => bif y.1 then some (1, (a0, a1, ()), ()) else bif a3 == (0 : Int) then bif a2 != (0 : Int) then some (12, (a0, a1, ()), ()) else bif decide ((0 : Int) < a3) then bif decide ((0 : Int) ≤ IntKind.i64.wrap (a3 - (1 : Int))) then bif a2.fdiv ((2 : Int) ^ min (IntKind.i64.wrap (a3 - (1 : Int))).toNat (64 : Nat)) != (0 : Int) then bif decide ((0 : Int) ≤ IntKind.i64.wrap (a3 - (1 : Int))) then bif a2.fdiv ((2 : Int) ^ min (IntKind.i64.wrap (a3 - (1 : Int))).toNat (64 : Nat)) != (-1 : Int) then some (12, (a0, a1, ()), ()) else (ZbR k ((a0, a1, ()), IntKind.u64.wrap a2, a3, ())).bind fun y => some (0, (y.2.1.1, y.2.1.2.1, ()), ()) else none else (ZbR k ((a0, a1, ()), IntKind.u64.wrap a2, a3, ())).bind fun y => some (0, (y.2.1.1, y.2.1.2.1, ()), ()) else none else (ZbR k ((a0, a1, ()), IntKind.u64.wrap a2, a3, ())).bind fun y => some (0, (y.2.1.1, y.2.1.2.1, ()), ()) else bif decide ((0 : Int) < a3) then bif decide ((0 : Int) ≤ IntKind.i64.wrap (a3 - (1 : Int))) then bif a2.fdiv ((2 : Int) ^ min (IntKind.i64.wrap (a3 - (1 : Int))).toNat (64 : Nat)) != (0 : Int) then bif decide ((0 : Int) ≤ IntKind.i64.wrap (a3 - (1 : Int))) then bif a2.fdiv ((2 : Int) ^ min (IntKind.i64.wrap (a3 - (1 : Int))).toNat (64 : Nat)) != (-1 : Int) then some (12, (a0, a1, ()), ()) else (ZbR k ((a0, a1, ()), IntKind.u64.wrap a2, a3, ())).bind fun y => some (0, (y.2.1.1, y.2.1.2.1, ()), ()) else none else (ZbR k ((a0, a1, ()), IntKind.u64.wrap a2, a3, ())).bind fun y => some (0, (y.2.1.1, y.2.1.2.1, ()), ()) else none else (ZbR k ((a0, a1, ()), IntKind.u64.wrap a2, a3, ())).bind fun y => some (0, (y.2.1.1, y.2.1.2.1, ()), ())
def Zh9 (k : Nat) := ZcZ k
theorem ZHQ (k : Nat) (x : Kd.dens Zkv) : ZD (ZKi k) nA Tryz.f112 Zkv Zr9 x = Zh9 k x := by
  show _ = ZcZ k x
  obtain ⟨⟨a0, ⟨a1, ⟨⟩⟩⟩, ⟨a2, ⟨a3, ⟨⟩⟩⟩⟩ := x
  kernel_rfl
theorem ZvA (k : Nat) : Ctr Tryz.prog k 112 (mk Zkv Zr9 Zh9) :=
  ZE (fn := Tryz.f112) (Zh (Za (ZrS k) (Za (ZzA k) Zd))) (by kernel_rfl) (by kernel_rfl) (by kernel_rfl) (by kernel_rfl) (ZHQ k)
noncomputable abbrev ZDc : Nat × Callee := (112, mk Zkv Zr9 Zh9)
abbrev ZoD : List Kd := [.box [.own (.int .u8) false, .view (.int .i64)], .view (.sl (.int .i64)), .view (.int .i64)]
abbrev ZrR : Kd := .tup []
noncomputable def ZDa (k : Nat) := Qo k [ZDc]
def ZI8 : Nat → Ann := fun id => bif Nat.beq id 1 then ⟨[9, 10, 8, 0, 2], []⟩ else ⟨[], []⟩
abbrev Zyr := Int × Int × List Int × Int × Int × List Int
abbrev ZrH := Zyr → Option (Unit × (List Int × Int × Unit) × Unit)
def ZLS : Zyr → St
  | (v0, v1, v2, v3, v4, v5) => St.mk (ZC [(nat_lit 9, Zp v0), (nat_lit 10, Zp v1), (nat_lit 8, XI v2), (nat_lit 0, AV.bx (nat_lit 0) (nat_lit 0)), (nat_lit 2, Zp v3)]) (ZA [(nat_lit 0, RS.live (Res.box [AV.own (nat_lit 8192), Zp v4])), (nat_lit 8192, RS.live (Res.arr (Ty.int IntKind.u8) v5 false))])
def Zaw (k : Nat) (L1 : ZrH) : ZrH
  | (v0, v1, v2, v3, v4, v5) => bif decide (v1 < v0) then bif decide ((0 : Int) ≤ v1 ∧ v1 < Int.ofNat v2.length) then (Zh9 k ((v5, v4, ()), v2.getD v1.toNat 0, v3, ())).bind fun y => L1 (v0, IntKind.i64.wrap (v1 + (1 : Int)), v2, v3, y.2.1.2.1, y.2.1.1) else none else some ((), (v5, v4, ()), ())
def ZrA (k : Nat) : ZrH := Zr (fun L1 => Zaw k L1) k
noncomputable def ZkZ (k : Nat) (n : Nat) (v : Zyr) : Option (Unit × (List Int × Int × Unit) × Unit) :=
  ZB (ZDa k) ZI8 [0] [1, 0] [] (W0 Tryz.f70) (Xq (ZDa k) Tryz.f70 ZoD ZrR [AV.bx (nat_lit 0) (nat_lit 0)] [[]]) n (ZLS v)
def Zhk (k : Nat) (L1 : ZrH) : (List Int × Int × Unit) × List Int × Int × Unit → Option (Unit × (List Int × Int × Unit) × Unit)
  | ((a0, a1, ()), a2, a3, ()) => L1 (Int.ofNat a2.length, (0 : Int), a2, a3, a1, a0)
def YD (k : Nat) := Zhk k (ZrA k)
theorem ZD6 (k : Nat) : ∀ n, ZkZ k n = Zr (fun L1 => Zaw k L1) n :=
  Zn (fun v => by kernel_rfl) (fun n v => by
    show ZkZ k (n + 1) v = Zaw k (ZkZ k n) v
    obtain ⟨v0, v1, v2, v3, v4, v5⟩ := v
    kernel_rfl)
theorem ZLH (k : Nat) (x : Kd.dens ZoD) : ZD (ZDa k) ZI8 Tryz.f70 ZoD ZrR x = YD k x := by
  show _ = Zhk k (ZrA k) x
  rw [show ZrA k = ZkZ k k from (ZD6 k k).symm]
  obtain ⟨⟨a0, ⟨a1, ⟨⟩⟩⟩, ⟨a2, ⟨a3, ⟨⟩⟩⟩⟩ := x
  kernel_rfl
theorem ZGZ (k : Nat) : Ctr Tryz.prog k 70 (mk ZoD ZrR YD) :=
  ZE (fn := Tryz.f70) (Zh (Za (ZvA k) Zd)) (by kernel_rfl) (by kernel_rfl) (by kernel_rfl) (by kernel_rfl) (ZLH k)
noncomputable abbrev ZNB : Nat × Callee := (70, mk ZoD ZrR YD)
abbrev ZiP : List Kd := [.box [.own (.int .u8) false, .view (.int .i64)], .view (.sl (.int .i64)), .view (.int .i64)]
abbrev ZnW : Kd := .view (.int .i64)
noncomputable def ZvY (k : Nat) := Qo k [ZEx, ZI7, ZDg, ZC7, ZD4, (116, mk KH Zbc ZbF), (117, mk KJ ZbA Yw), (118, mk Zby ZdZ ZeV), ZDc]
noncomputable def ZGl : Nat → Ann := fun id => bif Nat.beq id 17 then ⟨[69, 70, 68, 11, 8, 0, 41, 40, 39], []⟩ else bif Nat.beq id 10 then ⟨[40, 41, 39, 8, 0], []⟩ else ⟨[], []⟩
abbrev ZyY := Int × Int × List Int × Int × Int × List (List Int) × Int × List Int × Int × Int × Int × Int × Int × List (Int × Int × Int × Unit) × Int
abbrev ZsA := ZyY → Option (Int × (List Int × Int × Unit) × Unit)
abbrev ZyT := Int × Int × List (List Int) × Int × List Int × Int × Int × List (Int × Int × Int × Unit) × Int
abbrev Zif := ZyT → Option (Int × (List Int × Int × Unit) × Unit)
noncomputable def ZKx : ZyY → St
  | (v0, v1, v2, v3, v4, v5, v6, v7, v8, v9, v10, v11, v12, v13, v14) => St.mk (ZC [(nat_lit 69, Zp v0), (nat_lit 70, Zp v1), (nat_lit 68, XI v2), (nat_lit 11, AV.bx (nat_lit 8193) (nat_lit 0)), (nat_lit 8, AV.bx (nat_lit 8194) (nat_lit 0)), (nat_lit 0, AV.bx (nat_lit 0) (nat_lit 0)), (nat_lit 41, Zp v3), (nat_lit 40, Zp v4), (nat_lit 39, AV.val (PV.sl (Ty.int IntKind.i64).sl v5))]) (ZA [(nat_lit 0, RS.live (Res.box [AV.own (nat_lit 8192), Zp v6])), (nat_lit 8192, RS.live (Res.arr (Ty.int IntKind.u8) v7 false)), (nat_lit 8193, RS.live (Res.box [Zp v8, Zp v9, Zp v10])), (nat_lit 8194, RS.live (Res.box [Zp v11, Zp v12, AV.val (PV.sl ((Ty.int IntKind.i64).pair ((Ty.int IntKind.i64).pair ((Ty.int IntKind.i64).pair Ty.unit))) v13), Zp v14]))])
noncomputable def Yg (k : Nat) (L1 : Zif) (L2 : ZsA) : ZsA
  | (v0, v1, v2, v3, v4, v5, v6, v7, v8, v9, v10, v11, v12, v13, v14) => bif decide (v1 < v0) then bif decide ((0 : Int) ≤ v1 ∧ v1 < Int.ofNat v2.length) then (Yw k (v11, ())).bind fun y => bif v8 == y.1 then (Zh9 k ((v7, v6, ()), v2.getD v1.toNat 0, v9, ())).bind fun y => L2 (v0, IntKind.i64.wrap (v1 + (1 : Int)), v2, v3, v4, v5, y.2.1.2.1, y.2.1.1, v8, v9, v10, v11, v12, v13, v14) else (ZeV k (v2.getD v1.toNat 0, ())).bind fun y => bif decide ((0 : Int) ≤ v8) then (Zi5 k ((v7, v6, ()), Int.fdiv y.1.1 ((2 : Int) ^ min v8.toNat (64 : Nat)), ())).bind fun y_1 => bif decide ((0 : Int) ≤ v8) then (Qp k ((y_1.2.1.1, y_1.2.1.2.1, ()), IntKind.i64.wrap (Int.ofNat (BitVec.ofInt (64 : Nat) y.1.1 &&& BitVec.ofInt (64 : Nat) (IntKind.i64.wrap (IntKind.i64.wrap ((1 : Int) * (2 : Int) ^ min v8.toNat (64 : Nat)) - (1 : Int)))).toNat), v8, ())).bind fun y => L2 (v0, IntKind.i64.wrap (v1 + (1 : Int)), v2, v3, v4, v5, y.2.1.2.1, y.2.1.1, v8, v9, v10, v11, v12, v13, v14) else none else none else none else L1 (v4, IntKind.i64.wrap (v3 + (1 : Int)), v5, v6, v7, v11, v12, v13, v14)
noncomputable def Zfh (k : Nat) (L1 : Zif) : ZsA := Zr (fun L2 => Yg k L1 L2) k
noncomputable def Zln (k : Nat) (n1 : Nat) (n : Nat) (v : ZyY) : Option (Int × (List Int × Int × Unit) × Unit) :=
  ZB (ZvY k) ZGl [0] [1, 1, 1, 1, 1, 1, 0, 1, 0, 0, 1, 1, 0, 0, 1, 1, 1, 1, 1, 0] [n1] (W0 Tryz.f71) (Xq (ZvY k) Tryz.f71 ZiP ZnW [AV.bx (nat_lit 0) (nat_lit 0)] [[]]) n (ZKx v)
noncomputable def ZKq : ZyT → St
  | (v0, v1, v2, v3, v4, v5, v6, v7, v8) => St.mk (ZC [(nat_lit 40, Zp v0), (nat_lit 41, Zp v1), (nat_lit 39, AV.val (PV.sl (Ty.int IntKind.i64).sl v2)), (nat_lit 8, AV.bx (nat_lit 8193) (nat_lit 0)), (nat_lit 0, AV.bx (nat_lit 0) (nat_lit 0))]) (ZA [(nat_lit 0, RS.live (Res.box [AV.own (nat_lit 8192), Zp v3])), (nat_lit 8192, RS.live (Res.arr (Ty.int IntKind.u8) v4 false)), (nat_lit 8193, RS.live (Res.box [Zp v5, Zp v6, AV.val (PV.sl ((Ty.int IntKind.i64).pair ((Ty.int IntKind.i64).pair ((Ty.int IntKind.i64).pair Ty.unit))) v7), Zp v8]))])
noncomputable def Zat (k : Nat) (L2 : ZsA) (L1 : Zif) : Zif
  | (v0, v1, v2, v3, v4, v5, v6, v7, v8) => bif decide (v1 < v0) then bif decide ((0 : Int) ≤ v1 ∧ v1 < Int.ofNat v2.length) then bif decide ((0 : Int) ≤ v1 ∧ v1 < Int.ofNat v7.length) then (ZbF k (v5, ())).bind fun y => (Qp k ((v4, v3, ()), (v7.getD v1.toNat (0, 0, 0, ())).1, y.1, ())).bind fun y => (Yw k (v5, ())).bind fun y_1 => bif (v7.getD v1.toNat (0, 0, 0, ())).1 == y_1.1 then (Qp k ((y.2.1.1, y.2.1.2.1, ()), (v7.getD v1.toNat (0, 0, 0, ())).2.1, 5, ())).bind fun y => L2 (Int.ofNat (List.length (v2.getD v1.toNat [])), (0 : Int), v2.getD v1.toNat [], v1, v0, v2, y.2.1.2.1, y.2.1.1, (v7.getD v1.toNat (0, 0, 0, ())).1, (v7.getD v1.toNat (0, 0, 0, ())).2.1, (v7.getD v1.toNat (0, 0, 0, ())).2.2.1, v5, v6, v7, v8) else L2 (Int.ofNat (List.length (v2.getD v1.toNat [])), (0 : Int), v2.getD v1.toNat [], v1, v0, v2, y.2.1.2.1, y.2.1.1, (v7.getD v1.toNat (0, 0, 0, ())).1, (v7.getD v1.toNat (0, 0, 0, ())).2.1, (v7.getD v1.toNat (0, 0, 0, ())).2.2.1, v5, v6, v7, v8) else none else none else some (0, (v4, v3, ()), ())
noncomputable def Zrd (k : Nat) : Zif := Zr (fun L1 => Zat k (Zfh k L1) L1) k
noncomputable def Kz (k : Nat) (n : Nat) (v : ZyT) : Option (Int × (List Int × Int × Unit) × Unit) :=
  ZB (ZvY k) ZGl [0] [1, 1, 1, 1, 1, 1, 0, 1, 0] [] (W0 Tryz.f71) (Xq (ZvY k) Tryz.f71 ZiP ZnW [AV.bx (nat_lit 0) (nat_lit 0)] [[]]) n (ZKq v)
noncomputable def Zg5 (k : Nat) (L1 : Zif) : (List Int × Int × Unit) × List Int × Int × Unit → Option (Int × (List Int × Int × Unit) × Unit)
  | ((a0, a1, ()), a2, a3, ()) => (Zic k (a2, a3, ())).bind fun y => bif y.1 != (0 : Int) then some (y.1, (a0, a1, ()), ()) else (Zi3 k (a2, a3, ())).bind fun y => (Qp k ((a0, a1, ()), y.1.1, 2, ())).bind fun y_1 => (Qp k ((y_1.2.1.1, y_1.2.1.2.1, ()), y.1.2.1, 4, ())).bind fun y_2 => (ZiZ k (a2, a3, y.1.2.1, ())).bind fun y_3 => L1 (Int.ofNat (List.length y_3.1), (0 : Int), y_3.1, y_2.2.1.2.1, y_2.2.1.1, y.1.1, y.1.2.1, y.1.2.2.1, y.1.2.2.2.1)
noncomputable def Zez (k : Nat) := Zg5 k (Zrd k)
theorem ZEM (k : Nat) (n1 : Nat) : ∀ n, Zln k n1 n = Zr (fun L2 => Yg k (Kz k n1) L2) n :=
  Zn (fun v => by kernel_rfl) (fun n v => by
    show Zln k n1 (n + 1) v = Yg k (Kz k n1) (Zln k n1 n) v
    obtain ⟨v0, v1, v2, v3, v4, v5, v6, v7, v8, v9, v10, v11, v12, v13, v14⟩ := v
    kernel_rfl)
theorem ZFx (k : Nat) : ∀ n, Kz k n = Zr (fun L1 => Zat k (Zfh k L1) L1) n :=
  Zn (fun v => by kernel_rfl) (fun n v => by
    show Kz k (n + 1) v = Zat k (Zfh k (Kz k n)) (Kz k n) v
    rw [show (Zfh k (Kz k n)) = Zln k n k from (ZEM k n k).symm]
    obtain ⟨v0, v1, v2, v3, v4, v5, v6, v7, v8⟩ := v
    kernel_rfl)
theorem ZKm (k : Nat) (x : Kd.dens ZiP) : ZD (ZvY k) ZGl Tryz.f71 ZiP ZnW x = Zez k x := by
  show _ = Zg5 k (Zrd k) x
  rw [show Zrd k = Kz k k from (ZFx k k).symm]
  obtain ⟨⟨a0, ⟨a1, ⟨⟩⟩⟩, ⟨a2, ⟨a3, ⟨⟩⟩⟩⟩ := x
  kernel_rfl
theorem ZIp (k : Nat) : Ctr Tryz.prog k 71 (mk ZiP ZnW Zez) :=
  ZE (fn := Tryz.f71) (Zh (Za (Zsx k) (Za (Zz8 k) (Za (ZvB k) (Za (Zvc k) (Za (ZvW k) (Za (Zil k) (Za (Zib k) (Za (Zqi k) (Za (ZvA k) Zd)))))))))) (by kernel_rfl) (by kernel_rfl) (by kernel_rfl) (by kernel_rfl) (ZKm k)
noncomputable abbrev ZM6 : Nat × Callee := (71, mk ZiP ZnW Zez)
abbrev Zs6 : List Kd := [.box [.own (.int .u8) false, .view (.int .i64)], .view (.sl (.int .i64)), .view (.int .i64)]
abbrev ZyJ : Kd := .view (.int .i64)
noncomputable def ZM1 (k : Nat) := Qo k [ZEx, ZNe, ZNa, ZI7, ZNB, ZM6]
noncomputable def ZwI (k : Nat) : (List Int × Int × Unit) × List Int × Int × Unit → Option (Int × (List Int × Int × Unit) × Unit)
  | ((a0, a1, ()), a2, a3, ()) => (ZoY k (a2, a3, ())).bind fun y => bif y.1 != (0 : Int) then some (y.1, (a0, a1, ()), ()) else (Zp5 k (a2, a3, ())).bind fun y => (Qp k ((a0, a1, ()), y.1.1, 7, ())).bind fun y_1 => bif decide ((0 : Int) < y.1.2.1) then (Qp k ((y_1.2.1.1, y_1.2.1.2.1, ()), 1, 1, ())).bind fun y_2 => (Zi5 k ((y_2.2.1.1, y_2.2.1.2.1, ()), IntKind.i64.wrap (y.1.2.1 - (1 : Int)), ())).bind fun y_3 => bif y.1.1 == (0 : Int) then bif decide ((0 : Int) ≤ (0 : Int) ∧ (0 : Int) ≤ (1 : Int) ∧ (1 : Int) ≤ Int.ofNat (List.length y.1.2.2.2.1)) then (YD k ((y_3.2.1.1, y_3.2.1.2.1, ()), List.drop (0 : Nat) (List.take (1 : Nat) y.1.2.2.2.1), y.1.2.2.1, ())).bind fun y => some (0, (y.2.1.1, y.2.1.2.1, ()), ()) else none else bif y.1.1 == (1 : Int) then (YD k ((y_3.2.1.1, y_3.2.1.2.1, ()), y.1.2.2.2.1, y.1.2.2.1, ())).bind fun y => some (0, (y.2.1.1, y.2.1.2.1, ()), ()) else bif decide ((0 : Int) ≤ (0 : Int) ∧ (0 : Int) ≤ Int.ofNat (List.length y.1.2.2.2.2.1.1) ∧ Int.ofNat (List.length y.1.2.2.2.2.1.1) ≤ Int.ofNat (List.length y.1.2.2.2.1)) then (YD k ((y_3.2.1.1, y_3.2.1.2.1, ()), List.drop (0 : Nat) (List.take (Int.ofNat (List.length y.1.2.2.2.2.1.1)).toNat y.1.2.2.2.1), y.1.2.2.1, ())).bind fun y_4 => bif decide ((31 : Int) < y.1.1) then (Qp k ((y_4.2.1.1, y_4.2.1.2.1, ()), 11, 4, ())).bind fun y_5 => (Qp k ((y_5.2.1.1, y_5.2.1.2.1, ()), y.1.2.2.2.2.1.2.1, 5, ())).bind fun y_6 => (YD k ((y_6.2.1.1, y_6.2.1.2.1, ()), y.1.2.2.2.2.1.1, 12, ())).bind fun y_7 => (Zez k ((y_7.2.1.1, y_7.2.1.2.1, ()), y.1.2.2.2.2.2.1, Int.ofNat (List.length y.1.2.2.2.2.1.1), ())).bind fun y => some (y.1, (y.2.1.1, y.2.1.2.1, ()), ()) else (Zez k ((y_4.2.1.1, y_4.2.1.2.1, ()), y.1.2.2.2.2.2.1, Int.ofNat (List.length y.1.2.2.2.2.1.1), ())).bind fun y => some (y.1, (y.2.1.1, y.2.1.2.1, ()), ()) else none else (Qp k ((y_1.2.1.1, y_1.2.1.2.1, ()), 0, 1, ())).bind fun y_2 => bif y.1.1 == (0 : Int) then bif decide ((0 : Int) ≤ (0 : Int) ∧ (0 : Int) ≤ (1 : Int) ∧ (1 : Int) ≤ Int.ofNat (List.length y.1.2.2.2.1)) then (YD k ((y_2.2.1.1, y_2.2.1.2.1, ()), List.drop (0 : Nat) (List.take (1 : Nat) y.1.2.2.2.1), y.1.2.2.1, ())).bind fun y => some (0, (y.2.1.1, y.2.1.2.1, ()), ()) else none else bif y.1.1 == (1 : Int) then (YD k ((y_2.2.1.1, y_2.2.1.2.1, ()), y.1.2.2.2.1, y.1.2.2.1, ())).bind fun y => some (0, (y.2.1.1, y.2.1.2.1, ()), ()) else bif decide ((0 : Int) ≤ (0 : Int) ∧ (0 : Int) ≤ Int.ofNat (List.length y.1.2.2.2.2.1.1) ∧ Int.ofNat (List.length y.1.2.2.2.2.1.1) ≤ Int.ofNat (List.length y.1.2.2.2.1)) then (YD k ((y_2.2.1.1, y_2.2.1.2.1, ()), List.drop (0 : Nat) (List.take (Int.ofNat (List.length y.1.2.2.2.2.1.1)).toNat y.1.2.2.2.1), y.1.2.2.1, ())).bind fun y_3 => bif decide ((31 : Int) < y.1.1) then (Qp k ((y_3.2.1.1, y_3.2.1.2.1, ()), 11, 4, ())).bind fun y_4 => (Qp k ((y_4.2.1.1, y_4.2.1.2.1, ()), y.1.2.2.2.2.1.2.1, 5, ())).bind fun y_5 => (YD k ((y_5.2.1.1, y_5.2.1.2.1, ()), y.1.2.2.2.2.1.1, 12, ())).bind fun y_6 => (Zez k ((y_6.2.1.1, y_6.2.1.2.1, ()), y.1.2.2.2.2.2.1, Int.ofNat (List.length y.1.2.2.2.2.1.1), ())).bind fun y => some (y.1, (y.2.1.1, y.2.1.2.1, ()), ()) else (Zez k ((y_3.2.1.1, y_3.2.1.2.1, ()), y.1.2.2.2.2.2.1, Int.ofNat (List.length y.1.2.2.2.2.1.1), ())).bind fun y => some (y.1, (y.2.1.1, y.2.1.2.1, ()), ()) else none
noncomputable def ZpK (k : Nat) := ZwI k
theorem ZMs (k : Nat) (x : Kd.dens Zs6) : ZD (ZM1 k) nA Tryz.f31 Zs6 ZyJ x = ZpK k x := by
  show _ = ZwI k x
  obtain ⟨⟨a0, ⟨a1, ⟨⟩⟩⟩, ⟨a2, ⟨a3, ⟨⟩⟩⟩⟩ := x
  kernel_rfl
theorem ZHn (k : Nat) : Ctr Tryz.prog k 31 (mk Zs6 ZyJ ZpK) :=
  ZE (fn := Tryz.f31) (Zh (Za (Zsx k) (Za (ZHB k) (Za (ZHD k) (Za (Zz8 k) (Za (ZGZ k) (Za (ZIp k) Zd))))))) (by kernel_rfl) (by kernel_rfl) (by kernel_rfl) (by kernel_rfl) (ZMs k)
noncomputable abbrev ZMJ : Nat × Callee := (31, mk Zs6 ZyJ ZpK)
abbrev ZtB : List Kd := [.box [.own (.int .u8) false, .view (.int .i64)]]
abbrev Zxt : Kd := .view (.int .i64)
noncomputable def ZNA (k : Nat) := Qo k []
def Zf7 (k : Nat) : (List Int × Int × Unit) × Unit → Option (Int × (List Int × Int × Unit) × Unit)
  | ((a0, a1, ()), ()) => some (IntKind.i64.wrap (Int.ofNat (BitVec.ofInt (64 : Nat) (IntKind.i64.wrap ((0 : Int) - a1)) &&& BitVec.ofInt (64 : Nat) (7 : Int)).toNat), (a0, IntKind.i64.wrap (a1 + IntKind.i64.wrap (Int.ofNat (BitVec.ofInt (64 : Nat) (IntKind.i64.wrap ((0 : Int) - a1)) &&& BitVec.ofInt (64 : Nat) (7 : Int)).toNat)), ()), ())
def Zvy (k : Nat) := Zf7 k
theorem ZMg (k : Nat) (x : Kd.dens ZtB) : ZD (ZNA k) nA Tryz.f32 ZtB Zxt x = Zvy k x := by
  show _ = Zf7 k x
  obtain ⟨⟨a0, ⟨a1, ⟨⟩⟩⟩, ⟨⟩⟩ := x
  kernel_rfl
theorem ZIy (k : Nat) : Ctr Tryz.prog k 32 (mk ZtB Zxt Zvy) :=
  ZE (fn := Tryz.f32) (Zh Zd) (by kernel_rfl) (by kernel_rfl) (by kernel_rfl) (by kernel_rfl) (ZMg k)
noncomputable abbrev ZNF : Nat × Callee := (32, mk ZtB Zxt Zvy)
abbrev Zrq : List Kd := [.view (.sl (.int .u8))]
abbrev Zxw : Kd := .view (.int .i64)
noncomputable def ZMZ (k : Nat) := Qo k [ZJs]
def ZfI (k : Nat) : List Int × Unit → Option (Int × Unit)
  | (a0, ()) => (Zep k (a0, 16, 32773, ())).bind fun y => some (y.1, ())
def Zpr (k : Nat) := ZfI k
theorem ZLl (k : Nat) (x : Kd.dens Zrq) : ZD (ZMZ k) nA Tryz.f33 Zrq Zxw x = Zpr k x := by
  show _ = ZfI k x
  obtain ⟨a0, ⟨⟩⟩ := x
  kernel_rfl
theorem Zzs (k : Nat) : Ctr Tryz.prog k 33 (mk Zrq Zxw Zpr) :=
  ZE (fn := Tryz.f33) (Zh (Za (Zzv k) Zd)) (by kernel_rfl) (by kernel_rfl) (by kernel_rfl) (by kernel_rfl) (ZLl k)
noncomputable abbrev ZJK : Nat × Callee := (33, mk Zrq Zxw Zpr)
abbrev ZiM : List Kd := [.view Zff, .view frameT]
abbrev Zon : Kd := .tup [.own (.int .u8) false, .view (.int .i64)]
noncomputable def Zv1 (k : Nat) := Qo k [ZJA, ZM2, ZNk, ZEx, ZNK, ZJj, ZNn, ZJE, ZMJ, ZNF, ZJK]
def ZEi : Nat → Ann := fun id => bif Nat.beq id 27 then ⟨[87, 88, 86, 12, 7], []⟩ else bif Nat.beq id 20 then ⟨[61, 62, 60, 12, 10, 11, 2, 8, 7], []⟩ else ⟨[], []⟩
abbrev Zxm := Int × Int × List Int × List (List Int) × Int × List Int
abbrev Zr0 := Zxm → Option ((List Int × Int × Unit) × Unit)
abbrev Zx8 := Int × Int × List Int × Int × Int × Int × List (List Int) × Int × List Int × Int × Int × Int
abbrev Ztu := Zx8 → Option ((List Int × Int × Unit) × Unit)
def ZKU : Zxm → St
  | (v0, v1, v2, v3, v4, v5) => St.mk (ZC [(nat_lit 87, Zp v0), (nat_lit 88, Zp v1), (nat_lit 86, XI v2), (nat_lit 12, AV.bx (nat_lit 8192) (nat_lit 0)), (nat_lit 7, AV.val (PV.sl (Ty.int IntKind.i64).sl v3))]) (ZA [(nat_lit 8192, RS.live (Res.box [AV.own (nat_lit 8193), Zp v4])), (nat_lit 8193, RS.live (Res.arr (Ty.int IntKind.u8) v5 false))])
noncomputable def Kn (k : Nat) (L2 : Zr0) : Zr0
  | (v0, v1, v2, v3, v4, v5) => bif decide (v1 < v0) then bif decide ((0 : Int) ≤ v1 ∧ v1 < Int.ofNat v2.length) then bif decide ((0 : Int) ≤ v1 ∧ v1 < Int.ofNat v3.length) then (ZpK k ((v5, v4, ()), v3.getD v1.toNat [], v2.getD v1.toNat 0, ())).bind fun y => bif y.1 != (0 : Int) then some (([], y.1, ()), ()) else L2 (v0, IntKind.i64.wrap (v1 + (1 : Int)), v2, v3, y.2.1.2.1, y.2.1.1) else none else none else (Zvy k ((v5, v4, ()), ())).bind fun y => (ZmQ k ((y.2.1.1, y.2.1.2.1, ()), ())).bind fun y => (Zpr k (y.1, ())).bind fun y_1 => (Qp k ((y.2.1.1, y.2.1.2.1, ()), y_1.1, 16, ())).bind fun y => (ZmQ k ((y.2.1.1, y.2.1.2.1, ()), ())).bind fun y => some ((y.1, 0, ()), ())
noncomputable def Zcq (k : Nat) : Zr0 := Zr (fun L2 => Kn k L2) k
noncomputable def Zkp (k : Nat) (n : Nat) (v : Zxm) : Option ((List Int × Int × Unit) × Unit) :=
  ZB (Zv1 k) ZEi [] [1, 1, 1, 1, 1, 1, 1, 1, 1, 1, 1, 1, 1, 1, 1, 1, 1, 0, 1, 0] [] (W0 Tryz.f14) (Xq (Zv1 k) Tryz.f14 ZiM Zon [] []) n (ZKU v)
def ZLt : Zx8 → St
  | (v0, v1, v2, v3, v4, v5, v6, v7, v8, v9, v10, v11) => St.mk (ZC [(nat_lit 61, Zp v0), (nat_lit 62, Zp v1), (nat_lit 60, AV.val (PV.sl (Ty.int IntKind.u8) v2)), (nat_lit 12, AV.bx (nat_lit 8192) (nat_lit 0)), (nat_lit 10, Zp v3), (nat_lit 11, Zp v4), (nat_lit 2, AV.bx (nat_lit 8194) (nat_lit 0)), (nat_lit 8, Zp v5), (nat_lit 7, AV.val (PV.sl (Ty.int IntKind.i64).sl v6))]) (ZA [(nat_lit 8192, RS.live (Res.box [AV.own (nat_lit 8193), Zp v7])), (nat_lit 8193, RS.live (Res.arr (Ty.int IntKind.u8) v8 false)), (nat_lit 8194, RS.live (Res.box [Zp v9, Zp v10, Zp v11]))])
def Xw (k : Nat) (L2 : Zr0) (L1 : Ztu) : Ztu
  | (v0, v1, v2, v3, v4, v5, v6, v7, v8, v9, v10, v11) => bif decide (v1 < v0) then bif decide ((0 : Int) ≤ v1 ∧ v1 < Int.ofNat v2.length) then (Qp k ((v8, v7, ()), IntKind.i64.wrap (v2.getD v1.toNat 0), 8, ())).bind fun y => L1 (v0, IntKind.i64.wrap (v1 + (1 : Int)), v2, v3, v4, v5, v6, y.2.1.2.1, y.2.1.1, v9, v10, v11) else none else (Qp k ((v8, v7, ()), IntKind.i64.wrap (v3 - (1 : Int)), IntKind.i64.wrap ((8 : Int) * IntKind.i64.wrap (IntKind.i64.wrap (v4 - (6 : Int)) + (1 : Int))), ())).bind fun y => (ZmQ k ((y.2.1.1, y.2.1.2.1, ()), ())).bind fun y => (ZoZ k (y.1, ())).bind fun y_1 => (Qp k ((y.2.1.1, y.2.1.2.1, ()), y_1.1, 8, ())).bind fun y => (Zp7 k ((v9, v10, v11, ()), v5, ())).bind fun y_2 => L2 (Int.ofNat (List.length y_2.1), (0 : Int), y_2.1, v6, y.2.1.2.1, y.2.1.1)
noncomputable def Zie (k : Nat) : Ztu := Zr (fun L1 => Xw k (Zcq k) L1) k
noncomputable def ZlI (k : Nat) (n : Nat) (v : Zx8) : Option ((List Int × Int × Unit) × Unit) :=
  ZB (Zv1 k) ZEi [] [1, 1, 1, 1, 1, 1, 1, 1, 1, 1, 1, 1, 1, 1, 0, 1, 0] [] (W0 Tryz.f14) (Xq (Zv1 k) Tryz.f14 ZiM Zon [] []) n (ZLt v)
def Zhd (k : Nat) (L1 : Ztu) : (Int × Int × Int × Unit) × (Int × List (List Int) × Unit) × Unit → Option ((List Int × Int × Unit) × Unit)
  | ((a0, a1, a2, ()), (a3, a4, ()), ()) => (Zet k ((a0, a1, a2, ()), (a3, a4, ()), ())).bind fun y => bif y.1 != (0 : Int) then some (([], y.1, ()), ()) else (Zus k ((a3, a4, ()), ())).bind fun y => bif y.1.2.2.1 != (0 : Int) then some (([], y.1.2.2.1, ()), ()) else bif decide ((0 : Int) ≤ (0 : Int) ∧ (0 : Int) < Int.ofNat (List.length y.1.1)) then bif decide ((256 : Int) < Int.ofNat (List.length (List.getD y.1.1 (0 : Nat) []))) then (Zl8 k ()).bind fun y_1 => (Qp k ((y_1.1.1, y_1.1.2.1, ()), 16382, 14, ())).bind fun y_2 => (Qp k ((y_2.2.1.1, y_2.2.1.2.1, ()), 7, 6, ())).bind fun y_3 => (Qp k ((y_3.2.1.1, y_3.2.1.2.1, ()), y.1.2.1, 8, ())).bind fun y_4 => (Qp k ((y_4.2.1.1, y_4.2.1.2.1, ()), 0, 4, ())).bind fun y_5 => (ZnA k (a3, ())).bind fun y_6 => bif y_6.1.2.1 != (0 : Int) then some (([], y_6.1.2.1, ()), ()) else L1 (Int.ofNat (List.length y_6.1.1), (0 : Int), y_6.1.1, Int.ofNat (List.length (List.getD y.1.1 (0 : Nat) [])), (7 : Int), y.1.2.1, y.1.1, y_5.2.1.2.1, y_5.2.1.1, a0, a1, a2) else (Zl8 k ()).bind fun y_1 => (Qp k ((y_1.1.1, y_1.1.2.1, ()), 16382, 14, ())).bind fun y_2 => (Qp k ((y_2.2.1.1, y_2.2.1.2.1, ()), 6, 6, ())).bind fun y_3 => (Qp k ((y_3.2.1.1, y_3.2.1.2.1, ()), y.1.2.1, 8, ())).bind fun y_4 => (Qp k ((y_4.2.1.1, y_4.2.1.2.1, ()), 0, 4, ())).bind fun y_5 => (ZnA k (a3, ())).bind fun y_6 => bif y_6.1.2.1 != (0 : Int) then some (([], y_6.1.2.1, ()), ()) else L1 (Int.ofNat (List.length y_6.1.1), (0 : Int), y_6.1.1, Int.ofNat (List.length (List.getD y.1.1 (0 : Nat) [])), (6 : Int), y.1.2.1, y.1.1, y_5.2.1.2.1, y_5.2.1.1, a0, a1, a2) else none
noncomputable def Zf9 (k : Nat) := Zhd k (Zie k)
theorem ZCs (k : Nat) : ∀ n, Zkp k n = Zr (fun L2 => Kn k L2) n :=
  Zn (fun v => by kernel_rfl) (fun n v => by
    show Zkp k (n + 1) v = Kn k (Zkp k n) v
    obtain ⟨v0, v1, v2, v3, v4, v5⟩ := v
    kernel_rfl)
theorem ZDC (k : Nat) : ∀ n, ZlI k n = Zr (fun L1 => Xw k (Zcq k) L1) n :=
  Zn (fun v => by kernel_rfl) (fun n v => by
    show ZlI k (n + 1) v = Xw k (Zcq k) (ZlI k n) v
    rw [show (Zcq k) = Zkp k k from (ZCs k k).symm]
    obtain ⟨v0, v1, v2, v3, v4, v5, v6, v7, v8, v9, v10, v11⟩ := v
    kernel_rfl)
theorem ZL5 (k : Nat) (x : Kd.dens ZiM) : ZD (Zv1 k) ZEi Tryz.f14 ZiM Zon x = Zf9 k x := by
  show _ = Zhd k (Zie k) x
  rw [show Zie k = ZlI k k from (ZDC k k).symm]
  obtain ⟨⟨a0, ⟨a1, ⟨a2, ⟨⟩⟩⟩⟩, ⟨⟨a3, ⟨a4, ⟨⟩⟩⟩, ⟨⟩⟩⟩ := x
  kernel_rfl
theorem ZzW (k : Nat) : Ctr Tryz.prog k 14 (mk ZiM Zon Zf9) :=
  ZE (fn := Tryz.f14) (Zh (Za (Zy9 k) (Za (ZIF k) (Za (ZGN k) (Za (Zsx k) (Za (ZIu k) (Za (ZzE k) (Za (ZG7 k) (Za (ZzF k) (Za (ZHn k) (Za (ZIy k) (Za (Zzs k) Zd)))))))))))) (by kernel_rfl) (by kernel_rfl) (by kernel_rfl) (by kernel_rfl) (ZL5 k)
noncomputable abbrev ZJc : Nat × Callee := (14, mk ZiM Zon Zf9)
abbrev ZrX : List Kd := [.view (.sl (.int .u8))]
abbrev Zw1 : Kd := .box [.view (.sl (.int .u8)), .view (.int .i64)]
noncomputable def ZMK (k : Nat) := Qo k [ZJi]
def Zgj (k : Nat) : List Int × Unit → Option ((List Int × Int × Unit) × Unit)
  | (a0, ()) => (ZpY k (a0, ())).bind fun y => some ((y.1, 0, ()), ())
def ZvN (k : Nat) := Zgj k
theorem ZLE (k : Nat) (x : Kd.dens ZrX) : ZD (ZMK k) nA Tryz.f44 ZrX Zw1 x = ZvN k x := by
  show _ = Zgj k x
  obtain ⟨a0, ⟨⟩⟩ := x
  kernel_rfl
theorem ZIc (k : Nat) : Ctr Tryz.prog k 44 (mk ZrX Zw1 ZvN) :=
  ZE (fn := Tryz.f44) (Zh (Za (Zze k) Zd)) (by kernel_rfl) (by kernel_rfl) (by kernel_rfl) (by kernel_rfl) (ZLE k)
noncomputable abbrev ZM9 : Nat × Callee := (44, mk ZrX Zw1 ZvN)
abbrev ZsY : List Kd := [.box [.view (.sl (.int .u8)), .view (.int .i64)]]
abbrev Zyz : Kd := .view (.int .i64)
noncomputable def ZMS (k : Nat) := Qo k []
def ZuT (k : Nat) : (List Int × Int × Unit) × Unit → Option (Int × (List Int × Int × Unit) × Unit)
  | ((a0, a1, ()), ()) => some (a1, (a0, a1, ()), ())
def Kl (k : Nat) := ZuT k
theorem ZK8 (k : Nat) (x : Kd.dens ZsY) : ZD (ZMS k) nA Tryz.f51 ZsY Zyz x = Kl k x := by
  show _ = ZuT k x
  obtain ⟨⟨a0, ⟨a1, ⟨⟩⟩⟩, ⟨⟩⟩ := x
  kernel_rfl
theorem ZkR (k : Nat) : Ctr Tryz.prog k 51 (mk ZsY Zyz Kl) :=
  ZE (fn := Tryz.f51) (Zh Zd) (by kernel_rfl) (by kernel_rfl) (by kernel_rfl) (by kernel_rfl) (ZK8 k)
noncomputable abbrev ZAd : Nat × Callee := (51, mk ZsY Zyz Kl)
abbrev ZsF : List Kd := [.box [.view (.sl (.int .u8)), .ref [.view (.sl (.int .u8)), .view (.int .i64)], .view (.int .i64)], .view .bool, .view (.int .i64)]
abbrev ZxJ : Kd := .tup []
noncomputable def ZNN (k : Nat) := Qo k []
def ZfV (k : Nat) : (List Int × (List Int × Int × Unit) × Int × Unit) × Bool × Int × Unit → Option (Unit × (List Int × (List Int × Int × Unit) × Int × Unit) × Unit)
  | ((a0, (a1, a2, ()), a3, ()), a4, a5, ()) => bif a3 == (0 : Int) then bif !a4 then some ((), (a0, (a1, a2, ()), a5, ()), ()) else some ((), (a0, (a1, a2, ()), a3, ()), ()) else some ((), (a0, (a1, a2, ()), a3, ()), ())
def Qz (k : Nat) := ZfV k
theorem ZKH (k : Nat) (x : Kd.dens ZsF) : ZD (ZNN k) nA Tryz.f82 ZsF ZxJ x = Qz k x := by
  show _ = ZfV k x
  obtain ⟨⟨a0, ⟨⟨a1, ⟨a2, ⟨⟩⟩⟩, ⟨a3, ⟨⟩⟩⟩⟩, ⟨a4, ⟨a5, ⟨⟩⟩⟩⟩ := x
  kernel_rfl
theorem ZkT (k : Nat) : Ctr Tryz.prog k 82 (mk ZsF ZxJ Qz) :=
  ZE (fn := Tryz.f82) (Zh Zd) (by kernel_rfl) (by kernel_rfl) (by kernel_rfl) (by kernel_rfl) (ZKH k)
noncomputable abbrev ZzR : Nat × Callee := (82, mk ZsF ZxJ Qz)
abbrev Zts : List Kd := [.box [.view (.sl (.int .u8)), .view (.int .i64)], .view (.int .i64)]
abbrev ZxT : Kd := .view (.int .i64)
noncomputable def ZM0 (k : Nat) := Qo k []
def Zgh (k : Nat) : (List Int × Int × Unit) × Int × Unit → Option (Int × (List Int × Int × Unit) × Unit)
  | ((a0, a1, ()), a2, ()) => bif decide ((0 : Int) ≤ IntKind.i64.wrap (a2.tdiv (8 : Int)) ∧ IntKind.i64.wrap (a2.tdiv (8 : Int)) < Int.ofNat a0.length) then bif decide ((0 : Int) ≤ IntKind.i64.wrap ((7 : Int) - a2.tmod (8 : Int))) then some (IntKind.i64.wrap (Int.ofNat (BitVec.ofInt (64 : Nat) (IntKind.i64.wrap (Int.fdiv (a0.getD (IntKind.i64.wrap (a2.tdiv (8 : Int))).toNat 0) ((2 : Int) ^ min (IntKind.i64.wrap ((7 : Int) - a2.tmod (8 : Int))).toNat (8 : Nat)))) &&& BitVec.ofInt (64 : Nat) (1 : Int)).toNat), (a0, a1, ()), ()) else none else none
def Zod (k : Nat) := Zgh k
theorem ZKo (k : Nat) (x : Kd.dens Zts) : ZD (ZM0 k) nA Tryz.f90 Zts ZxT x = Zod k x := by
  show _ = Zgh k x
  obtain ⟨⟨a0, ⟨a1, ⟨⟩⟩⟩, ⟨a2, ⟨⟩⟩⟩ := x
  kernel_rfl
theorem Zsv (k : Nat) : Ctr Tryz.prog k 90 (mk Zts ZxT Zod) :=
  ZE (fn := Tryz.f90) (Zh Zd) (by kernel_rfl) (by kernel_rfl) (by kernel_rfl) (by kernel_rfl) (ZKo k)
noncomputable abbrev ZC4 : Nat × Callee := (90, mk Zts ZxT Zod)
abbrev Zk3 : List Kd := [.box [.view (.sl (.int .u8)), .view (.int .i64)]]
abbrev ZrQ : Kd := .view (.int .i64)
noncomputable def ZKT (k : Nat) := Qo k []
def Zc0 (k : Nat) : (List Int × Int × Unit) × Unit → Option (Int × (List Int × Int × Unit) × Unit)
  | ((a0, a1, ()), ()) => some (IntKind.i64.wrap (IntKind.i64.wrap ((8 : Int) * Int.ofNat a0.length) - a1), (a0, a1, ()), ())
def Zoz (k : Nat) := Zc0 k
theorem ZHR (k : Nat) (x : Kd.dens Zk3) : ZD (ZKT k) nA Tryz.f167 Zk3 ZrQ x = Zoz k x := by
  show _ = Zc0 k x
  obtain ⟨⟨a0, ⟨a1, ⟨⟩⟩⟩, ⟨⟩⟩ := x
  kernel_rfl
theorem ZCV (k : Nat) : Ctr Tryz.prog k 167 (mk Zk3 ZrQ Zoz) :=
  ZE (fn := Tryz.f167) (Zh Zd) (by kernel_rfl) (by kernel_rfl) (by kernel_rfl) (by kernel_rfl) (ZHR k)
noncomputable abbrev ZLs : Nat × Callee := (167, mk Zk3 ZrQ Zoz)
abbrev Zht : List Kd := [.box [.view (.sl (.int .u8)), .view (.int .i64)], .view (.int .i64)]
abbrev Zj7 : Kd := .tup [.view (.int .i64), .view (.int .i64)]
noncomputable def ZwW (k : Nat) := Qo k [ZFQ, ZC4, ZLs]
def ZCB : Nat → Ann := fun id => bif Nat.beq id 7 then ⟨[19, 20, 6, 0], []⟩ else ⟨[], []⟩
abbrev ZrC := Int × Int × Int × List Int × Int
abbrev ZkG := ZrC → Option ((Int × Int × Unit) × (List Int × Int × Unit) × Unit)
def ZIh : ZrC → St
  | (v0, v1, v2, v3, v4) => St.mk (ZC [(nat_lit 19, Zp v0), (nat_lit 20, Zp v1), (nat_lit 6, Zp v2), (nat_lit 0, AV.bx (nat_lit 0) (nat_lit 0))]) (ZA [(nat_lit 0, RS.live (Res.box [AV.val (PV.sl (Ty.int IntKind.u8) v3), Zp v4]))])
def Y4 (k : Nat) (L1 : ZkG) : ZkG
  | (v0, v1, v2, v3, v4) => bif decide (v1 < v0) then (Zod k ((v3, v4, ()), v4, ())).bind fun y => L1 (v0, IntKind.i64.wrap (v1 + (1 : Int)), IntKind.i64.wrap (Int.ofNat (BitVec.ofInt (64 : Nat) (IntKind.i64.wrap (v2 * (2 : Int))) ||| BitVec.ofInt (64 : Nat) y.1).toNat), y.2.1.1, IntKind.i64.wrap (y.2.1.2.1 + (1 : Int))) else some ((v2, 0, ()), (v3, v4, ()), ())
def Zlv (k : Nat) : ZkG := Zr (fun L1 => Y4 k L1) k
noncomputable def ZfA (k : Nat) (n : Nat) (v : ZrC) : Option ((Int × Int × Unit) × (List Int × Int × Unit) × Unit) :=
  ZB (ZwW k) ZCB [0] [1, 1, 1, 0, 1, 0] [] (W0 Tryz.f126) (Xq (ZwW k) Tryz.f126 Zht Zj7 [AV.bx (nat_lit 0) (nat_lit 0)] [[]]) n (ZIh v)
def ZcX (k : Nat) (L1 : ZkG) : (List Int × Int × Unit) × Int × Unit → Option ((Int × Int × Unit) × (List Int × Int × Unit) × Unit)
  | ((a0, a1, ()), a2, ()) => (ZmR k (a2, ())).bind fun y => bif y.1 then some ((0, 1, ()), (a0, a1, ()), ()) else (Zoz k ((a0, a1, ()), ())).bind fun y => bif decide (y.1 < a2) then some ((0, 10, ()), (y.2.1.1, y.2.1.2.1, ()), ()) else L1 (a2, (0 : Int), (0 : Int), y.2.1.1, y.2.1.2.1)
def XE (k : Nat) := ZcX k (Zlv k)
theorem ZBY (k : Nat) : ∀ n, ZfA k n = Zr (fun L1 => Y4 k L1) n :=
  Zn (fun v => by kernel_rfl) (fun n v => by
    show ZfA k (n + 1) v = Y4 k (ZfA k n) v
    obtain ⟨v0, v1, v2, v3, v4⟩ := v
    kernel_rfl)
theorem ZH7 (k : Nat) (x : Kd.dens Zht) : ZD (ZwW k) ZCB Tryz.f126 Zht Zj7 x = XE k x := by
  show _ = ZcX k (Zlv k) x
  rw [show Zlv k = ZfA k k from (ZBY k k).symm]
  obtain ⟨⟨a0, ⟨a1, ⟨⟩⟩⟩, ⟨a2, ⟨⟩⟩⟩ := x
  kernel_rfl
theorem ZaR (k : Nat) : Ctr Tryz.prog k 126 (mk Zht Zj7 XE) :=
  ZE (fn := Tryz.f126) (Zh (Za (ZrS k) (Za (Zsv k) (Za (ZCV k) Zd)))) (by kernel_rfl) (by kernel_rfl) (by kernel_rfl) (by kernel_rfl) (ZH7 k)
noncomputable abbrev ZhZ : Nat × Callee := (126, mk Zht Zj7 XE)
abbrev ZsZ : List Kd := [.box [.view (.sl (.int .u8)), .ref [.view (.sl (.int .u8)), .view (.int .i64)], .view (.int .i64)], .view (.int .i64)]
abbrev ZwO : Kd := .view (.int .i64)
noncomputable def ZMM (k : Nat) := Qo k [ZhZ]
def Zgv (k : Nat) : (List Int × (List Int × Int × Unit) × Int × Unit) × Int × Unit → Option (Int × (List Int × (List Int × Int × Unit) × Int × Unit) × Unit)
  | ((a0, (a1, a2, ()), a3, ()), a4, ()) => bif a3 == (0 : Int) then (XE k ((a1, a2, ()), a4, ())).bind fun y => some (y.1.1, (a0, (y.2.1.1, y.2.1.2.1, ()), y.1.2.1, ()), ()) else some (0, (a0, (a1, a2, ()), a3, ()), ())
def QX (k : Nat) := Zgv k
theorem ZMj (k : Nat) (x : Kd.dens ZsZ) : ZD (ZMM k) nA Tryz.f83 ZsZ ZwO x = QX k x := by
  show _ = Zgv k x
  obtain ⟨⟨a0, ⟨⟨a1, ⟨a2, ⟨⟩⟩⟩, ⟨a3, ⟨⟩⟩⟩⟩, ⟨a4, ⟨⟩⟩⟩ := x
  kernel_rfl
theorem Zks (k : Nat) : Ctr Tryz.prog k 83 (mk ZsZ ZwO QX) :=
  ZE (fn := Tryz.f83) (Zh (Za (ZaR k) Zd)) (by kernel_rfl) (by kernel_rfl) (by kernel_rfl) (by kernel_rfl) (ZMj k)
noncomputable abbrev ZzC : Nat × Callee := (83, mk ZsZ ZwO QX)
abbrev Zr7 : List Kd := [.box [.view (.sl (.int .u8)), .ref [.view (.sl (.int .u8)), .view (.int .i64)], .view (.int .i64)], .view (.int .i64), .fn 28]
abbrev Zxo : Kd := .tup []
noncomputable def ZMP (k : Nat) := Qo k [ZAd, ZzR, ZzC, ZJj]
def Zgu (k : Nat) : (List Int × (List Int × Int × Unit) × Int × Unit) × Int × Unit × Unit → Option (Unit × (List Int × (List Int × Int × Unit) × Int × Unit) × Unit)
  | ((a0, (a1, a2, ()), a3, ()), a4, (), ()) => (Kl k ((a1, a2, ()), ())).bind fun y => (QX k ((a0, (y.2.1.1, y.2.1.2.1, ()), a3, ()), a4, ())).bind fun y_1 => bif y_1.2.1.2.2.1 != (0 : Int) then (Qz k ((y_1.2.1.1, (y_1.2.1.2.1.1, y_1.2.1.2.1.2.1, ()), y_1.2.1.2.2.1, ()), true, 16, ())).bind fun y => some ((), (y.2.1.1, (y.2.1.2.1.1, y.2.1.2.1.2.1, ()), y.2.1.2.2.1, ()), ()) else bif decide ((0 : Int) ≤ (0 : Int) ∧ (0 : Int) ≤ IntKind.i64.wrap (Int.tdiv y.1 (8 : Int)) ∧ IntKind.i64.wrap (Int.tdiv y.1 (8 : Int)) ≤ Int.ofNat (List.length y_1.2.1.1)) then (ZoZ k (List.drop (0 : Nat) (List.take (IntKind.i64.wrap (Int.tdiv y.1 (8 : Int))).toNat y_1.2.1.1), ())).bind fun y => (Qz k ((y_1.2.1.1, (y_1.2.1.2.1.1, y_1.2.1.2.1.2.1, ()), y_1.2.1.2.2.1, ()), y_1.1 == y.1, 16, ())).bind fun y => some ((), (y.2.1.1, (y.2.1.2.1.1, y.2.1.2.1.2.1, ()), y.2.1.2.2.1, ()), ()) else none
def ZeD (k : Nat) := Zgu k
theorem ZMa (k : Nat) (x : Kd.dens Zr7) : ZD (ZMP k) nA Tryz.f48 Zr7 Zxo x = ZeD k x := by
  show _ = Zgu k x
  obtain ⟨⟨a0, ⟨⟨a1, ⟨a2, ⟨⟩⟩⟩, ⟨a3, ⟨⟩⟩⟩⟩, ⟨a4, ⟨⟨⟩, ⟨⟩⟩⟩⟩ := x
  kernel_rfl
theorem ZIW (k : Nat) : Ctr Tryz.prog k 48 (mk Zr7 Zxo ZeD) :=
  ZE (fn := Tryz.f48) (Zh (Za (ZkR k) (Za (ZkT k) (Za (Zks k) (Za (ZzE k) Zd))))) (by kernel_rfl) (by kernel_rfl) (by kernel_rfl) (by kernel_rfl) (ZMa k)
noncomputable abbrev ZML : Nat × Callee := (48, mk Zr7 Zxo ZeD)
abbrev Ztx : List Kd := [.view Zff, .view (.int .i64)]
abbrev ZwX : Kd := .view .bool
noncomputable def ZMW (k : Nat) := Qo k []
def Zgr (k : Nat) : (Int × Int × Int × Unit) × Int × Unit → Option (Bool × Unit)
  | ((a0, a1, a2, ()), a3, ()) => bif a0 == (1 : Int) then some (a3 == (0 : Int), ()) else bif a3 == (1 : Int) then some (true, ()) else bif decide ((8 : Int) ≤ a3) then some (decide (a3 ≤ (10 : Int)), ()) else some (false, ())
def ZnF (k : Nat) := Zgr k
theorem ZKY (k : Nat) (x : Kd.dens Ztx) : ZD (ZMW k) nA Tryz.f84 Ztx ZwX x = ZnF k x := by
  show _ = Zgr k x
  obtain ⟨⟨a0, ⟨a1, ⟨a2, ⟨⟩⟩⟩⟩, ⟨a3, ⟨⟩⟩⟩ := x
  kernel_rfl
theorem ZIq (k : Nat) : Ctr Tryz.prog k 84 (mk Ztx ZwX ZnF) :=
  ZE (fn := Tryz.f84) (Zh Zd) (by kernel_rfl) (by kernel_rfl) (by kernel_rfl) (by kernel_rfl) (ZKY k)
noncomputable abbrev ZNQ : Nat × Callee := (84, mk Ztx ZwX ZnF)
abbrev Zke : List Kd := [.view (.int .u8)]
abbrev ZtX : Kd := .view (.int .i64)
noncomputable def ZMn (k : Nat) := Qo k []
def Zpc (k : Nat) : Int × Unit → Option (Int × Unit)
  | (a0, ()) => bif decide ((0 : Int) ≤ a0 ∧ a0 < (256 : Int)) then some (IntKind.i64.wrap (Int.ofNat ((ByteArray.mk (([0, 1, 2, 2, 3, 3, 3, 3, 4, 4, 4, 4, 4, 4, 4, 4, 5, 5, 5, 5, 5, 5, 5, 5, 5, 5, 5, 5, 5, 5, 5, 5, 6, 6, 6, 6, 6, 6, 6, 6, 6, 6, 6, 6, 6, 6, 6, 6, 6, 6, 6, 6, 6, 6, 6, 6, 6, 6, 6, 6, 6, 6, 6, 6].append [7, 7, 7, 7, 7, 7, 7, 7, 7, 7, 7, 7, 7, 7, 7, 7, 7, 7, 7, 7, 7, 7, 7, 7, 7, 7, 7, 7, 7, 7, 7, 7, 7, 7, 7, 7, 7, 7, 7, 7, 7, 7, 7, 7, 7, 7, 7, 7, 7, 7, 7, 7, 7, 7, 7, 7, 7, 7, 7, 7, 7, 7, 7, 7]).append ([8, 8, 8, 8, 8, 8, 8, 8, 8, 8, 8, 8, 8, 8, 8, 8, 8, 8, 8, 8, 8, 8, 8, 8, 8, 8, 8, 8, 8, 8, 8, 8, 8, 8, 8, 8, 8, 8, 8, 8, 8, 8, 8, 8, 8, 8, 8, 8, 8, 8, 8, 8, 8, 8, 8, 8, 8, 8, 8, 8, 8, 8, 8, 8].append [8, 8, 8, 8, 8, 8, 8, 8, 8, 8, 8, 8, 8, 8, 8, 8, 8, 8, 8, 8, 8, 8, 8, 8, 8, 8, 8, 8, 8, 8, 8, 8, 8, 8, 8, 8, 8, 8, 8, 8, 8, 8, 8, 8, 8, 8, 8, 8, 8, 8, 8, 8, 8, 8, 8, 8, 8, 8, 8, 8, 8, 8, 8, 8])).toArray).data.toList.getD a0.toNat 0).toNat), ()) else none
def ZrB (k : Nat) := Zpc k
theorem ZI5 (k : Nat) (x : Kd.dens Zke) : ZD (ZMn k) nA Tryz.f186 Zke ZtX x = ZrB k x := by
  show _ = Zpc k x
  obtain ⟨a0, ⟨⟩⟩ := x
  kernel_rfl
theorem ZC3 (k : Nat) : Ctr Tryz.prog k 186 (mk Zke ZtX ZrB) :=
  ZE (fn := Tryz.f186) (Zh Zd) (by kernel_rfl) (by kernel_rfl) (by kernel_rfl) (by kernel_rfl) (ZI5 k)
noncomputable abbrev ZKb : Nat × Callee := (186, mk Zke ZtX ZrB)
abbrev Zkm : List Kd := [.view (.int .u8)]
abbrev Zr5 : Kd := .view (.int .i64)
noncomputable def ZKF (k : Nat) := Qo k [ZKb]
def Zqy (k : Nat) : Int × Unit → Option (Int × Unit)
  | (a0, ()) => (ZrB k (a0, ())).bind fun y => some (IntKind.i64.wrap ((8 : Int) - y.1), ())
def Zhz (k : Nat) := Zqy k
theorem ZGS (k : Nat) (x : Kd.dens Zkm) : ZD (ZKF k) nA Tryz.f168 Zkm Zr5 x = Zhz k x := by
  show _ = Zqy k x
  obtain ⟨a0, ⟨⟩⟩ := x
  kernel_rfl
theorem ZDG (k : Nat) : Ctr Tryz.prog k 168 (mk Zkm Zr5 Zhz) :=
  ZE (fn := Tryz.f168) (Zh (Za (ZC3 k) Zd)) (by kernel_rfl) (by kernel_rfl) (by kernel_rfl) (by kernel_rfl) (ZGS k)
noncomputable abbrev ZJW : Nat × Callee := (168, mk Zkm Zr5 Zhz)
abbrev Zhr : List Kd := [.view (.sl (.int .u8))]
abbrev Zlh : Kd := .tup [.view (.int .i64), .view (.int .i64), .view (.int .i64)]
noncomputable def Zxq (k : Nat) := Qo k [ZJv, ZJW]
def ZCC : Nat → Ann := fun id => bif Nat.beq id 10 then ⟨[8, 5, 0, 6, 7], []⟩ else ⟨[], []⟩
abbrev ZqI := Int × Int × List Int × Int × Int
abbrev Zj9 := ZqI → Option ((Int × Int × Int × Unit) × Unit)
def ZGF : ZqI → St
  | (v0, v1, v2, v3, v4) => St.mk (ZC [(nat_lit 8, Zp v0), (nat_lit 5, Zp v1), (nat_lit 0, AV.val (PV.sl (Ty.int IntKind.u8) v2)), (nat_lit 6, Zp v3), (nat_lit 7, Zp v4)]) (ZA [])
def YK (k : Nat) (L1 : Zj9) : Zj9
  | (v0, v1, v2, v3, v4) => bif decide (v0 < v1) then bif decide (v0 < Int.ofNat v2.length) then bif decide ((0 : Int) ≤ v0 ∧ v0 < Int.ofNat v2.length) then bif Int.fdiv (v2.getD v0.toNat 0) (64 : Int) != (2 : Int) then some ((0, 0, 2, ()), ()) else bif decide ((0 : Int) ≤ v0 ∧ v0 < Int.ofNat v2.length) then L1 (IntKind.i64.wrap (v0 + (1 : Int)), v1, v2, IntKind.i64.wrap (Int.ofNat (BitVec.ofInt (64 : Nat) (IntKind.i64.wrap (v3 * (64 : Int))) ||| BitVec.ofInt (64 : Nat) (IntKind.i64.wrap (Int.ofNat (BitVec.ofInt (64 : Nat) (IntKind.i64.wrap (v2.getD v0.toNat 0)) &&& BitVec.ofInt (64 : Nat) (63 : Int)).toNat))).toNat), IntKind.i64.wrap (Int.ofNat (BitVec.ofInt (64 : Nat) (IntKind.i64.wrap (v4 * (64 : Int))) ||| BitVec.ofInt (64 : Nat) (IntKind.i64.wrap (Int.ofNat (BitVec.ofInt (64 : Nat) (IntKind.i64.wrap (v2.getD v0.toNat 0)) &&& BitVec.ofInt (64 : Nat) (63 : Int)).toNat))).toNat)) else none else none else L1 (IntKind.i64.wrap (v0 + (1 : Int)), v1, v2, IntKind.i64.wrap (Int.ofNat (BitVec.ofInt (64 : Nat) (IntKind.i64.wrap (v3 * (64 : Int))) ||| BitVec.ofInt (64 : Nat) (0 : Int)).toNat), IntKind.i64.wrap (Int.ofNat (BitVec.ofInt (64 : Nat) (IntKind.i64.wrap (v4 * (64 : Int))) ||| BitVec.ofInt (64 : Nat) (63 : Int)).toNat)) else (Zpb k (IntKind.i64.wrap (v1 - (1 : Int)), ())).bind fun y => bif decide ((0 : Int) ≤ y.1) then bif decide (v4 < IntKind.i64.wrap ((1 : Int) * (2 : Int) ^ min (Int.toNat y.1) (64 : Nat))) then some ((0, 0, 2, ()), ()) else bif decide (Int.ofNat v2.length < v1) then some ((0, 0, 10, ()), ()) else some ((v3, v1, 0, ()), ()) else none
def Zld (k : Nat) : Zj9 := Zr (fun L1 => YK k L1) k
noncomputable def ZfG (k : Nat) (n : Nat) (v : ZqI) : Option ((Int × Int × Int × Unit) × Unit) :=
  ZB (Zxq k) ZCC [] [1, 1, 1, 1, 1, 0, 1, 0] [] (W0 Tryz.f127) (Xq (Zxq k) Tryz.f127 Zhr Zlh [] []) n (ZGF v)
def ZdU (k : Nat) (L1 : Zj9) : List Int × Unit → Option ((Int × Int × Int × Unit) × Unit)
  | (a0, ()) => bif Int.ofNat a0.length == (0 : Int) then some ((0, 0, 10, ()), ()) else bif decide ((0 : Int) ≤ (0 : Int) ∧ (0 : Int) < Int.ofNat a0.length) then (Zhz k (IntKind.u8.wrap (Int.ofNat (BitVec.ofInt (8 : Nat) (255 : Int) ^^^ BitVec.ofInt (8 : Nat) (a0.getD (0 : Nat) 0)).toNat), ())).bind fun y => bif y.1 == (0 : Int) then bif decide ((0 : Int) ≤ (0 : Int) ∧ (0 : Int) < Int.ofNat a0.length) then some ((IntKind.i64.wrap (a0.getD (0 : Nat) 0), 1, 0, ()), ()) else none else bif y.1 == (1 : Int) then some ((0, 0, 2, ()), ()) else bif decide ((7 : Int) < y.1) then some ((0, 0, 2, ()), ()) else bif decide ((0 : Int) ≤ (0 : Int) ∧ (0 : Int) < Int.ofNat a0.length) then bif decide ((0 : Int) ≤ y.1) then bif decide ((0 : Int) ≤ (0 : Int) ∧ (0 : Int) < Int.ofNat a0.length) then bif decide ((0 : Int) ≤ y.1) then L1 ((1 : Int), y.1, a0, IntKind.i64.wrap (Int.ofNat (BitVec.ofInt (64 : Nat) (IntKind.i64.wrap (a0.getD (0 : Nat) 0)) &&& BitVec.ofInt (64 : Nat) (Int.fdiv (127 : Int) ((2 : Int) ^ min (Int.toNat y.1) (64 : Nat)))).toNat), IntKind.i64.wrap (Int.ofNat (BitVec.ofInt (64 : Nat) (IntKind.i64.wrap (a0.getD (0 : Nat) 0)) &&& BitVec.ofInt (64 : Nat) (Int.fdiv (127 : Int) ((2 : Int) ^ min (Int.toNat y.1) (64 : Nat)))).toNat)) else none else none else none else none else none
def Zm6 (k : Nat) := ZdU k (Zld k)
theorem ZBw (k : Nat) : ∀ n, ZfG k n = Zr (fun L1 => YK k L1) n :=
  Zn (fun v => by kernel_rfl) (fun n v => by
    show ZfG k (n + 1) v = YK k (ZfG k n) v
    obtain ⟨v0, v1, v2, v3, v4⟩ := v
    kernel_rfl)
theorem ZIG (k : Nat) (x : Kd.dens Zhr) : ZD (Zxq k) ZCC Tryz.f127 Zhr Zlh x = Zm6 k x := by
  show _ = ZdU k (Zld k) x
  rw [show Zld k = ZfG k k from (ZBw k k).symm]
  obtain ⟨a0, ⟨⟩⟩ := x
  kernel_rfl
theorem ZEH (k : Nat) : Ctr Tryz.prog k 127 (mk Zhr Zlh Zm6) :=
  ZE (fn := Tryz.f127) (Zh (Za (ZzH k) (Za (ZDG k) Zd))) (by kernel_rfl) (by kernel_rfl) (by kernel_rfl) (by kernel_rfl) (ZIG k)
noncomputable abbrev ZK5 : Nat × Callee := (127, mk Zhr Zlh Zm6)
abbrev Zn5 : List Kd := [.box [.view (.sl (.int .u8)), .ref [.view (.sl (.int .u8)), .view (.int .i64)], .view (.int .i64)]]
abbrev Zs3 : Kd := .view (.int .i64)
noncomputable def ZFM (k : Nat) := Qo k [ZAd, ZzR, ZzC, ZK5]
def ZJt : Nat → Ann := fun id => bif Nat.beq id 6 then ⟨[31, 32, 0, 3], []⟩ else ⟨[], []⟩
abbrev ZxL := Int × Int × Int × List Int × Int × List Int × Int
abbrev Zt3 := ZxL → Option (Int × (List Int × (List Int × Int × Unit) × Int × Unit) × Unit)
def ZLr : ZxL → St
  | (v0, v1, v2, v3, v4, v5, v6) => St.mk (ZC [(nat_lit 31, Zp v0), (nat_lit 32, Zp v1), (nat_lit 0, AV.bx (nat_lit 0) (nat_lit 0)), (nat_lit 3, Zp v2)]) (ZA [(nat_lit 0, RS.live (Res.box [AV.val (PV.sl (Ty.int IntKind.u8) v3), AV.bx (nat_lit 1) (nat_lit 0), Zp v4])), (nat_lit 1, RS.live (Res.box [AV.val (PV.sl (Ty.int IntKind.u8) v5), Zp v6]))])
def Zax (k : Nat) (L1 : Zt3) : Zt3
  | (v0, v1, v2, v3, v4, v5, v6) => bif decide (v1 < v0) then (QX k ((v3, (v5, v6, ()), v4, ()), 8, ())).bind fun y => L1 (v0, IntKind.i64.wrap (v1 + (1 : Int)), v2, y.2.1.1, y.2.1.2.2.1, y.2.1.2.1.1, y.2.1.2.1.2.1) else (Qz k ((v3, (v5, v6, ()), v4, ()), decide (v2 ≤ (2147483647 : Int)), 2, ())).bind fun y => some (v2, (y.2.1.1, (y.2.1.2.1.1, y.2.1.2.1.2.1, ()), y.2.1.2.2.1, ()), ())
def ZtP (k : Nat) : Zt3 := Zr (fun L1 => Zax k L1) k
noncomputable def ZlE (k : Nat) (n : Nat) (v : ZxL) : Option (Int × (List Int × (List Int × Int × Unit) × Int × Unit) × Unit) :=
  ZB (ZFM k) ZJt [0, 1] [1, 1, 1, 1, 0, 1, 0] [] (W0 Tryz.f85) (Xq (ZFM k) Tryz.f85 Zn5 Zs3 [AV.bx (nat_lit 0) (nat_lit 0)] [[1]]) n (ZLr v)
def ZfE (k : Nat) (L1 : Zt3) : (List Int × (List Int × Int × Unit) × Int × Unit) × Unit → Option (Int × (List Int × (List Int × Int × Unit) × Int × Unit) × Unit)
  | ((a0, (a1, a2, ()), a3, ()), ()) => bif a3 != (0 : Int) then some (0, (a0, (a1, a2, ()), a3, ()), ()) else (Kl k ((a1, a2, ()), ())).bind fun y => bif decide ((0 : Int) ≤ IntKind.i64.wrap (Int.tdiv y.1 (8 : Int)) ∧ IntKind.i64.wrap (Int.tdiv y.1 (8 : Int)) ≤ Int.ofNat a0.length ∧ Int.ofNat a0.length ≤ Int.ofNat a0.length) then (Zm6 k (List.drop (IntKind.i64.wrap (Int.tdiv y.1 (8 : Int))).toNat (List.take (Int.ofNat a0.length).toNat a0), ())).bind fun y_1 => L1 (y_1.1.2.1, (0 : Int), y_1.1.1, a0, y_1.1.2.2.1, y.2.1.1, y.2.1.2.1) else none
def ZfP (k : Nat) := ZfE k (ZtP k)
theorem ZEL (k : Nat) : ∀ n, ZlE k n = Zr (fun L1 => Zax k L1) n :=
  Zn (fun v => by kernel_rfl) (fun n v => by
    show ZlE k (n + 1) v = Zax k (ZlE k n) v
    obtain ⟨v0, v1, v2, v3, v4, v5, v6⟩ := v
    kernel_rfl)
theorem ZMC (k : Nat) (x : Kd.dens Zn5) : ZD (ZFM k) ZJt Tryz.f85 Zn5 Zs3 x = ZfP k x := by
  show _ = ZfE k (ZtP k) x
  rw [show ZtP k = ZlE k k from (ZEL k k).symm]
  obtain ⟨⟨a0, ⟨⟨a1, ⟨a2, ⟨⟩⟩⟩, ⟨a3, ⟨⟩⟩⟩⟩, ⟨⟩⟩ := x
  kernel_rfl
theorem ZHP (k : Nat) : Ctr Tryz.prog k 85 (mk Zn5 Zs3 ZfP) :=
  ZE (fn := Tryz.f85) (Zh (Za (ZkR k) (Za (ZkT k) (Za (Zks k) (Za (ZEH k) Zd))))) (by kernel_rfl) (by kernel_rfl) (by kernel_rfl) (by kernel_rfl) (ZMC k)
noncomputable abbrev ZNd : Nat × Callee := (85, mk Zn5 Zs3 ZfP)
abbrev ZqO : List Kd := [.box [.view (.sl (.int .u8)), .ref [.view (.sl (.int .u8)), .view (.int .i64)], .view (.int .i64)], .view Zff]
abbrev ZwT : Kd := .tup [.view (.int .i64), .view (.int .i64), .view (.int .i64)]
noncomputable def ZNw (k : Nat) := Qo k [ZML, ZzR, ZzC, ZNQ, ZNd]
def Zuy (k : Nat) : (List Int × (List Int × Int × Unit) × Int × Unit) × (Int × Int × Int × Unit) × Unit → Option ((Int × Int × Int × Unit) × (List Int × (List Int × Int × Unit) × Int × Unit) × Unit)
  | ((a0, (a1, a2, ()), a3, ()), (a4, a5, a6, ()), ()) => (QX k ((a0, (a1, a2, ()), a3, ()), 15, ())).bind fun y => (Qz k ((y.2.1.1, (y.2.1.2.1.1, y.2.1.2.1.2.1, ()), y.2.1.2.2.1, ()), y.1 == (32764 : Int), 11, ())).bind fun y => (QX k ((y.2.1.1, (y.2.1.2.1.1, y.2.1.2.1.2.1, ()), y.2.1.2.2.1, ()), 1, ())).bind fun y => (Qz k ((y.2.1.1, (y.2.1.2.1.1, y.2.1.2.1.2.1, ()), y.2.1.2.2.1, ()), y.1 == (0 : Int), 2, ())).bind fun y => (QX k ((y.2.1.1, (y.2.1.2.1.1, y.2.1.2.1.2.1, ()), y.2.1.2.2.1, ()), 4, ())).bind fun y => bif y.1 == (6 : Int) then (Qz k ((y.2.1.1, (y.2.1.2.1.1, y.2.1.2.1.2.1, ()), y.2.1.2.2.1, ()), true, 2, ())).bind fun y_1 => (QX k ((y_1.2.1.1, (y_1.2.1.2.1.1, y_1.2.1.2.1.2.1, ()), y_1.2.1.2.2.1, ()), 4, ())).bind fun y_2 => (Qz k ((y_2.2.1.1, (y_2.2.1.2.1.1, y_2.2.1.2.1.2.1, ()), y_2.2.1.2.2.1, ()), y_2.1 == (0 : Int), 2, ())).bind fun y_3 => (QX k ((y_3.2.1.1, (y_3.2.1.2.1.1, y_3.2.1.2.1.2.1, ()), y_3.2.1.2.2.1, ()), 4, ())).bind fun y_4 => (ZnF k ((a4, a5, a6, ()), y_4.1, ())).bind fun y_5 => (Qz k ((y_4.2.1.1, (y_4.2.1.2.1.1, y_4.2.1.2.1.2.1, ()), y_4.2.1.2.2.1, ()), y_5.1, 2, ())).bind fun y_6 => (QX k ((y_6.2.1.1, (y_6.2.1.2.1.1, y_6.2.1.2.1.2.1, ()), y_6.2.1.2.2.1, ()), 4, ())).bind fun y_7 => (Qz k ((y_7.2.1.1, (y_7.2.1.2.1.1, y_7.2.1.2.1.2.1, ()), y_7.2.1.2.2.1, ()), y_7.1 == (0 : Int), 2, ())).bind fun y_8 => (ZfP k ((y_8.2.1.1, (y_8.2.1.2.1.1, y_8.2.1.2.1.2.1, ()), y_8.2.1.2.2.1, ()), ())).bind fun y_9 => bif y_9.2.1.2.2.1 == (0 : Int) then (QX k ((y_9.2.1.1, (y_9.2.1.2.1.1, y_9.2.1.2.1.2.1, ()), y_9.2.1.2.2.1, ()), IntKind.i64.wrap ((8 : Int) * IntKind.i64.wrap (IntKind.i64.wrap (y.1 - (6 : Int)) + (1 : Int))), ())).bind fun y => (Qz k ((y.2.1.1, (y.2.1.2.1.1, y.2.1.2.1.2.1, ()), y.2.1.2.2.1, ()), decide (IntKind.i64.wrap (y.1 + (1 : Int)) ≤ (512 : Int)), 1, ())).bind fun y_10 => (ZeD k ((y_10.2.1.1, (y_10.2.1.2.1.1, y_10.2.1.2.1.2.1, ()), y_10.2.1.2.2.1, ()), 8, (), ())).bind fun y_11 => some ((y_4.1, y_9.1, IntKind.i64.wrap (y.1 + (1 : Int)), ()), (y_11.2.1.1, (y_11.2.1.2.1.1, y_11.2.1.2.1.2.1, ()), y_11.2.1.2.2.1, ()), ()) else (Qz k ((y_9.2.1.1, (y_9.2.1.2.1.1, y_9.2.1.2.1.2.1, ()), y_9.2.1.2.2.1, ()), decide ((0 : Int) ≤ (512 : Int)), 1, ())).bind fun y => (ZeD k ((y.2.1.1, (y.2.1.2.1.1, y.2.1.2.1.2.1, ()), y.2.1.2.2.1, ()), 8, (), ())).bind fun y => some ((y_4.1, y_9.1, 0, ()), (y.2.1.1, (y.2.1.2.1.1, y.2.1.2.1.2.1, ()), y.2.1.2.2.1, ()), ()) else (Qz k ((y.2.1.1, (y.2.1.2.1.1, y.2.1.2.1.2.1, ()), y.2.1.2.2.1, ()), y.1 == (7 : Int), 2, ())).bind fun y_1 => (QX k ((y_1.2.1.1, (y_1.2.1.2.1.1, y_1.2.1.2.1.2.1, ()), y_1.2.1.2.2.1, ()), 4, ())).bind fun y_2 => (Qz k ((y_2.2.1.1, (y_2.2.1.2.1.1, y_2.2.1.2.1.2.1, ()), y_2.2.1.2.2.1, ()), y_2.1 == (0 : Int), 2, ())).bind fun y_3 => (QX k ((y_3.2.1.1, (y_3.2.1.2.1.1, y_3.2.1.2.1.2.1, ()), y_3.2.1.2.2.1, ()), 4, ())).bind fun y_4 => (ZnF k ((a4, a5, a6, ()), y_4.1, ())).bind fun y_5 => (Qz k ((y_4.2.1.1, (y_4.2.1.2.1.1, y_4.2.1.2.1.2.1, ()), y_4.2.1.2.2.1, ()), y_5.1, 2, ())).bind fun y_6 => (QX k ((y_6.2.1.1, (y_6.2.1.2.1.1, y_6.2.1.2.1.2.1, ()), y_6.2.1.2.2.1, ()), 4, ())).bind fun y_7 => (Qz k ((y_7.2.1.1, (y_7.2.1.2.1.1, y_7.2.1.2.1.2.1, ()), y_7.2.1.2.2.1, ()), y_7.1 == (0 : Int), 2, ())).bind fun y_8 => (ZfP k ((y_8.2.1.1, (y_8.2.1.2.1.1, y_8.2.1.2.1.2.1, ()), y_8.2.1.2.2.1, ()), ())).bind fun y_9 => bif y_9.2.1.2.2.1 == (0 : Int) then (QX k ((y_9.2.1.1, (y_9.2.1.2.1.1, y_9.2.1.2.1.2.1, ()), y_9.2.1.2.2.1, ()), IntKind.i64.wrap ((8 : Int) * IntKind.i64.wrap (IntKind.i64.wrap (y.1 - (6 : Int)) + (1 : Int))), ())).bind fun y => (Qz k ((y.2.1.1, (y.2.1.2.1.1, y.2.1.2.1.2.1, ()), y.2.1.2.2.1, ()), decide (IntKind.i64.wrap (y.1 + (1 : Int)) ≤ (512 : Int)), 1, ())).bind fun y_10 => (ZeD k ((y_10.2.1.1, (y_10.2.1.2.1.1, y_10.2.1.2.1.2.1, ()), y_10.2.1.2.2.1, ()), 8, (), ())).bind fun y_11 => some ((y_4.1, y_9.1, IntKind.i64.wrap (y.1 + (1 : Int)), ()), (y_11.2.1.1, (y_11.2.1.2.1.1, y_11.2.1.2.1.2.1, ()), y_11.2.1.2.2.1, ()), ()) else (Qz k ((y_9.2.1.1, (y_9.2.1.2.1.1, y_9.2.1.2.1.2.1, ()), y_9.2.1.2.2.1, ()), decide ((0 : Int) ≤ (512 : Int)), 1, ())).bind fun y => (ZeD k ((y.2.1.1, (y.2.1.2.1.1, y.2.1.2.1.2.1, ()), y.2.1.2.2.1, ()), 8, (), ())).bind fun y => some ((y_4.1, y_9.1, 0, ()), (y.2.1.1, (y.2.1.2.1.1, y.2.1.2.1.2.1, ()), y.2.1.2.2.1, ()), ())
def ZqD (k : Nat) := Zuy k
theorem ZLL (k : Nat) (x : Kd.dens ZqO) : ZD (ZNw k) nA Tryz.f45 ZqO ZwT x = ZqD k x := by
  show _ = Zuy k x
  obtain ⟨⟨a0, ⟨⟨a1, ⟨a2, ⟨⟩⟩⟩, ⟨a3, ⟨⟩⟩⟩⟩, ⟨⟨a4, ⟨a5, ⟨a6, ⟨⟩⟩⟩⟩, ⟨⟩⟩⟩ := x
  kernel_rfl
theorem ZIB (k : Nat) : Ctr Tryz.prog k 45 (mk ZqO ZwT ZqD) :=
  ZE (fn := Tryz.f45) (Zh (Za (ZIW k) (Za (ZkT k) (Za (Zks k) (Za (ZIq k) (Za (ZHP k) Zd)))))) (by kernel_rfl) (by kernel_rfl) (by kernel_rfl) (by kernel_rfl) (ZLL k)
noncomputable abbrev ZNy : Nat × Callee := (45, mk ZqO ZwT ZqD)
abbrev ZkC : List Kd := [.box [.ref [.view (.sl (.int .u8)), .view (.int .i64)], .view (.int .i64)], .view .bool]
abbrev ZtL : Kd := .tup []
noncomputable def ZK3 (k : Nat) := Qo k []
def ZcU (k : Nat) : ((List Int × Int × Unit) × Int × Unit) × Bool × Unit → Option (Unit × ((List Int × Int × Unit) × Int × Unit) × Unit)
  | (((a0, a1, ()), a2, ()), a3, ()) => bif a2 == (0 : Int) then bif !a3 then some ((), ((a0, a1, ()), 2, ()), ()) else some ((), ((a0, a1, ()), a2, ()), ()) else some ((), ((a0, a1, ()), a2, ()), ())
def Wf (k : Nat) := ZcU k
theorem ZGA (k : Nat) (x : Kd.dens ZkC) : ZD (ZK3 k) nA Tryz.f128 ZkC ZtL x = Wf k x := by
  show _ = ZcU k x
  obtain ⟨⟨⟨a0, ⟨a1, ⟨⟩⟩⟩, ⟨a2, ⟨⟩⟩⟩, ⟨a3, ⟨⟩⟩⟩ := x
  kernel_rfl
theorem Zwu (k : Nat) : Ctr Tryz.prog k 128 (mk ZkC ZtL Wf) :=
  ZE (fn := Tryz.f128) (Zh Zd) (by kernel_rfl) (by kernel_rfl) (by kernel_rfl) (by kernel_rfl) (ZGA k)
noncomputable abbrev ZDL : Nat × Callee := (128, mk ZkC ZtL Wf)
abbrev Zkq : List Kd := [.box [.ref [.view (.sl (.int .u8)), .view (.int .i64)], .view (.int .i64)], .view (.int .i64)]
abbrev Zui : Kd := .view (.int .i64)
noncomputable def ZLw (k : Nat) := Qo k [ZhZ]
def Zdo (k : Nat) : ((List Int × Int × Unit) × Int × Unit) × Int × Unit → Option (Int × ((List Int × Int × Unit) × Int × Unit) × Unit)
  | (((a0, a1, ()), a2, ()), a3, ()) => bif a2 == (0 : Int) then (XE k ((a0, a1, ()), a3, ())).bind fun y => some (y.1.1, ((y.2.1.1, y.2.1.2.1, ()), y.1.2.1, ()), ()) else some (0, ((a0, a1, ()), a2, ()), ())
def Xz (k : Nat) := Zdo k
theorem ZGy (k : Nat) (x : Kd.dens Zkq) : ZD (ZLw k) nA Tryz.f129 Zkq Zui x = Xz k x := by
  show _ = Zdo k x
  obtain ⟨⟨⟨a0, ⟨a1, ⟨⟩⟩⟩, ⟨a2, ⟨⟩⟩⟩, ⟨a3, ⟨⟩⟩⟩ := x
  kernel_rfl
theorem Zul (k : Nat) : Ctr Tryz.prog k 129 (mk Zkq Zui Xz) :=
  ZE (fn := Tryz.f129) (Zh (Za (ZaR k) Zd)) (by kernel_rfl) (by kernel_rfl) (by kernel_rfl) (by kernel_rfl) (ZGy k)
noncomputable abbrev ZEw : Nat × Callee := (129, mk Zkq Zui Xz)
abbrev Zkn : List Kd := [.view (.int .i64)]
abbrev ZtR : Kd := .view .bool
noncomputable def ZKV (k : Nat) := Qo k []
def Zd3 (k : Nat) : Int × Unit → Option (Bool × Unit)
  | (a0, ()) => bif a0 == (0 : Int) then some (true, ()) else bif a0 == (1 : Int) then some (true, ()) else bif decide ((8 : Int) ≤ a0) then bif decide (a0 ≤ (12 : Int)) then some (true, ()) else bif decide ((31 : Int) < a0) then some (decide (a0 ≤ (39 : Int)), ()) else some (false, ()) else bif decide ((31 : Int) < a0) then some (decide (a0 ≤ (39 : Int)), ()) else some (false, ())
def Zm4 (k : Nat) := Zd3 k
theorem ZIJ (k : Nat) (x : Kd.dens Zkn) : ZD (ZKV k) nA Tryz.f130 Zkn ZtR x = Zm4 k x := by
  show _ = Zd3 k x
  obtain ⟨a0, ⟨⟩⟩ := x
  kernel_rfl
theorem ZFp (k : Nat) : Ctr Tryz.prog k 130 (mk Zkn ZtR Zm4) :=
  ZE (fn := Tryz.f130) (Zh Zd) (by kernel_rfl) (by kernel_rfl) (by kernel_rfl) (by kernel_rfl) (ZIJ k)
noncomputable abbrev ZK2 : Nat × Callee := (130, mk Zkn ZtR Zm4)
abbrev ZgY : List Kd := [.box [.view (.sl (.int .u8)), .view (.int .i64)]]
abbrev ZkE : Kd := .tup [.view (.int .i64), .view (.int .i64)]
noncomputable def ZwS (k : Nat) := Qo k [ZC4]
def ZFD : Nat → Ann := fun id => bif Nat.beq id 4 then ⟨[4, 0], []⟩ else ⟨[], []⟩
abbrev ZqM := Int × List Int × Int
abbrev ZjQ := ZqM → Option ((Int × Int × Unit) × (List Int × Int × Unit) × Unit)
def ZGM : ZqM → St
  | (v0, v1, v2) => St.mk (ZC [(nat_lit 4, Zp v0), (nat_lit 0, AV.bx (nat_lit 0) (nat_lit 0))]) (ZA [(nat_lit 0, RS.live (Res.box [AV.val (PV.sl (Ty.int IntKind.u8) v1), Zp v2]))])
def Y0 (k : Nat) (L1 : ZjQ) : ZjQ
  | (v0, v1, v2) => bif decide (v0 < IntKind.i64.wrap ((8 : Int) * Int.ofNat v1.length)) then (Zod k ((v1, v2, ()), v0, ())).bind fun y => bif y.1 == (1 : Int) then some ((IntKind.i64.wrap (v0 - y.2.1.2.1), 0, ()), (y.2.1.1, IntKind.i64.wrap (v0 + (1 : Int)), ()), ()) else L1 (IntKind.i64.wrap (v0 + (1 : Int)), y.2.1.1, y.2.1.2.1) else some ((0, 10, ()), (v1, v2, ()), ())
def Zlg (k : Nat) : ZjQ := Zr (fun L1 => Y0 k L1) k
noncomputable def Zga (k : Nat) (n : Nat) (v : ZqM) : Option ((Int × Int × Unit) × (List Int × Int × Unit) × Unit) :=
  ZB (ZwS k) ZFD [0] [1, 1, 0, 1, 0] [] (W0 Tryz.f131) (Xq (ZwS k) Tryz.f131 ZgY ZkE [AV.bx (nat_lit 0) (nat_lit 0)] [[]]) n (ZGM v)
def Zdj (k : Nat) (L1 : ZjQ) : (List Int × Int × Unit) × Unit → Option ((Int × Int × Unit) × (List Int × Int × Unit) × Unit)
  | ((a0, a1, ()), ()) => L1 (a1, a0, a1)
def Ze3 (k : Nat) := Zdj k (Zlg k)
theorem ZAp (k : Nat) : ∀ n, Zga k n = Zr (fun L1 => Y0 k L1) n :=
  Zn (fun v => by kernel_rfl) (fun n v => by
    show Zga k (n + 1) v = Y0 k (Zga k n) v
    obtain ⟨v0, v1, v2⟩ := v
    kernel_rfl)
theorem ZGw (k : Nat) (x : Kd.dens ZgY) : ZD (ZwS k) ZFD Tryz.f131 ZgY ZkE x = Ze3 k x := by
  show _ = Zdj k (Zlg k) x
  rw [show Zlg k = Zga k k from (ZAp k k).symm]
  obtain ⟨⟨a0, ⟨a1, ⟨⟩⟩⟩, ⟨⟩⟩ := x
  kernel_rfl
theorem ZuP (k : Nat) : Ctr Tryz.prog k 131 (mk ZgY ZkE Ze3) :=
  ZE (fn := Tryz.f131) (Zh (Za (Zsv k) Zd)) (by kernel_rfl) (by kernel_rfl) (by kernel_rfl) (by kernel_rfl) (ZGw k)
noncomputable abbrev ZEG : Nat × Callee := (131, mk ZgY ZkE Ze3)
abbrev Zs5 : List Kd := [.box [.ref [.view (.sl (.int .u8)), .view (.int .i64)], .view (.int .i64)], .view (.int .i64)]
abbrev ZyX : Kd := .tup [.view (.int .i64), .view (.int .i64)]
noncomputable def ZNR (k : Nat) := Qo k [ZDL, ZEw, ZK2, ZEG]
def ZfW (k : Nat) : ((List Int × Int × Unit) × Int × Unit) × Int × Unit → Option ((Int × Int × Unit) × ((List Int × Int × Unit) × Int × Unit) × Unit)
  | (((a0, a1, ()), a2, ()), a3, ()) => (Xz k (((a0, a1, ()), a2, ()), 1, ())).bind fun y => (Wf k (((y.2.1.1.1, y.2.1.1.2.1, ()), y.2.1.2.1, ()), y.1 == (0 : Int), ())).bind fun y => (Xz k (((y.2.1.1.1, y.2.1.1.2.1, ()), y.2.1.2.1, ()), 6, ())).bind fun y => (Zm4 k (y.1, ())).bind fun y_1 => (Wf k (((y.2.1.1.1, y.2.1.1.2.1, ()), y.2.1.2.1, ()), y_1.1, ())).bind fun y_2 => (Xz k (((y_2.2.1.1.1, y_2.2.1.1.2.1, ()), y_2.2.1.2.1, ()), 1, ())).bind fun y_3 => bif y_3.1 == (1 : Int) then bif y_3.2.1.2.1 == (0 : Int) then (Ze3 k ((y_3.2.1.1.1, y_3.2.1.1.2.1, ()), ())).bind fun y_4 => (Wf k (((y_4.2.1.1, y_4.2.1.2.1, ()), y_4.1.2.1, ()), decide (IntKind.i64.wrap (y_4.1.1 + (1 : Int)) < a3), ())).bind fun y_5 => some ((y.1, IntKind.i64.wrap (y_4.1.1 + (1 : Int)), ()), ((y_5.2.1.1.1, y_5.2.1.1.2.1, ()), y_5.2.1.2.1, ()), ()) else (Wf k (((y_3.2.1.1.1, y_3.2.1.1.2.1, ()), y_3.2.1.2.1, ()), decide ((0 : Int) < a3), ())).bind fun y_4 => some ((y.1, 0, ()), ((y_4.2.1.1.1, y_4.2.1.1.2.1, ()), y_4.2.1.2.1, ()), ()) else (Wf k (((y_3.2.1.1.1, y_3.2.1.1.2.1, ()), y_3.2.1.2.1, ()), decide ((0 : Int) < a3), ())).bind fun y_4 => some ((y.1, 0, ()), ((y_4.2.1.1.1, y_4.2.1.1.2.1, ()), y_4.2.1.2.1, ()), ())
def Zwa (k : Nat) := ZfW k
theorem ZLu (k : Nat) (x : Kd.dens Zs5) : ZD (ZNR k) nA Tryz.f87 Zs5 ZyX x = Zwa k x := by
  show _ = ZfW k x
  obtain ⟨⟨⟨a0, ⟨a1, ⟨⟩⟩⟩, ⟨a2, ⟨⟩⟩⟩, ⟨a3, ⟨⟩⟩⟩ := x
  kernel_rfl
theorem ZIM (k : Nat) : Ctr Tryz.prog k 87 (mk Zs5 ZyX Zwa) :=
  ZE (fn := Tryz.f87) (Zh (Za (Zwu k) (Za (Zul k) (Za (ZFp k) (Za (ZuP k) Zd))))) (by kernel_rfl) (by kernel_rfl) (by kernel_rfl) (by kernel_rfl) (ZLu k)
noncomputable abbrev ZNr : Nat × Callee := (87, mk Zs5 ZyX Zwa)
abbrev ZjS : List Kd := [.view (.int .u32), .view (.int .u32)]
abbrev ZqJ : Kd := .tup [.view (.int .u32), .view (.int .u32)]
noncomputable def ZJ3 (k : Nat) := Qo k []
def Zpy (k : Nat) : Int × Int × Unit → Option ((Int × Int × Unit) × Unit)
  | (a0, a1, ()) => some ((IntKind.u32.wrap ((IntKind.u64.wrap (IntKind.u64.wrap a0 * IntKind.u64.wrap a1)).fdiv (4294967296 : Int)), IntKind.u32.wrap (IntKind.u64.wrap (IntKind.u64.wrap a0 * IntKind.u64.wrap a1)), ()), ())
def Zyo (k : Nat) := Zpy k
theorem ZIZ (k : Nat) (x : Kd.dens ZjS) : ZD (ZJ3 k) nA Tryz.f187 ZjS ZqJ x = Zyo k x := by
  show _ = Zpy k x
  obtain ⟨a0, ⟨a1, ⟨⟩⟩⟩ := x
  kernel_rfl
theorem ZCN (k : Nat) : Ctr Tryz.prog k 187 (mk ZjS ZqJ Zyo) :=
  ZE (fn := Tryz.f187) (Zh Zd) (by kernel_rfl) (by kernel_rfl) (by kernel_rfl) (by kernel_rfl) (ZIZ k)
noncomputable abbrev ZLI : Nat × Callee := (187, mk ZjS ZqJ Zyo)
abbrev ZkM : List Kd := [.view (.int .u64), .view (.int .u64)]
abbrev Zt7 : Kd := .tup [.view (.int .u64), .view (.int .u64)]
noncomputable def ZKe (k : Nat) := Qo k []
def ZcS (k : Nat) : Int × Int × Unit → Option ((Int × Int × Unit) × Unit)
  | (a0, a1, ()) => some ((IntKind.u64.wrap (IntKind.u64.wrap (IntKind.u64.wrap (a0.fdiv (4294967296 : Int) * a1.fdiv (4294967296 : Int)) + (IntKind.u64.wrap (IntKind.u64.wrap (a0.fdiv (4294967296 : Int) * IntKind.u64.wrap (Int.ofNat (BitVec.ofInt (64 : Nat) a1 &&& BitVec.ofInt (64 : Nat) (4294967295 : Int)).toNat)) + (IntKind.u64.wrap (IntKind.u64.wrap (Int.ofNat (BitVec.ofInt (64 : Nat) a0 &&& BitVec.ofInt (64 : Nat) (4294967295 : Int)).toNat) * IntKind.u64.wrap (Int.ofNat (BitVec.ofInt (64 : Nat) a1 &&& BitVec.ofInt (64 : Nat) (4294967295 : Int)).toNat))).fdiv (4294967296 : Int))).fdiv (4294967296 : Int)) + (IntKind.u64.wrap (IntKind.u64.wrap (Int.ofNat (BitVec.ofInt (64 : Nat) (IntKind.u64.wrap (IntKind.u64.wrap (a0.fdiv (4294967296 : Int) * IntKind.u64.wrap (Int.ofNat (BitVec.ofInt (64 : Nat) a1 &&& BitVec.ofInt (64 : Nat) (4294967295 : Int)).toNat)) + (IntKind.u64.wrap (IntKind.u64.wrap (Int.ofNat (BitVec.ofInt (64 : Nat) a0 &&& BitVec.ofInt (64 : Nat) (4294967295 : Int)).toNat) * IntKind.u64.wrap (Int.ofNat (BitVec.ofInt (64 : Nat) a1 &&& BitVec.ofInt (64 : Nat) (4294967295 : Int)).toNat))).fdiv (4294967296 : Int))) &&& BitVec.ofInt (64 : Nat) (4294967295 : Int)).toNat) + IntKind.u64.wrap (IntKind.u64.wrap (Int.ofNat (BitVec.ofInt (64 : Nat) a0 &&& BitVec.ofInt (64 : Nat) (4294967295 : Int)).toNat) * a1.fdiv (4294967296 : Int)))).fdiv (4294967296 : Int)), IntKind.u64.wrap (a0 * a1), ()), ())
def Zt8 (k : Nat) := ZcS k
theorem ZHl (k : Nat) (x : Kd.dens ZkM) : ZD (ZKe k) nA Tryz.f188 ZkM Zt7 x = Zt8 k x := by
  show _ = ZcS k x
  obtain ⟨a0, ⟨a1, ⟨⟩⟩⟩ := x
  kernel_rfl
theorem ZDk (k : Nat) : Ctr Tryz.prog k 188 (mk ZkM Zt7 Zt8) :=
  ZE (fn := Tryz.f188) (Zh Zd) (by kernel_rfl) (by kernel_rfl) (by kernel_rfl) (by kernel_rfl) (ZHl k)
noncomputable abbrev ZMz : Nat × Callee := (188, mk ZkM Zt7 Zt8)
abbrev Zkc : List Kd := [.view (.int .u64), .view (.int .u64)]
abbrev Zt5 : Kd := .tup [.view (.int .u64), .view (.int .u64)]
noncomputable def ZL7 (k : Nat) := Qo k [ZLI, ZMz]
def ZpE (k : Nat) : Int × Int × Unit → Option ((Int × Int × Unit) × Unit)
  | (a0, a1, ()) => (Zt8 k (a0, a1, ())).bind fun y => some ((y.1.1, y.1.2.1, ()), ())
def Zns (k : Nat) := ZpE k
theorem ZHH (k : Nat) (x : Kd.dens Zkc) : ZD (ZL7 k) nA Tryz.f169 Zkc Zt5 x = Zns k x := by
  show _ = ZpE k x
  obtain ⟨a0, ⟨a1, ⟨⟩⟩⟩ := x
  kernel_rfl
theorem ZDO (k : Nat) : Ctr Tryz.prog k 169 (mk Zkc Zt5 Zns) :=
  ZE (fn := Tryz.f169) (Zh (Za (ZCN k) (Za (ZDk k) Zd))) (by kernel_rfl) (by kernel_rfl) (by kernel_rfl) (by kernel_rfl) (ZHH k)
noncomputable abbrev ZMx : Nat × Callee := (169, mk Zkc Zt5 Zns)
abbrev Zfz : List Kd := [.view (.sl (.int .i64)), .view (.int .i64)]
abbrev Zlx : Kd := .view (.sl (.int .i64))
noncomputable def ZxI (k : Nat) := Qo k [ZMx] (fun r => bif Nat.beq r 999999 then [1] else [])
def ZFs : Nat → Ann := fun id => bif Nat.beq id 8 then ⟨[8, 7], []⟩ else ⟨[], []⟩
abbrev Zrf := Int × List Int
abbrev ZkO := Zrf → Option (List Int × Unit)
def ZIb : Zrf → St
  | (v0, v1) => St.mk (ZC [(nat_lit 8, Zp v0), (nat_lit 7, AV.own (nat_lit 8192))]) (ZA [(nat_lit 8192, RS.live (Res.arr (Ty.int IntKind.i64) v1 false))])
def ZaA (k : Nat) (L1 : ZkO) : ZkO
  | (v0, v1) => bif decide (v0 < Int.ofNat v1.length) then bif decide ((0 : Int) ≤ v0 ∧ v0 ≤ Int.ofNat v1.length ∧ Int.ofNat v1.length ≤ Int.ofNat v1.length) then bif decide ((0 : Int) ≤ (0 : Int) ∧ (0 : Int) ≤ v0 ∧ v0 ≤ Int.ofNat v1.length) then bif decide (v0.toNat ≤ (Int.ofNat v1.length).toNat ∧ (Int.ofNat v1.length).toNat ≤ v1.length) then bif decide ((0 : Nat) ≤ v0.toNat ∧ v0.toNat ≤ v1.length) then L1 (IntKind.i64.wrap (v0 + Int.ofNat (min (List.drop (0 : Nat) (List.take v0.toNat v1)).length ((Int.ofNat v1.length).toNat - v0.toNat))), List.take v0.toNat v1 ++ List.take ((Int.ofNat v1.length).toNat - v0.toNat) (List.drop (0 : Nat) (List.take v0.toNat v1)) ++ List.drop (v0.toNat + min (List.drop (0 : Nat) (List.take v0.toNat v1)).length ((Int.ofNat v1.length).toNat - v0.toNat)) v1) else none else none else none else none else some (v1, ())
def Zk6 (k : Nat) : ZkO := Zr (fun L1 => ZaA k L1) k
noncomputable def ZgE (k : Nat) (n : Nat) (v : Zrf) : Option (List Int × Unit) :=
  ZB (ZxI k) ZFs [] [1, 1, 1, 1, 1, 1, 0, 0] [] (W0 Tryz.f132) (Xq (ZxI k) Tryz.f132 Zfz Zlx [] []) n (ZIb v)
def Zc2 (k : Nat) (L1 : ZkO) : List Int × Int × Unit → Option (List Int × Unit)
  | (a0, a1, ()) => bif decide (a1 < (0 : Int)) then none else (Zns k (IntKind.u64.wrap (Int.ofNat a0.length), IntKind.u64.wrap a1, ())).bind fun y => bif decide ((0 : Int) < y.1.1) then none else bif decide ((9223372036854775807 : Int) < y.1.2.1) then none else bif decide ((0 : Int) ≤ IntKind.i64.wrap y.1.2.1 ∧ IntKind.i64.wrap y.1.2.1 ≤ IntKind.i64.wrap y.1.2.1 ∧ IntKind.i64.wrap y.1.2.1 < (4294967296 : Int)) then L1 (Int.ofNat (min a0.length ((List.replicate (IntKind.i64.wrap y.1.2.1).toNat (0 : Int)).length - (0 : Nat))), List.take (0 : Nat) (List.replicate (IntKind.i64.wrap y.1.2.1).toNat (0 : Int)) ++ List.take ((List.replicate (IntKind.i64.wrap y.1.2.1).toNat (0 : Int)).length - (0 : Nat)) a0 ++ List.drop ((0 : Nat) + min a0.length ((List.replicate (IntKind.i64.wrap y.1.2.1).toNat (0 : Int)).length - (0 : Nat))) (List.replicate (IntKind.i64.wrap y.1.2.1).toNat (0 : Int))) else none
def Zmv (k : Nat) := Zc2 k (Zk6 k)
theorem ZAT (k : Nat) : ∀ n, ZgE k n = Zr (fun L1 => ZaA k L1) n :=
  Zn (fun v => by kernel_rfl) (fun n v => by
    show ZgE k (n + 1) v = ZaA k (ZgE k n) v
    obtain ⟨v0, v1⟩ := v
    kernel_rfl)
theorem ZI0 (k : Nat) (x : Kd.dens Zfz) : ZD (ZxI k) ZFs Tryz.f132 Zfz Zlx x = Zmv k x := by
  show _ = Zc2 k (Zk6 k) x
  rw [show Zk6 k = ZgE k k from (ZAT k k).symm]
  obtain ⟨a0, ⟨a1, ⟨⟩⟩⟩ := x
  kernel_rfl
theorem ZEO (k : Nat) : Ctr Tryz.prog k 132 (mk Zfz Zlx Zmv) :=
  ZE (fn := Tryz.f132) (Zh (Za (ZDO k) Zd)) (by kernel_rfl) (by kernel_rfl) (by kernel_rfl) (by kernel_rfl) (ZI0 k)
noncomputable abbrev ZKr : Nat × Callee := (132, mk Zfz Zlx Zmv)
abbrev ZjN : List Kd := [.box [.view (.sl (.int .u8)), .view (.int .i64)], .view (.int .i64)]
abbrev ZsI : Kd := .tup [.view (.int .i64), .view (.int .i64)]
noncomputable def ZLM (k : Nat) := Qo k [ZhZ]
def Zd6 (k : Nat) : (List Int × Int × Unit) × Int × Unit → Option ((Int × Int × Unit) × (List Int × Int × Unit) × Unit)
  | ((a0, a1, ()), a2, ()) => (XE k ((a0, a1, ()), a2, ())).bind fun y => bif y.1.2.1 == (0 : Int) then bif decide ((0 : Int) < a2) then bif decide ((0 : Int) ≤ IntKind.i64.wrap (a2 - (1 : Int))) then bif Int.fdiv y.1.1 ((2 : Int) ^ min (IntKind.i64.wrap (a2 - (1 : Int))).toNat (64 : Nat)) == (1 : Int) then bif decide ((0 : Int) ≤ a2) then some ((IntKind.i64.wrap (y.1.1 - IntKind.i64.wrap ((1 : Int) * (2 : Int) ^ min a2.toNat (64 : Nat))), y.1.2.1, ()), (y.2.1.1, y.2.1.2.1, ()), ()) else none else some ((y.1.1, y.1.2.1, ()), (y.2.1.1, y.2.1.2.1, ()), ()) else none else some ((y.1.1, y.1.2.1, ()), (y.2.1.1, y.2.1.2.1, ()), ()) else some ((y.1.1, y.1.2.1, ()), (y.2.1.1, y.2.1.2.1, ()), ())
def Zii (k : Nat) := Zd6 k
theorem ZGW (k : Nat) (x : Kd.dens ZjN) : ZD (ZLM k) nA Tryz.f170 ZjN ZsI x = Zii k x := by
  show _ = Zd6 k x
  obtain ⟨⟨a0, ⟨a1, ⟨⟩⟩⟩, ⟨a2, ⟨⟩⟩⟩ := x
  kernel_rfl
theorem ZwB (k : Nat) : Ctr Tryz.prog k 170 (mk ZjN ZsI Zii) :=
  ZE (fn := Tryz.f170) (Zh (Za (ZaR k) Zd)) (by kernel_rfl) (by kernel_rfl) (by kernel_rfl) (by kernel_rfl) (ZGW k)
noncomputable abbrev ZEc : Nat × Callee := (170, mk ZjN ZsI Zii)
abbrev Zft : List Kd := [.box [.ref [.view (.sl (.int .u8)), .view (.int .i64)], .view (.int .i64)], .view (.int .i64), .view (.int .i64)]
abbrev Zlr : Kd := .view (.sl (.int .i64))
noncomputable def Zxa (k : Nat) := Qo k [ZEc]
def ZDt : Nat → Ann := fun id => bif Nat.beq id 3 then ⟨[9, 10, 0, 2, 7], [.slot 7 ((Ty.int IntKind.i64))]⟩ else ⟨[], []⟩
abbrev ZqE := Int × Int × Int × Int × List Int × Int × List Int
abbrev ZkY := ZqE → Option (List Int × ((List Int × Int × Unit) × Int × Unit) × Unit)
def ZIP : ZqE → St
  | (v0, v1, v2, v3, v4, v5, v6) => St.mk (ZC [(nat_lit 9, Zp v0), (nat_lit 10, Zp v1), (nat_lit 0, AV.bx (nat_lit 0) (nat_lit 0)), (nat_lit 2, Zp v2), (nat_lit 7, AV.own (nat_lit 8192))]) (ZA [(nat_lit 0, RS.live (Res.box [AV.bx (nat_lit 1) (nat_lit 0), Zp v3])), (nat_lit 1, RS.live (Res.box [AV.val (PV.sl (Ty.int IntKind.u8) v4), Zp v5])), (nat_lit 8192, RS.live (Res.arr (Ty.int IntKind.i64) v6 false))])
def YX (k : Nat) (L1 : ZkY) : ZkY
  | (v0, v1, v2, v3, v4, v5, v6) => bif decide (v1 < v0) then bif v3 == (0 : Int) then (Zii k ((v4, v5, ()), v2, ())).bind fun y => bif decide (v6.length + [y.1.1].length < (2147483648 : Nat)) then L1 (v0, IntKind.i64.wrap (v1 + (1 : Int)), v2, y.1.2.1, y.2.1.1, y.2.1.2.1, v6 ++ [y.1.1]) else none else bif decide (v6.length + (1 : Nat) < (2147483648 : Nat)) then L1 (v0, IntKind.i64.wrap (v1 + (1 : Int)), v2, v3, v4, v5, v6 ++ [(0 : Int)]) else none else some (v6, ((v4, v5, ()), v3, ()), ())
def ZkD (k : Nat) : ZkY := Zr (fun L1 => YX k L1) k
noncomputable def ZfT (k : Nat) (n : Nat) (v : ZqE) : Option (List Int × ((List Int × Int × Unit) × Int × Unit) × Unit) :=
  ZB (Zxa k) ZDt [0, 1] [1, 1, 0, 1, 0] [] (W0 Tryz.f133) (Xq (Zxa k) Tryz.f133 Zft Zlr [AV.bx (nat_lit 0) (nat_lit 0)] [[1]]) n (ZIP v)
def Zds (k : Nat) (L1 : ZkY) : ((List Int × Int × Unit) × Int × Unit) × Int × Int × Unit → Option (List Int × ((List Int × Int × Unit) × Int × Unit) × Unit)
  | (((a0, a1, ()), a2, ()), a3, a4, ()) => L1 (a3, (0 : Int), a4, a2, a0, a1, [])
def Kh (k : Nat) := Zds k (ZkD k)
theorem ZBg (k : Nat) : ∀ n, ZfT k n = Zr (fun L1 => YX k L1) n :=
  Zn (fun v => by kernel_rfl) (fun n v => by
    show ZfT k (n + 1) v = YX k (ZfT k n) v
    obtain ⟨v0, v1, v2, v3, v4, v5, v6⟩ := v
    kernel_rfl)
theorem ZHm (k : Nat) (x : Kd.dens Zft) : ZD (Zxa k) ZDt Tryz.f133 Zft Zlr x = Kh k x := by
  show _ = Zds k (ZkD k) x
  rw [show ZkD k = ZfT k k from (ZBg k k).symm]
  obtain ⟨⟨⟨a0, ⟨a1, ⟨⟩⟩⟩, ⟨a2, ⟨⟩⟩⟩, ⟨a3, ⟨a4, ⟨⟩⟩⟩⟩ := x
  kernel_rfl
theorem ZDm (k : Nat) : Ctr Tryz.prog k 133 (mk Zft Zlr Kh) :=
  ZE (fn := Tryz.f133) (Zh (Za (ZwB k) Zd)) (by kernel_rfl) (by kernel_rfl) (by kernel_rfl) (by kernel_rfl) (ZHm k)
noncomputable abbrev ZJU : Nat × Callee := (133, mk Zft Zlr Kh)
abbrev ZjZ : List Kd := [.view (.int .i64)]
abbrev Ztc : Kd := .tup [.view (.int .i64), .view (.int .i64)]
noncomputable def ZLg (k : Nat) := Qo k []
def ZcL (k : Nat) : Int × Unit → Option ((Int × Int × Unit) × Unit)
  | (a0, ()) => bif decide (a0 < (0 : Int)) then some ((0, 12, ()), ()) else bif decide ((2199023255552 : Int) < a0) then some ((0, 12, ()), ()) else some ((IntKind.i64.wrap (Int.ofNat (BitVec.ofInt (64 : Nat) (a0.fdiv (2 : Int)) ^^^ BitVec.ofInt (64 : Nat) (IntKind.i64.wrap ((0 : Int) - IntKind.i64.wrap (Int.ofNat (BitVec.ofInt (64 : Nat) a0 &&& BitVec.ofInt (64 : Nat) (1 : Int)).toNat)))).toNat), 0, ()), ())
def ZnC (k : Nat) := ZcL k
theorem ZGI (k : Nat) (x : Kd.dens ZjZ) : ZD (ZLg k) nA Tryz.f195 ZjZ Ztc x = ZnC k x := by
  show _ = ZcL k x
  obtain ⟨a0, ⟨⟩⟩ := x
  kernel_rfl
theorem ZEP (k : Nat) : Ctr Tryz.prog k 195 (mk ZjZ Ztc ZnC) :=
  ZE (fn := Tryz.f195) (Zh Zd) (by kernel_rfl) (by kernel_rfl) (by kernel_rfl) (by kernel_rfl) (ZGI k)
noncomputable abbrev ZKv : Nat × Callee := (195, mk ZjZ Ztc ZnC)
abbrev Zkg : List Kd := [.box [.view (.sl (.int .u8)), .view (.int .i64)], .view (.int .i64)]
abbrev Zs4 : Kd := .tup [.view (.int .i64), .view (.int .i64)]
noncomputable def ZKZ (k : Nat) := Qo k [ZhZ, ZEG, ZKv]
def Zdm (k : Nat) : (List Int × Int × Unit) × Int × Unit → Option ((Int × Int × Unit) × (List Int × Int × Unit) × Unit)
  | ((a0, a1, ()), a2, ()) => (Ze3 k ((a0, a1, ()), ())).bind fun y => bif y.1.2.1 != (0 : Int) then some ((0, y.1.2.1, ()), (y.2.1.1, y.2.1.2.1, ()), ()) else (XE k ((y.2.1.1, y.2.1.2.1, ()), a2, ())).bind fun y_1 => bif y_1.1.2.1 != (0 : Int) then some ((0, y_1.1.2.1, ()), (y_1.2.1.1, y_1.2.1.2.1, ()), ()) else bif decide ((0 : Int) ≤ a2) then bif decide ((4294967295 : Int) ≤ IntKind.i64.wrap (Int.ofNat (BitVec.ofInt (64 : Nat) (IntKind.i64.wrap (y.1.1 * (2 : Int) ^ min a2.toNat (64 : Nat))) ||| BitVec.ofInt (64 : Nat) y_1.1.1).toNat)) then some ((0, 12, ()), (y_1.2.1.1, y_1.2.1.2.1, ()), ()) else (ZnC k (IntKind.i64.wrap (Int.ofNat (BitVec.ofInt (64 : Nat) (IntKind.i64.wrap (y.1.1 * (2 : Int) ^ min a2.toNat (64 : Nat))) ||| BitVec.ofInt (64 : Nat) y_1.1.1).toNat), ())).bind fun y => some ((y.1.1, y.1.2.1, ()), (y_1.2.1.1, y_1.2.1.2.1, ()), ()) else none
def ZnU (k : Nat) := Zdm k
theorem ZIf (k : Nat) (x : Kd.dens Zkg) : ZD (ZKZ k) nA Tryz.f190 Zkg Zs4 x = ZnU k x := by
  show _ = Zdm k x
  obtain ⟨⟨a0, ⟨a1, ⟨⟩⟩⟩, ⟨a2, ⟨⟩⟩⟩ := x
  kernel_rfl
theorem ZGk (k : Nat) : Ctr Tryz.prog k 190 (mk Zkg Zs4 ZnU) :=
  ZE (fn := Tryz.f190) (Zh (Za (ZaR k) (Za (ZuP k) (Za (ZEP k) Zd)))) (by kernel_rfl) (by kernel_rfl) (by kernel_rfl) (by kernel_rfl) (ZIf k)
noncomputable abbrev ZLO : Nat × Callee := (190, mk Zkg Zs4 ZnU)
abbrev Zlj : List Kd := [.box [.ref [.view (.sl (.int .u8)), .view (.int .i64)]], .box [.view (.int .i64)]]
abbrev Zrt : Kd := .tup [.view (.int .i64), .view (.int .i64)]
noncomputable def ZL0 (k : Nat) := Qo k [ZLO]
def ZdC (k : Nat) : ((List Int × Int × Unit) × Unit) × (Int × Unit) × Unit → Option ((Int × Int × Unit) × ((List Int × Int × Unit) × Unit) × (Int × Unit) × Unit)
  | (((a0, a1, ()), ()), (a2, ()), ()) => (ZnU k ((a0, a1, ()), a2, ())).bind fun y => some ((y.1.1, y.1.2.1, ()), ((y.2.1.1, y.2.1.2.1, ()), ()), (a2, ()), ())
def Zoa (k : Nat) := ZdC k
theorem ZId (k : Nat) (x : Kd.dens Zlj) : ZD (ZL0 k) nA Tryz.f189 Zlj Zrt x = Zoa k x := by
  show _ = ZdC k x
  obtain ⟨⟨⟨a0, ⟨a1, ⟨⟩⟩⟩, ⟨⟩⟩, ⟨⟨a2, ⟨⟩⟩, ⟨⟩⟩⟩ := x
  kernel_rfl
theorem ZCQ (k : Nat) : Ctr Tryz.prog k 189 (mk Zlj Zrt Zoa) :=
  ZE (fn := Tryz.f189) (Zh (Za (ZGk k) Zd)) (by kernel_rfl) (by kernel_rfl) (by kernel_rfl) (by kernel_rfl) (ZId k)
noncomputable abbrev ZJO : Nat × Callee := (189, mk Zlj Zrt Zoa)
abbrev Zky : List Kd := [.box [.ref [.view (.sl (.int .u8)), .view (.int .i64)]], .box [.view (.int .i64)]]
abbrev ZsM : Kd := .tup [.view (.int .i64), .view (.int .i64)]
noncomputable def ZMy (k : Nat) := Qo k [ZEc]
def ZdJ (k : Nat) : ((List Int × Int × Unit) × Unit) × (Int × Unit) × Unit → Option ((Int × Int × Unit) × ((List Int × Int × Unit) × Unit) × (Int × Unit) × Unit)
  | (((a0, a1, ()), ()), (a2, ()), ()) => (Zii k ((a0, a1, ()), a2, ())).bind fun y => some ((y.1.1, y.1.2.1, ()), ((y.2.1.1, y.2.1.2.1, ()), ()), (a2, ()), ())
def Zoy (k : Nat) := ZdJ k
theorem ZHf (k : Nat) (x : Kd.dens Zky) : ZD (ZMy k) nA Tryz.f191 Zky ZsM x = Zoy k x := by
  show _ = ZdJ k x
  obtain ⟨⟨⟨a0, ⟨a1, ⟨⟩⟩⟩, ⟨⟩⟩, ⟨⟨a2, ⟨⟩⟩, ⟨⟩⟩⟩ := x
  kernel_rfl
theorem ZE6 (k : Nat) : Ctr Tryz.prog k 191 (mk Zky ZsM Zoy) :=
  ZE (fn := Tryz.f191) (Zh (Za (ZwB k) Zd)) (by kernel_rfl) (by kernel_rfl) (by kernel_rfl) (by kernel_rfl) (ZHf k)
noncomputable abbrev ZK7 : Nat × Callee := (191, mk Zky ZsM Zoy)
abbrev ZdS : List Kd := [.box [.view (.sl (.int .u8)), .view (.int .i64)], .view (.int .i64), .view (.int .i64)]
abbrev Zg4 : Kd := .tup [.view (.sl (.int .i64)), .view (.int .i64)]
noncomputable def Zmu (k : Nat) := Qo k [(116, mk KH Zbc ZbF), (117, mk KJ ZbA Yw), ZhZ, ZJO, ZK7]
noncomputable def Zys : Nat → Ann := fun id => bif Nat.beq id 12 then ⟨[40, 41, 10, 13], [.slot 13 ((Ty.int IntKind.i64))]⟩ else ⟨[], []⟩
abbrev Zg6 := Int × Int × List Int × Int × Int × List Int
abbrev KV := Zg6 → Option ((List Int × Int × Unit) × (List Int × Int × Unit) × Unit)
abbrev ZG1 := Int × Int × List Int × Int × Int × List Int
abbrev ZNU := ZG1 → Option ((List Int × Int × Unit) × (List Int × Int × Unit) × Unit)
noncomputable def ZHa : Zg6 → St
  | (v0, v1, v2, v3, v4, v5) => St.mk (ZC [(nat_lit 40, Zp v0), (nat_lit 41, Zp v1), (nat_lit 10, AV.clo (nat_lit 191) [AV.bx (nat_lit 8192) (nat_lit 0), AV.bx (nat_lit 8193) (nat_lit 0)]), (nat_lit 13, AV.own (nat_lit 8194))]) (ZA [(nat_lit 0, RS.live (Res.box [AV.val (PV.sl (Ty.int IntKind.u8) v2), Zp v3])), (nat_lit 8192, RS.live (Res.box [AV.bx (nat_lit 0) (nat_lit 0)])), (nat_lit 8193, RS.live (Res.box [Zp v4])), (nat_lit 8194, RS.live (Res.arr (Ty.int IntKind.i64) v5 false))])
noncomputable def YV (k : Nat) (L1 : KV) : KV
  | (v0, v1, v2, v3, v4, v5) => bif decide (v1 < v0) then (Zoy k (((v2, v3, ()), ()), (v4, ()), ())).bind fun y => bif y.1.2.1 != (0 : Int) then some (([], y.1.2.1, ()), (y.2.1.1.1, y.2.1.1.2.1, ()), ()) else bif decide (v5.length + [y.1.1].length < (2147483648 : Nat)) then L1 (v0, IntKind.i64.wrap (v1 + (1 : Int)), y.2.1.1.1, y.2.1.1.2.1, y.2.2.1.1, v5 ++ [y.1.1]) else none else some ((v5, 0, ()), (v2, v3, ()), ())
noncomputable def ZkB (k : Nat) : KV := Zr (fun L1 => YV k L1) k
noncomputable def Zf5 (k : Nat) (n : Nat) (v : Zg6) : Option ((List Int × Int × Unit) × (List Int × Int × Unit) × Unit) :=
  ZB (Zmu k) Zys [0] [1, 1, 1, 1, 1, 1, 0, 1, 0] [] (W0 Tryz.f171) (Xq (Zmu k) Tryz.f171 ZdS Zg4 [AV.bx (nat_lit 0) (nat_lit 0)] [[]]) n (ZHa v)
noncomputable def ZHL : Zg6 → St
  | (v0, v1, v2, v3, v4, v5) => St.mk (ZC [(nat_lit 40, Zp v0), (nat_lit 41, Zp v1), (nat_lit 10, AV.clo (nat_lit 189) [AV.bx (nat_lit 8192) (nat_lit 0), AV.bx (nat_lit 8193) (nat_lit 0)]), (nat_lit 13, AV.own (nat_lit 8194))]) (ZA [(nat_lit 0, RS.live (Res.box [AV.val (PV.sl (Ty.int IntKind.u8) v2), Zp v3])), (nat_lit 8192, RS.live (Res.box [AV.bx (nat_lit 0) (nat_lit 0)])), (nat_lit 8193, RS.live (Res.box [Zp v4])), (nat_lit 8194, RS.live (Res.arr (Ty.int IntKind.i64) v5 false))])
noncomputable def Y3 (k : Nat) (L2 : KV) : KV
  | (v0, v1, v2, v3, v4, v5) => bif decide (v1 < v0) then (Zoa k (((v2, v3, ()), ()), (v4, ()), ())).bind fun y => bif y.1.2.1 != (0 : Int) then some (([], y.1.2.1, ()), (y.2.1.1.1, y.2.1.1.2.1, ()), ()) else bif decide (v5.length + [y.1.1].length < (2147483648 : Nat)) then L2 (v0, IntKind.i64.wrap (v1 + (1 : Int)), y.2.1.1.1, y.2.1.1.2.1, y.2.2.1.1, v5 ++ [y.1.1]) else none else some ((v5, 0, ()), (v2, v3, ()), ())
noncomputable def Zge (k : Nat) : KV := Zr (fun L2 => Y3 k L2) k
noncomputable def ZfR (k : Nat) (n : Nat) (v : Zg6) : Option ((List Int × Int × Unit) × (List Int × Int × Unit) × Unit) :=
  ZB (Zmu k) Zys [0] [1, 1, 1, 1, 1, 1, 0, 1, 0] [] (W0 Tryz.f171) (Xq (Zmu k) Tryz.f171 ZdS Zg4 [AV.bx (nat_lit 0) (nat_lit 0)] [[]]) n (ZHL v)
noncomputable def ZdF (k : Nat) (L1 : KV) (L2 : KV) : (List Int × Int × Unit) × Int × Int × Unit → Option ((List Int × Int × Unit) × (List Int × Int × Unit) × Unit)
  | ((a0, a1, ()), a2, a3, ()) => (ZbF k (a2, ())).bind fun y => (XE k ((a0, a1, ()), y.1, ())).bind fun y => bif y.1.2.1 != (0 : Int) then some (([], y.1.2.1, ()), (y.2.1.1, y.2.1.2.1, ()), ()) else (Yw k (a2, ())).bind fun y_1 => bif y.1.1 == y_1.1 then (XE k ((y.2.1.1, y.2.1.2.1, ()), 5, ())).bind fun y => bif y.1.2.1 != (0 : Int) then some (([], y.1.2.1, ()), (y.2.1.1, y.2.1.2.1, ()), ()) else L1 (a3, (0 : Int), y.2.1.1, y.2.1.2.1, y.1.1, []) else L2 (a3, (0 : Int), y.2.1.1, y.2.1.2.1, y.1.1, [])
noncomputable def ZeH (k : Nat) := ZdF k (ZkB k) (Zge k)
theorem ZAV (k : Nat) : ∀ n, Zf5 k n = Zr (fun L1 => YV k L1) n :=
  Zn (fun v => by kernel_rfl) (fun n v => by
    show Zf5 k (n + 1) v = YV k (Zf5 k n) v
    obtain ⟨v0, v1, v2, v3, v4, v5⟩ := v
    kernel_rfl)
theorem ZCm (k : Nat) : ∀ n, ZfR k n = Zr (fun L2 => Y3 k L2) n :=
  Zn (fun v => by kernel_rfl) (fun n v => by
    show ZfR k (n + 1) v = Y3 k (ZfR k n) v
    obtain ⟨v0, v1, v2, v3, v4, v5⟩ := v
    kernel_rfl)
theorem ZHk (k : Nat) (x : Kd.dens ZdS) : ZD (Zmu k) Zys Tryz.f171 ZdS Zg4 x = ZeH k x := by
  show _ = ZdF k (ZkB k) (Zge k) x
  rw [show ZkB k = Zf5 k k from (ZAV k k).symm, show Zge k = ZfR k k from (ZCm k k).symm]
  obtain ⟨⟨a0, ⟨a1, ⟨⟩⟩⟩, ⟨a2, ⟨a3, ⟨⟩⟩⟩⟩ := x
  kernel_rfl
theorem ZF8 (k : Nat) : Ctr Tryz.prog k 171 (mk ZdS Zg4 ZeH) :=
  ZE (fn := Tryz.f171) (Zh (Za (Zil k) (Za (Zib k) (Za (ZaR k) (Za (ZCQ k) (Za (ZE6 k) Zd)))))) (by kernel_rfl) (by kernel_rfl) (by kernel_rfl) (by kernel_rfl) (ZHk k)
noncomputable abbrev ZMp : Nat × Callee := (171, mk ZdS Zg4 ZeH)
abbrev ZgN : List Kd := [.box [.view (.sl (.int .u8)), .view (.int .i64)], .view (.int .i64), .view (.int .i64)]
abbrev ZlH : Kd := .tup [.view (.sl (.int .i64)), .view (.int .i64)]
noncomputable def ZwZ (k : Nat) := Qo k [ZhZ, ZDi, ZKc, ZMp]
def ZDN : Nat → Ann := fun id => bif Nat.beq id 15 then ⟨[52, 53, 1, 10, 2, 0, 8, 11], [.slot 11 ((Ty.int IntKind.i64))]⟩ else ⟨[], []⟩
abbrev Zt9 := Int × Int × Int × Int × Int × Int × List Int × Int × List Int
abbrev ZjO := Zt9 → Option ((List Int × Int × Unit) × (List Int × Int × Unit) × Unit)
def ZGR : Zt9 → St
  | (v0, v1, v2, v3, v4, v5, v6, v7, v8) => St.mk (ZC [(nat_lit 52, Zp v0), (nat_lit 53, Zp v1), (nat_lit 1, Zp v2), (nat_lit 10, Zp v3), (nat_lit 2, Zp v4), (nat_lit 0, AV.bx (nat_lit 0) (nat_lit 0)), (nat_lit 8, Zp v5), (nat_lit 11, AV.own (nat_lit 8192))]) (ZA [(nat_lit 0, RS.live (Res.box [AV.val (PV.sl (Ty.int IntKind.u8) v6), Zp v7])), (nat_lit 8192, RS.live (Res.arr (Ty.int IntKind.i64) v8 false))])
noncomputable def XR (k : Nat) (L1 : ZjO) : ZjO
  | (v0, v1, v2, v3, v4, v5, v6, v7, v8) => bif decide (v1 < v0) then bif decide ((0 : Int) ≤ v3) then bif v1 == (0 : Int) then (ZeH k ((v6, v7, ()), v5, IntKind.i64.wrap (v2.fdiv ((2 : Int) ^ min v3.toNat (64 : Nat)) - v4), ())).bind fun y => bif y.1.2.1 != (0 : Int) then some (([], y.1.2.1, ()), (y.2.1.1, y.2.1.2.1, ()), ()) else bif decide (v8.length + List.length y.1.1 < (2147483648 : Nat)) then L1 (v0, IntKind.i64.wrap (v1 + (1 : Int)), v2, v3, v4, v5, y.2.1.1, y.2.1.2.1, v8 ++ y.1.1) else none else (ZeH k ((v6, v7, ()), v5, v2.fdiv ((2 : Int) ^ min v3.toNat (64 : Nat)), ())).bind fun y => bif y.1.2.1 != (0 : Int) then some (([], y.1.2.1, ()), (y.2.1.1, y.2.1.2.1, ()), ()) else bif decide (v8.length + List.length y.1.1 < (2147483648 : Nat)) then L1 (v0, IntKind.i64.wrap (v1 + (1 : Int)), v2, v3, v4, v5, y.2.1.1, y.2.1.2.1, v8 ++ y.1.1) else none else none else some ((v8, 0, ()), (v6, v7, ()), ())
noncomputable def Zk9 (k : Nat) : ZjO := Zr (fun L1 => XR k L1) k
noncomputable def ZgL (k : Nat) (n : Nat) (v : Zt9) : Option ((List Int × Int × Unit) × (List Int × Int × Unit) × Unit) :=
  ZB (ZwZ k) ZDN [0] [1, 1, 1, 1, 1, 1, 1, 0, 1, 0] [] (W0 Tryz.f134) (Xq (ZwZ k) Tryz.f134 ZgN ZlH [AV.bx (nat_lit 0) (nat_lit 0)] [[]]) n (ZGR v)
def Zeb (k : Nat) (L1 : ZjO) : (List Int × Int × Unit) × Int × Int × Unit → Option ((List Int × Int × Unit) × (List Int × Int × Unit) × Unit)
  | ((a0, a1, ()), a2, a3, ()) => (Zi2 k (a2, a3, ())).bind fun y => bif !y.1 then some (([], 1, ()), (a0, a1, ()), ()) else (XE k ((a0, a1, ()), 2, ())).bind fun y => bif y.1.2.1 != (0 : Int) then some (([], y.1.2.1, ()), (y.2.1.1, y.2.1.2.1, ()), ()) else bif decide ((1 : Int) < y.1.1) then some (([], 2, ()), (y.2.1.1, y.2.1.2.1, ()), ()) else (XE k ((y.2.1.1, y.2.1.2.1, ()), 4, ())).bind fun y_1 => bif y_1.1.2.1 != (0 : Int) then some (([], y_1.1.2.1, ()), (y_1.2.1.1, y_1.2.1.2.1, ()), ()) else (Kk k (a2, a3, y_1.1.1, ())).bind fun y_2 => bif !y_2.1 then some (([], 2, ()), (y_1.2.1.1, y_1.2.1.2.1, ()), ()) else bif decide ((0 : Int) ≤ y_1.1.1) then L1 (IntKind.i64.wrap ((1 : Int) * (2 : Int) ^ min (Int.toNat y_1.1.1) (64 : Nat)), (0 : Int), a2, y_1.1.1, a3, y.1.1, y_1.2.1.1, y_1.2.1.2.1, []) else none
noncomputable def K9 (k : Nat) := Zeb k (Zk9 k)
theorem ZBX (k : Nat) : ∀ n, ZgL k n = Zr (fun L1 => XR k L1) n :=
  Zn (fun v => by kernel_rfl) (fun n v => by
    show ZgL k (n + 1) v = XR k (ZgL k n) v
    obtain ⟨v0, v1, v2, v3, v4, v5, v6, v7, v8⟩ := v
    kernel_rfl)
theorem ZIv (k : Nat) (x : Kd.dens ZgN) : ZD (ZwZ k) ZDN Tryz.f134 ZgN ZlH x = K9 k x := by
  show _ = Zeb k (Zk9 k) x
  rw [show Zk9 k = ZgL k k from (ZBX k k).symm]
  obtain ⟨⟨a0, ⟨a1, ⟨⟩⟩⟩, ⟨a2, ⟨a3, ⟨⟩⟩⟩⟩ := x
  kernel_rfl
theorem ZFP (k : Nat) : Ctr Tryz.prog k 134 (mk ZgN ZlH K9) :=
  ZE (fn := Tryz.f134) (Zh (Za (ZaR k) (Za (ZvD k) (Za (ZuI k) (Za (ZF8 k) Zd))))) (by kernel_rfl) (by kernel_rfl) (by kernel_rfl) (by kernel_rfl) (ZIv k)
noncomputable abbrev ZKW : Nat × Callee := (134, mk ZgN ZlH K9)
abbrev ZgV : List Kd := [.view K5, .view (.sl (.int .i64)), .view (.sl (.int .i64))]
abbrev Zk0 : Kd := .tup [.view (.sl (.int .i64)), .view (.int .i64)]
noncomputable def ZyO (k : Nat) := Qo k [ZnS, Zw8, ZF5, ZEg, ZC8]
def ZCM : Nat → Ann := fun id => bif Nat.beq id 9 then ⟨[32, 33, 31, 3, 8], [.«show» 8]⟩ else ⟨[], []⟩
abbrev Ztn := Int × Int × List Int × List Int × Int × List Int
abbrev Zle := Ztn → Option ((List Int × Int × Unit) × Unit)
def ZH0 : Ztn → St
  | (v0, v1, v2, v3, v4, v5) => St.mk (ZC [(nat_lit 32, Zp v0), (nat_lit 33, Zp v1), (nat_lit 31, XI v2), (nat_lit 3, AV.bx (nat_lit 8192) (nat_lit 0)), (nat_lit 8, AV.own (nat_lit 8193))]) (ZA [(nat_lit 8192, RS.live (Res.box [XI v3, Zp v4])), (nat_lit 8193, RS.live (Res.arr (Ty.int IntKind.i64) v5 true))])
def YR (k : Nat) (L1 : Zle) : Zle
  | (v0, v1, v2, v3, v4, v5) => bif decide (v1 < v0) then bif decide ((0 : Int) ≤ v1 ∧ v1 < Int.ofNat v2.length) then (Zh7 k ((v3, v4, ()), v5, ())).bind fun y => (Zfb k (IntKind.i64.wrap (v2.getD v1.toNat 0 + y.1), ())).bind fun y_1 => bif y_1.1 then some (([], 12, ()), ()) else bif decide (v5.length + [IntKind.i64.wrap (v2.getD v1.toNat 0 + y.1)].length < (2147483648 : Nat)) then L1 (v0, IntKind.i64.wrap (v1 + (1 : Int)), v2, v3, v4, v5 ++ [IntKind.i64.wrap (v2.getD v1.toNat 0 + y.1)]) else none else none else some ((v5, 0, ()), ())
def ZkX (k : Nat) : Zle := Zr (fun L1 => YR k L1) k
noncomputable def ZfD (k : Nat) (n : Nat) (v : Ztn) : Option ((List Int × Int × Unit) × Unit) :=
  ZB (ZyO k) ZCM [] [1, 1, 1, 0, 1, 0] [] (W0 Tryz.f135) (Xq (ZyO k) Tryz.f135 ZgV Zk0 [] []) n (ZH0 v)
def Zd1 (k : Nat) (L1 : Zle) : (List Int × Int × Unit) × List Int × List Int × Unit → Option ((List Int × Int × Unit) × Unit)
  | ((a0, a1, ()), a2, a3, ()) => (ZiL k ((a0, a1, ()), ())).bind fun y => bif y.1 != (0 : Int) then some (([], 2, ()), ()) else bif Int.ofNat a2.length != Int.ofNat a0.length then some (([], 1, ()), ()) else (Yr k (a2, (), ())).bind fun y => bif y.1 then some (([], 12, ()), ()) else (Yr k (a3, (), ())).bind fun y => bif y.1 then some (([], 12, ()), ()) else (ZhI k (a2, ())).bind fun y => L1 (Int.ofNat a3.length, (0 : Int), a3, a0, a1, y.1)
def Zaa (k : Nat) := Zd1 k (ZkX k)
theorem ZCl (k : Nat) : ∀ n, ZfD k n = Zr (fun L1 => YR k L1) n :=
  Zn (fun v => by kernel_rfl) (fun n v => by
    show ZfD k (n + 1) v = YR k (ZfD k n) v
    obtain ⟨v0, v1, v2, v3, v4, v5⟩ := v
    kernel_rfl)
theorem ZI2 (k : Nat) (x : Kd.dens ZgV) : ZD (ZyO k) ZCM Tryz.f135 ZgV Zk0 x = Zaa k x := by
  show _ = Zd1 k (ZkX k) x
  rw [show ZkX k = ZfD k k from (ZCl k k).symm]
  obtain ⟨⟨a0, ⟨a1, ⟨⟩⟩⟩, ⟨a2, ⟨a3, ⟨⟩⟩⟩⟩ := x
  kernel_rfl
theorem ZF4 (k : Nat) : Ctr Tryz.prog k 135 (mk ZgV Zk0 Zaa) :=
  ZE (fn := Tryz.f135) (Zh (Za (ZeX k) (Za (ZmT k) (Za (ZuY k) (Za (ZuH k) (Za (Zwm k) Zd)))))) (by kernel_rfl) (by kernel_rfl) (by kernel_rfl) (by kernel_rfl) (ZI2 k)
noncomputable abbrev ZKy : Nat × Callee := (135, mk ZgV Zk0 Zaa)
abbrev Zq1 : List Kd := [.box [.ref [.view (.sl (.int .u8)), .view (.int .i64)], .view (.int .i64)], .view (.int .i64), .view (.int .i64), .view (.int .i64)]
abbrev Zxh : Kd := .view (.sl (.int .i64))
noncomputable def ZNc (k : Nat) := Qo k [ZyL, ZDL, ZEw, ZKr, ZJU, ZKW, ZKy]
noncomputable def Zhh (k : Nat) : ((List Int × Int × Unit) × Int × Unit) × Int × Int × Int × Unit → Option (List Int × ((List Int × Int × Unit) × Int × Unit) × Unit)
  | (((a0, a1, ()), a2, ()), a3, a4, a5, ()) => bif a3 == (0 : Int) then (Kh k (((a0, a1, ()), a2, ()), 1, a5, ())).bind fun y => (Zmv k (y.1, a4, ())).bind fun y_1 => some (y_1.1, ((y.2.1.1.1, y.2.1.1.2.1, ()), y.2.1.2.1, ()), ()) else bif a3 == (1 : Int) then (Kh k (((a0, a1, ()), a2, ()), a4, a5, ())).bind fun y => some (y.1, ((y.2.1.1.1, y.2.1.1.2.1, ()), y.2.1.2.1, ()), ()) else bif decide ((31 : Int) < a3) then (Wf k (((a0, a1, ()), a2, ()), decide (IntKind.i64.wrap (a3 - (31 : Int)) ≤ a4), ())).bind fun y => bif y.2.1.2.1 != (0 : Int) then some ([], ((y.2.1.1.1, y.2.1.1.2.1, ()), y.2.1.2.1, ()), ()) else (Kh k (((y.2.1.1.1, y.2.1.1.2.1, ()), y.2.1.2.1, ()), IntKind.i64.wrap (a3 - (31 : Int)), a5, ())).bind fun y => (Zck k (if (4 : Int) < IntKind.i64.wrap (a3 - (31 : Int)) then (4 : Int) else IntKind.i64.wrap (a3 - (31 : Int)), ())).bind fun y_1 => bif decide ((31 : Int) < a3) then (Xz k (((y.2.1.1.1, y.2.1.1.2.1, ()), y.2.1.2.1, ()), 4, ())).bind fun y_2 => (Wf k (((y_2.2.1.1.1, y_2.2.1.1.2.1, ()), y_2.2.1.2.1, ()), y_2.1 == (11 : Int), ())).bind fun y_3 => (Xz k (((y_3.2.1.1.1, y_3.2.1.1.2.1, ()), y_3.2.1.2.1, ()), 5, ())).bind fun y_4 => (Wf k (((y_4.2.1.1.1, y_4.2.1.1.2.1, ()), y_4.2.1.2.1, ()), decide (y_4.1 ≤ (15 : Int)), ())).bind fun y_5 => (Kh k (((y_5.2.1.1.1, y_5.2.1.1.2.1, ()), y_5.2.1.2.1, ()), IntKind.i64.wrap (a3 - (31 : Int)), 12, ())).bind fun y_6 => bif y_6.2.1.2.1 != (0 : Int) then some ([], ((y_6.2.1.1.1, y_6.2.1.1.2.1, ()), y_6.2.1.2.1, ()), ()) else (K9 k ((y_6.2.1.1.1, y_6.2.1.1.2.1, ()), a4, IntKind.i64.wrap (a3 - (31 : Int)), ())).bind fun y_7 => bif y_7.1.2.1 != (0 : Int) then some ([], ((y_7.2.1.1, y_7.2.1.2.1, ()), y_7.1.2.1, ()), ()) else (Zaa k ((y_6.1, y_4.1, ()), y.1, y_7.1.1, ())).bind fun y => some (y.1.1, ((y_7.2.1.1, y_7.2.1.2.1, ()), y.1.2.1, ()), ()) else bif y.2.1.2.1 != (0 : Int) then some ([], ((y.2.1.1.1, y.2.1.1.2.1, ()), y.2.1.2.1, ()), ()) else (K9 k ((y.2.1.1.1, y.2.1.1.2.1, ()), a4, IntKind.i64.wrap (a3 - (31 : Int)), ())).bind fun y_2 => bif y_2.1.2.1 != (0 : Int) then some ([], ((y_2.2.1.1, y_2.2.1.2.1, ()), y_2.1.2.1, ()), ()) else (Zaa k ((y_1.1.1.1, y_1.1.1.2.1, ()), y.1, y_2.1.1, ())).bind fun y => some (y.1.1, ((y_2.2.1.1, y_2.2.1.2.1, ()), y.1.2.1, ()), ()) else (Wf k (((a0, a1, ()), a2, ()), decide (IntKind.i64.wrap (a3 - (8 : Int)) ≤ a4), ())).bind fun y => bif y.2.1.2.1 != (0 : Int) then some ([], ((y.2.1.1.1, y.2.1.1.2.1, ()), y.2.1.2.1, ()), ()) else (Kh k (((y.2.1.1.1, y.2.1.1.2.1, ()), y.2.1.2.1, ()), IntKind.i64.wrap (a3 - (8 : Int)), a5, ())).bind fun y => (Zck k (if (4 : Int) < IntKind.i64.wrap (a3 - (8 : Int)) then (4 : Int) else IntKind.i64.wrap (a3 - (8 : Int)), ())).bind fun y_1 => bif decide ((31 : Int) < a3) then (Xz k (((y.2.1.1.1, y.2.1.1.2.1, ()), y.2.1.2.1, ()), 4, ())).bind fun y_2 => (Wf k (((y_2.2.1.1.1, y_2.2.1.1.2.1, ()), y_2.2.1.2.1, ()), y_2.1 == (11 : Int), ())).bind fun y_3 => (Xz k (((y_3.2.1.1.1, y_3.2.1.1.2.1, ()), y_3.2.1.2.1, ()), 5, ())).bind fun y_4 => (Wf k (((y_4.2.1.1.1, y_4.2.1.1.2.1, ()), y_4.2.1.2.1, ()), decide (y_4.1 ≤ (15 : Int)), ())).bind fun y_5 => (Kh k (((y_5.2.1.1.1, y_5.2.1.1.2.1, ()), y_5.2.1.2.1, ()), IntKind.i64.wrap (a3 - (8 : Int)), 12, ())).bind fun y_6 => bif y_6.2.1.2.1 != (0 : Int) then some ([], ((y_6.2.1.1.1, y_6.2.1.1.2.1, ()), y_6.2.1.2.1, ()), ()) else (K9 k ((y_6.2.1.1.1, y_6.2.1.1.2.1, ()), a4, IntKind.i64.wrap (a3 - (8 : Int)), ())).bind fun y_7 => bif y_7.1.2.1 != (0 : Int) then some ([], ((y_7.2.1.1, y_7.2.1.2.1, ()), y_7.1.2.1, ()), ()) else (Zaa k ((y_6.1, y_4.1, ()), y.1, y_7.1.1, ())).bind fun y => some (y.1.1, ((y_7.2.1.1, y_7.2.1.2.1, ()), y.1.2.1, ()), ()) else bif y.2.1.2.1 != (0 : Int) then some ([], ((y.2.1.1.1, y.2.1.1.2.1, ()), y.2.1.2.1, ()), ()) else (K9 k ((y.2.1.1.1, y.2.1.1.2.1, ()), a4, IntKind.i64.wrap (a3 - (8 : Int)), ())).bind fun y_2 => bif y_2.1.2.1 != (0 : Int) then some ([], ((y_2.2.1.1, y_2.2.1.2.1, ()), y_2.1.2.1, ()), ()) else (Zaa k ((y_1.1.1.1, y_1.1.1.2.1, ()), y.1, y_2.1.1, ())).bind fun y => some (y.1.1, ((y_2.2.1.1, y_2.2.1.2.1, ()), y.1.2.1, ()), ())
noncomputable def ZwG (k : Nat) := Zhh k
theorem ZLB (k : Nat) (x : Kd.dens Zq1) : ZD (ZNc k) nA Tryz.f88 Zq1 Zxh x = ZwG k x := by
  show _ = Zhh k x
  obtain ⟨⟨⟨a0, ⟨a1, ⟨⟩⟩⟩, ⟨a2, ⟨⟩⟩⟩, ⟨a3, ⟨a4, ⟨a5, ⟨⟩⟩⟩⟩⟩ := x
  kernel_rfl
theorem ZGz (k : Nat) : Ctr Tryz.prog k 88 (mk Zq1 Zxh ZwG) :=
  ZE (fn := Tryz.f88) (Zh (Za (Zny k) (Za (Zwu k) (Za (Zul k) (Za (ZEO k) (Za (ZDm k) (Za (ZFP k) (Za (ZF4 k) Zd)))))))) (by kernel_rfl) (by kernel_rfl) (by kernel_rfl) (by kernel_rfl) (ZLB k)
noncomputable abbrev ZMX : Nat × Callee := (88, mk Zq1 Zxh ZwG)
abbrev ZoE : List Kd := [.box [.view (.sl (.int .u8)), .view (.int .i64)], .view (.int .i64), .view (.int .i64)]
abbrev Zr3 : Kd := .tup [.view (.sl (.int .i64)), .view (.int .i64)]
noncomputable def ZC6 (k : Nat) := Qo k [ZJu, ZNr, ZMX, ZJq]
def ZJD : Nat → Ann := fun id => bif Nat.beq id 12 then ⟨[58, 59, 57, 2, 10, 12], [.slot 12 ((Ty.int IntKind.i64))]⟩ else ⟨[], []⟩
abbrev Zw3 := Int × Int × List Int × Int × Int × List Int × Int × List Int
abbrev Ztp := Zw3 → Option ((List Int × Int × Unit) × (List Int × Int × Unit) × Unit)
def ZLb : Zw3 → St
  | (v0, v1, v2, v3, v4, v5, v6, v7) => St.mk (ZC [(nat_lit 58, Zp v0), (nat_lit 59, Zp v1), (nat_lit 57, XI v2), (nat_lit 2, Zp v3), (nat_lit 10, Zp v4), (nat_lit 12, AV.own (nat_lit 8192))]) (ZA [(nat_lit 0, RS.live (Res.box [AV.val (PV.sl (Ty.int IntKind.u8) v5), Zp v6])), (nat_lit 8192, RS.live (Res.arr (Ty.int IntKind.i64) v7 false))])
def Zas (k : Nat) (L1 : Ztp) : Ztp
  | (v0, v1, v2, v3, v4, v5, v6, v7) => bif decide (v1 < v0) then bif decide ((0 : Int) ≤ v1 ∧ v1 < Int.ofNat v2.length) then (Zqa k (v2.getD v1.toNat 0, IntKind.i64.wrap (v3 - v4), ())).bind fun y => bif !y.1 then some (([], 12, ()), (v5, v6, ()), ()) else bif decide ((0 : Int) ≤ v4) then bif decide (v7.length + [IntKind.i64.wrap (v2.getD v1.toNat 0 * (2 : Int) ^ min v4.toNat (64 : Nat))].length < (2147483648 : Nat)) then L1 (v0, IntKind.i64.wrap (v1 + (1 : Int)), v2, v3, v4, v5, v6, v7 ++ [IntKind.i64.wrap (v2.getD v1.toNat 0 * (2 : Int) ^ min v4.toNat (64 : Nat))]) else none else none else none else some ((v7, 0, ()), (v5, v6, ()), ())
def Zst (k : Nat) : Ztp := Zr (fun L1 => Zas k L1) k
noncomputable def Zk2 (k : Nat) (n : Nat) (v : Zw3) : Option ((List Int × Int × Unit) × (List Int × Int × Unit) × Unit) :=
  ZB (ZC6 k) ZJD [0] [1, 1, 1, 1, 1, 1, 1, 1, 0, 1, 0] [] (W0 Tryz.f46) (Xq (ZC6 k) Tryz.f46 ZoE Zr3 [AV.bx (nat_lit 0) (nat_lit 0)] [[]]) n (ZLb v)
noncomputable def ZgS (k : Nat) (L1 : Ztp) : (List Int × Int × Unit) × Int × Int × Unit → Option ((List Int × Int × Unit) × (List Int × Int × Unit) × Unit)
  | ((a0, a1, ()), a2, a3, ()) => (ZpH k (a2, a3, ())).bind fun y => bif !y.1 then some (([], 1, ()), (a0, a1, ()), ()) else (Zwa k (((a0, a1, ()), 0, ()), a3, ())).bind fun y => bif y.2.1.2.1 != (0 : Int) then some (([], y.2.1.2.1, ()), (y.2.1.1.1, y.2.1.1.2.1, ()), ()) else (ZwG k (((y.2.1.1.1, y.2.1.1.2.1, ()), y.2.1.2.1, ()), y.1.1, a2, IntKind.i64.wrap (a3 - y.1.2.1), ())).bind fun y_1 => bif y_1.2.1.2.1 != (0 : Int) then some (([], y_1.2.1.2.1, ()), (y_1.2.1.1.1, y_1.2.1.1.2.1, ()), ()) else L1 (Int.ofNat (List.length y_1.1), (0 : Int), y_1.1, a3, y.1.2.1, y_1.2.1.1.1, y_1.2.1.1.2.1, [])
noncomputable def Zvu (k : Nat) := ZgS k (Zst k)
theorem ZDI (k : Nat) : ∀ n, Zk2 k n = Zr (fun L1 => Zas k L1) n :=
  Zn (fun v => by kernel_rfl) (fun n v => by
    show Zk2 k (n + 1) v = Zas k (Zk2 k n) v
    obtain ⟨v0, v1, v2, v3, v4, v5, v6, v7⟩ := v
    kernel_rfl)
theorem ZJT (k : Nat) (x : Kd.dens ZoE) : ZD (ZC6 k) ZJD Tryz.f46 ZoE Zr3 x = Zvu k x := by
  show _ = ZgS k (Zst k) x
  rw [show Zst k = Zk2 k k from (ZDI k k).symm]
  obtain ⟨⟨a0, ⟨a1, ⟨⟩⟩⟩, ⟨a2, ⟨a3, ⟨⟩⟩⟩⟩ := x
  kernel_rfl
theorem ZG4 (k : Nat) : Ctr Tryz.prog k 46 (mk ZoE Zr3 Zvu) :=
  ZE (fn := Tryz.f46) (Zh (Za (Zz3 k) (Za (ZIM k) (Za (ZGz k) (Za (ZzM k) Zd))))) (by kernel_rfl) (by kernel_rfl) (by kernel_rfl) (by kernel_rfl) (ZJT k)
noncomputable abbrev ZMT : Nat × Callee := (46, mk ZoE Zr3 Zvu)
abbrev Zmz : List Kd := [.box [.view (.sl (.int .u8)), .view (.int .i64)]]
abbrev ZsJ : Kd := .view (.int .i64)
noncomputable def ZDY (k : Nat) := Qo k [ZC4]
def ZJd : Nat → Ann := fun id => bif Nat.beq id 5 then ⟨[4, 3, 0], []⟩ else ⟨[], []⟩
abbrev Zxb := Int × Int × List Int × Int
abbrev ZtT := Zxb → Option (Int × (List Int × Int × Unit) × Unit)
def ZJ8 : Zxb → St
  | (v0, v1, v2, v3) => St.mk (ZC [(nat_lit 4, Zp v0), (nat_lit 3, Zp v1), (nat_lit 0, AV.bx (nat_lit 0) (nat_lit 0))]) (ZA [(nat_lit 0, RS.live (Res.box [AV.val (PV.sl (Ty.int IntKind.u8) v2), Zp v3]))])
def ZaD (k : Nat) (L1 : ZtT) : ZtT
  | (v0, v1, v2, v3) => bif decide (v0 < v1) then (Zod k ((v2, v3, ()), v0, ())).bind fun y => bif y.1 == (1 : Int) then some (2, (y.2.1.1, y.2.1.2.1, ()), ()) else L1 (IntKind.i64.wrap (v0 + (1 : Int)), v1, y.2.1.1, y.2.1.2.1) else some (0, (v2, v1, ()), ())
def ZrL (k : Nat) : ZtT := Zr (fun L1 => ZaD k L1) k
noncomputable def Zki (k : Nat) (n : Nat) (v : Zxb) : Option (Int × (List Int × Int × Unit) × Unit) :=
  ZB (ZDY k) ZJd [0] [1, 1, 1, 0, 1, 0] [] (W0 Tryz.f47) (Xq (ZDY k) Tryz.f47 Zmz ZsJ [AV.bx (nat_lit 0) (nat_lit 0)] [[]]) n (ZJ8 v)
def ZgW (k : Nat) (L1 : ZtT) : (List Int × Int × Unit) × Unit → Option (Int × (List Int × Int × Unit) × Unit)
  | ((a0, a1, ()), ()) => L1 (a1, IntKind.i64.wrap (Int.ofNat (BitVec.ofInt (64 : Nat) (IntKind.i64.wrap (a1 + (7 : Int))) &&& ~~~BitVec.ofInt (64 : Nat) (7 : Int)).toNat), a0, a1)
def Zvm (k : Nat) := ZgW k (ZrL k)
theorem ZEv (k : Nat) : ∀ n, Zki k n = Zr (fun L1 => ZaD k L1) n :=
  Zn (fun v => by kernel_rfl) (fun n v => by
    show Zki k (n + 1) v = ZaD k (Zki k n) v
    obtain ⟨v0, v1, v2, v3⟩ := v
    kernel_rfl)
theorem ZKw (k : Nat) (x : Kd.dens Zmz) : ZD (ZDY k) ZJd Tryz.f47 Zmz ZsJ x = Zvm k x := by
  show _ = ZgW k (ZrL k) x
  rw [show ZrL k = Zki k k from (ZEv k k).symm]
  obtain ⟨⟨a0, ⟨a1, ⟨⟩⟩⟩, ⟨⟩⟩ := x
  kernel_rfl
theorem ZIt (k : Nat) : Ctr Tryz.prog k 47 (mk Zmz ZsJ Zvm) :=
  ZE (fn := Tryz.f47) (Zh (Za (Zsv k) Zd)) (by kernel_rfl) (by kernel_rfl) (by kernel_rfl) (by kernel_rfl) (ZKw k)
noncomputable abbrev ZNh : Nat × Callee := (47, mk Zmz ZsJ Zvm)
abbrev ZfM : List Kd := [.box [.view (.sl (.int .u8)), .ref [.view (.sl (.int .u8)), .view (.int .i64)], .view (.int .i64)], .view (.int .i64), .fn 33]
abbrev ZoB : Kd := .tup []
noncomputable def ZGx (k : Nat) := Qo k [ZAd, ZzR, ZzC, ZJK]
def Zbb (k : Nat) : (List Int × (List Int × Int × Unit) × Int × Unit) × Int × Unit × Unit → Option (Unit × (List Int × (List Int × Int × Unit) × Int × Unit) × Unit)
  | ((a0, (a1, a2, ()), a3, ()), a4, (), ()) => (Kl k ((a1, a2, ()), ())).bind fun y => (QX k ((a0, (y.2.1.1, y.2.1.2.1, ()), a3, ()), a4, ())).bind fun y_1 => bif y_1.2.1.2.2.1 != (0 : Int) then (Qz k ((y_1.2.1.1, (y_1.2.1.2.1.1, y_1.2.1.2.1.2.1, ()), y_1.2.1.2.2.1, ()), true, 16, ())).bind fun y => some ((), (y.2.1.1, (y.2.1.2.1.1, y.2.1.2.1.2.1, ()), y.2.1.2.2.1, ()), ()) else bif decide ((0 : Int) ≤ (0 : Int) ∧ (0 : Int) ≤ IntKind.i64.wrap (Int.tdiv y.1 (8 : Int)) ∧ IntKind.i64.wrap (Int.tdiv y.1 (8 : Int)) ≤ Int.ofNat (List.length y_1.2.1.1)) then (Zpr k (List.drop (0 : Nat) (List.take (IntKind.i64.wrap (Int.tdiv y.1 (8 : Int))).toNat y_1.2.1.1), ())).bind fun y => (Qz k ((y_1.2.1.1, (y_1.2.1.2.1.1, y_1.2.1.2.1.2.1, ()), y_1.2.1.2.2.1, ()), y_1.1 == y.1, 16, ())).bind fun y => some ((), (y.2.1.1, (y.2.1.2.1.1, y.2.1.2.1.2.1, ()), y.2.1.2.2.1, ()), ()) else none
def Zgk (k : Nat) := Zbb k
theorem ZE4 (k : Nat) (x : Kd.dens ZfM) : ZD (ZGx k) nA Tryz.f48 ZfM ZoB x = Zgk k x := by
  show _ = Zbb k x
  obtain ⟨⟨a0, ⟨⟨a1, ⟨a2, ⟨⟩⟩⟩, ⟨a3, ⟨⟩⟩⟩⟩, ⟨a4, ⟨⟨⟩, ⟨⟩⟩⟩⟩ := x
  kernel_rfl
theorem ZBs (k : Nat) : Ctr Tryz.prog k 48 (mk ZfM ZoB Zgk) :=
  ZE (fn := Tryz.f48) (Zh (Za (ZkR k) (Za (ZkT k) (Za (Zks k) (Za (Zzs k) Zd))))) (by kernel_rfl) (by kernel_rfl) (by kernel_rfl) (by kernel_rfl) (ZE4 k)
noncomputable abbrev ZHS : Nat × Callee := (48, mk ZfM ZoB Zgk)
abbrev ZnJ : List Kd := [.view (.sl (.int .i64)), .view (.sl (.int .i64)), .view (.int .i64)]
abbrev Zua : Kd := .tup [.view (.sl (.cx .f64)), .view (.int .i64)]
noncomputable def ZFf (k : Nat) := Qo k [ZJe, ZJo]
def ZJG : Nat → Ann := fun id => bif Nat.beq id 7 then ⟨[36, 37, 35, 1, 2, 8, 9], []⟩ else ⟨[], []⟩
abbrev ZyB := Int × Int × List Int × List Int × Int × List Int × List Int
abbrev Zte := ZyB → Option ((List (Nat × Nat) × Int × Unit) × Unit)
def ZKC : ZyB → St
  | (v0, v1, v2, v3, v4, v5, v6) => St.mk (ZC [(nat_lit 36, Zp v0), (nat_lit 37, Zp v1), (nat_lit 35, XI v2), (nat_lit 1, XI v3), (nat_lit 2, Zp v4), (nat_lit 8, AV.own (nat_lit 8192)), (nat_lit 9, AV.own (nat_lit 8193))]) (ZA [(nat_lit 8192, RS.live (Res.arr (Ty.int IntKind.i64) v5 false)), (nat_lit 8193, RS.live (Res.arr (Ty.int IntKind.i64) v6 false))])
def Kq (k : Nat) (L1 : Zte) : Zte
  | (v0, v1, v2, v3, v4, v5, v6) => bif decide (v1 < v0) then bif decide ((0 : Int) ≤ v1 ∧ v1 < Int.ofNat v2.length) then bif decide ((0 : Int) ≤ v1 ∧ v1 < Int.ofNat v3.length) then bif decide ((if v3.getD v1.toNat 0 < v2.getD v1.toNat 0 then v3.getD v1.toNat 0 else v2.getD v1.toNat 0) < (-67108864 : Int)) then some (([], 12, ()), ()) else bif decide ((67108864 : Int) < if v2.getD v1.toNat 0 < v3.getD v1.toNat 0 then v3.getD v1.toNat 0 else v2.getD v1.toNat 0) then some (([], 12, ()), ()) else bif v4 == (0 : Int) then bif decide ((0 : Int) ≤ v1 ∧ v1 < Int.ofNat v5.length) then bif decide (v1.toNat < v5.length) then bif decide ((0 : Int) ≤ v1 ∧ v1 < Int.ofNat v6.length) then bif decide (v1.toNat < v6.length) then L1 (v0, IntKind.i64.wrap (v1 + (1 : Int)), v2, v3, v4, v5.set v1.toNat (v2.getD v1.toNat 0), v6.set v1.toNat (v3.getD v1.toNat 0)) else none else none else none else none else bif v4 == (8 : Int) then bif decide ((0 : Int) ≤ v1 ∧ v1 < Int.ofNat v5.length) then bif decide (v1.toNat < v5.length) then bif decide ((0 : Int) ≤ v1 ∧ v1 < Int.ofNat v6.length) then bif decide (v1.toNat < v6.length) then L1 (v0, IntKind.i64.wrap (v1 + (1 : Int)), v2, v3, v4, v5.set v1.toNat (v2.getD v1.toNat 0), v6.set v1.toNat (IntKind.i64.wrap (v2.getD v1.toNat 0 - v3.getD v1.toNat 0))) else none else none else none else none else bif v4 == (9 : Int) then bif decide ((0 : Int) ≤ v1 ∧ v1 < Int.ofNat v5.length) then bif decide (v1.toNat < v5.length) then bif decide ((0 : Int) ≤ v1 ∧ v1 < Int.ofNat v6.length) then bif decide (v1.toNat < v6.length) then L1 (v0, IntKind.i64.wrap (v1 + (1 : Int)), v2, v3, v4, v5.set v1.toNat (IntKind.i64.wrap (v2.getD v1.toNat 0 + v3.getD v1.toNat 0)), v6.set v1.toNat (v3.getD v1.toNat 0)) else none else none else none else none else bif v4 == (10 : Int) then bif decide ((0 : Int) ≤ v1 ∧ v1 < Int.ofNat v5.length) then bif decide (v1.toNat < v5.length) then bif decide ((0 : Int) ≤ v1 ∧ v1 < Int.ofNat v6.length) then bif decide (v1.toNat < v6.length) then L1 (v0, IntKind.i64.wrap (v1 + (1 : Int)), v2, v3, v4, v5.set v1.toNat ((IntKind.i64.wrap (IntKind.i64.wrap (Int.ofNat (BitVec.ofInt (64 : Nat) (IntKind.i64.wrap (v2.getD v1.toNat 0 * (2 : Int))) ||| BitVec.ofInt (64 : Nat) (IntKind.i64.wrap (Int.ofNat (BitVec.ofInt (64 : Nat) (v3.getD v1.toNat 0) &&& BitVec.ofInt (64 : Nat) (1 : Int)).toNat))).toNat) + v3.getD v1.toNat 0)).fdiv (2 : Int)), v6.set v1.toNat ((IntKind.i64.wrap (IntKind.i64.wrap (Int.ofNat (BitVec.ofInt (64 : Nat) (IntKind.i64.wrap (v2.getD v1.toNat 0 * (2 : Int))) ||| BitVec.ofInt (64 : Nat) (IntKind.i64.wrap (Int.ofNat (BitVec.ofInt (64 : Nat) (v3.getD v1.toNat 0) &&& BitVec.ofInt (64 : Nat) (1 : Int)).toNat))).toNat) - v3.getD v1.toNat 0)).fdiv (2 : Int))) else none else none else none else none else L1 (v0, IntKind.i64.wrap (v1 + (1 : Int)), v2, v3, v4, v5, v6) else none else none else (Zmt k (v5, v6, ())).bind fun y => some ((y.1.1, y.1.2.1, ()), ())
def Zuh (k : Nat) : Zte := Zr (fun L1 => Kq k L1) k
noncomputable def ZlC (k : Nat) (n : Nat) (v : ZyB) : Option ((List (Nat × Nat) × Int × Unit) × Unit) :=
  ZB (ZFf k) ZJG [] [1, 1, 1, 0, 1, 0] [] (W0 Tryz.f49) (Xq (ZFf k) Tryz.f49 ZnJ Zua [] []) n (ZKC v)
def Zgb (k : Nat) (L1 : Zte) : List Int × List Int × Int × Unit → Option ((List (Nat × Nat) × Int × Unit) × Unit)
  | (a0, a1, a2, ()) => (Zpw k (a2, ())).bind fun y => bif !y.1 then some (([], 1, ()), ()) else bif Int.ofNat a0.length != Int.ofNat a1.length then some (([], 1, ()), ()) else bif decide ((8192 : Int) < Int.ofNat a0.length) then some (([], 14, ()), ()) else bif decide ((0 : Int) ≤ Int.ofNat a0.length ∧ Int.ofNat a0.length ≤ Int.ofNat a0.length ∧ Int.ofNat a0.length < (4294967296 : Int)) then bif decide ((0 : Int) ≤ Int.ofNat a0.length ∧ Int.ofNat a0.length ≤ Int.ofNat a0.length ∧ Int.ofNat a0.length < (4294967296 : Int)) then L1 (Int.ofNat a0.length, (0 : Int), a0, a1, a2, List.replicate (Int.ofNat a0.length).toNat (0 : Int), List.replicate (Int.ofNat a0.length).toNat (0 : Int)) else none else none
def ZnN (k : Nat) := Zgb k (Zuh k)
theorem ZCU (k : Nat) : ∀ n, ZlC k n = Zr (fun L1 => Kq k L1) n :=
  Zn (fun v => by kernel_rfl) (fun n v => by
    show ZlC k (n + 1) v = Kq k (ZlC k n) v
    obtain ⟨v0, v1, v2, v3, v4, v5, v6⟩ := v
    kernel_rfl)
theorem ZLC (k : Nat) (x : Kd.dens ZnJ) : ZD (ZFf k) ZJG Tryz.f49 ZnJ Zua x = ZnN k x := by
  show _ = Zgb k (Zuh k) x
  rw [show Zuh k = ZlC k k from (ZCU k k).symm]
  obtain ⟨a0, ⟨a1, ⟨a2, ⟨⟩⟩⟩⟩ := x
  kernel_rfl
theorem ZIw (k : Nat) : Ctr Tryz.prog k 49 (mk ZnJ Zua ZnN) :=
  ZE (fn := Tryz.f49) (Zh (Za (Zz4 k) (Za (Zzw k) Zd))) (by kernel_rfl) (by kernel_rfl) (by kernel_rfl) (by kernel_rfl) (ZLC k)
noncomputable abbrev ZMO : Nat × Callee := (49, mk ZnJ Zua ZnN)
abbrev Zrv : List Kd := [.view (.sl (.cx .f64))]
abbrev Zy1 : Kd := .tup [.view (.sl (.int .i64)), .view (.sl (.int .i64)), .view (.int .i64)]
noncomputable def ZNE (k : Nat) := Qo k [ZEj]
def Zg7 (k : Nat) : List (Nat × Nat) × Unit → Option ((List Int × List Int × Int × Unit) × Unit)
  | (a0, ()) => (ZlO k (a0, 0, ())).bind fun y => some ((y.1.1, y.1.2.1, y.1.2.2.1, ()), ())
def ZmY (k : Nat) := Zg7 k
theorem ZL4 (k : Nat) (x : Kd.dens Zrv) : ZD (ZNE k) nA Tryz.f50 Zrv Zy1 x = ZmY k x := by
  show _ = Zg7 k x
  obtain ⟨a0, ⟨⟩⟩ := x
  kernel_rfl
theorem ZG3 (k : Nat) : Ctr Tryz.prog k 50 (mk Zrv Zy1 ZmY) :=
  ZE (fn := Tryz.f50) (Zh (Za (Zsc k) Zd)) (by kernel_rfl) (by kernel_rfl) (by kernel_rfl) (by kernel_rfl) (ZL4 k)
noncomputable abbrev ZNL : Nat × Callee := (50, mk Zrv Zy1 ZmY)
abbrev ZnI : List Kd := [.view Zff, .view (.sl (.int .u8))]
abbrev Zrx : Kd := .tup [.view frameT, .view (.int .i64), .view (.int .i64)]
noncomputable def ZEE (k : Nat) := Qo k [ZJf, ZJA, ZJE, ZM9, ZNy, ZMT, ZNh, ZHS, ZMO, ZNL, ZAd]
def ZJC : Nat → Ann := fun id => bif Nat.beq id 10 then ⟨[55, 56, 54, 8, 11, 4, 12, 2, 9], [.cell 12 1 ((Ty.int IntKind.i64).sl)]⟩ else ⟨[], []⟩
abbrev ZxW := Int × Int × List Int × Int × Int × List Int × Int × List Int × Int × Int × Int × List (List Int) × Int × Int × Int
abbrev ZtC := ZxW → Option (((Int × List (List Int) × Unit) × Int × Int × Unit) × Unit)
def ZJX : ZxW → St
  | (v0, v1, v2, v3, v4, v5, v6, v7, v8, v9, v10, v11, v12, v13, v14) => St.mk (ZC [(nat_lit 55, Zp v0), (nat_lit 56, Zp v1), (nat_lit 54, XI v2), (nat_lit 8, AV.bx (nat_lit 8192) (nat_lit 0)), (nat_lit 11, Zp v3), (nat_lit 4, AV.bx (nat_lit 8194) (nat_lit 0)), (nat_lit 12, AV.bx (nat_lit 8195) (nat_lit 0)), (nat_lit 2, AV.bx (nat_lit 8197) (nat_lit 0)), (nat_lit 9, Zp v4)]) (ZA [(nat_lit 8192, RS.live (Res.box [AV.val (PV.sl (Ty.int IntKind.u8) v5), AV.bx (nat_lit 8193) (nat_lit 0), Zp v6])), (nat_lit 8193, RS.live (Res.box [AV.val (PV.sl (Ty.int IntKind.u8) v7), Zp v8])), (nat_lit 8194, RS.live (Res.box [Zp v9, AV.val (PV.v (Value.slice none (0 : Nat) (0 : Nat)))])), (nat_lit 8195, RS.live (Res.box [Zp v10, AV.own (nat_lit 8196)])), (nat_lit 8196, RS.live (Res.arr (Ty.int IntKind.i64).sl v11 false)), (nat_lit 8197, RS.live (Res.box [Zp v12, Zp v13, Zp v14]))])
noncomputable def ZaW (k : Nat) (L1 : ZtC) : ZtC
  | (v0, v1, v2, v3, v4, v5, v6, v7, v8, v9, v10, v11, v12, v13, v14) => bif decide (v1 < v0) then bif decide ((0 : Int) ≤ v1 ∧ v1 < Int.ofNat v2.length) then (Zvu k ((v7, v8, ()), v3, v2.getD v1.toNat 0, ())).bind fun y => bif y.1.2.1 != (0 : Int) then some ((((0 : Int), [], ()), 0, y.1.2.1, ()), ()) else bif decide (v11.length + [y.1.1].length < (2147483648 : Nat)) then L1 (v0, IntKind.i64.wrap (v1 + (1 : Int)), v2, v3, v4, v5, v6, y.2.1.1, y.2.1.2.1, v9, v10, v11 ++ [y.1.1], v12, v13, v14) else none else none else (Zvm k ((v7, v8, ()), ())).bind fun y => (Zgk k ((v5, (y.2.1.1, y.2.1.2.1, ()), y.1, ()), 16, (), ())).bind fun y => bif y.2.1.2.2.1 != (0 : Int) then some ((((0 : Int), [], ()), 0, y.2.1.2.2.1, ()), ()) else bif decide ((1 : Int) < v12) then bif v4 == (1 : Int) then bif decide ((0 : Int) ≤ (0 : Int) ∧ (0 : Int) < Int.ofNat v11.length) then bif decide ((0 : Nat) < v11.length) then bif decide ((0 : Int) ≤ (1 : Int) ∧ (1 : Int) < Int.ofNat v11.length) then bif decide ((1 : Nat) < v11.length) then (ZnN k (v11.getD (0 : Nat) [], v11.getD (1 : Nat) [], 0, ())).bind fun y_1 => bif y_1.1.2.1 != (0 : Int) then some ((((0 : Int), [], ()), 0, y_1.1.2.1, ()), ()) else (ZmY k (y_1.1.1, ())).bind fun y_2 => bif y_2.1.2.2.1 != (0 : Int) then some ((((0 : Int), [], ()), 0, y_2.1.2.2.1, ()), ()) else (Zet k ((v12, v13, v14, ()), (v10, [y_2.1.1, y_2.1.2.1], ()), ())).bind fun y_3 => bif y_3.1 != (0 : Int) then some ((((0 : Int), [], ()), 0, y_3.1, ()), ()) else (Kl k ((y.2.1.2.1.1, y.2.1.2.1.2.1, ()), ())).bind fun y => some (((v10, [y_2.1.1, y_2.1.2.1], ()), IntKind.i64.wrap (Int.tdiv y.1 (8 : Int)), 0, ()), ()) else none else none else none else none else bif decide ((0 : Int) ≤ (0 : Int) ∧ (0 : Int) < Int.ofNat v11.length) then bif decide ((0 : Nat) < v11.length) then bif decide ((0 : Int) ≤ (1 : Int) ∧ (1 : Int) < Int.ofNat v11.length) then bif decide ((1 : Nat) < v11.length) then (ZnN k (v11.getD (0 : Nat) [], v11.getD (1 : Nat) [], v4, ())).bind fun y_1 => bif y_1.1.2.1 != (0 : Int) then some ((((0 : Int), [], ()), 0, y_1.1.2.1, ()), ()) else (ZmY k (y_1.1.1, ())).bind fun y_2 => bif y_2.1.2.2.1 != (0 : Int) then some ((((0 : Int), [], ()), 0, y_2.1.2.2.1, ()), ()) else (Zet k ((v12, v13, v14, ()), (v10, [y_2.1.1, y_2.1.2.1], ()), ())).bind fun y_3 => bif y_3.1 != (0 : Int) then some ((((0 : Int), [], ()), 0, y_3.1, ()), ()) else (Kl k ((y.2.1.2.1.1, y.2.1.2.1.2.1, ()), ())).bind fun y => some (((v10, [y_2.1.1, y_2.1.2.1], ()), IntKind.i64.wrap (Int.tdiv y.1 (8 : Int)), 0, ()), ()) else none else none else none else none else (Zet k ((v12, v13, v14, ()), (v10, v11, ()), ())).bind fun y_1 => bif y_1.1 != (0 : Int) then some ((((0 : Int), [], ()), 0, y_1.1, ()), ()) else (Kl k ((y.2.1.2.1.1, y.2.1.2.1.2.1, ()), ())).bind fun y => some (((v10, v11, ()), IntKind.i64.wrap (Int.tdiv y.1 (8 : Int)), 0, ()), ())
noncomputable def ZqS (k : Nat) : ZtC := Zr (fun L1 => ZaW k L1) k
noncomputable def ZkA (k : Nat) (n : Nat) (v : ZxW) : Option (((Int × List (List Int) × Unit) × Int × Int × Unit) × Unit) :=
  ZB (ZEE k) ZJC [] [1, 1, 1, 1, 1, 1, 0, 1, 0] [] (W0 Tryz.f18) (Xq (ZEE k) Tryz.f18 ZnI Zrx [] []) n (ZJX v)
def Zg8 (k : Nat) (L1 : ZtC) : (Int × Int × Int × Unit) × List Int × Unit → Option (((Int × List (List Int) × Unit) × Int × Int × Unit) × Unit)
  | ((a0, a1, a2, ()), a3, ()) => (Zql k ((a0, a1, a2, ()), ())).bind fun y => bif y.1 != (0 : Int) then some ((((0 : Int), [], ()), 0, y.1, ()), ()) else (ZvN k (a3, ())).bind fun y => (ZqD k ((a3, (y.1.1, y.1.2.1, ()), 0, ()), (a0, a1, a2, ()), ())).bind fun y => bif y.2.1.2.2.1 != (0 : Int) then some ((((0 : Int), [], ()), 0, y.2.1.2.2.1, ()), ()) else (Zp7 k ((a0, a1, a2, ()), y.1.1, ())).bind fun y_1 => L1 (Int.ofNat (List.length y_1.1), (0 : Int), y_1.1, y.1.2.2.1, y.1.1, y.2.1.1, y.2.1.2.2.1, y.2.1.2.1.1, y.2.1.2.1.2.1, (0 : Int), y.1.2.1, [], a0, a1, a2)
noncomputable def ZvU (k : Nat) := Zg8 k (ZqS k)
theorem ZEo (k : Nat) : ∀ n, ZkA k n = Zr (fun L1 => ZaW k L1) n :=
  Zn (fun v => by kernel_rfl) (fun n v => by
    show ZkA k (n + 1) v = ZaW k (ZkA k n) v
    obtain ⟨v0, v1, v2, v3, v4, v5, v6, v7, v8, v9, v10, v11, v12, v13, v14⟩ := v
    kernel_rfl)
theorem ZLA (k : Nat) (x : Kd.dens ZnI) : ZD (ZEE k) ZJC Tryz.f18 ZnI Zrx x = ZvU k x := by
  show _ = Zg8 k (ZqS k) x
  rw [show ZqS k = ZkA k k from (ZEo k k).symm]
  obtain ⟨⟨a0, ⟨a1, ⟨a2, ⟨⟩⟩⟩⟩, ⟨a3, ⟨⟩⟩⟩ := x
  kernel_rfl
theorem ZIU (k : Nat) : Ctr Tryz.prog k 18 (mk ZnI Zrx ZvU) :=
  ZE (fn := Tryz.f18) (Zh (Za (Zzl k) (Za (Zy9 k) (Za (ZzF k) (Za (ZIc k) (Za (ZIB k) (Za (ZG4 k) (Za (ZIt k) (Za (ZBs k) (Za (ZIw k) (Za (ZG3 k) (Za (ZkR k) Zd)))))))))))) (by kernel_rfl) (by kernel_rfl) (by kernel_rfl) (by kernel_rfl) (ZLA k)
noncomputable abbrev ZNs : Nat × Callee := (18, mk ZnI Zrx ZvU)
abbrev Zty : List Kd := []
abbrev Zw4 : Kd := .view .bool
noncomputable def ZNp (k : Nat) := Qo k [ZJc, ZNs]
noncomputable def ZgD (k : Nat) : Unit → Option (Bool × Unit)
  | () => (Zf9 k (((1 : Int), (8 : Int), (44100 : Int), ()), ((0 : Int), [[(5 : Int), (5 : Int), (5 : Int)]], ()), ())).bind fun y => bif y.1.2.1 != (0 : Int) then some (false, ()) else bif Int.ofNat (List.length y.1.1) != (11 : Int) then some (false, ()) else bif decide ((0 : Int) ≤ (0 : Int) ∧ (0 : Int) ≤ (6 : Int) ∧ (6 : Int) ≤ Int.ofNat (List.length y.1.1)) then bif !(ByteArray.mk (List.map (fun n => UInt8.ofNat n.toNat) (List.drop (0 : Nat) (List.take (6 : Nat) y.1.1))).toArray).toList == (ByteArray.mk #[255, 248, 96, 0, 0, 2]).toList then some (false, ()) else (ZvU k (((1 : Int), (8 : Int), (44100 : Int), ()), y.1.1, ())).bind fun y => bif y.1.2.2.1 == (0 : Int) then bif y.1.2.1 == (11 : Int) then bif Int.ofNat (List.length y.1.1.2.1) == (1 : Int) then bif decide ((0 : Int) ≤ (0 : Int) ∧ (0 : Int) < Int.ofNat (List.length y.1.1.2.1)) then bif Int.ofNat (List.length (List.getD y.1.1.2.1 (0 : Nat) [])) == (3 : Int) then bif decide ((0 : Int) ≤ (0 : Int) ∧ (0 : Int) < Int.ofNat (List.length y.1.1.2.1)) then bif decide ((0 : Int) ≤ (2 : Int) ∧ (2 : Int) < Int.ofNat (List.length (List.getD y.1.1.2.1 (0 : Nat) []))) then some (List.getD (List.getD y.1.1.2.1 (0 : Nat) []) (2 : Nat) 0 == (5 : Int), ()) else none else none else some (false, ()) else none else some (false, ()) else some (false, ()) else some (false, ()) else none
noncomputable def Zqv (k : Nat) := ZgD k
theorem ZLW (k : Nat) (x : Kd.dens Zty) : ZD (ZNp k) nA Tryz.f10 Zty Zw4 x = Zqv k x := by
  show _ = ZgD k x
  obtain ⟨⟩ := x
  kernel_rfl
theorem ZH5 (k : Nat) : Ctr Tryz.prog k 10 (mk Zty Zw4 Zqv) :=
  ZE (fn := Tryz.f10) (Zh (Za (ZzW k) (Za (ZIU k) Zd))) (by kernel_rfl) (by kernel_rfl) (by kernel_rfl) (by kernel_rfl) (ZLW k)
noncomputable abbrev ZNG : Nat × Callee := (10, mk Zty Zw4 Zqv)
abbrev ZlT : List Kd := [.view frameT]
abbrev ZtQ : Kd := .view frameT
noncomputable def ZFA (k : Nat) := Qo k []
def ZJy : Nat → Ann := fun id => bif Nat.beq id 3 then ⟨[4, 1, 3, 2], [.cell 3 1 ((Ty.int IntKind.i64).sl)]⟩ else ⟨[], []⟩
abbrev Zyf := Int × Int × List (List Int) × Int × List (List Int) × Int
abbrev ZrZ := Zyf → Option ((Int × List (List Int) × Unit) × Unit)
def ZKz : Zyf → St
  | (v0, v1, v2, v3, v4, v5) => St.mk (ZC [(nat_lit 4, Zp v0), (nat_lit 1, AV.bx (nat_lit 8192) (nat_lit 0)), (nat_lit 3, AV.bx (nat_lit 8193) (nat_lit 0)), (nat_lit 2, AV.bx (nat_lit 8195) (nat_lit 0))]) (ZA [(nat_lit 8192, RS.live (Res.box [Zp v1, AV.val (PV.sl (Ty.int IntKind.i64).sl v2)])), (nat_lit 8193, RS.live (Res.box [Zp v3, AV.own (nat_lit 8194)])), (nat_lit 8194, RS.live (Res.arr (Ty.int IntKind.i64).sl v4 false)), (nat_lit 8195, RS.live (Res.box [Zp v5, AV.val (PV.v (Value.slice none (0 : Nat) (0 : Nat)))]))])
def ZaG (k : Nat) (L1 : ZrZ) : ZrZ
  | (v0, v1, v2, v3, v4, v5) => bif decide (v0 < Int.ofNat v2.length) then bif decide ((0 : Int) ≤ v0 ∧ v0 < Int.ofNat v2.length) then bif decide ((0 : Int) ≤ (0 : Int) ∧ (0 : Int) ≤ IntKind.i64.wrap (Int.ofNat (List.length (v2.getD v0.toNat [])) + (2 : Int)) ∧ IntKind.i64.wrap (Int.ofNat (List.length (v2.getD v0.toNat [])) + (2 : Int)) < (4294967296 : Int)) then bif decide ((0 : Int) ≤ v0 ∧ v0 < Int.ofNat v2.length) then bif decide ((0 : Nat) + List.length (v2.getD v0.toNat []) < (2147483648 : Nat)) then bif decide (v4.length + [List.replicate (0 : Nat) (0 : Int) ++ v2.getD v0.toNat []].length < (2147483648 : Nat)) then L1 (IntKind.i64.wrap (v0 + (1 : Int)), v1, v2, v3, v4 ++ [List.replicate (0 : Nat) (0 : Int) ++ v2.getD v0.toNat []], v5) else none else none else none else none else none else some ((v3, v4, ()), ())
def Ztf (k : Nat) : ZrZ := Zr (fun L1 => ZaG k L1) k
noncomputable def Zly (k : Nat) (n : Nat) (v : Zyf) : Option ((Int × List (List Int) × Unit) × Unit) :=
  ZB (ZFA k) ZJy [] [1, 1, 0, 1, 0] [] (W0 Tryz.f15) (Xq (ZFA k) Tryz.f15 ZlT ZtQ [] []) n (ZKz v)
def Zgs (k : Nat) (L1 : ZrZ) : (Int × List (List Int) × Unit) × Unit → Option ((Int × List (List Int) × Unit) × Unit)
  | ((a0, a1, ()), ()) => L1 ((0 : Int), a0, a1, a0, [], (0 : Int))
def Zjf (k : Nat) := Zgs k (Ztf k)
theorem ZEA (k : Nat) : ∀ n, Zly k n = Zr (fun L1 => ZaG k L1) n :=
  Zn (fun v => by kernel_rfl) (fun n v => by
    show Zly k (n + 1) v = ZaG k (Zly k n) v
    obtain ⟨v0, v1, v2, v3, v4, v5⟩ := v
    kernel_rfl)
theorem ZKL (k : Nat) (x : Kd.dens ZlT) : ZD (ZFA k) ZJy Tryz.f15 ZlT ZtQ x = Zjf k x := by
  show _ = Zgs k (Ztf k) x
  rw [show Ztf k = Zly k k from (ZEA k k).symm]
  obtain ⟨⟨a0, ⟨a1, ⟨⟩⟩⟩, ⟨⟩⟩ := x
  kernel_rfl
theorem ZHs (k : Nat) : Ctr Tryz.prog k 15 (mk ZlT ZtQ Zjf) :=
  ZE (fn := Tryz.f15) (Zh Zd) (by kernel_rfl) (by kernel_rfl) (by kernel_rfl) (by kernel_rfl) (ZKL k)
end Go.Sh
