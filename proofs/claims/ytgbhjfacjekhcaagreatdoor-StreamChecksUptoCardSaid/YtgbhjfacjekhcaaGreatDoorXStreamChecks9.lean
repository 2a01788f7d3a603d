/-
  What the row needs, part 9.
-/
import Derived.Test.YtgbhjfacjekhcaaGreatDoorXStreamChecks8
import Derived.Test.YtgbhjfacjekhcaaGreatDoorProg
set_option linter.unusedSimpArgs false
set_option linter.unusedVariables false
set_option linter.unusedSectionVars false
namespace Go.Sh
open Go Go.Proofs
def deBruijnT:List Int:=[0,1,56,2,57,49,28,3,61,58,42,50,38,29,17,4,62,47,59,36,45,43,51,22,53,39,33,30,24,18,12,5,63,55,48,27,60,41,37,16,46,35,44,21,52,32,23,11,54,26,40,15,34,20,31,10,25,14,19,9,13,8,7,6]
instance frameGl:Gl:=⟨fun g => bif Nat.beq g 4 then (.u8,deBruijnT) else (.u8,[])⟩
abbrev Zgn:Ty:=.pair (.int .i64) (.pair (.int .i64) (.pair (.int .i64) .unit))
abbrev Zf4:Ty:=.pair (.int .i64) (.pair (.sl (.sl (.int .i64))) .unit)
abbrev Zdk:Ty:=.pair (.sl (.int .i64)) (.pair (.int .i64) .unit)
abbrev Zrv:Ty:=.pair (.int .i64) (.pair (.int .i64) (.pair (.int .i64) (.pair (.sl (.int .i64)) (.pair Zdk (.pair (.sl (.int .i64)) (.pair (.int .i64) .unit))))))
abbrev ZF3:Ty:=.pair (.int .i64) (.pair (.int .i64) (.pair (.int .i64) .unit))
abbrev ZM1:Ty:=.pair (.int .i64) (.pair (.int .i64) (.pair (.sl ZF3) (.pair (.int .i64) .unit)))
theorem Zdo:Tryz.prog.follows .mixedOrders = true:=by kernel_rfl
abbrev Zg (v:Int):AV:=AV.val (PV.v (Value.int IntKind.i64 v))
abbrev WK (v:List Int):AV:=AV.val (PV.sl (Ty.int IntKind.i64) v)
abbrev avB (v:Bool):AV:=AV.val (PV.v (Value.bool v))
noncomputable abbrev Qh (f:Func):Code:=f.body.getD .skip
noncomputable def Qq (k:Nat) (l:List (Nat × Callee)) (live:Nat → List Nat:=fun _ => []):Ctx:={ P:=Tryz.prog,Φ:=phi l,k:=k,live:=live }
def nA:Nat → Ann:=fun _ => ⟨[],[]⟩
noncomputable abbrev Zt (C:Ctx) (A:Nat → Ann) (fn:Func) (pk:List Kd) (rk:Kd) (x:Kd.dens pk):=Zxs C A fn.ntmps (Qh fn) fn.results.toList pk rk (QC pk x) (ZB4 pk rk)
noncomputable abbrev Qi (C:Ctx) (fn:Func) (pk:List Kd) (rk:Kd) (a:List AV) (b:List (List Nat)):=XN C fn.results.toList pk a b rk (ZB4 pk rk)
noncomputable def ZN0 (fn:Func):Bool:=fn.body.isSome && (!(fn.name == "runtime.NumGoroutine") && WR Tryz.prog fn.ntmps (Qh fn))
abbrev Qe (l:List AV):RS:=RS.live (Res.box l)
abbrev rsA (v:List Int) (b:Bool):RS:=RS.live (Res.arr (Ty.int IntKind.i64) v b)
theorem Zu {l:List (Nat × Callee)} {live:Nat → List Nat} {A:Nat → Ann} {f k:Nat} {fn:Func} {pk:List Kd} {rk:Kd} {F:Nat → Kd.dens pk → Option (Ans pk rk)} (hC:∀ f cal,phi l f = some cal → Ctr Tryz.prog k f cal)
  (hf:Tryz.prog.funcs[f]? = some fn) (hq:ZN0 fn = true)
  (h:∀ x,Zt (Qq k l live) A fn pk rk x = F k x):Ctr Tryz.prog k f (mk pk rk F) :=
 have hq1:(fn.body.isSome && (!(fn.name == "runtime.NumGoroutine") && WR Tryz.prog fn.ntmps (Qh fn))) = true:=hq
 have hq2:=Bool.and_eq_true_iff.1 hq1
 have hq3:=Bool.and_eq_true_iff.1 hq2.2
 have hb:fn.body = some (Qh fn):=by
  cases e:fn.body with
  | none => rw [e] at hq2; exact absurd hq2.1 (by simp)
  | some c => show some c = some (fn.body.getD .skip); rw [e]; rfl
 ZJw (C:=Qq k l live) hC Zdo hf hb (by simpa using hq3.1) hq3.2 (fun x y e => (h x).trans e)
abbrev K6:List Kd:=[.view Zgn]
abbrev Zf:Kd:=.view (.int .i64)
noncomputable def ZK (k:Nat):=Qq k []
def ZdQ (k:Nat):(Int × Int × Int × Unit) × Unit → Option (Int × Unit)
 | ((a0,a1,a2,()),()) => bif decide (a0 < 1) then some (2,()) else bif decide ((2:Int) < a0) then some (2,()) else bif decide (a1 < 4) then some (2,()) else bif decide ((24:Int) < a1) then some (2,()) else bif decide (a2 < 1) then some (2,()) else bif decide ((655350:Int) < a2) then some (2,()) else some (0,())
def ZgA (k:Nat):=ZdQ k
theorem ZKT (k:Nat) (x:Kd.dens K6):Zt (ZK k) nA Tryz.f36 K6 Zf x = ZgA k x:=by
 show _ = ZdQ k x
 obtain ⟨⟨a0,⟨a1,⟨a2,⟨⟩⟩⟩⟩,⟨⟩⟩:=x
 kernel_rfl
theorem Zhi (k:Nat):Ctr Tryz.prog k 36 (mk K6 Zf ZgA) :=
 Zu (fn:=Tryz.f36) (Zd Zb) (by kernel_rfl) (by kernel_rfl) (ZKT k)
noncomputable abbrev ZxK:Nat × Callee:=(36,mk K6 Zf ZgA)
abbrev Xk:List Kd:=[.view Zgn,.view Zf4]
noncomputable def ZkN (k:Nat):=Qq k [ZxK]
def Zyg:Nat → Ann:=fun id => bif Nat.beq id 17 then ⟨[68,69,67,2,63,62,61],[]⟩ else bif Nat.beq id 14 then ⟨[62,63,61,2],[]⟩ else bif Nat.beq id 8 then ⟨[42,43,41,6,3,2],[]⟩ else ⟨[],[]⟩
abbrev Zwv:=Int × Int × List Int × Int × Int × List (List Int) × Int × Int × Int
abbrev ZqB:=Zwv → Option (Int × Unit)
abbrev Zwu:=Int × Int × List (List Int) × Int × Int × Int
abbrev ZfZ:=Zwu → Option (Int × Unit)
abbrev Zwt:=Int × Int × List (List Int) × Int × Int × List (List Int) × Int × Int × Int
abbrev ZqA:=Zwt → Option (Int × Unit)
def ZLN:Zwv → St
 | (v0,v1,v2,v3,v4,v5,v6,v7,v8) => St.mk (Zo [(68,Zg v0),(69,Zg v1),(67,WK v2),(2,AV.bx 8192 0),(63,Zg v3),(62,Zg v4),(61,AV.val (PV.sl (Ty.int IntKind.i64).sl v5))]) (Zm [(8192,Qe [Zg v6,Zg v7,Zg v8])])
def ZkP (k:Nat) (L2:ZfZ) (L3:ZqB):ZqB
 | (v0,v1,v2,v3,v4,v5,v6,v7,v8) => bif decide (v1 < v0) then bif decide (0 ≤ v1 ∧ v1 < Int.ofNat v2.length) then bif decide (0 ≤ IntKind.i64.wrap (v7 - 1)) then bif Int.fdiv (v2.getD v1.toNat 0) ((2:Int) ^ min (IntKind.i64.wrap (v7 - 1)).toNat 64) != (0:Int) then bif Int.fdiv (v2.getD v1.toNat 0) ((2:Int) ^ min (IntKind.i64.wrap (v7 - 1)).toNat 64) != (-1:Int) then some (12,()) else L3 (v0,IntKind.i64.wrap (v1 + 1),v2,v3,v4,v5,v6,v7,v8) else L3 (v0,IntKind.i64.wrap (v1 + 1),v2,v3,v4,v5,v6,v7,v8) else none else none else L2 (v4,IntKind.i64.wrap (v3 + 1),v5,v6,v7,v8)
def Zws (k:Nat) (L2:ZfZ):ZqB:=Zh (fun L3 => ZkP k L2 L3) k
noncomputable def ZhW (k:Nat) (n2:Nat) (n:Nat) (v:Zwv):Option (Int × Unit) :=
 Zi (ZkN k) Zyg [] [1,1,1,1,1,0,1,0,0,1,1,0,0,1,1,0] [n2] (Qh Tryz.f64) (Qi (ZkN k) Tryz.f64 Xk Zf [] []) n (ZLN v)
def ZLM:Zwu → St
 | (v0,v1,v2,v3,v4,v5) => St.mk (Zo [(62,Zg v0),(63,Zg v1),(61,AV.val (PV.sl (Ty.int IntKind.i64).sl v2)),(2,AV.bx 8192 0)]) (Zm [(8192,Qe [Zg v3,Zg v4,Zg v5])])
def ZsN (k:Nat) (L3:ZqB) (L2:ZfZ):ZfZ
 | (v0,v1,v2,v3,v4,v5) => bif decide (v1 < v0) then bif decide (0 ≤ v1 ∧ v1 < Int.ofNat v2.length) then L3 (Int.ofNat (List.length (v2.getD v1.toNat [])),(0:Int),v2.getD v1.toNat [],v1,v0,v2,v3,v4,v5) else none else some (0,())
def Zwr (k:Nat):ZfZ:=Zh (fun L2 => ZsN k (Zws k L2) L2) k
noncomputable def Ze0 (k:Nat) (n:Nat) (v:Zwu) :=
 Zi (ZkN k) Zyg [] [1,1,1,1,1,0,1,0] [] (Qh Tryz.f64) (Qi (ZkN k) Tryz.f64 Xk Zf [] []) n (ZLM v)
def ZLL:Zwt → St
 | (v0,v1,v2,v3,v4,v5,v6,v7,v8) => St.mk (Zo [(42,Zg v0),(43,Zg v1),(41,AV.val (PV.sl (Ty.int IntKind.i64).sl v2)),(6,Zg v3),(3,AV.bx 8192 0),(2,AV.bx 8193 0)]) (Zm [(8192,Qe [Zg v4,AV.val (PV.sl (Ty.int IntKind.i64).sl v5)]),(8193,Qe [Zg v6,Zg v7,Zg v8])])
def ZsM (k:Nat) (L2:ZfZ) (L1:ZqA):ZqA
 | (v0,v1,v2,v3,v4,v5,v6,v7,v8) => bif decide (v1 < v0) then bif decide (0 ≤ v1 ∧ v1 < Int.ofNat v2.length) then bif Int.ofNat (List.length (v2.getD v1.toNat [])) != v3 then some (1,()) else bif decide (v3 < 1) then some (1,()) else bif decide ((512:Int) < v3) then some (1,()) else L1 (v0,IntKind.i64.wrap (v1 + 1),v2,v3,v4,v5,v6,v7,v8) else none else L2 (Int.ofNat v5.length,(0:Int),v5,v6,v7,v8)
def Zwq (k:Nat):ZqA:=Zh (fun L1 => ZsM k (Zwr k) L1) k
noncomputable def Zyh (k:Nat) (n:Nat) (v:Zwt) :=
 Zi (ZkN k) Zyg [] [1,1,1,1,0,1,0] [] (Qh Tryz.f64) (Qi (ZkN k) Tryz.f64 Xk Zf [] []) n (ZLL v)
def ZsL (k:Nat) (L1:ZqA):(Int × Int × Int × Unit) × (Int × List (List Int) × Unit) × Unit → Option (Int × Unit)
 | ((a0,a1,a2,()),(a3,a4,()),()) => (ZgA k ((a0,a1,a2,()),())).bind fun y => bif y.1 != 0 then some (y.1,()) else bif decide (a3 < 0) then some (1,()) else bif decide ((2147483647:Int) < a3) then some (1,()) else bif Int.ofNat a4.length != a0 then some (1,()) else bif decide ((0:Int) ≤ 0 ∧ (0:Int) < Int.ofNat a4.length) then L1 (Int.ofNat a4.length,(0:Int),a4,Int.ofNat (List.length (a4.getD 0 [])),a3,a4,a0,a1,a2) else none
def ZkO (k:Nat):=ZsL k (Zwq k)
theorem ZE9 (k:Nat) (n2:Nat):∀ n,ZhW k n2 n = Zh (fun L3 => ZkP k (Ze0 k n2) L3) n :=
 Zc (fun v => by kernel_rfl) (fun n v => by
  show ZhW k n2 (n + 1) v = ZkP k (Ze0 k n2) (ZhW k n2 n) v
  obtain ⟨v0,v1,v2,v3,v4,v5,v6,v7,v8⟩:=v
  kernel_rfl)
theorem ZE8 (k:Nat):∀ n,Ze0 k n = Zh (fun L2 => ZsN k (Zws k L2) L2) n :=
 Zc (fun v => by kernel_rfl) (fun n v => by
  rw [show (Zws k (Ze0 k n)) = ZhW k n k from (ZE9 k n k).symm]
  obtain ⟨v0,v1,v2,v3,v4,v5⟩:=v
  kernel_rfl)
theorem ZE7 (k:Nat):∀ n,Zyh k n = Zh (fun L1 => ZsM k (Zwr k) L1) n :=
 Zc (fun v => by kernel_rfl) (fun n v => by
  rw [show (Zwr k) = Ze0 k k from (ZE8 k k).symm]
  obtain ⟨v0,v1,v2,v3,v4,v5,v6,v7,v8⟩:=v
  kernel_rfl)
theorem ZLO (k:Nat) (x:Kd.dens Xk):Zt (ZkN k) Zyg Tryz.f64 Xk Zf x = ZkO k x:=by
 show _ = ZsL k (Zwq k) x
 rw [show Zwq k = Zyh k k from (ZE7 k k).symm]
 obtain ⟨⟨a0,⟨a1,⟨a2,⟨⟩⟩⟩⟩,⟨⟨a3,⟨a4,⟨⟩⟩⟩,⟨⟩⟩⟩:=x
 kernel_rfl
theorem Zyi (k:Nat):Ctr Tryz.prog k 64 (mk Xk Zf ZkO) :=
 Zu (fn:=Tryz.f64) (Zd (Za (Zhi k) Zb)) (by kernel_rfl) (by kernel_rfl) (ZLO k)
noncomputable abbrev ZJV:Nat × Callee:=(64,mk Xk Zf ZkO)
abbrev Kn:List Kd:=[.view (.sl (.int .i64)),.view (.sl (.int .i64))]
abbrev ZbC:Kd:=.tup [.view (.sl (.cx .f64)),.view (.int .i64)]
def ZJ6:Nat → Ann:=fun id => bif Nat.beq id 7 then ⟨[21,22,20,1,6],[.slot 6 ((Ty.cx FloatKind.f64))]⟩ else ⟨[],[]⟩
abbrev ZwJ:=Int × Int × List Int × List Int × List (Nat × Nat)
abbrev ZqN:=ZwJ → Option ((List (Nat × Nat) × Int × Unit) × Unit)
def ZMe:ZwJ → St
 | (v0,v1,v2,v3,v4) => St.mk (Zo [(21,Zg v0),(22,Zg v1),(20,WK v2),(1,WK v3),(6,AV.own 8192)]) (Zm [(8192,RS.live (Res.arr (Ty.cx FloatKind.f64) v4 false))])
def Ztm (k:Nat) (L1:ZqN):ZqN
 | (v0,v1,v2,v3,v4) => bif decide (v1 < v0) then bif decide (0 ≤ v1 ∧ v1 < Int.ofNat v2.length) then bif decide (0 ≤ v1 ∧ v1 < Int.ofNat v3.length) then bif decide (v2.getD v1.toNat 0 < (-16777216:Int)) then some (([],12,()),()) else bif decide ((16777216:Int) < v2.getD v1.toNat 0) then some (([],12,()),()) else bif decide (v3.getD v1.toNat 0 < (-16777216:Int)) then some (([],12,()),()) else bif decide ((16777216:Int) < v3.getD v1.toNat 0) then some (([],12,()),()) else bif decide (v4.length + [(FloatKind.f64.nearest (v2.getD v1.toNat 0),FloatKind.f64.nearest (v3.getD v1.toNat 0))].length < 2147483648) then L1 (v0,IntKind.i64.wrap (v1 + 1),v2,v3,v4 ++ [(FloatKind.f64.nearest (v2.getD v1.toNat 0),FloatKind.f64.nearest (v3.getD v1.toNat 0))]) else none else none else none else some ((v4,0,()),())
def ZwI (k:Nat):ZqN:=Zh (fun L1 => Ztm k L1) k
noncomputable def ZyD (k:Nat) (n:Nat) (v:ZwJ) :=
 Zi (ZK k) ZJ6 [] [1,1,1,0,1,0] [] (Qh Tryz.f129) (Qi (ZK k) Tryz.f129 Kn ZbC [] []) n (ZMe v)
def Ztl (k:Nat) (L1:ZqN):List Int × List Int × Unit → Option ((List (Nat × Nat) × Int × Unit) × Unit)
 | (a0,a1,()) => bif Int.ofNat a0.length != Int.ofNat a1.length then some (([],1,()),()) else bif decide ((8192:Int) < Int.ofNat a0.length) then some (([],14,()),()) else L1 (Int.ofNat a0.length,(0:Int),a0,a1,[])
def Ztk (k:Nat):=Ztl k (ZwI k)
theorem ZFk (k:Nat):∀ n,ZyD k n = Zh (fun L1 => Ztm k L1) n :=
 Zc (fun v => by kernel_rfl) (fun n v => by
  obtain ⟨v0,v1,v2,v3,v4⟩:=v
  kernel_rfl)
theorem ZMf (k:Nat) (x:Kd.dens Kn):Zt (ZK k) ZJ6 Tryz.f129 Kn ZbC x = Ztk k x:=by
 show _ = Ztl k (ZwI k) x
 rw [show ZwI k = ZyD k k from (ZFk k k).symm]
 obtain ⟨a0,⟨a1,⟨⟩⟩⟩:=x
 kernel_rfl
theorem ZyE (k:Nat):Ctr Tryz.prog k 129 (mk Kn ZbC Ztk) :=
 Zu (fn:=Tryz.f129) (Zd Zb) (by kernel_rfl) (by kernel_rfl) (ZMf k)
noncomputable abbrev ZJ7:Nat × Callee:=(129,mk Kn ZbC Ztk)
abbrev Zw:List Kd:=[.view (.int .i64)]
abbrev Zv:Kd:=.view .bool
def Zt2 (k:Nat):Int × Unit → Option (Bool × Unit)
 | (a0,()) => bif a0 == 0 then some (true,()) else bif decide (8 ≤ a0) then some (decide (a0 ≤ 10),()) else some (false,())
def Zt1 (k:Nat):=Zt2 k
theorem ZMN (k:Nat) (x:Kd.dens Zw):Zt (ZK k) nA Tryz.f128 Zw Zv x = Zt1 k x:=by
 show _ = Zt2 k x
 obtain ⟨a0,⟨⟩⟩:=x
 kernel_rfl
theorem Zy2 (k:Nat):Ctr Tryz.prog k 128 (mk Zw Zv Zt1) :=
 Zu (fn:=Tryz.f128) (Zd Zb) (by kernel_rfl) (by kernel_rfl) (ZMN k)
noncomputable abbrev ZKm:Nat × Callee:=(128,mk Zw Zv Zt1)
abbrev Z3:List Kd:=[.view (.fl .f64)]
abbrev Qk:Kd:=.view (.fl .f64)
def ZmX (k:Nat):Nat × Unit → Option (Nat × Unit)
 | (a0,()) => some ((IntKind.u64.wrap (Int.ofNat (BitVec.ofInt 64 (Int.ofNat a0) &&& ~~~BitVec.ofInt 64 (9223372036854775808:Int)).toNat)).toNat,())
def Zdc (k:Nat):=ZmX k
theorem ZHt (k:Nat) (x:Kd.dens Z3):Zt (ZK k) nA Tryz.f225 Z3 Qk x = Zdc k x:=by
 show _ = ZmX k x
 obtain ⟨a0,⟨⟩⟩:=x
 kernel_rfl
theorem ZiB (k:Nat):Ctr Tryz.prog k 225 (mk Z3 Qk Zdc) :=
 Zu (fn:=Tryz.f225) (Zd Zb) (by kernel_rfl) (by kernel_rfl) (ZHt k)
noncomputable abbrev Zu3:Nat × Callee:=(225,mk Z3 Qk Zdc)
abbrev ZhC:List Kd:=[.view (.fl .f64),.view (.fl .f64)]
def Zny (k:Nat):Nat × Nat × Unit → Option (Nat × Unit)
 | (a0,a1,()) => some ((IntKind.u64.wrap (Int.ofNat (BitVec.ofInt 64 (IntKind.u64.wrap (Int.ofNat (BitVec.ofInt 64 (Int.ofNat a0) &&& ~~~BitVec.ofInt 64 (9223372036854775808:Int)).toNat)) ||| BitVec.ofInt 64 (IntKind.u64.wrap (Int.ofNat (BitVec.ofInt 64 (Int.ofNat a1) &&& BitVec.ofInt 64 (9223372036854775808:Int)).toNat))).toNat)).toNat,())
def ZiY (k:Nat):=Zny k
theorem ZH7 (k:Nat) (x:Kd.dens ZhC):Zt (ZK k) nA Tryz.f269 ZhC Qk x = ZiY k x:=by
 show _ = Zny k x
 obtain ⟨a0,⟨a1,⟨⟩⟩⟩:=x
 kernel_rfl
theorem ZsD (k:Nat):Ctr Tryz.prog k 269 (mk ZhC Qk ZiY) :=
 Zu (fn:=Tryz.f269) (Zd Zb) (by kernel_rfl) (by kernel_rfl) (ZH7 k)
noncomputable abbrev ZDy:Nat × Callee:=(269,mk ZhC Qk ZiY)
noncomputable def ZLo (k:Nat):=Qq k [Zu3,ZDy]
def Znn (k:Nat):Nat × Unit → Option (Nat × Unit)
 | (a0,()) => (Zdc k (a0,())).bind fun y => bif FloatKind.f64.format.order y.1 (4607182418800017408:Nat) == some Ordering.lt then (ZiY k (0,a0,())).bind fun y => some (y.1,()) else bif decide (IntKind.u64.wrap (IntKind.u64.wrap (Int.ofNat (BitVec.ofInt 64 ((Int.ofNat a0).fdiv (4503599627370496:Int)) &&& BitVec.ofInt 64 (2047:Int)).toNat) - 1023) < (52:Int)) then bif decide (0 ≤ IntKind.u64.wrap ((52:Int) - IntKind.u64.wrap (IntKind.u64.wrap (Int.ofNat (BitVec.ofInt 64 ((Int.ofNat a0).fdiv (4503599627370496:Int)) &&& BitVec.ofInt 64 (2047:Int)).toNat) - 1023))) then some ((IntKind.u64.wrap (Int.ofNat (BitVec.ofInt 64 (Int.ofNat a0) &&& ~~~BitVec.ofInt 64 (IntKind.u64.wrap (IntKind.u64.wrap ((1:Int) * (2:Int) ^ min (IntKind.u64.wrap ((52:Int) - IntKind.u64.wrap (IntKind.u64.wrap (Int.ofNat (BitVec.ofInt 64 ((Int.ofNat a0).fdiv (4503599627370496:Int)) &&& BitVec.ofInt 64 (2047:Int)).toNat) - 1023))).toNat 64) - (1:Int)))).toNat)).toNat,()) else none else some ((Int.ofNat a0).toNat,())
def Zvk (k:Nat):=Znn k
theorem ZHV (k:Nat) (x:Kd.dens Z3):Zt (ZLo k) nA Tryz.f259 Z3 Qk x = Zvk k x:=by
 show _ = Znn k x
 obtain ⟨a0,⟨⟩⟩:=x
 kernel_rfl
theorem ZDl (k:Nat):Ctr Tryz.prog k 259 (mk Z3 Qk Zvk) :=
 Zu (fn:=Tryz.f259) (Zd (Za (ZiB k) (Za (ZsD k) Zb))) (by kernel_rfl) (by kernel_rfl) (ZHV k)
noncomputable abbrev ZLp:Nat × Callee:=(259,mk Z3 Qk Zvk)
noncomputable def ZK1 (k:Nat):=Qq k [ZLp]
def ZmV (k:Nat):Nat × Unit → Option (Nat × Unit)
 | (a0,()) => (XL Ieee.Toward.zero a0).bind fun y => some (y,())
def Ziz (k:Nat):=ZmV k
theorem ZHr (k:Nat) (x:Kd.dens Z3):Zt (ZK1 k) nA Tryz.f223 Z3 Qk x = Ziz k x:=by
 show _ = ZmV k x
 obtain ⟨a0,⟨⟩⟩:=x
 kernel_rfl
theorem Zsb (k:Nat):Ctr Tryz.prog k 223 (mk Z3 Qk Ziz) :=
 Zu (fn:=Tryz.f223) (Zd (Za (ZDl k) Zb)) (by kernel_rfl) (by kernel_rfl) (ZHr k)
noncomputable abbrev ZCR:Nat × Callee:=(223,mk Z3 Qk Ziz)
abbrev Zhr:List Kd:=[.view (.fl .f64),.view (.int .i64)]
noncomputable def ZK2 (k:Nat):=Qq k [Zu3]
def ZmW (k:Nat):Nat × Int × Unit → Option (Bool × Unit)
 | (a0,a1,()) => bif a1 == 0 then (Zdc k (a0,())).bind fun y => some (FloatKind.f64.format.order y.1 (9218868437227405311:Nat) == some Ordering.gt,()) else bif decide (a1 < 0) then some (FloatKind.f64.format.order (a0 ^^^ (9223372036854775808:Nat)) (9218868437227405311:Nat) == some Ordering.gt,()) else some (FloatKind.f64.format.order a0 (9218868437227405311:Nat) == some Ordering.gt,())
def ZiA (k:Nat):=ZmW k
theorem ZHs (k:Nat) (x:Kd.dens Zhr):Zt (ZK2 k) nA Tryz.f224 Zhr Zv x = ZiA k x:=by
 show _ = ZmW k x
 obtain ⟨a0,⟨a1,⟨⟩⟩⟩:=x
 kernel_rfl
theorem Zsc (k:Nat):Ctr Tryz.prog k 224 (mk Zhr Zv ZiA) :=
 Zu (fn:=Tryz.f224) (Zd (Za (ZiB k) Zb)) (by kernel_rfl) (by kernel_rfl) (ZHs k)
noncomputable abbrev ZCS:Nat × Callee:=(224,mk Zhr Zv ZiA)
abbrev QT:List Kd:=[.view (.sl (.cx .f64))]
noncomputable def Zc3 (k:Nat):=Qq k [ZCR,ZCS,Zu3]
def ZoU:Nat → Ann:=fun id => bif Nat.beq id 14 then ⟨[37,38,36],[]⟩ else bif Nat.beq id 7 then ⟨[23,22,14,13,12,0],[]⟩ else bif Nat.beq id 4 then ⟨[13,14,12,0],[]⟩ else ⟨[],[]⟩
abbrev Zo0:=Int × Nat × Nat × Int × Int × List (Nat × Nat) × List (Nat × Nat)
abbrev Zg1:=Zo0 → Option (Int × Unit)
abbrev Zo1:=Int × Int × List (Nat × Nat)
abbrev Zg2:=Zo1 → Option (Int × Unit)
abbrev ZoZ:=Int × Int × List (Nat × Nat) × List (Nat × Nat)
abbrev Zb4:=ZoZ → Option (Int × Unit)
def ZGC:Zo0 → St
 | (v0,v1,v2,v3,v4,v5,v6) => St.mk (Zo [(23,Zg v0),(22,AV.agg [AV.val (PV.v (Value.float FloatKind.f64 v1)),AV.val (PV.v (Value.float FloatKind.f64 v2))]),(14,Zg v3),(13,Zg v4),(12,AV.val (PV.sl (Ty.cx FloatKind.f64) v5)),(0,AV.val (PV.sl (Ty.cx FloatKind.f64) v6))]) (Zm [])
def Zfz (k:Nat) (L1:Zb4) (L2:Zg1):Zg1
 | (v0,v1,v2,v3,v4,v5,v6) => bif decide (v0 < 2) then bif decide (0 ≤ v0 ∧ v0 < 2) then (Ziz k ([v1,v2].getD v0.toNat 0,())).bind fun y => bif FloatKind.f64.format.order y.1 ([v1,v2].getD v0.toNat 0) != some Ordering.eq then some (2,()) else (ZiA k ([v1,v2].getD v0.toNat 0,0,())).bind fun y => bif y.1 then some (2,()) else L2 (IntKind.i64.wrap (v0 + 1),v1,v2,v3,v4,v5,v6) else none else L1 (v4,IntKind.i64.wrap (v3 + 1),v5,v6)
def ZoX (k:Nat) (L1:Zb4):Zg1:=Zh (fun L2 => Zfz k L1 L2) k
noncomputable def ZdG (k:Nat) (n1:Nat) (n:Nat) (v:Zo0):Option (Int × Unit) :=
 Zi (Zc3 k) ZoU [] [1,1,0,1,0,0,1,1,0,0,1,1,0] [n1] (Qh Tryz.f174) (Qi (Zc3 k) Tryz.f174 QT Zf [] []) n (ZGC v)
def ZGD:Zo1 → St
 | (v0,v1,v2) => St.mk (Zo [(37,Zg v0),(38,Zg v1),(36,AV.val (PV.sl (Ty.cx FloatKind.f64) v2))]) (Zm [])
def Zme (k:Nat) (L3:Zg2):Zg2
 | (v0,v1,v2) => bif decide (v1 < v0) then bif decide (0 ≤ v1 ∧ v1 < Int.ofNat v2.length) then (Zdc k ((v2.getD v1.toNat ((0:Nat),(0:Nat))).1,())).bind fun y => (Zdc k ((v2.getD v1.toNat ((0:Nat),(0:Nat))).2,())).bind fun y_1 => (ZFR FloatKind.f64 y.1 y_1.1).bind fun y => bif FloatKind.f64.format.order y (4715268809856909312:Nat) == some Ordering.gt then some (12,()) else L3 (v0,IntKind.i64.wrap (v1 + 1),v2) else none else some (0,())
def ZoY (k:Nat):Zg2:=Zh (fun L3 => Zme k L3) k
noncomputable def ZrR (k:Nat) (n:Nat) (v:Zo1) :=
 Zi (Zc3 k) ZoU [] [1,1,1,0,1,0] [] (Qh Tryz.f174) (Qi (Zc3 k) Tryz.f174 QT Zf [] []) n (ZGD v)
def ZGB:ZoZ → St
 | (v0,v1,v2,v3) => St.mk (Zo [(13,Zg v0),(14,Zg v1),(12,AV.val (PV.sl (Ty.cx FloatKind.f64) v2)),(0,AV.val (PV.sl (Ty.cx FloatKind.f64) v3))]) (Zm [])
def Zmd (k:Nat) (L2:Zg1) (L3:Zg2) (L1:Zb4):Zb4
 | (v0,v1,v2,v3) => bif decide (v1 < v0) then bif decide (0 ≤ v1 ∧ v1 < Int.ofNat v2.length) then L2 (0,(v2.getD v1.toNat ((0:Nat),(0:Nat))).1,(v2.getD v1.toNat ((0:Nat),(0:Nat))).2,v1,v0,v2,v3) else none else L3 (Int.ofNat v3.length,(0:Int),v3)
def ZoW (k:Nat):Zb4:=Zh (fun L1 => Zmd k (ZoX k L1) (ZoY k) L1) k
noncomputable def Za8 (k:Nat) (n:Nat) (v:ZoZ) :=
 Zi (Zc3 k) ZoU [] [1,1,0,1,0] [] (Qh Tryz.f174) (Qi (Zc3 k) Tryz.f174 QT Zf [] []) n (ZGB v)
def Zmc (k:Nat) (L1:Zb4):List (Nat × Nat) × Unit → Option (Int × Unit)
 | (a0,()) => bif decide ((8192:Int) < Int.ofNat a0.length) then some (14,()) else L1 (Int.ofNat a0.length,(0:Int),a0,a0)
def ZoV (k:Nat):=Zmc k (ZoW k)
theorem ZzH (k:Nat) (n1:Nat):∀ n,ZdG k n1 n = Zh (fun L2 => Zfz k (Za8 k n1) L2) n :=
 Zc (fun v => by kernel_rfl) (fun n v => by
  show ZdG k n1 (n + 1) v = Zfz k (Za8 k n1) (ZdG k n1 n) v
  obtain ⟨v0,v1,v2,v3,v4,v5,v6⟩:=v
  kernel_rfl)
theorem ZzI (k:Nat):∀ n,ZrR k n = Zh (fun L3 => Zme k L3) n :=
 Zc (fun v => by kernel_rfl) (fun n v => by
  obtain ⟨v0,v1,v2⟩:=v
  kernel_rfl)
theorem ZzG (k:Nat):∀ n,Za8 k n = Zh (fun L1 => Zmd k (ZoX k L1) (ZoY k) L1) n :=
 Zc (fun v => by kernel_rfl) (fun n v => by
  rw [show (ZoX k (Za8 k n)) = ZdG k n k from (ZzH k n k).symm,show (ZoY k) = ZrR k k from (ZzI k k).symm]
  obtain ⟨v0,v1,v2,v3⟩:=v
  kernel_rfl)
theorem ZGE (k:Nat) (x:Kd.dens QT):Zt (Zc3 k) ZoU Tryz.f174 QT Zf x = ZoV k x:=by
 show _ = Zmc k (ZoW k) x
 rw [show ZoW k = Za8 k k from (ZzG k k).symm]
 obtain ⟨a0,⟨⟩⟩:=x
 kernel_rfl
theorem ZCa (k:Nat):Ctr Tryz.prog k 174 (mk QT Zf ZoV) :=
 Zu (fn:=Tryz.f174) (Zd (Za (Zsb k) (Za (Zsc k) (Za (ZiB k) Zb)))) (by kernel_rfl) (by kernel_rfl) (ZGE k)
noncomputable abbrev ZKD:Nat × Callee:=(174,mk QT Zf ZoV)
abbrev Zg3:List Kd:=[.view (.cx .f64)]
def Zmf (k:Nat):(Nat × Nat) × Unit → Option (Nat × Unit)
 | (a0,()) => (cMulBits a0.1 a0.2 (4607182418800017408:Nat) (4607182418800017408:Nat)).bind fun y => some (y.1,())
def ZfA (k:Nat):=Zmf k
theorem ZGF (k:Nat) (x:Kd.dens Zg3):Zt (ZK k) nA Tryz.f175 Zg3 Qk x = ZfA k x:=by
 show _ = Zmf k x
 obtain ⟨a0,⟨⟩⟩:=x
 kernel_rfl
theorem ZCb (k:Nat):Ctr Tryz.prog k 175 (mk Zg3 Qk ZfA) :=
 Zu (fn:=Tryz.f175) (Zd Zb) (by kernel_rfl) (by kernel_rfl) (ZGF k)
noncomputable abbrev ZKE:Nat × Callee:=(175,mk Zg3 Qk ZfA)
def Zno (k:Nat):Nat × Unit → Option (Bool × Unit)
 | (a0,()) => some (FloatKind.f64.format.order a0 a0 != some Ordering.eq,())
def Zqa (k:Nat):=Zno k
theorem ZHW (k:Nat) (x:Kd.dens Z3):Zt (ZK k) nA Tryz.f262 Z3 Zv x = Zqa k x:=by
 show _ = Zno k x
 obtain ⟨a0,⟨⟩⟩:=x
 kernel_rfl
theorem ZDm (k:Nat):Ctr Tryz.prog k 262 (mk Z3 Zv Zqa) :=
 Zu (fn:=Tryz.f262) (Zd Zb) (by kernel_rfl) (by kernel_rfl) (ZHW k)
noncomputable abbrev ZLq:Nat × Callee:=(262,mk Z3 Zv Zqa)
abbrev Zqb:Kd:=.tup [.view (.fl .f64),.view (.fl .f64)]
noncomputable def ZLr (k:Nat):=Qq k [ZCR,ZDy]
def Znp (k:Nat):Nat × Unit → Option ((Nat × Nat × Unit) × Unit)
 | (a0,()) => (Ziz k (a0,())).bind fun y => (floatBits BinOp.sub FloatKind.f64 a0 y.1).bind fun y_1 => (ZiY k (y_1,a0,())).bind fun y_2 => some ((y.1,y_2.1,()),())
def ZiW (k:Nat):=Znp k
theorem ZHX (k:Nat) (x:Kd.dens Z3):Zt (ZLr k) nA Tryz.f263 Z3 Zqb x = ZiW k x:=by
 show _ = Znp k x
 obtain ⟨a0,⟨⟩⟩:=x
 kernel_rfl
theorem ZDn (k:Nat):Ctr Tryz.prog k 263 (mk Z3 Zqb ZiW) :=
 Zu (fn:=Tryz.f263) (Zd (Za (Zsb k) (Za (ZsD k) Zb))) (by kernel_rfl) (by kernel_rfl) (ZHX k)
noncomputable abbrev ZLs:Nat × Callee:=(263,mk Z3 Zqb ZiW)
noncomputable def ZK3 (k:Nat):=Qq k [ZCS,ZLq,ZLs]
def ZmY (k:Nat):Nat × Unit → Option (Nat × Unit)
 | (a0,()) => bif FloatKind.f64.format.order a0 (0:Nat) == some Ordering.eq then some (a0,()) else (Zqa k (a0,())).bind fun y => bif y.1 then some (a0,()) else (ZiA k (a0,0,())).bind fun y => bif y.1 then some (a0,()) else bif FloatKind.f64.format.order a0 (0:Nat) == some Ordering.lt then (ZiW k (a0 ^^^ (9223372036854775808:Nat),())).bind fun y => bif FloatKind.f64.format.order y.1.2.1 (0:Nat) != some Ordering.eq then (floatBits BinOp.add FloatKind.f64 y.1.1 (4607182418800017408:Nat)).bind fun y => some (y ^^^ (9223372036854775808:Nat),()) else some (y.1.1 ^^^ (9223372036854775808:Nat),()) else (ZiW k (a0,())).bind fun y => some (y.1.1,())
def Zu4 (k:Nat):=ZmY k
theorem ZHu (k:Nat) (x:Kd.dens Z3):Zt (ZK3 k) nA Tryz.f227 Z3 Qk x = Zu4 k x:=by
 show _ = ZmY k x
 obtain ⟨a0,⟨⟩⟩:=x
 kernel_rfl
theorem ZCT (k:Nat):Ctr Tryz.prog k 227 (mk Z3 Qk Zu4) :=
 Zu (fn:=Tryz.f227) (Zd (Za (Zsc k) (Za (ZDm k) (Za (ZDn k) Zb)))) (by kernel_rfl) (by kernel_rfl) (ZHu k)
noncomputable abbrev ZK4:Nat × Callee:=(227,mk Z3 Qk Zu4)
noncomputable def ZKF (k:Nat):=Qq k [ZK4]
def Zmg (k:Nat):Nat × Unit → Option (Nat × Unit)
 | (a0,()) => (XL Ieee.Toward.down a0).bind fun y => some (y,())
def Zo2 (k:Nat):=Zmg k
theorem ZGG (k:Nat) (x:Kd.dens Z3):Zt (ZKF k) nA Tryz.f176 Z3 Qk x = Zo2 k x:=by
 show _ = Zmg k x
 obtain ⟨a0,⟨⟩⟩:=x
 kernel_rfl
theorem ZCc (k:Nat):Ctr Tryz.prog k 176 (mk Z3 Qk Zo2) :=
 Zu (fn:=Tryz.f176) (Zd (Za (ZCT k) Zb)) (by kernel_rfl) (by kernel_rfl) (ZGG k)
noncomputable abbrev ZKG:Nat × Callee:=(176,mk Z3 Qk Zo2)
abbrev ZkT:List Kd:=[.view (.sl (.cx .f64)),.view (.int .i64)]
abbrev Zdh:Kd:=.tup [.view (.sl (.int .i64)),.view (.sl (.int .i64)),.view (.int .i64)]
noncomputable def ZFn (k:Nat):=Qq k [ZKm,ZKD,ZKE,ZKG]
def ZJ9:Nat → Ann:=fun id => bif Nat.beq id 8 then ⟨[23,24,22,1,8,9],[.slot 8 ((Ty.int IntKind.i64)),.slot 9 ((Ty.int IntKind.i64))]⟩ else ⟨[],[]⟩
abbrev ZwN:=Int × Int × List (Nat × Nat) × Int × List Int × List Int
abbrev ZqP:=ZwN → Option ((List Int × List Int × Int × Unit) × Unit)
def ZMi:ZwN → St
 | (v0,v1,v2,v3,v4,v5) => St.mk (Zo [(23,Zg v0),(24,Zg v1),(22,AV.val (PV.sl (Ty.cx FloatKind.f64) v2)),(1,Zg v3),(8,AV.own 8192),(9,AV.own 8193)]) (Zm [(8192,rsA v4 false),(8193,rsA v5 false)])
def Ztq (k:Nat) (L1:ZqP):ZqP
 | (v0,v1,v2,v3,v4,v5) => bif decide (v1 < v0) then bif decide (0 ≤ v1 ∧ v1 < Int.ofNat v2.length) then bif v3 == 8 then (ZfA k (((v2.getD v1.toNat ((0:Nat),(0:Nat))).1,(v2.getD v1.toNat ((0:Nat),(0:Nat))).2),())).bind fun y => (floatToIntVal FloatKind.f64 (v2.getD v1.toNat ((0:Nat),(0:Nat))).1 IntKind.i64).bind fun y_1 => bif decide (v4.length + [y_1].length < 2147483648) then (floatToIntVal FloatKind.f64 y.1 IntKind.i64).bind fun y => bif decide (v5.length + [y].length < 2147483648) then L1 (v0,IntKind.i64.wrap (v1 + 1),v2,v3,v4 ++ [y_1],v5 ++ [y]) else none else none else bif v3 == 9 then (ZfA k (((v2.getD v1.toNat ((0:Nat),(0:Nat))).1,(v2.getD v1.toNat ((0:Nat),(0:Nat))).2),())).bind fun y => (floatToIntVal FloatKind.f64 y.1 IntKind.i64).bind fun y => bif decide (v4.length + [y].length < 2147483648) then (floatToIntVal FloatKind.f64 (v2.getD v1.toNat ((0:Nat),(0:Nat))).2 IntKind.i64).bind fun y_1 => bif decide (v5.length + [y_1].length < 2147483648) then L1 (v0,IntKind.i64.wrap (v1 + 1),v2,v3,v4 ++ [y],v5 ++ [y_1]) else none else none else bif v3 == 10 then (floatBits BinOp.add FloatKind.f64 (v2.getD v1.toNat ((0:Nat),(0:Nat))).1 (v2.getD v1.toNat ((0:Nat),(0:Nat))).2).bind fun y => (floatBits BinOp.quo FloatKind.f64 y (4611686018427387904:Nat)).bind fun y => (Zo2 k (y,())).bind fun y => (ZfA k (((v2.getD v1.toNat ((0:Nat),(0:Nat))).1,(v2.getD v1.toNat ((0:Nat),(0:Nat))).2),())).bind fun y_1 => (floatToIntVal FloatKind.f64 y.1 IntKind.i64).bind fun y => bif decide (v4.length + [y].length < 2147483648) then (floatToIntVal FloatKind.f64 y_1.1 IntKind.i64).bind fun y_2 => bif decide (v5.length + [y_2].length < 2147483648) then L1 (v0,IntKind.i64.wrap (v1 + 1),v2,v3,v4 ++ [y],v5 ++ [y_2]) else none else none else (floatToIntVal FloatKind.f64 (v2.getD v1.toNat ((0:Nat),(0:Nat))).1 IntKind.i64).bind fun y => bif decide (v4.length + [y].length < 2147483648) then (floatToIntVal FloatKind.f64 (v2.getD v1.toNat ((0:Nat),(0:Nat))).2 IntKind.i64).bind fun y_1 => bif decide (v5.length + [y_1].length < 2147483648) then L1 (v0,IntKind.i64.wrap (v1 + 1),v2,v3,v4 ++ [y],v5 ++ [y_1]) else none else none else none else some ((v4,v5,0,()),())
def ZwM (k:Nat):ZqP:=Zh (fun L1 => Ztq k L1) k
noncomputable def ZyH (k:Nat) (n:Nat) (v:ZwN) :=
 Zi (ZFn k) ZJ9 [] [1,1,1,1,0,1,0] [] (Qh Tryz.f130) (Qi (ZFn k) Tryz.f130 ZkT Zdh [] []) n (ZMi v)
def Ztp (k:Nat) (L1:ZqP):List (Nat × Nat) × Int × Unit → Option ((List Int × List Int × Int × Unit) × Unit)
 | (a0,a1,()) => (Zt1 k (a1,())).bind fun y => bif !y.1 then some (([],[],1,()),()) else (ZoV k (a0,())).bind fun y => bif y.1 != 0 then some (([],[],y.1,()),()) else L1 (Int.ofNat a0.length,(0:Int),a0,a1,[],[])
def Zoa (k:Nat):=Ztp k (ZwM k)
theorem ZFo (k:Nat):∀ n,ZyH k n = Zh (fun L1 => Ztq k L1) n :=
 Zc (fun v => by kernel_rfl) (fun n v => by
  obtain ⟨v0,v1,v2,v3,v4,v5⟩:=v
  kernel_rfl)
theorem ZMj (k:Nat) (x:Kd.dens ZkT):Zt (ZFn k) ZJ9 Tryz.f130 ZkT Zdh x = Zoa k x:=by
 show _ = Ztp k (ZwM k) x
 rw [show ZwM k = ZyH k k from (ZFo k k).symm]
 obtain ⟨a0,⟨a1,⟨⟩⟩⟩:=x
 kernel_rfl
theorem ZqQ (k:Nat):Ctr Tryz.prog k 130 (mk ZkT Zdh Zoa) :=
 Zu (fn:=Tryz.f130) (Zd (Za (Zy2 k) (Za (ZCa k) (Za (ZCb k) (Za (ZCc k) Zb))))) (by kernel_rfl) (by kernel_rfl) (ZMj k)
noncomputable abbrev ZFp:Nat × Callee:=(130,mk ZkT Zdh Zoa)
abbrev Yg:List Kd:=[.view (.sl (.int .i64))]
def ZKn:Nat → Ann:=fun id => bif Nat.beq id 3 then ⟨[8,9,7,3,4],[]⟩ else ⟨[],[]⟩
abbrev ZaG:=Int × Int × List Int × Int × Int
abbrev Zq6:=ZaG → Option (Int × Unit)
def ZMO:ZaG → St
 | (v0,v1,v2,v3,v4) => St.mk (Zo [(8,Zg v0),(9,Zg v1),(7,WK v2),(3,Zg v3),(4,Zg v4)]) (Zm [])
def Zt5 (k:Nat) (L1:Zq6):Zq6
 | (v0,v1,v2,v3,v4) => bif decide (v1 < v0) then bif decide (0 ≤ v1 ∧ v1 < Int.ofNat v2.length) then L1 (v0,IntKind.i64.wrap (v1 + 1),v2,IntKind.i64.wrap (v3 + if IntKind.i64.wrap (v2.getD v1.toNat 0 - v4) < IntKind.i64.wrap (v4 - v2.getD v1.toNat 0) then IntKind.i64.wrap (v4 - v2.getD v1.toNat 0) else IntKind.i64.wrap (v2.getD v1.toNat 0 - v4)),v2.getD v1.toNat 0) else none else some (v3,())
def Zw7 (k:Nat):Zq6:=Zh (fun L1 => Zt5 k L1) k
noncomputable def Zy3 (k:Nat) (n:Nat) (v:ZaG) :=
 Zi (ZK k) ZKn [] [1,1,0,1,0] [] (Qh Tryz.f191) (Qi (ZK k) Tryz.f191 Yg Zf [] []) n (ZMO v)
def Zt4 (k:Nat) (L1:Zq6):List Int × Unit → Option (Int × Unit)
 | (a0,()) => L1 (Int.ofNat a0.length,(0:Int),a0,(0:Int),(0:Int))
def Zt3 (k:Nat):=Zt4 k (Zw7 k)
theorem ZFG (k:Nat):∀ n,Zy3 k n = Zh (fun L1 => Zt5 k L1) n :=
 Zc (fun v => by kernel_rfl) (fun n v => by
  obtain ⟨v0,v1,v2,v3,v4⟩:=v
  kernel_rfl)
theorem ZMP (k:Nat) (x:Kd.dens Yg):Zt (ZK k) ZKn Tryz.f191 Yg Zf x = Zt3 k x:=by
 show _ = Zt4 k (Zw7 k) x
 rw [show Zw7 k = Zy3 k k from (ZFG k k).symm]
 obtain ⟨a0,⟨⟩⟩:=x
 kernel_rfl
theorem ZJu (k:Nat):Ctr Tryz.prog k 191 (mk Yg Zf Zt3) :=
 Zu (fn:=Tryz.f191) (Zd Zb) (by kernel_rfl) (by kernel_rfl) (ZMP k)
noncomputable abbrev ZNM:Nat × Callee:=(191,mk Yg Zf Zt3)
abbrev ZN:Kd:=.tup [.view (.int .i64),.view (.int .i64)]
noncomputable def ZFl (k:Nat):=Qq k [ZFp,ZNM]
def ZJ8:Nat → Ann:=fun id => bif Nat.beq id 3 then ⟨[13,12,0,5,4],[]⟩ else ⟨[],[]⟩
abbrev ZwL:=Int × Int × Int × Int × Int × List (Nat × Nat) × Int × Int
abbrev ZqO:=ZwL → Option ((Int × Int × Unit) × Unit)
def ZMg:ZwL → St
 | (v0,v1,v2,v3,v4,v5,v6,v7) => St.mk (Zo [(13,Zg v0),(12,AV.agg [Zg v1,Zg v2,Zg v3,Zg v4]),(0,AV.val (PV.sl (Ty.cx FloatKind.f64) v5)),(5,Zg v6),(4,Zg v7)]) (Zm [])
def Zto (k:Nat) (L1:ZqO):ZqO
 | (v0,v1,v2,v3,v4,v5,v6,v7) => bif decide (v0 < 4) then bif decide (0 ≤ v0 ∧ v0 < 4) then (Zoa k (v5,[v1,v2,v3,v4].getD v0.toNat (0:Int),())).bind fun y => bif y.1.2.2.1 != 0 then some ((0,y.1.2.2.1,()),()) else (Zt3 k (y.1.1,())).bind fun y_1 => (Zt3 k (y.1.2.1,())).bind fun y => bif decide (v6 < 0) then L1 (IntKind.i64.wrap (v0 + 1),v1,v2,v3,v4,v5,IntKind.i64.wrap (y_1.1 + y.1),[v1,v2,v3,v4].getD v0.toNat (0:Int)) else bif decide (IntKind.i64.wrap (y_1.1 + y.1) < v6) then L1 (IntKind.i64.wrap (v0 + 1),v1,v2,v3,v4,v5,IntKind.i64.wrap (y_1.1 + y.1),[v1,v2,v3,v4].getD v0.toNat (0:Int)) else L1 (IntKind.i64.wrap (v0 + 1),v1,v2,v3,v4,v5,v6,v7) else none else some ((v7,0,()),())
def ZwK (k:Nat):ZqO:=Zh (fun L1 => Zto k L1) k
noncomputable def ZyG (k:Nat) (n:Nat) (v:ZwL) :=
 Zi (ZFl k) ZJ8 [] [1,1,0,1,0] [] (Qh Tryz.f147) (Qi (ZFl k) Tryz.f147 QT ZN [] []) n (ZMg v)
def Ztn (k:Nat) (L1:ZqO):List (Nat × Nat) × Unit → Option ((Int × Int × Unit) × Unit)
 | (a0,()) => L1 (0,(0:Int),(8:Int),(9:Int),(10:Int),a0,(-1:Int),(0:Int))
def ZyF (k:Nat):=Ztn k (ZwK k)
theorem ZFm (k:Nat):∀ n,ZyG k n = Zh (fun L1 => Zto k L1) n :=
 Zc (fun v => by kernel_rfl) (fun n v => by
  obtain ⟨v0,v1,v2,v3,v4,v5,v6,v7⟩:=v
  kernel_rfl)
theorem ZMh (k:Nat) (x:Kd.dens QT):Zt (ZFl k) ZJ8 Tryz.f147 QT ZN x = ZyF k x:=by
 show _ = Ztn k (ZwK k) x
 rw [show ZwK k = ZyG k k from (ZFm k k).symm]
 obtain ⟨a0,⟨⟩⟩:=x
 kernel_rfl
theorem ZJl (k:Nat):Ctr Tryz.prog k 147 (mk QT ZN ZyF) :=
 Zu (fn:=Tryz.f147) (Zd (Za (ZqQ k) (Za (ZJu k) Zb))) (by kernel_rfl) (by kernel_rfl) (ZMh k)
noncomputable abbrev ZNy:Nat × Callee:=(147,mk QT ZN ZyF)
abbrev ZqC:List Kd:=[.view Zf4]
abbrev Zww:Kd:=.tup [.view (.sl (.sl (.int .i64))),.view (.int .i64),.view (.int .i64)]
noncomputable def ZNd (k:Nat):=Qq k [ZJ7,ZNy,ZFp]
def ZsO (k:Nat):(Int × List (List Int) × Unit) × Unit → Option ((List (List Int) × Int × Int × Unit) × Unit)
 | ((a0,a1,()),()) => bif Int.ofNat a1.length == (1:Int) then some ((a1,0,0,()),()) else bif decide ((0:Int) ≤ 0 ∧ (0:Int) < Int.ofNat a1.length) then bif decide ((0:Int) ≤ 1 ∧ (1:Int) < Int.ofNat a1.length) then (Ztk k (a1.getD 0 [],a1.getD 1 [],())).bind fun y => bif y.1.2.1 != 0 then some (([],0,y.1.2.1,()),()) else (ZyF k (y.1.1,())).bind fun y_1 => bif y_1.1.2.1 != 0 then some (([],0,y_1.1.2.1,()),()) else (Zoa k (y.1.1,y_1.1.1,())).bind fun y => bif y_1.1.1 == 0 then some (([y.1.1,y.1.2.1],1,y.1.2.2.1,()),()) else some (([y.1.1,y.1.2.1],y_1.1.1,y.1.2.2.1,()),()) else none else none
def Zyj (k:Nat):=ZsO k
theorem ZLP (k:Nat) (x:Kd.dens ZqC):Zt (ZNd k) nA Tryz.f92 ZqC Zww x = Zyj k x:=by
 show _ = ZsO k x
 obtain ⟨⟨a0,⟨a1,⟨⟩⟩⟩,⟨⟩⟩:=x
 kernel_rfl
theorem ZJa (k:Nat):Ctr Tryz.prog k 92 (mk ZqC Zww Zyj) :=
 Zu (fn:=Tryz.f92) (Zd (Za (ZyE k) (Za (ZJl k) (Za (ZqQ k) Zb)))) (by kernel_rfl) (by kernel_rfl) (ZLP k)
noncomputable abbrev ZNe:Nat × Callee:=(92,mk ZqC Zww Zyj)
abbrev ZqD:List Kd:=[]
abbrev Zwx:Kd:=.box [.own (.int .u8) false,.view (.int .i64)]
def ZsP (k:Nat):Unit → Option ((List Int × Int × Unit) × Unit)
 | () => some (([],0,()),())
def Zn8 (k:Nat):=ZsP k
theorem ZLQ (k:Nat) (x:Kd.dens ZqD):Zt (ZK k) nA Tryz.f93 ZqD Zwx x = Zn8 k x:=by
 show _ = ZsP k x
 obtain ⟨⟩:=x
 kernel_rfl
theorem Zyk (k:Nat):Ctr Tryz.prog k 93 (mk ZqD Zwx Zn8) :=
 Zu (fn:=Tryz.f93) (Zd Zb) (by kernel_rfl) (by kernel_rfl) (ZLQ k)
noncomputable abbrev ZJW:Nat × Callee:=(93,mk ZqD Zwx Zn8)
def Ztr (k:Nat):Int × Unit → Option (Bool × Unit)
 | (a0,()) => bif decide (a0 < 0) then some (true,()) else some (decide ((32:Int) < a0),())
def Zob (k:Nat):=Ztr k
theorem ZMk (k:Nat) (x:Kd.dens Zw):Zt (ZK k) nA Tryz.f148 Zw Zv x = Zob k x:=by
 show _ = Ztr k x
 obtain ⟨a0,⟨⟩⟩:=x
 kernel_rfl
theorem ZqR (k:Nat):Ctr Tryz.prog k 148 (mk Zw Zv Zob) :=
 Zu (fn:=Tryz.f148) (Zd Zb) (by kernel_rfl) (by kernel_rfl) (ZMk k)
noncomputable abbrev ZKa:Nat × Callee:=(148,mk Zw Zv Zob)
abbrev Yk:List Kd:=[.box [.own (.int .u8) false,.view (.int .i64)],.view (.int .i64)]
abbrev Z6:Kd:=.tup []
def Zmh (k:Nat):(List Int × Int × Unit) × Int × Unit → Option (Unit × (List Int × Int × Unit) × Unit)
 | ((a0,a1,()),a2,()) => bif a1.tmod (8:Int) == 0 then bif decide (a0.length + (1:Nat) < (2147483648:Nat)) then bif decide (0 ≤ IntKind.i64.wrap (a1.tdiv (8:Int)) ∧ IntKind.i64.wrap (a1.tdiv (8:Int)) < Int.ofNat (a0 ++ [(0:Int)]).length) then bif decide ((IntKind.i64.wrap (a1.tdiv (8:Int))).toNat < (a0 ++ [(0:Int)]).length) then bif decide (0 ≤ IntKind.i64.wrap ((7:Int) - a1.tmod (8:Int))) then bif decide (0 ≤ IntKind.i64.wrap (a1.tdiv (8:Int)) ∧ IntKind.i64.wrap (a1.tdiv (8:Int)) < Int.ofNat (a0 ++ [(0:Int)]).length) then bif decide ((IntKind.i64.wrap (a1.tdiv (8:Int))).toNat < (a0 ++ [(0:Int)]).length) then some ((),((a0 ++ [(0:Int)]).set (IntKind.i64.wrap (a1.tdiv (8:Int))).toNat (IntKind.u8.wrap (Int.ofNat (BitVec.ofInt 8 ((a0 ++ [(0:Int)]).getD (IntKind.i64.wrap (a1.tdiv (8:Int))).toNat 0) ||| BitVec.ofInt 8 (IntKind.u8.wrap (IntKind.i64.wrap (a2 * (2:Int) ^ min (IntKind.i64.wrap ((7:Int) - a1.tmod (8:Int))).toNat 64)))).toNat)),IntKind.i64.wrap (a1 + 1),()),()) else none else none else none else none else none else none else bif decide (0 ≤ IntKind.i64.wrap (a1.tdiv (8:Int)) ∧ IntKind.i64.wrap (a1.tdiv (8:Int)) < Int.ofNat a0.length) then bif decide ((IntKind.i64.wrap (a1.tdiv (8:Int))).toNat < a0.length) then bif decide (0 ≤ IntKind.i64.wrap ((7:Int) - a1.tmod (8:Int))) then bif decide (0 ≤ IntKind.i64.wrap (a1.tdiv (8:Int)) ∧ IntKind.i64.wrap (a1.tdiv (8:Int)) < Int.ofNat a0.length) then bif decide ((IntKind.i64.wrap (a1.tdiv (8:Int))).toNat < a0.length) then some ((),(a0.set (IntKind.i64.wrap (a1.tdiv (8:Int))).toNat (IntKind.u8.wrap (Int.ofNat (BitVec.ofInt 8 (a0.getD (IntKind.i64.wrap (a1.tdiv (8:Int))).toNat 0) ||| BitVec.ofInt 8 (IntKind.u8.wrap (IntKind.i64.wrap (a2 * (2:Int) ^ min (IntKind.i64.wrap ((7:Int) - a1.tmod (8:Int))).toNat 64)))).toNat)),IntKind.i64.wrap (a1 + 1),()),()) else none else none else none else none else none
def ZfB (k:Nat):=Zmh k
theorem ZGH (k:Nat) (x:Kd.dens Yk):Zt (ZK k) nA Tryz.f192 Yk Z6 x = ZfB k x:=by
 show _ = Zmh k x
 obtain ⟨⟨a0,⟨a1,⟨⟩⟩⟩,⟨a2,⟨⟩⟩⟩:=x
 kernel_rfl
theorem ZrS (k:Nat):Ctr Tryz.prog k 192 (mk Yk Z6 ZfB) :=
 Zu (fn:=Tryz.f192) (Zd Zb) (by kernel_rfl) (by kernel_rfl) (ZGH k)
noncomputable abbrev ZKH:Nat × Callee:=(192,mk Yk Z6 ZfB)
abbrev ZkU:List Kd:=[.box [.own (.int .u8) false,.view (.int .i64)],.view (.int .u64),.view (.int .i64)]
noncomputable def Zoc (k:Nat):=Qq k [ZKH]
def ZKb:Nat → Ann:=fun id => bif Nat.beq id 1 then ⟨[6,0,1],[]⟩ else ⟨[],[]⟩
abbrev ZaF:=Int × Int × Int × List Int
abbrev ZqS:=ZaF → Option (Unit × (List Int × Int × Unit) × Unit)
def ZMl:ZaF → St
 | (v0,v1,v2,v3) => St.mk (Zo [(6,Zg v0),(0,AV.bx 0 0),(1,AV.val (PV.v (Value.int IntKind.u64 v1)))]) (Zm [(0,Qe [AV.own 8192,Zg v2]),(8192,RS.live (Res.arr (Ty.int IntKind.u8) v3 false))])
def Ztt (k:Nat) (L1:ZqS):ZqS
 | (v0,v1,v2,v3) => bif decide (0 ≤ v0) then bif decide (0 ≤ v0) then (ZfB k ((v3,v2,()),IntKind.i64.wrap (IntKind.u64.wrap (Int.ofNat (BitVec.ofInt 64 (v1.fdiv ((2:Int) ^ min v0.toNat 64)) &&& BitVec.ofInt 64 (1:Int)).toNat)),())).bind fun y => L1 (IntKind.i64.wrap (v0 - 1),v1,y.2.1.2.1,y.2.1.1) else none else some ((),(v3,v2,()),())
def ZwO (k:Nat):ZqS:=Zh (fun L1 => Ztt k L1) k
noncomputable def ZyI (k:Nat) (n:Nat) (v:ZaF) :=
 Zi (Zoc k) ZKb [0] [1,0] [] (Qh Tryz.f149) (Qi (Zoc k) Tryz.f149 ZkU Z6 [AV.bx (nat_lit 0) (nat_lit 0)] [[]]) n (ZMl v)
def Zts (k:Nat) (L1:ZqS):(List Int × Int × Unit) × Int × Int × Unit → Option (Unit × (List Int × Int × Unit) × Unit)
 | ((a0,a1,()),a2,a3,()) => L1 (IntKind.i64.wrap (a3 - 1),a2,a1,a0)
def ZcO (k:Nat):=Zts k (ZwO k)
theorem ZFq (k:Nat):∀ n,ZyI k n = Zh (fun L1 => Ztt k L1) n :=
 Zc (fun v => by kernel_rfl) (fun n v => by
  obtain ⟨v0,v1,v2,v3⟩:=v
  kernel_rfl)
theorem ZMm (k:Nat) (x:Kd.dens ZkU):Zt (Zoc k) ZKb Tryz.f149 ZkU Z6 x = ZcO k x:=by
 show _ = Zts k (ZwO k) x
 rw [show ZwO k = ZyI k k from (ZFq k k).symm]
 obtain ⟨⟨a0,⟨a1,⟨⟩⟩⟩,⟨a2,⟨a3,⟨⟩⟩⟩⟩:=x
 kernel_rfl
theorem ZyJ (k:Nat):Ctr Tryz.prog k 149 (mk ZkU Z6 ZcO) :=
 Zu (fn:=Tryz.f149) (Zd (Za (ZrS k) Zb)) (by kernel_rfl) (by kernel_rfl) (ZMm k)
noncomputable abbrev ZNz:Nat × Callee:=(149,mk ZkU Z6 ZcO)
abbrev Km:List Kd:=[.box [.own (.int .u8) false,.view (.int .i64)],.view (.int .i64),.view (.int .i64)]
noncomputable def ZJX (k:Nat):=Qq k [ZKa,ZNz]
def ZsQ (k:Nat):(List Int × Int × Unit) × Int × Int × Unit → Option (Int × (List Int × Int × Unit) × Unit)
 | ((a0,a1,()),a2,a3,()) => (Zob k (a3,())).bind fun y => bif y.1 then some (1,(a0,a1,()),()) else bif decide (a2 < 0) then some (12,(a0,a1,()),()) else bif decide (0 ≤ a3) then bif a2.fdiv ((2:Int) ^ min a3.toNat 64) != (0:Int) then some (12,(a0,a1,()),()) else (ZcO k ((a0,a1,()),IntKind.u64.wrap a2,a3,())).bind fun y => some (0,(y.2.1.1,y.2.1.2.1,()),()) else none
def ZP (k:Nat):=ZsQ k
theorem ZLR (k:Nat) (x:Kd.dens Km):Zt (ZJX k) nA Tryz.f94 Km Zf x = ZP k x:=by
 show _ = ZsQ k x
 obtain ⟨⟨a0,⟨a1,⟨⟩⟩⟩,⟨a2,⟨a3,⟨⟩⟩⟩⟩:=x
 kernel_rfl
theorem ZaD (k:Nat):Ctr Tryz.prog k 94 (mk Km Zf ZP) :=
 Zu (fn:=Tryz.f94) (Zd (Za (ZqR k) (Za (ZyJ k) Zb))) (by kernel_rfl) (by kernel_rfl) (ZLR k)
noncomputable abbrev ZFa:Nat × Callee:=(94,mk Km Zf ZP)
def Ztv (k:Nat):Int × Unit → Option (Int × Unit)
 | (a0,()) => bif a0 == 1 then some (7,()) else some (IntKind.i64.wrap (IntKind.i64.wrap ((5:Int) * a0) + 1),())
def Ztu (k:Nat):=Ztv k
theorem ZMn (k:Nat) (x:Kd.dens Zw):Zt (ZK k) nA Tryz.f150 Zw Zf x = Ztu k x:=by
 show _ = Ztv k x
 obtain ⟨a0,⟨⟩⟩:=x
 kernel_rfl
theorem ZyK (k:Nat):Ctr Tryz.prog k 150 (mk Zw Zf Ztu) :=
 Zu (fn:=Tryz.f150) (Zd Zb) (by kernel_rfl) (by kernel_rfl) (ZMn k)
noncomputable abbrev ZKc:Nat × Callee:=(150,mk Zw Zf Ztu)
abbrev ZkQ:Kd:=.tup [.view (.sl (.int .u8)),.view (.int .i64)]
noncomputable def ZsR (k:Nat):=Qq k [ZKc]
def ZFb:Nat → Ann:=fun id => bif Nat.beq id 10 then ⟨[6,5,0,4],[]⟩ else bif Nat.beq id 6 then ⟨[0,4],[]⟩ else ⟨[],[]⟩
abbrev ZqF:=ZaF → Option ((List Int × Int × Unit) × Unit)
abbrev ZwA:=Int × Int
abbrev ZqE:=ZwA → Option ((List Int × Int × Unit) × Unit)
def ZLT:ZaF → St
 | (v0,v1,v2,v3) => St.mk (Zo [(6,Zg v0),(5,AV.own 8192),(0,Zg v1),(4,Zg v2)]) (Zm [(8192,RS.live (Res.arr (Ty.int IntKind.u8) v3 false))])
def ZsV (k:Nat) (L2:ZqF):ZqF
 | (v0,v1,v2,v3) => bif decide ((0:Int) < v0) then bif decide (0 ≤ v0 ∧ v0 < Int.ofNat v3.length) then bif decide (v0.toNat < v3.length) then L2 (IntKind.i64.wrap (v0 - 1),v1.fdiv (64:Int),v2,v3.set v0.toNat (IntKind.u8.wrap (Int.ofNat (BitVec.ofInt 8 (128:Int) ||| BitVec.ofInt 8 (IntKind.u8.wrap (IntKind.i64.wrap (Int.ofNat (BitVec.ofInt 64 v1 &&& BitVec.ofInt 64 (63:Int)).toNat)))).toNat))) else none else none else bif decide (0 ≤ v2) then bif decide ((0:Int) ≤ 0 ∧ (0:Int) < Int.ofNat v3.length) then bif decide ((0:Nat) < v3.length) then some ((v3.set (0:Nat) (IntKind.u8.wrap (Int.ofNat (BitVec.ofInt 8 (IntKind.u8.wrap (Int.fdiv (65280:Int) ((2:Int) ^ min v2.toNat 64))) ||| BitVec.ofInt 8 (IntKind.u8.wrap v1)).toNat)),0,()),()) else none else none else none
def Zwz (k:Nat):ZqF:=Zh (fun L2 => ZsV k L2) k
noncomputable def Zym (k:Nat) (n:Nat) (v:ZaF) :=
 Zi (ZsR k) ZFb [] [1,1,1,1,1,1,0,1,0] [] (Qh Tryz.f95) (Qi (ZsR k) Tryz.f95 Zw ZkQ [] []) n (ZLT v)
def ZLS:ZwA → St
 | (v0,v1) => St.mk (Zo [(0,Zg v0),(4,Zg v1)]) (Zm [])
def ZsU (k:Nat) (L2:ZqF) (L1:ZqE):ZqE
 | (v0,v1) => (Ztu k (v1,())).bind fun y => bif decide ((0:Int) ≤ y.1) then bif decide ((0:Int) < v0.fdiv ((2:Int) ^ min (Int.toNat y.1) (64:Nat))) then L1 (v0,IntKind.i64.wrap (v1 + 1)) else bif decide (0 ≤ v1 ∧ v1 ≤ v1 ∧ v1 < 4294967296) then L2 (IntKind.i64.wrap (v1 - 1),v0,v1,List.replicate v1.toNat (0:Int)) else none else none
def Zwy (k:Nat):ZqE:=Zh (fun L1 => ZsU k (Zwz k) L1) k
noncomputable def Zyl (k:Nat) (n:Nat) (v:ZwA) :=
 Zi (ZsR k) ZFb [] [1,1,1,1,0,0] [] (Qh Tryz.f95) (Qi (ZsR k) Tryz.f95 Zw ZkQ [] []) n (ZLS v)
def ZsT (k:Nat) (L1:ZqE):Int × Unit → Option ((List Int × Int × Unit) × Unit)
 | (a0,()) => bif decide (a0 < 0) then some (([],12,()),()) else bif decide ((68719476735:Int) < a0) then some (([],12,()),()) else bif decide (a0 < 128) then some (([IntKind.u8.wrap a0],0,()),()) else L1 (a0,(2:Int))
def ZsS (k:Nat):=ZsT k (Zwy k)
theorem ZFd (k:Nat):∀ n,Zym k n = Zh (fun L2 => ZsV k L2) n :=
 Zc (fun v => by kernel_rfl) (fun n v => by
  obtain ⟨v0,v1,v2,v3⟩:=v
  kernel_rfl)
theorem ZFc (k:Nat):∀ n,Zyl k n = Zh (fun L1 => ZsU k (Zwz k) L1) n :=
 Zc (fun v => by kernel_rfl) (fun n v => by
  rw [show (Zwz k) = Zym k k from (ZFd k k).symm]
  obtain ⟨v0,v1⟩:=v
  kernel_rfl)
theorem ZLU (k:Nat) (x:Kd.dens Zw):Zt (ZsR k) ZFb Tryz.f95 Zw ZkQ x = ZsS k x:=by
 show _ = ZsT k (Zwy k) x
 rw [show Zwy k = Zyl k k from (ZFc k k).symm]
 obtain ⟨a0,⟨⟩⟩:=x
 kernel_rfl
theorem ZJb (k:Nat):Ctr Tryz.prog k 95 (mk Zw ZkQ ZsS) :=
 Zu (fn:=Tryz.f95) (Zd (Za (ZyK k) Zb)) (by kernel_rfl) (by kernel_rfl) (ZLU k)
noncomputable abbrev ZNf:Nat × Callee:=(95,mk Zw ZkQ ZsS)
abbrev Zf1:List Kd:=[.view (.sl (.int .u8)),.view (.int .i64),.view (.int .u64)]
def ZFr:Nat → Ann:=fun id => bif Nat.beq id 7 then ⟨[24,7,1,2,13,12,11],[]⟩ else bif Nat.beq id 3 then ⟨[12,13,11,7,1,2],[]⟩ else ⟨[],[]⟩
abbrev ZwS:=Int × Int × Int × Int × Int × Int × List Int
abbrev ZqT:=ZwS → Option (Int × Unit)
abbrev ZwR:=Int × Int × List Int × Int × Int × Int
abbrev Zf0:=ZwR → Option (Int × Unit)
def ZMp:ZwS → St
 | (v0,v1,v2,v3,v4,v5,v6) => St.mk (Zo [(24,Zg v0),(7,AV.val (PV.v (Value.int IntKind.u64 v1))),(1,Zg v2),(2,AV.val (PV.v (Value.int IntKind.u64 v3))),(13,Zg v4),(12,Zg v5),(11,AV.val (PV.sl (Ty.int IntKind.u8) v6))]) (Zm [])
def ZkV (k:Nat) (L1:Zf0) (L2:ZqT):ZqT
 | (v0,v1,v2,v3,v4,v5,v6) => bif decide (v0 < 8) then bif decide (0 ≤ IntKind.i64.wrap (v2 - 1)) then bif decide (0 ≤ v2) then L2 (IntKind.i64.wrap (v0 + 1),IntKind.u64.wrap (Int.ofNat (BitVec.ofInt 64 (IntKind.u64.wrap (Int.ofNat (BitVec.ofInt 64 (IntKind.u64.wrap (v1 * (2:Int))) &&& BitVec.ofInt 64 (IntKind.u64.wrap (IntKind.u64.wrap ((1:Int) * (2:Int) ^ min v2.toNat 64) - (1:Int)))).toNat)) ^^^ BitVec.ofInt 64 (IntKind.u64.wrap (IntKind.u64.wrap (Int.ofNat (BitVec.ofInt 64 (v1.fdiv ((2:Int) ^ min (IntKind.i64.wrap (v2 - 1)).toNat 64)) &&& BitVec.ofInt 64 (1:Int)).toNat) * v3))).toNat),v2,v3,v4,v5,v6) else none else none else L1 (v5,IntKind.i64.wrap (v4 + 1),v6,v1,v2,v3)
def ZwQ (k:Nat) (L1:Zf0):ZqT:=Zh (fun L2 => ZkV k L1 L2) k
noncomputable def ZhX (k:Nat) (n1:Nat) (n:Nat) (v:ZwS):Option (Int × Unit) :=
 Zi (ZK k) ZFr [] [1,1,0,1,0,0,1,1,0,0,1,1,1,0] [n1] (Qh Tryz.f127) (Qi (ZK k) Tryz.f127 Zf1 Zf [] []) n (ZMp v)
def ZMo:ZwR → St
 | (v0,v1,v2,v3,v4,v5) => St.mk (Zo [(12,Zg v0),(13,Zg v1),(11,AV.val (PV.sl (Ty.int IntKind.u8) v2)),(7,AV.val (PV.v (Value.int IntKind.u64 v3))),(1,Zg v4),(2,AV.val (PV.v (Value.int IntKind.u64 v5)))]) (Zm [])
def Zty (k:Nat) (L2:ZqT) (L1:Zf0):Zf0
 | (v0,v1,v2,v3,v4,v5) => bif decide (v1 < v0) then bif decide (0 ≤ v1 ∧ v1 < Int.ofNat v2.length) then bif decide (0 ≤ IntKind.i64.wrap (v4 - 8)) then L2 (0,IntKind.u64.wrap (Int.ofNat (BitVec.ofInt 64 v3 ^^^ BitVec.ofInt 64 (IntKind.u64.wrap (IntKind.u64.wrap (v2.getD v1.toNat 0) * (2:Int) ^ min (IntKind.i64.wrap (v4 - 8)).toNat 64))).toNat),v4,v5,v1,v0,v2) else none else none else some (IntKind.i64.wrap v3,())
def ZwP (k:Nat):Zf0:=Zh (fun L1 => Zty k (ZwQ k L1) L1) k
noncomputable def Ze2 (k:Nat) (n:Nat) (v:ZwR) :=
 Zi (ZK k) ZFr [] [1,1,0,1,0] [] (Qh Tryz.f127) (Qi (ZK k) Tryz.f127 Zf1 Zf [] []) n (ZMo v)
def Ztx (k:Nat) (L1:Zf0):List Int × Int × Int × Unit → Option (Int × Unit)
 | (a0,a1,a2,()) => L1 (Int.ofNat a0.length,(0:Int),a0,(0:Int),a1,a2)
def Ztw (k:Nat):=Ztx k (ZwP k)
theorem ZFt (k:Nat) (n1:Nat):∀ n,ZhX k n1 n = Zh (fun L2 => ZkV k (Ze2 k n1) L2) n :=
 Zc (fun v => by kernel_rfl) (fun n v => by
  show ZhX k n1 (n + 1) v = ZkV k (Ze2 k n1) (ZhX k n1 n) v
  obtain ⟨v0,v1,v2,v3,v4,v5,v6⟩:=v
  kernel_rfl)
theorem ZFs (k:Nat):∀ n,Ze2 k n = Zh (fun L1 => Zty k (ZwQ k L1) L1) n :=
 Zc (fun v => by kernel_rfl) (fun n v => by
  rw [show (ZwQ k (Ze2 k n)) = ZhX k n k from (ZFt k n k).symm]
  obtain ⟨v0,v1,v2,v3,v4,v5⟩:=v
  kernel_rfl)
theorem ZMq (k:Nat) (x:Kd.dens Zf1):Zt (ZK k) ZFr Tryz.f127 Zf1 Zf x = Ztw k x:=by
 show _ = Ztx k (ZwP k) x
 rw [show ZwP k = Ze2 k k from (ZFs k k).symm]
 obtain ⟨a0,⟨a1,⟨a2,⟨⟩⟩⟩⟩:=x
 kernel_rfl
theorem ZyL (k:Nat):Ctr Tryz.prog k 127 (mk Zf1 Zf Ztw) :=
 Zu (fn:=Tryz.f127) (Zd Zb) (by kernel_rfl) (by kernel_rfl) (ZMq k)
noncomputable abbrev ZNA:Nat × Callee:=(127,mk Zf1 Zf Ztw)
abbrev QO:List Kd:=[.view (.sl (.int .u8))]
noncomputable def ZJY (k:Nat):=Qq k [ZNA]
def ZsX (k:Nat):List Int × Unit → Option (Int × Unit)
 | (a0,()) => (Ztw k (a0,8,7,())).bind fun y => some (y.1,())
def ZsW (k:Nat):=ZsX k
theorem ZLV (k:Nat) (x:Kd.dens QO):Zt (ZJY k) nA Tryz.f96 QO Zf x = ZsW k x:=by
 show _ = ZsX k x
 obtain ⟨a0,⟨⟩⟩:=x
 kernel_rfl
theorem Zyn (k:Nat):Ctr Tryz.prog k 96 (mk QO Zf ZsW) :=
 Zu (fn:=Tryz.f96) (Zd (Za (ZyL k) Zb)) (by kernel_rfl) (by kernel_rfl) (ZLV k)
noncomputable abbrev ZJZ:Nat × Callee:=(96,mk QO Zf ZsW)
abbrev Zdi:Kd:=.own (.int .u8) false
def ZkW (k:Nat):List Int × Unit → Option (List Int × Unit):=fun x => Zfu x
noncomputable def ZKd (k:Nat):Ctx:={ P:=Tryz.prog,Φ:=phi [],k:=k,live:=fun _ => [] }
noncomputable def Ztz:Code:=ZB0 Tryz.f74
theorem ZqU (k:Nat):Ctr Tryz.prog k 74 (mk QO Zdi ZkW) :=
 Zl5 (C:=ZKd k) (A:=fun _ => ⟨[],[]⟩) (Zd Zb) Zdo (f:=74) (fn:=Tryz.f74) (o0:=Zgc (Ke [0] Ztz) 0) (o1:=Zgc (Ke [1,0,0] Ztz) 0) (o2:=Zgc (Ke [1,0,0] Ztz) 1)
  (r0:=0) (r1:=1) (X:=Ke [1,0,1,0] Ztz) (Y:=Ke [1,1] Ztz) (T:=46) (E:=5) (U:=46) (t:=(.int .u8))
  (by kernel_rfl) (by kernel_rfl) (by kernel_rfl) (by kernel_rfl) (by kernel_rfl) (of_decide_eq_true (by kernel_rfl)) (by kernel_rfl) ⟨by kernel_rfl,by kernel_rfl,by kernel_rfl⟩ ⟨by kernel_rfl,by kernel_rfl,by kernel_rfl⟩ ⟨by kernel_rfl,by kernel_rfl,by kernel_rfl⟩ (fun xs => by kernel_rfl) (by kernel_rfl)
noncomputable abbrev ZKe:Nat × Callee:=(74,mk QO Zdi ZkW)
abbrev ZaE:List Kd:=[.box [.own (.int .u8) false,.view (.int .i64)]]
noncomputable def ZNg (k:Nat):=Qq k [ZKe] (fun r => bif Nat.beq r 999998 then [74] else [])
def ZsY (k:Nat):(List Int × Int × Unit) × Unit → Option (List Int × (List Int × Int × Unit) × Unit)
 | ((a0,a1,()),()) => (ZkW k (a0,())).bind fun y => some (y.1,(a0,a1,()),())
def ZgL (k:Nat):=ZsY k
theorem ZLW (k:Nat) (x:Kd.dens ZaE):Zt (ZNg k) nA Tryz.f97 ZaE Zdi x = ZgL k x:=by
 show _ = ZsY k x
 obtain ⟨⟨a0,⟨a1,⟨⟩⟩⟩,⟨⟩⟩:=x
 kernel_rfl
theorem Zyo (k:Nat):Ctr Tryz.prog k 97 (mk ZaE Zdi ZgL) :=
 Zu (fn:=Tryz.f97) (Zd (Za (ZqU k) Zb)) (by kernel_rfl) (by kernel_rfl) (ZLW k)
noncomputable abbrev ZNh:Nat × Callee:=(97,mk ZaE Zdi ZgL)
abbrev ZbA:List Kd:=[.view Zgn,.view (.int .i64)]
abbrev Xl:Kd:=.view (.sl (.int .i64))
noncomputable def ZNi (k:Nat):=Qq k [] (fun r => bif Nat.beq r 999999 then [1] else [])
def Zs0 (k:Nat):(Int × Int × Int × Unit) × Int × Unit → Option (List Int × Unit)
 | ((a0,a1,a2,()),a3,()) => bif decide ((0:Int) ≤ 0 ∧ (0:Int) ≤ a0 ∧ a0 ≤ Int.ofNat [a1,a1].length) then bif a3 == 8 then bif decide ((0:Nat) ≤ a0.toNat ∧ a0.toNat ≤ [a1,a1].length ∧ (0:Int) ≤ 1 ∧ (1:Nat) < a0.toNat - (0:Nat)) then bif decide ((0:Nat) ≤ a0.toNat ∧ a0.toNat ≤ [a1,a1].length ∧ (0:Int) ≤ 1 ∧ (1:Nat) < a0.toNat - (0:Nat)) then bif decide ((0:Nat) ≤ a0.toNat ∧ a0.toNat ≤ ([a1,a1].set (1:Nat) (IntKind.i64.wrap ([a1,a1].getD 1 0 + (1:Int)))).length) then some (List.drop 0 (List.take a0.toNat ([a1,a1].set (1:Nat) (IntKind.i64.wrap ([a1,a1].getD 1 0 + (1:Int))))),()) else none else none else none else bif a3 == 10 then bif decide ((0:Nat) ≤ a0.toNat ∧ a0.toNat ≤ [a1,a1].length ∧ (0:Int) ≤ 1 ∧ (1:Nat) < a0.toNat - (0:Nat)) then bif decide ((0:Nat) ≤ a0.toNat ∧ a0.toNat ≤ [a1,a1].length ∧ (0:Int) ≤ 1 ∧ (1:Nat) < a0.toNat - (0:Nat)) then bif decide ((0:Nat) ≤ a0.toNat ∧ a0.toNat ≤ ([a1,a1].set (1:Nat) (IntKind.i64.wrap ([a1,a1].getD 1 0 + (1:Int)))).length) then some (List.drop 0 (List.take a0.toNat ([a1,a1].set (1:Nat) (IntKind.i64.wrap ([a1,a1].getD 1 0 + (1:Int))))),()) else none else none else none else bif a3 == 9 then bif decide ((0:Nat) ≤ a0.toNat ∧ a0.toNat ≤ [a1,a1].length ∧ (0:Int) ≤ 0 ∧ (0:Nat) < a0.toNat - (0:Nat)) then bif decide ((0:Nat) ≤ a0.toNat ∧ a0.toNat ≤ [a1,a1].length ∧ (0:Int) ≤ 0 ∧ (0:Nat) < a0.toNat - (0:Nat)) then bif decide ((0:Nat) ≤ a0.toNat ∧ a0.toNat ≤ ([a1,a1].set (0:Nat) (IntKind.i64.wrap ([a1,a1].getD 0 0 + (1:Int)))).length) then some (List.drop 0 (List.take a0.toNat ([a1,a1].set (0:Nat) (IntKind.i64.wrap ([a1,a1].getD 0 0 + (1:Int))))),()) else none else none else none else bif decide ((0:Nat) ≤ a0.toNat ∧ a0.toNat ≤ [a1,a1].length) then some (List.drop 0 (List.take a0.toNat [a1,a1]),()) else none else none
def ZsZ (k:Nat):=Zs0 k
theorem ZLX (k:Nat) (x:Kd.dens ZbA):Zt (ZNi k) nA Tryz.f57 ZbA Xl x = ZsZ k x:=by
 show _ = Zs0 k x
 obtain ⟨⟨a0,⟨a1,⟨a2,⟨⟩⟩⟩⟩,⟨a3,⟨⟩⟩⟩:=x
 kernel_rfl
theorem Zyp (k:Nat):Ctr Tryz.prog k 57 (mk ZbA Xl ZsZ) :=
 Zu (fn:=Tryz.f57) (Zd Zb) (by kernel_rfl) (by kernel_rfl) (ZLX k)
noncomputable abbrev ZJ0:Nat × Callee:=(57,mk ZbA Xl ZsZ)
abbrev Wv:List Kd:=[.view (.int .i64),.view (.int .i64)]
def ZtV (k:Nat):Int × Int × Unit → Option (Bool × Unit)
 | (a0,a1,()) => bif decide (1 ≤ a0) then bif decide (a0 ≤ 512) then bif decide (4 ≤ a1) then some (decide (a1 ≤ 25),()) else some (false,()) else some (false,()) else some (false,())
def ZtU (k:Nat):=ZtV k
theorem ZMI (k:Nat) (x:Kd.dens Wv):Zt (ZK k) nA Tryz.f122 Wv Zv x = ZtU k x:=by
 show _ = ZtV k x
 obtain ⟨a0,⟨a1,⟨⟩⟩⟩:=x
 kernel_rfl
theorem ZyY (k:Nat):Ctr Tryz.prog k 122 (mk Wv Zv ZtU) :=
 Zu (fn:=Tryz.f122) (Zd Zb) (by kernel_rfl) (by kernel_rfl) (ZMI k)
noncomputable abbrev ZKj:Nat × Callee:=(122,mk Wv Zv ZtU)
def ZtZ (k:Nat):Int × Int × Unit → Option (Bool × Unit)
 | (a0,a1,()) => bif decide (0 ≤ IntKind.i64.wrap (a1 - 1)) then bif a0.fdiv ((2:Int) ^ min (IntKind.i64.wrap (a1 - 1)).toNat 64) == (0:Int) then some (true,()) else bif decide (0 ≤ IntKind.i64.wrap (a1 - 1)) then some (a0.fdiv ((2:Int) ^ min (IntKind.i64.wrap (a1 - 1)).toNat 64) == (-1:Int),()) else none else none
def ZtY (k:Nat):=ZtZ k
theorem ZML (k:Nat) (x:Kd.dens Wv):Zt (ZK k) nA Tryz.f125 Wv Zv x = ZtY k x:=by
 show _ = ZtZ k x
 obtain ⟨a0,⟨a1,⟨⟩⟩⟩:=x
 kernel_rfl
theorem Zy1 (k:Nat):Ctr Tryz.prog k 125 (mk Wv Zv ZtY) :=
 Zu (fn:=Tryz.f125) (Zd Zb) (by kernel_rfl) (by kernel_rfl) (ZML k)
noncomputable abbrev ZKk:Nat × Callee:=(125,mk Wv Zv ZtY)
abbrev Zg5:List Kd:=[.view (.int .i64),.box [.view (.int .i64)]]
noncomputable def ZKI (k:Nat):=Qq k [ZKk]
def Zmi (k:Nat):Int × (Int × Unit) × Unit → Option (Bool × (Int × Unit) × Unit)
 | (a0,(a1,()),()) => (ZtY k (a0,a1,())).bind fun y => some (!y.1,(a1,()),())
def Zo3 (k:Nat):=Zmi k
theorem ZGK (k:Nat) (x:Kd.dens Zg5):Zt (ZKI k) nA Tryz.f194 Zg5 Zv x = Zo3 k x:=by
 show _ = Zmi k x
 obtain ⟨a0,⟨⟨a1,⟨⟩⟩,⟨⟩⟩⟩:=x
 kernel_rfl
theorem ZCn (k:Nat):Ctr Tryz.prog k 194 (mk Zg5 Zv Zo3) :=
 Zu (fn:=Tryz.f194) (Zd (Za (Zy1 k) Zb)) (by kernel_rfl) (by kernel_rfl) (ZGK k)
noncomputable abbrev ZKJ:Nat × Callee:=(194,mk Zg5 Zv Zo3)
abbrev WB:List Kd:=[.view (.sl (.int .i64)),.clo 194 [.box [.view (.int .i64)]]]
noncomputable def ZiC (k:Nat):=Qq k [ZKJ]
def WN:Nat → Ann:=fun id => bif Nat.beq id 2 then ⟨[7,8,1,0],[]⟩ else ⟨[],[]⟩
abbrev Qy:=Int × Int × List Int × Int
abbrev Zca:=Qy → Option (Int × (Int × Unit) × Unit)
def ZAc:Qy → St
 | (v0,v1,v2,v3) => St.mk (Zo [(7,Zg v0),(8,Zg v1),(1,AV.clo 194 [AV.bx 0 0]),(0,WK v2)]) (Zm [(0,Qe [Zg v3])])
def ZgC (k:Nat) (L1:Zca):Zca
 | (v0,v1,v2,v3) => bif decide (v1 < v0) then bif decide (0 ≤ v1 ∧ v1 < Int.ofNat v2.length) then (Zo3 k (v2.getD v1.toNat 0,(v3,()),())).bind fun y => bif y.1 then some (v1,(y.2.1.1,()),()) else L1 (v0,IntKind.i64.wrap (v1 + 1),v2,y.2.1.1) else none else some ((-1:Int),(v3,()),())
def ZfN (k:Nat):Zca:=Zh (fun L1 => ZgC k L1) k
noncomputable def ZiD (k:Nat) (n:Nat) (v:Qy) :=
 Zi (ZiC k) WN [0] [1,0,1,0] [] (Qh Tryz.f241) (Qi (ZiC k) Tryz.f241 WB Zf [AV.bx (nat_lit 0) (nat_lit 0)] [[]]) n (ZAc v)
def ZgB (k:Nat) (L1:Zca):List Int × ((Int × Unit) × Unit) × Unit → Option (Int × (Int × Unit) × Unit)
 | (a0,((a1,()),()),()) => L1 (Int.ofNat a0.length,(0:Int),a0,a1)
def ZdU (k:Nat):=ZgB k (ZfN k)
theorem Zsd (k:Nat):∀ n,ZiD k n = Zh (fun L1 => ZgC k L1) n :=
 Zc (fun v => by kernel_rfl) (fun n v => by
  obtain ⟨v0,v1,v2,v3⟩:=v
  kernel_rfl)
theorem ZAd (k:Nat) (x:Kd.dens WB):Zt (ZiC k) WN Tryz.f241 WB Zf x = ZdU k x:=by
 show _ = ZgB k (ZfN k) x
 rw [show ZfN k = ZiD k k from (Zsd k k).symm]
 obtain ⟨a0,⟨⟨⟨a1,⟨⟩⟩,⟨⟩⟩,⟨⟩⟩⟩:=x
 kernel_rfl
theorem Zu5 (k:Nat):Ctr Tryz.prog k 241 (mk WB Zf ZdU) :=
 Zu (fn:=Tryz.f241) (Zd (Za (ZCn k) Zb)) (by kernel_rfl) (by kernel_rfl) (ZAd k)
noncomputable abbrev ZCU:Nat × Callee:=(241,mk WB Zf ZdU)
noncomputable def ZCd (k:Nat):=Qq k [ZCU]
def Zgv (k:Nat):List Int × ((Int × Unit) × Unit) × Unit → Option (Bool × (Int × Unit) × Unit)
 | (a0,((a1,()),()),()) => (ZdU k (a0,((a1,()),()),())).bind fun y => some (decide ((0:Int) ≤ y.1),(y.2.1.1,()),())
def ZdH (k:Nat):=Zgv k
theorem ZzJ (k:Nat) (x:Kd.dens WB):Zt (ZCd k) nA Tryz.f193 WB Zv x = ZdH k x:=by
 show _ = Zgv k x
 obtain ⟨a0,⟨⟨⟨a1,⟨⟩⟩,⟨⟩⟩,⟨⟩⟩⟩:=x
 kernel_rfl
theorem ZuS (k:Nat):Ctr Tryz.prog k 193 (mk WB Zv ZdH) :=
 Zu (fn:=Tryz.f193) (Zd (Za (Zu5 k) Zb)) (by kernel_rfl) (by kernel_rfl) (ZzJ k)
noncomputable abbrev ZCe:Nat × Callee:=(193,mk WB Zv ZdH)
abbrev ZM:List Kd:=[.view (.sl (.int .i64)),.view (.int .i64)]
noncomputable def ZNB (k:Nat):=Qq k [ZKj,ZCe]
def ZtA (k:Nat):List Int × Int × Unit → Option (Int × Unit)
 | (a0,a1,()) => (ZtU k (Int.ofNat a0.length,a1,())).bind fun y => bif !y.1 then some (1,()) else (ZdH k (a0,((a1,()),()),())).bind fun y => bif y.1 then some (12,()) else some (0,())
def ZyM (k:Nat):=ZtA k
theorem ZMr (k:Nat) (x:Kd.dens ZM):Zt (ZNB k) nA Tryz.f151 ZM Zf x = ZyM k x:=by
 show _ = ZtA k x
 obtain ⟨a0,⟨a1,⟨⟩⟩⟩:=x
 kernel_rfl
theorem ZJm (k:Nat):Ctr Tryz.prog k 151 (mk ZM Zf ZyM) :=
 Zu (fn:=Tryz.f151) (Zd (Za (ZyY k) (Za (ZuS k) Zb))) (by kernel_rfl) (by kernel_rfl) (ZMr k)
noncomputable abbrev ZNC:Nat × Callee:=(151,mk ZM Zf ZyM)
abbrev Zg8:List Kd:=[.view (.int .i64),.box [.view (.int .i64),.view (.int .i64),.view (.int .i64),.view (.sl (.int .i64)),.view (.sl (.int .i64)),.view (.int .i64),.view (.sl (.int .i64)),.view (.int .i64)]]
def Zmm (k:Nat):Int × (Int × Int × Int × List Int × List Int × Int × List Int × Int × Unit) × Unit → Option (Bool × (Int × Int × Int × List Int × List Int × Int × List Int × Int × Unit) × Unit)
 | (a0,(a1,a2,a3,a4,a5,a6,a7,a8,()),()) => bif decide ((0:Int) ≤ 0 ∧ (0:Int) < Int.ofNat a4.length) then some (a0 != a4.getD 0 0,(a1,a2,a3,a4,a5,a6,a7,a8,()),()) else none
def Zo6 (k:Nat):=Zmm k
theorem ZGO (k:Nat) (x:Kd.dens Zg8):Zt (ZK k) nA Tryz.f197 Zg8 Zv x = Zo6 k x:=by
 show _ = Zmm k x
 obtain ⟨a0,⟨⟨a1,⟨a2,⟨a3,⟨a4,⟨a5,⟨a6,⟨a7,⟨a8,⟨⟩⟩⟩⟩⟩⟩⟩⟩⟩,⟨⟩⟩⟩:=x
 kernel_rfl
theorem ZCr (k:Nat):Ctr Tryz.prog k 197 (mk Zg8 Zv Zo6) :=
 Zu (fn:=Tryz.f197) (Zd Zb) (by kernel_rfl) (by kernel_rfl) (ZGO k)
noncomputable abbrev ZKM:Nat × Callee:=(197,mk Zg8 Zv Zo6)
abbrev WC:List Kd:=[.view (.sl (.int .i64)),.clo 197 [.box [.view (.int .i64),.view (.int .i64),.view (.int .i64),.view (.sl (.int .i64)),.view (.sl (.int .i64)),.view (.int .i64),.view (.sl (.int .i64)),.view (.int .i64)]]]
noncomputable def ZiE (k:Nat):=Qq k [ZKM]
abbrev ZfP:=Int × Int × List Int × Int × Int × Int × List Int × List Int × Int × List Int × Int
abbrev Zcb:=ZfP → Option (Int × (Int × Int × Int × List Int × List Int × Int × List Int × Int × Unit) × Unit)
def ZAe:ZfP → St
 | (v0,v1,v2,v3,v4,v5,v6,v7,v8,v9,v10) => St.mk (Zo [(7,Zg v0),(8,Zg v1),(1,AV.clo 197 [AV.bx 0 0]),(0,WK v2)]) (Zm [(0,Qe [Zg v3,Zg v4,Zg v5,WK v6,WK v7,Zg v8,WK v9,Zg v10])])
def ZgE (k:Nat) (L1:Zcb):Zcb
 | (v0,v1,v2,v3,v4,v5,v6,v7,v8,v9,v10) => bif decide (v1 < v0) then bif decide (0 ≤ v1 ∧ v1 < Int.ofNat v2.length) then (Zo6 k (v2.getD v1.toNat 0,(v3,v4,v5,v6,v7,v8,v9,v10,()),())).bind fun y => bif y.1 then some (v1,(y.2.1.1,y.2.1.2.1,y.2.1.2.2.1,y.2.1.2.2.2.1,y.2.1.2.2.2.2.1,y.2.1.2.2.2.2.2.1,y.2.1.2.2.2.2.2.2.1,y.2.1.2.2.2.2.2.2.2.1,()),()) else L1 (v0,IntKind.i64.wrap (v1 + 1),v2,y.2.1.1,y.2.1.2.1,y.2.1.2.2.1,y.2.1.2.2.2.1,y.2.1.2.2.2.2.1,y.2.1.2.2.2.2.2.1,y.2.1.2.2.2.2.2.2.1,y.2.1.2.2.2.2.2.2.2.1) else none else some ((-1:Int),(v3,v4,v5,v6,v7,v8,v9,v10,()),())
def ZfO (k:Nat):Zcb:=Zh (fun L1 => ZgE k L1) k
noncomputable def ZiF (k:Nat) (n:Nat) (v:ZfP) :=
 Zi (ZiE k) WN [0] [1,0,1,0] [] (Qh Tryz.f241) (Qi (ZiE k) Tryz.f241 WC Zf [AV.bx (nat_lit 0) (nat_lit 0)] [[]]) n (ZAe v)
def ZgD (k:Nat) (L1:Zcb):List Int × ((Int × Int × Int × List Int × List Int × Int × List Int × Int × Unit) × Unit) × Unit → Option (Int × (Int × Int × Int × List Int × List Int × Int × List Int × Int × Unit) × Unit)
 | (a0,((a1,a2,a3,a4,a5,a6,a7,a8,()),()),()) => L1 (Int.ofNat a0.length,(0:Int),a0,a1,a2,a3,a4,a5,a6,a7,a8)
def ZdV (k:Nat):=ZgD k (ZfO k)
theorem Zse (k:Nat):∀ n,ZiF k n = Zh (fun L1 => ZgE k L1) n :=
 Zc (fun v => by kernel_rfl) (fun n v => by
  obtain ⟨v0,v1,v2,v3,v4,v5,v6,v7,v8,v9,v10⟩:=v
  kernel_rfl)
theorem ZAf (k:Nat) (x:Kd.dens WC):Zt (ZiE k) WN Tryz.f241 WC Zf x = ZdV k x:=by
 show _ = ZgD k (ZfO k) x
 rw [show ZfO k = ZiF k k from (Zse k k).symm]
 obtain ⟨a0,⟨⟨⟨a1,⟨a2,⟨a3,⟨a4,⟨a5,⟨a6,⟨a7,⟨a8,⟨⟩⟩⟩⟩⟩⟩⟩⟩⟩,⟨⟩⟩,⟨⟩⟩⟩:=x
 kernel_rfl
theorem Zu6 (k:Nat):Ctr Tryz.prog k 241 (mk WC Zf ZdV) :=
 Zu (fn:=Tryz.f241) (Zd (Za (ZCr k) Zb)) (by kernel_rfl) (by kernel_rfl) (ZAf k)
noncomputable abbrev ZCV:Nat × Callee:=(241,mk WC Zf ZdV)
noncomputable def ZCf (k:Nat):=Qq k [ZCV]
def Zgw (k:Nat):List Int × ((Int × Int × Int × List Int × List Int × Int × List Int × Int × Unit) × Unit) × Unit → Option (Bool × (Int × Int × Int × List Int × List Int × Int × List Int × Int × Unit) × Unit)
 | (a0,((a1,a2,a3,a4,a5,a6,a7,a8,()),()),()) => (ZdV k (a0,((a1,a2,a3,a4,a5,a6,a7,a8,()),()),())).bind fun y => some (decide ((0:Int) ≤ y.1),(y.2.1.1,y.2.1.2.1,y.2.1.2.2.1,y.2.1.2.2.2.1,y.2.1.2.2.2.2.1,y.2.1.2.2.2.2.2.1,y.2.1.2.2.2.2.2.2.1,y.2.1.2.2.2.2.2.2.2.1,()),())
def ZdI (k:Nat):=Zgw k
theorem ZzK (k:Nat) (x:Kd.dens WC):Zt (ZCf k) nA Tryz.f193 WC Zv x = ZdI k x:=by
 show _ = Zgw k x
 obtain ⟨a0,⟨⟨⟨a1,⟨a2,⟨a3,⟨a4,⟨a5,⟨a6,⟨a7,⟨a8,⟨⟩⟩⟩⟩⟩⟩⟩⟩⟩,⟨⟩⟩,⟨⟩⟩⟩:=x
 kernel_rfl
theorem ZuT (k:Nat):Ctr Tryz.prog k 193 (mk WC Zv ZdI) :=
 Zu (fn:=Tryz.f193) (Zd (Za (Zu6 k) Zb)) (by kernel_rfl) (by kernel_rfl) (ZzK k)
noncomputable abbrev ZCg:Nat × Callee:=(193,mk WC Zv ZdI)
abbrev Zhs:List Kd:=[.view (.int .u64)]
def Zva (k:Nat):Int × Unit → Option (Int × Unit):=fun x => tzF x
def ZNU:Go.Shelf.Ren:=⟨fun n => match n with | 29 => 242 | _ => 0,fun n => match n with | 0 => 0 | 3 => 3 | 4 => 4 | 5 => 5 | 22 => 124 | 25 => 62 | 54 => 301 | _ => 0,fun n => match n with | 1 => 4 | _ => 0⟩
set_option maxRecDepth 100000 in
theorem ZM3:Go.Proofs.Lays7.n29 Tryz.prog ZNU:=by
 constructor <;> first | kernel_rfl | (intro w; rfl)
set_option maxRecDepth 100000 in
theorem ZCZ (k:Nat):Ctr Tryz.prog k 242 (mk Zhs Zf Zva):=ZM4 ZM3 (fn:=Tryz.f242) (by kernel_rfl) rfl (by kernel_rfl) (by kernel_rfl) (by kernel_rfl)
noncomputable abbrev ZK5:Nat × Callee:=(242,mk Zhs Zf Zva)
noncomputable def ZuW (k:Nat):=Qq k [ZK5]
def ZCo:Nat → Ann:=fun id => bif Nat.beq id 3 then ⟨[7,8,6,3],[]⟩ else ⟨[],[]⟩
abbrev Zg6:=Qy → Option (Int × Unit)
def ZGL:Qy → St
 | (v0,v1,v2,v3) => St.mk (Zo [(7,Zg v0),(8,Zg v1),(6,WK v2),(3,Zg v3)]) (Zm [])
def Zmk (k:Nat) (L1:Zg6):Zg6
 | (v0,v1,v2,v3) => bif decide (v1 < v0) then bif decide (0 ≤ v1 ∧ v1 < Int.ofNat v2.length) then L1 (v0,IntKind.i64.wrap (v1 + 1),v2,IntKind.i64.wrap (Int.ofNat (BitVec.ofInt 64 v3 ||| BitVec.ofInt 64 (v2.getD v1.toNat 0)).toNat)) else none else bif v3 == 0 then some (0,()) else (Zva k (IntKind.u64.wrap v3,())).bind fun y => some (y.1,())
def Zo5 (k:Nat):Zg6:=Zh (fun L1 => Zmk k L1) k
noncomputable def ZrT (k:Nat) (n:Nat) (v:Qy) :=
 Zi (ZuW k) ZCo [] [1,1,0,1,0] [] (Qh Tryz.f195) (Qi (ZuW k) Tryz.f195 Yg Zf [] []) n (ZGL v)
def Zmj (k:Nat) (L1:Zg6):List Int × Unit → Option (Int × Unit)
 | (a0,()) => L1 (Int.ofNat a0.length,(0:Int),a0,(0:Int))
def Zo4 (k:Nat):=Zmj k (Zo5 k)
theorem ZzP (k:Nat):∀ n,ZrT k n = Zh (fun L1 => Zmk k L1) n :=
 Zc (fun v => by kernel_rfl) (fun n v => by
  obtain ⟨v0,v1,v2,v3⟩:=v
  kernel_rfl)
theorem ZGM (k:Nat) (x:Kd.dens Yg):Zt (ZuW k) ZCo Tryz.f195 Yg Zf x = Zo4 k x:=by
 show _ = Zmj k (Zo5 k) x
 rw [show Zo5 k = ZrT k k from (ZzP k k).symm]
 obtain ⟨a0,⟨⟩⟩:=x
 kernel_rfl
theorem ZCp (k:Nat):Ctr Tryz.prog k 195 (mk Yg Zf Zo4) :=
 Zu (fn:=Tryz.f195) (Zd (Za (ZCZ k) Zb)) (by kernel_rfl) (by kernel_rfl) (ZGM k)
noncomputable abbrev ZKK:Nat × Callee:=(195,mk Yg Zf Zo4)
abbrev WW:Kd:=.tup [.view Zdk,.view (.int .i64)]
def Zo7:Nat → Ann:=fun id => bif Nat.beq id 17 then ⟨[48,49,47,8,2],[.cell 8 0 ((Ty.int IntKind.i64))]⟩ else bif Nat.beq id 9 then ⟨[29,30,28,5,20,19,2],[]⟩ else bif Nat.beq id 5 then ⟨[19,20,4,2],[]⟩ else ⟨[],[]⟩
abbrev Zpb:=Int × Int × Int × Int × List Int × List Int × Int
abbrev Zg9:=Zpb → Option (((List Int × Int × Unit) × Int × Unit) × Unit)
abbrev Zb6:=Int × Int × List Int × Int × List Int × Int
abbrev Zha:=Zb6 → Option (((List Int × Int × Unit) × Int × Unit) × Unit)
abbrev Zb5:=Qy → Option (((List Int × Int × Unit) × Int × Unit) × Unit)
def ZGQ:Zpb → St
 | (v0,v1,v2,v3,v4,v5,v6) => St.mk (Zo [(29,Zg v0),(30,Zg v1),(28,AV.own 8192),(5,AV.own 8193),(20,Zg v2),(19,Zg v3),(2,AV.bx 8194 0)]) (Zm [(8192,rsA v4 false),(8193,rsA v5 false),(8194,Qe [AV.val (PV.v (Value.slice none (0:Nat) (0:Nat))),Zg v6])])
def ZfC (k:Nat) (L1:Zb5) (L2:Zg9):Zg9
 | (v0,v1,v2,v3,v4,v5,v6) => bif decide (v1 < v0) then bif decide (0 ≤ v1 ∧ v1 < Int.ofNat v4.length) then bif decide (v1.toNat < v4.length) then bif decide (0 ≤ IntKind.i64.wrap (v1 + 1) ∧ IntKind.i64.wrap (v1 + 1) < Int.ofNat v5.length) then bif decide ((IntKind.i64.wrap (v1 + 1)).toNat < v5.length) then bif decide (0 ≤ IntKind.i64.wrap (v1 + 1) ∧ IntKind.i64.wrap (v1 + 1) < Int.ofNat v5.length) then bif decide ((IntKind.i64.wrap (v1 + 1)).toNat < v5.length) then L2 (v0,IntKind.i64.wrap (v1 + 1),v2,v3,v4,v5.set (IntKind.i64.wrap (v1 + 1)).toNat (IntKind.i64.wrap (v5.getD (IntKind.i64.wrap (v1 + 1)).toNat 0 - v4.getD v1.toNat 0)),v6) else none else none else none else none else none else none else L1 (v3,IntKind.i64.wrap (v2 + 1),v5,v6)
def Zo9 (k:Nat) (L1:Zb5):Zg9:=Zh (fun L2 => ZfC k L1 L2) k
noncomputable def ZdM (k:Nat) (n1:Nat) (n:Nat) (v:Zpb):Option (((List Int × Int × Unit) × Int × Unit) × Unit) :=
 Zi (ZK k) Zo7 [] [1,1,1,0,1,0,0,1,1,0,0,1,1,0,1,0] [n1] (Qh Tryz.f171) (Qi (ZK k) Tryz.f171 Zw WW [] []) n (ZGQ v)
def ZGR:Zb6 → St
 | (v0,v1,v2,v3,v4,v5) => St.mk (Zo [(48,Zg v0),(49,Zg v1),(47,WK v2),(8,AV.bx 8192 0),(2,AV.bx 8194 0)]) (Zm [(8192,Qe [AV.own 8193,Zg v3]),(8193,rsA v4 false),(8194,Qe [AV.val (PV.v (Value.slice none (0:Nat) (0:Nat))),Zg v5])])
def Zmp (k:Nat) (L3:Zha):Zha
 | (v0,v1,v2,v3,v4,v5) => bif decide (v1 < v0) then bif decide (0 ≤ v1 ∧ v1 < Int.ofNat v2.length) then bif decide (v4.length + [IntKind.i64.wrap ((0:Int) - v2.getD v1.toNat 0)].length < 2147483648) then L3 (v0,IntKind.i64.wrap (v1 + 1),v2,v3,v4 ++ [IntKind.i64.wrap ((0:Int) - v2.getD v1.toNat 0)],v5) else none else none else some (((v4,v3,()),0,()),())
def Zpa (k:Nat):Zha:=Zh (fun L3 => Zmp k L3) k
noncomputable def ZrU (k:Nat) (n:Nat) (v:Zb6) :=
 Zi (ZK k) Zo7 [] [1,1,1,1,1,0,1,0] [] (Qh Tryz.f171) (Qi (ZK k) Tryz.f171 Zw WW [] []) n (ZGR v)
def ZGP:Qy → St
 | (v0,v1,v2,v3) => St.mk (Zo [(19,Zg v0),(20,Zg v1),(4,AV.own 8192),(2,AV.bx 8193 0)]) (Zm [(8192,rsA v2 false),(8193,Qe [AV.val (PV.v (Value.slice none (0:Nat) (0:Nat))),Zg v3])])
def Zmo (k:Nat) (L2:Zg9) (L3:Zha) (L1:Zb5):Zb5
 | (v0,v1,v2,v3) => bif decide (v1 < v0) then bif decide ((0:Nat) + v2.length < 2147483648) then bif decide (([] ++ v2).length + (1:Nat) < (2147483648:Nat)) then L2 (Int.ofNat v2.length,(0:Int),v1,v0,v2,[] ++ v2 ++ [(0:Int)],v3) else none else none else bif decide ((0:Int) ≤ 1 ∧ (1:Int) ≤ Int.ofNat v2.length ∧ Int.ofNat v2.length ≤ Int.ofNat v2.length) then L3 (Int.ofNat (List.drop 1 (List.take (Int.ofNat v2.length).toNat v2)).length,(0:Int),List.drop 1 (List.take (Int.ofNat v2.length).toNat v2),(0:Int),[],v3) else none
def Zo8 (k:Nat):Zb5:=Zh (fun L1 => Zmo k (Zo9 k L1) (Zpa k) L1) k
noncomputable def Za9 (k:Nat) (n:Nat) (v:Qy) :=
 Zi (ZK k) Zo7 [] [1,1,1,0,1,0] [] (Qh Tryz.f171) (Qi (ZK k) Tryz.f171 Zw WW [] []) n (ZGP v)
def Zmn (k:Nat) (L1:Zb5):Int × Unit → Option (((List Int × Int × Unit) × Int × Unit) × Unit)
 | (a0,()) => bif decide (a0 < 0) then some ((([],(0:Int),()),1,()),()) else bif decide ((4:Int) < a0) then some ((([],(0:Int),()),1,()),()) else L1 (a0,(0:Int),[(1:Int)],(0:Int))
def Zc6 (k:Nat):=Zmn k (Zo8 k)
theorem ZzR (k:Nat) (n1:Nat):∀ n,ZdM k n1 n = Zh (fun L2 => ZfC k (Za9 k n1) L2) n :=
 Zc (fun v => by kernel_rfl) (fun n v => by
  show ZdM k n1 (n + 1) v = ZfC k (Za9 k n1) (ZdM k n1 n) v
  obtain ⟨v0,v1,v2,v3,v4,v5,v6⟩:=v
  kernel_rfl)
theorem ZzS (k:Nat):∀ n,ZrU k n = Zh (fun L3 => Zmp k L3) n :=
 Zc (fun v => by kernel_rfl) (fun n v => by
  obtain ⟨v0,v1,v2,v3,v4,v5⟩:=v
  kernel_rfl)
theorem ZzQ (k:Nat):∀ n,Za9 k n = Zh (fun L1 => Zmo k (Zo9 k L1) (Zpa k) L1) n :=
 Zc (fun v => by kernel_rfl) (fun n v => by
  rw [show (Zo9 k (Za9 k n)) = ZdM k n k from (ZzR k n k).symm,show (Zpa k) = ZrU k k from (ZzS k k).symm]
  obtain ⟨v0,v1,v2,v3⟩:=v
  kernel_rfl)
theorem ZGS (k:Nat) (x:Kd.dens Zw):Zt (ZK k) Zo7 Tryz.f171 Zw WW x = Zc6 k x:=by
 show _ = Zmn k (Zo8 k) x
 rw [show Zo8 k = Za9 k k from (ZzQ k k).symm]
 obtain ⟨a0,⟨⟩⟩:=x
 kernel_rfl
theorem Zis (k:Nat):Ctr Tryz.prog k 171 (mk Zw WW Zc6) :=
 Zu (fn:=Tryz.f171) (Zd Zb) (by kernel_rfl) (by kernel_rfl) (ZGS k)
noncomputable abbrev ZuX:Nat × Callee:=(171,mk Zw WW Zc6)
def Zm2 (k:Nat):Int × Unit → Option (Bool × Unit)
 | (a0,()) => bif decide (a0 ≤ -2147483648) then some (true,()) else some (decide (2147483648 ≤ a0),())
def ZfU (k:Nat):=Zm2 k
theorem ZHz (k:Nat) (x:Kd.dens Zw):Zt (ZK k) nA Tryz.f220 Zw Zv x = ZfU k x:=by
 show _ = Zm2 k x
 obtain ⟨a0,⟨⟩⟩:=x
 kernel_rfl
theorem ZiN (k:Nat):Ctr Tryz.prog k 220 (mk Zw Zv ZfU) :=
 Zu (fn:=Tryz.f220) (Zd Zb) (by kernel_rfl) (by kernel_rfl) (ZHz k)
noncomputable abbrev Zvg:Nat × Callee:=(220,mk Zw Zv ZfU)
abbrev WD:List Kd:=[.view (.sl (.int .i64)),.fn 220]
noncomputable def ZiG (k:Nat):=Qq k [Zvg]
abbrev Xy:=Int × Int × List Int
abbrev Qz:=Xy → Option (Int × Unit)
def ZAg:Xy → St
 | (v0,v1,v2) => St.mk (Zo [(7,Zg v0),(8,Zg v1),(1,AV.fn 220),(0,WK v2)]) (Zm [])
def ZgG (k:Nat) (L1:Qz):Qz
 | (v0,v1,v2) => bif decide (v1 < v0) then bif decide (0 ≤ v1 ∧ v1 < Int.ofNat v2.length) then (ZfU k (v2.getD v1.toNat 0,())).bind fun y => bif y.1 then some (v1,()) else L1 (v0,IntKind.i64.wrap (v1 + 1),v2) else none else some ((-1:Int),())
def ZfQ (k:Nat):Qz:=Zh (fun L1 => ZgG k L1) k
noncomputable def ZiH (k:Nat) (n:Nat) (v:Xy) :=
 Zi (ZiG k) WN [] [1,0,1,0] [] (Qh Tryz.f241) (Qi (ZiG k) Tryz.f241 WD Zf [] []) n (ZAg v)
def ZgF (k:Nat) (L1:Qz):List Int × Unit × Unit → Option (Int × Unit)
 | (a0,(),()) => L1 (Int.ofNat a0.length,(0:Int),a0)
def ZdW (k:Nat):=ZgF k (ZfQ k)
theorem Zsf (k:Nat):∀ n,ZiH k n = Zh (fun L1 => ZgG k L1) n :=
 Zc (fun v => by kernel_rfl) (fun n v => by
  obtain ⟨v0,v1,v2⟩:=v
  kernel_rfl)
theorem ZAh (k:Nat) (x:Kd.dens WD):Zt (ZiG k) WN Tryz.f241 WD Zf x = ZdW k x:=by
 show _ = ZgF k (ZfQ k) x
 rw [show ZfQ k = ZiH k k from (Zsf k k).symm]
 obtain ⟨a0,⟨⟨⟩,⟨⟩⟩⟩:=x
 kernel_rfl
theorem Zu7 (k:Nat):Ctr Tryz.prog k 241 (mk WD Zf ZdW) :=
 Zu (fn:=Tryz.f241) (Zd (Za (ZiN k) Zb)) (by kernel_rfl) (by kernel_rfl) (ZAh k)
noncomputable abbrev ZCW:Nat × Callee:=(241,mk WD Zf ZdW)
noncomputable def ZCh (k:Nat):=Qq k [ZCW]
def Zgx (k:Nat):List Int × Unit × Unit → Option (Bool × Unit)
 | (a0,(),()) => (ZdW k (a0,(),())).bind fun y => some (decide ((0:Int) ≤ y.1),())
def Yv (k:Nat):=Zgx k
theorem ZzL (k:Nat) (x:Kd.dens WD):Zt (ZCh k) nA Tryz.f193 WD Zv x = Yv k x:=by
 show _ = Zgx k x
 obtain ⟨a0,⟨⟨⟩,⟨⟩⟩⟩:=x
 kernel_rfl
theorem Zc4 (k:Nat):Ctr Tryz.prog k 193 (mk WD Zv Yv) :=
 Zu (fn:=Tryz.f193) (Zd (Za (Zu7 k) Zb)) (by kernel_rfl) (by kernel_rfl) (ZzL k)
noncomputable abbrev Ziq:Nat × Callee:=(193,mk WD Zv Yv)
def Znx (k:Nat):Int × Unit → Option (Bool × Unit)
 | (a0,()) => bif decide (a0 < -2048) then some (true,()) else some (decide ((2047:Int) < a0),())
def Zql (k:Nat):=Znx k
theorem ZH6 (k:Nat) (x:Kd.dens Zw):Zt (ZK k) nA Tryz.f257 Zw Zv x = Zql k x:=by
 show _ = Znx k x
 obtain ⟨a0,⟨⟩⟩:=x
 kernel_rfl
theorem ZDx (k:Nat):Ctr Tryz.prog k 257 (mk Zw Zv Zql) :=
 Zu (fn:=Tryz.f257) (Zd Zb) (by kernel_rfl) (by kernel_rfl) (ZH6 k)
noncomputable abbrev ZLF:Nat × Callee:=(257,mk Zw Zv Zql)
abbrev WF:List Kd:=[.view (.sl (.int .i64)),.fn 257]
noncomputable def ZiK (k:Nat):=Qq k [ZLF]
def ZAk:Xy → St
 | (v0,v1,v2) => St.mk (Zo [(7,Zg v0),(8,Zg v1),(1,AV.fn 257),(0,WK v2)]) (Zm [])
def ZgK (k:Nat) (L1:Qz):Qz
 | (v0,v1,v2) => bif decide (v1 < v0) then bif decide (0 ≤ v1 ∧ v1 < Int.ofNat v2.length) then (Zql k (v2.getD v1.toNat 0,())).bind fun y => bif y.1 then some (v1,()) else L1 (v0,IntKind.i64.wrap (v1 + 1),v2) else none else some ((-1:Int),())
def ZfS (k:Nat):Qz:=Zh (fun L1 => ZgK k L1) k
noncomputable def ZiL (k:Nat) (n:Nat) (v:Xy) :=
 Zi (ZiK k) WN [] [1,0,1,0] [] (Qh Tryz.f241) (Qi (ZiK k) Tryz.f241 WF Zf [] []) n (ZAk v)
def ZgJ (k:Nat) (L1:Qz):List Int × Unit × Unit → Option (Int × Unit)
 | (a0,(),()) => L1 (Int.ofNat a0.length,(0:Int),a0)
def ZdY (k:Nat):=ZgJ k (ZfS k)
theorem Zsh (k:Nat):∀ n,ZiL k n = Zh (fun L1 => ZgK k L1) n :=
 Zc (fun v => by kernel_rfl) (fun n v => by
  obtain ⟨v0,v1,v2⟩:=v
  kernel_rfl)
theorem ZAl (k:Nat) (x:Kd.dens WF):Zt (ZiK k) WN Tryz.f241 WF Zf x = ZdY k x:=by
 show _ = ZgJ k (ZfS k) x
 rw [show ZfS k = ZiL k k from (Zsh k k).symm]
 obtain ⟨a0,⟨⟨⟩,⟨⟩⟩⟩:=x
 kernel_rfl
theorem Zu9 (k:Nat):Ctr Tryz.prog k 241 (mk WF Zf ZdY) :=
 Zu (fn:=Tryz.f241) (Zd (Za (ZDx k) Zb)) (by kernel_rfl) (by kernel_rfl) (ZAl k)
noncomputable abbrev ZCY:Nat × Callee:=(241,mk WF Zf ZdY)
noncomputable def ZCk (k:Nat):=Qq k [ZCY]
def Zgz (k:Nat):List Int × Unit × Unit → Option (Bool × Unit)
 | (a0,(),()) => (ZdY k (a0,(),())).bind fun y => some (decide ((0:Int) ≤ y.1),())
def ZdK (k:Nat):=Zgz k
theorem ZzN (k:Nat) (x:Kd.dens WF):Zt (ZCk k) nA Tryz.f193 WF Zv x = ZdK k x:=by
 show _ = Zgz k x
 obtain ⟨a0,⟨⟨⟩,⟨⟩⟩⟩:=x
 kernel_rfl
theorem ZuV (k:Nat):Ctr Tryz.prog k 193 (mk WF Zv ZdK) :=
 Zu (fn:=Tryz.f193) (Zd (Za (Zu9 k) Zb)) (by kernel_rfl) (by kernel_rfl) (ZzN k)
noncomputable abbrev ZCl:Nat × Callee:=(193,mk WF Zv ZdK)
abbrev Zhz:List Kd:=[.view Zdk]
noncomputable def ZLn (k:Nat):=Qq k [ZCl]
def Znk (k:Nat):(List Int × Int × Unit) × Unit → Option (Int × Unit)
 | ((a0,a1,()),()) => bif decide ((8:Int) < Int.ofNat a0.length) then some (2,()) else bif decide (a1 < 0) then some (2,()) else bif decide ((15:Int) < a1) then some (2,()) else (ZdK k (a0,(),())).bind fun y => bif y.1 then some (2,()) else some (0,())
def ZiU (k:Nat):=Znk k
theorem ZHS (k:Nat) (x:Kd.dens Zhz):Zt (ZLn k) nA Tryz.f219 Zhz Zf x = ZiU k x:=by
 show _ = Znk k x
 obtain ⟨⟨a0,⟨a1,⟨⟩⟩⟩,⟨⟩⟩:=x
 kernel_rfl
theorem Zsy (k:Nat):Ctr Tryz.prog k 219 (mk Zhz Zf ZiU) :=
 Zu (fn:=Tryz.f219) (Zd (Za (ZuV k) Zb)) (by kernel_rfl) (by kernel_rfl) (ZHS k)
noncomputable abbrev ZDi:Nat × Callee:=(219,mk Zhz Zf ZiU)
abbrev Q3:List Kd:=[.view Zdk,.view (.sl (.int .i64))]
def ZDj:Nat → Ann:=fun id => bif Nat.beq id 3 then ⟨[10,11,9,5,1,2],[]⟩ else ⟨[],[]⟩
abbrev Zp9:=Int × Int × List Int × Int × List Int × List Int × Int
abbrev ZhA:=Zp9 → Option (Int × Unit)
def ZHT:Zp9 → St
 | (v0,v1,v2,v3,v4,v5,v6) => St.mk (Zo [(10,Zg v0),(11,Zg v1),(9,WK v2),(5,Zg v3),(1,WK v4),(2,AV.bx 8192 0)]) (Zm [(8192,Qe [WK v5,Zg v6])])
def Znm (k:Nat) (L1:ZhA):ZhA
 | (v0,v1,v2,v3,v4,v5,v6) => bif decide (v1 < v0) then bif decide (0 ≤ v1 ∧ v1 < Int.ofNat v2.length) then bif decide (0 ≤ IntKind.i64.wrap (IntKind.i64.wrap (Int.ofNat v4.length - (1:Int)) - v1) ∧ IntKind.i64.wrap (IntKind.i64.wrap (Int.ofNat v4.length - (1:Int)) - v1) < Int.ofNat v4.length) then L1 (v0,IntKind.i64.wrap (v1 + 1),v2,IntKind.i64.wrap (v3 + IntKind.i64.wrap (v2.getD v1.toNat 0 * v4.getD (IntKind.i64.wrap (IntKind.i64.wrap (Int.ofNat v4.length - (1:Int)) - v1)).toNat 0)),v4,v5,v6) else none else none else bif decide (0 ≤ v6) then some (v3.fdiv ((2:Int) ^ min v6.toNat 64),()) else none
def Zp8 (k:Nat):ZhA:=Zh (fun L1 => Znm k L1) k
noncomputable def Zsz (k:Nat) (n:Nat) (v:Zp9) :=
 Zi (ZK k) ZDj [] [1,1,0,1,0] [] (Qh Tryz.f222) (Qi (ZK k) Tryz.f222 Q3 Zf [] []) n (ZHT v)
def Znl (k:Nat) (L1:ZhA):(List Int × Int × Unit) × List Int × Unit → Option (Int × Unit)
 | ((a0,a1,()),a2,()) => L1 (Int.ofNat a0.length,(0:Int),a0,(0:Int),a2,a0,a1)
def ZiV (k:Nat):=Znl k (Zp8 k)
theorem ZAw (k:Nat):∀ n,Zsz k n = Zh (fun L1 => Znm k L1) n :=
 Zc (fun v => by kernel_rfl) (fun n v => by
  obtain ⟨v0,v1,v2,v3,v4,v5,v6⟩:=v
  kernel_rfl)
theorem ZHU (k:Nat) (x:Kd.dens Q3):Zt (ZK k) ZDj Tryz.f222 Q3 Zf x = ZiV k x:=by
 show _ = Znl k (Zp8 k) x
 rw [show Zp8 k = Zsz k k from (ZAw k k).symm]
 obtain ⟨⟨a0,⟨a1,⟨⟩⟩⟩,⟨a2,⟨⟩⟩⟩:=x
 kernel_rfl
theorem ZsA (k:Nat):Ctr Tryz.prog k 222 (mk Q3 Zf ZiV) :=
 Zu (fn:=Tryz.f222) (Zd Zb) (by kernel_rfl) (by kernel_rfl) (ZHU k)
noncomputable abbrev ZDk:Nat × Callee:=(222,mk Q3 Zf ZiV)
abbrev Ql:Kd:=.tup [.view (.sl (.int .i64)),.view (.int .i64)]
noncomputable def Zvb (k:Nat):=Qq k [Ziq,Zvg,ZDi,ZDk]
def ZC0:Nat → Ann:=fun id => bif Nat.beq id 9 then ⟨[7,1,2,6],[.slot 6 ((Ty.int IntKind.i64))]⟩ else ⟨[],[]⟩
abbrev ZpL:=Int × List Int × List Int × Int × List Int
abbrev Zht:=ZpL → Option ((List Int × Int × Unit) × Unit)
def ZHv:ZpL → St
 | (v0,v1,v2,v3,v4) => St.mk (Zo [(7,Zg v0),(1,WK v1),(2,AV.bx 8192 0),(6,AV.own 8193)]) (Zm [(8192,Qe [WK v2,Zg v3]),(8193,rsA v4 false)])
def Zm0 (k:Nat) (L1:Zht):Zht
 | (v0,v1,v2,v3,v4) => bif decide (v0 < Int.ofNat v1.length) then bif decide (0 ≤ v0 ∧ v0 < Int.ofNat v1.length) then bif decide ((0:Int) ≤ 0 ∧ (0:Int) ≤ v0 ∧ v0 ≤ Int.ofNat v1.length) then (ZiV k ((v2,v3,()),List.drop 0 (List.take v0.toNat v1),())).bind fun y => (ZfU k (IntKind.i64.wrap (v1.getD v0.toNat 0 - y.1),())).bind fun y_1 => bif y_1.1 then some (([],12,()),()) else bif decide (v4.length + [IntKind.i64.wrap (v1.getD v0.toNat 0 - y.1)].length < 2147483648) then L1 (IntKind.i64.wrap (v0 + 1),v1,v2,v3,v4 ++ [IntKind.i64.wrap (v1.getD v0.toNat 0 - y.1)]) else none else none else none else some ((v4,0,()),())
def ZpK (k:Nat):Zht:=Zh (fun L1 => Zm0 k L1) k
noncomputable def Zsi (k:Nat) (n:Nat) (v:ZpL) :=
 Zi (Zvb k) ZC0 [] [1,1,1,0,1,0] [] (Qh Tryz.f243) (Qi (Zvb k) Tryz.f243 Q3 Ql [] []) n (ZHv v)
def ZmZ (k:Nat) (L1:Zht):(List Int × Int × Unit) × List Int × Unit → Option ((List Int × Int × Unit) × Unit)
 | ((a0,a1,()),a2,()) => (ZiU k ((a0,a1,()),())).bind fun y => bif y.1 != 0 then some (([],2,()),()) else bif decide (Int.ofNat a2.length < Int.ofNat a0.length) then some (([],1,()),()) else (Yv k (a2,(),())).bind fun y => bif y.1 then some (([],12,()),()) else L1 (Int.ofNat a0.length,a2,a0,a1,[])
def ZiM (k:Nat):=ZmZ k (ZpK k)
theorem ZAm (k:Nat):∀ n,Zsi k n = Zh (fun L1 => Zm0 k L1) n :=
 Zc (fun v => by kernel_rfl) (fun n v => by
  obtain ⟨v0,v1,v2,v3,v4⟩:=v
  kernel_rfl)
theorem ZHw (k:Nat) (x:Kd.dens Q3):Zt (Zvb k) ZC0 Tryz.f243 Q3 Ql x = ZiM k x:=by
 show _ = ZmZ k (ZpK k) x
 rw [show ZpK k = Zsi k k from (ZAm k k).symm]
 obtain ⟨⟨a0,⟨a1,⟨⟩⟩⟩,⟨a2,⟨⟩⟩⟩:=x
 kernel_rfl
theorem Zsj (k:Nat):Ctr Tryz.prog k 243 (mk Q3 Ql ZiM) :=
 Zu (fn:=Tryz.f243) (Zd (Za (Zc4 k) (Za (ZiN k) (Za (Zsy k) (Za (ZsA k) Zb))))) (by kernel_rfl) (by kernel_rfl) (ZHw k)
noncomputable abbrev ZC1:Nat × Callee:=(243,mk Q3 Ql ZiM)
def Zm8 (k:Nat):Int × Unit → Option (Bool × Unit)
 | (a0,()) => bif decide (a0 ≤ -2147483648) then some (true,()) else some (decide (2147483648 ≤ a0),())
def ZpT (k:Nat):=Zm8 k
theorem ZHF (k:Nat) (x:Kd.dens Zw):Zt (ZK k) nA Tryz.f247 Zw Zv x = ZpT k x:=by
 show _ = Zm8 k x
 obtain ⟨a0,⟨⟩⟩:=x
 kernel_rfl
theorem ZDc (k:Nat):Ctr Tryz.prog k 247 (mk Zw Zv ZpT) :=
 Zu (fn:=Tryz.f247) (Zd Zb) (by kernel_rfl) (by kernel_rfl) (ZHF k)
noncomputable abbrev ZLd:Nat × Callee:=(247,mk Zw Zv ZpT)
abbrev WE:List Kd:=[.view (.sl (.int .i64)),.fn 247]
noncomputable def ZiI (k:Nat):=Qq k [ZLd]
def ZAi:Xy → St
 | (v0,v1,v2) => St.mk (Zo [(7,Zg v0),(8,Zg v1),(1,AV.fn 247),(0,WK v2)]) (Zm [])
def ZgI (k:Nat) (L1:Qz):Qz
 | (v0,v1,v2) => bif decide (v1 < v0) then bif decide (0 ≤ v1 ∧ v1 < Int.ofNat v2.length) then (ZpT k (v2.getD v1.toNat 0,())).bind fun y => bif y.1 then some (v1,()) else L1 (v0,IntKind.i64.wrap (v1 + 1),v2) else none else some ((-1:Int),())
def ZfR (k:Nat):Qz:=Zh (fun L1 => ZgI k L1) k
noncomputable def ZiJ (k:Nat) (n:Nat) (v:Xy) :=
 Zi (ZiI k) WN [] [1,0,1,0] [] (Qh Tryz.f241) (Qi (ZiI k) Tryz.f241 WE Zf [] []) n (ZAi v)
def ZgH (k:Nat) (L1:Qz):List Int × Unit × Unit → Option (Int × Unit)
 | (a0,(),()) => L1 (Int.ofNat a0.length,(0:Int),a0)
def ZdX (k:Nat):=ZgH k (ZfR k)
theorem Zsg (k:Nat):∀ n,ZiJ k n = Zh (fun L1 => ZgI k L1) n :=
 Zc (fun v => by kernel_rfl) (fun n v => by
  obtain ⟨v0,v1,v2⟩:=v
  kernel_rfl)
theorem ZAj (k:Nat) (x:Kd.dens WE):Zt (ZiI k) WN Tryz.f241 WE Zf x = ZdX k x:=by
 show _ = ZgH k (ZfR k) x
 rw [show ZfR k = ZiJ k k from (Zsg k k).symm]
 obtain ⟨a0,⟨⟨⟩,⟨⟩⟩⟩:=x
 kernel_rfl
theorem Zu8 (k:Nat):Ctr Tryz.prog k 241 (mk WE Zf ZdX) :=
 Zu (fn:=Tryz.f241) (Zd (Za (ZDc k) Zb)) (by kernel_rfl) (by kernel_rfl) (ZAj k)
noncomputable abbrev ZCX:Nat × Callee:=(241,mk WE Zf ZdX)
noncomputable def ZCi (k:Nat):=Qq k [ZCX]
def Zgy (k:Nat):List Int × Unit × Unit → Option (Bool × Unit)
 | (a0,(),()) => (ZdX k (a0,(),())).bind fun y => some (decide ((0:Int) ≤ y.1),())
def ZdJ (k:Nat):=Zgy k
theorem ZzM (k:Nat) (x:Kd.dens WE):Zt (ZCi k) nA Tryz.f193 WE Zv x = ZdJ k x:=by
 show _ = Zgy k x
 obtain ⟨a0,⟨⟨⟩,⟨⟩⟩⟩:=x
 kernel_rfl
theorem ZuU (k:Nat):Ctr Tryz.prog k 193 (mk WE Zv ZdJ) :=
 Zu (fn:=Tryz.f193) (Zd (Za (Zu8 k) Zb)) (by kernel_rfl) (by kernel_rfl) (ZzM k)
noncomputable abbrev ZCj:Nat × Callee:=(193,mk WE Zv ZdJ)
def Zm7 (k:Nat):Int × Int × Unit → Option (Bool × Unit)
 | (a0,a1,()) => bif decide (1 ≤ a0) then bif decide (a0 ≤ 512) then bif decide (0 ≤ a1) then some (decide (a1 ≤ if a0 < 8 then a0 else (8:Int)),()) else some (false,()) else some (false,()) else some (false,())
def ZiQ (k:Nat):=Zm7 k
theorem ZHE (k:Nat) (x:Kd.dens Wv):Zt (ZK k) nA Tryz.f216 Wv Zv x = ZiQ k x:=by
 show _ = Zm7 k x
 obtain ⟨a0,⟨a1,⟨⟩⟩⟩:=x
 kernel_rfl
theorem Zss (k:Nat):Ctr Tryz.prog k 216 (mk Wv Zv ZiQ) :=
 Zu (fn:=Tryz.f216) (Zd Zb) (by kernel_rfl) (by kernel_rfl) (ZHE k)
noncomputable abbrev ZDb:Nat × Callee:=(216,mk Wv Zv ZiQ)
noncomputable def ZKQ (k:Nat):=Qq k [ZCj,ZDb]
def Zmu (k:Nat):List Int × Int × Unit → Option (Int × Unit)
 | (a0,a1,()) => bif decide (a1 < 0) then some (1,()) else bif decide ((8:Int) < a1) then some (1,()) else (ZiQ k (IntKind.i64.wrap (Int.ofNat a0.length + a1),a1,())).bind fun y => bif !y.1 then some (1,()) else (ZdJ k (a0,(),())).bind fun y => bif y.1 then some (12,()) else some (0,())
def Ziv (k:Nat):=Zmu k
theorem ZGZ (k:Nat) (x:Kd.dens ZM):Zt (ZKQ k) nA Tryz.f201 ZM Zf x = Ziv k x:=by
 show _ = Zmu k x
 obtain ⟨a0,⟨a1,⟨⟩⟩⟩:=x
 kernel_rfl
theorem ZrW (k:Nat):Ctr Tryz.prog k 201 (mk ZM Zf Ziv) :=
 Zu (fn:=Tryz.f201) (Zd (Za (ZuU k) (Za (Zss k) Zb))) (by kernel_rfl) (by kernel_rfl) (ZGZ k)
noncomputable abbrev ZCv:Nat × Callee:=(201,mk ZM Zf Ziv)
abbrev ZdP:List Kd:=[.view (.sl (.int .i64)),.view (.int .i64),.view (.int .i64)]
abbrev Zhh:Kd:=.view (.sl (.sl (.int .i64)))
def ZCx:Nat → Ann:=fun id => bif Nat.beq id 4 then ⟨[8,2,9,7],[]⟩ else ⟨[],[]⟩
abbrev Zpr:=Int × List Int × Int × List (List Int)
abbrev Zhg:=Zpr → Option (List (List Int) × Unit)
def ZG4:Zpr → St
 | (v0,v1,v2,v3) => St.mk (Zo [(8,AV.own 8192),(2,Zg v0),(9,WK v1),(7,Zg v2)]) (Zm [(8192,RS.live (Res.arr (Ty.int IntKind.i64).sl v3 false))])
def Zmy (k:Nat) (L1:Zhg):Zhg
 | (v0,v1,v2,v3) => bif decide (0 ≤ v0) then bif decide (Int.ofNat v3.length < IntKind.i64.wrap ((1:Int) * (2:Int) ^ min v0.toNat 64)) then bif decide ((0:Int) ≤ 0 ∧ (0:Int) ≤ v2 ∧ v2 ≤ Int.ofNat v1.length) then bif decide (v3.length + [List.drop 0 (List.take v2.toNat v1)].length < 2147483648) then bif decide (0 ≤ v2 ∧ v2 ≤ Int.ofNat v1.length ∧ Int.ofNat v1.length ≤ Int.ofNat v1.length) then L1 (v0,List.drop v2.toNat (List.take (Int.ofNat v1.length).toNat v1),v2,v3 ++ [List.drop 0 (List.take v2.toNat v1)]) else none else none else none else some (v3,()) else none
def Zpq (k:Nat):Zhg:=Zh (fun L1 => Zmy k L1) k
noncomputable def ZrY (k:Nat) (n:Nat) (v:Zpr) :=
 Zi (ZK k) ZCx [] [1,1,1,0,1,0] [] (Qh Tryz.f203) (Qi (ZK k) Tryz.f203 ZdP Zhh [] []) n (ZG4 v)
def Zmx (k:Nat) (L1:Zhg):List Int × Int × Int × Unit → Option (List (List Int) × Unit)
 | (a0,a1,a2,()) => bif decide (0 ≤ a2) then bif decide ((0:Int) ≤ 0 ∧ (0:Int) ≤ IntKind.i64.wrap ((IntKind.i64.wrap (Int.ofNat a0.length + a1)).fdiv ((2:Int) ^ min a2.toNat 64) - a1) ∧ IntKind.i64.wrap ((IntKind.i64.wrap (Int.ofNat a0.length + a1)).fdiv ((2:Int) ^ min a2.toNat 64) - a1) ≤ Int.ofNat a0.length) then bif decide (0 ≤ IntKind.i64.wrap ((IntKind.i64.wrap (Int.ofNat a0.length + a1)).fdiv ((2:Int) ^ min a2.toNat 64) - a1) ∧ IntKind.i64.wrap ((IntKind.i64.wrap (Int.ofNat a0.length + a1)).fdiv ((2:Int) ^ min a2.toNat 64) - a1) ≤ Int.ofNat a0.length ∧ Int.ofNat a0.length ≤ Int.ofNat a0.length) then L1 (a2,List.drop (IntKind.i64.wrap ((IntKind.i64.wrap (Int.ofNat a0.length + a1)).fdiv ((2:Int) ^ min a2.toNat 64) - a1)).toNat (List.take (Int.ofNat a0.length).toNat a0),(IntKind.i64.wrap (Int.ofNat a0.length + a1)).fdiv ((2:Int) ^ min a2.toNat 64),[List.drop 0 (List.take (IntKind.i64.wrap ((IntKind.i64.wrap (Int.ofNat a0.length + a1)).fdiv ((2:Int) ^ min a2.toNat 64) - a1)).toNat a0)]) else none else none else none
def Zix (k:Nat):=Zmx k (Zpq k)
theorem ZzZ (k:Nat):∀ n,ZrY k n = Zh (fun L1 => Zmy k L1) n :=
 Zc (fun v => by kernel_rfl) (fun n v => by
  obtain ⟨v0,v1,v2,v3⟩:=v
  kernel_rfl)
theorem ZG5 (k:Nat) (x:Kd.dens ZdP):Zt (ZK k) ZCx Tryz.f203 ZdP Zhh x = Zix k x:=by
 show _ = Zmx k (Zpq k) x
 rw [show Zpq k = ZrY k k from (ZzZ k k).symm]
 obtain ⟨a0,⟨a1,⟨a2,⟨⟩⟩⟩⟩:=x
 kernel_rfl
theorem ZrZ (k:Nat):Ctr Tryz.prog k 203 (mk ZdP Zhh Zix) :=
 Zu (fn:=Tryz.f203) (Zd Zb) (by kernel_rfl) (by kernel_rfl) (ZG5 k)
noncomputable abbrev ZCy:Nat × Callee:=(203,mk ZdP Zhh Zix)
def Zmz (k:Nat):Int × Unit → Option (Int × Unit)
 | (a0,()) => some (IntKind.i64.wrap ((4:Int) + a0),())
def Zc9 (k:Nat):=Zmz k
theorem ZG6 (k:Nat) (x:Kd.dens Zw):Zt (ZK k) nA Tryz.f204 Zw Zf x = Zc9 k x:=by
 show _ = Zmz k x
 obtain ⟨a0,⟨⟩⟩:=x
 kernel_rfl
theorem Zr0 (k:Nat):Ctr Tryz.prog k 204 (mk Zw Zf Zc9) :=
 Zu (fn:=Tryz.f204) (Zd Zb) (by kernel_rfl) (by kernel_rfl) (ZG6 k)
noncomputable abbrev ZKR:Nat × Callee:=(204,mk Zw Zf Zc9)
abbrev Zcc:List Kd:=[.view (.int .i64),.view (.int .i64),.view (.int .i64)]
def Zm9 (k:Nat):Int × Int × Int × Unit → Option (Bool × Unit)
 | (a0,a1,a2,()) => bif decide (0 ≤ a2) then bif IntKind.i64.wrap (Int.ofNat (BitVec.ofInt 64 a0 &&& BitVec.ofInt 64 (IntKind.i64.wrap (IntKind.i64.wrap ((1:Int) * (2:Int) ^ min a2.toNat 64) - (1:Int)))).toNat) == 0 then bif decide (0 ≤ a2) then some (decide (a1 ≤ a0.fdiv ((2:Int) ^ min a2.toNat 64)),()) else none else some (false,()) else none
def Zdd (k:Nat):=Zm9 k
theorem ZHG (k:Nat) (x:Kd.dens Zcc):Zt (ZK k) nA Tryz.f217 Zcc Zv x = Zdd k x:=by
 show _ = Zm9 k x
 obtain ⟨a0,⟨a1,⟨a2,⟨⟩⟩⟩⟩:=x
 kernel_rfl
theorem Zst (k:Nat):Ctr Tryz.prog k 217 (mk Zcc Zv Zdd) :=
 Zu (fn:=Tryz.f217) (Zd Zb) (by kernel_rfl) (by kernel_rfl) (ZHG k)
noncomputable abbrev ZLe:Nat × Callee:=(217,mk Zcc Zv Zdd)
noncomputable def ZKS (k:Nat):=Qq k [ZKR]
def ZmA (k:Nat):Int × Unit → Option (Int × Unit)
 | (a0,()) => (Zc9 k (a0,())).bind fun y => bif decide ((0:Int) ≤ y.1) then some (IntKind.i64.wrap (IntKind.i64.wrap ((1:Int) * (2:Int) ^ min (Int.toNat y.1) (64:Nat)) - (1:Int)),()) else none
def ZfI (k:Nat):=ZmA k
theorem ZG7 (k:Nat) (x:Kd.dens Zw):Zt (ZKS k) nA Tryz.f205 Zw Zf x = ZfI k x:=by
 show _ = ZmA k x
 obtain ⟨a0,⟨⟩⟩:=x
 kernel_rfl
theorem ZCz (k:Nat):Ctr Tryz.prog k 205 (mk Zw Zf ZfI) :=
 Zu (fn:=Tryz.f205) (Zd (Za (Zr0 k) Zb)) (by kernel_rfl) (by kernel_rfl) (ZG7 k)
noncomputable abbrev ZN1:Nat × Callee:=(205,mk Zw Zf ZfI)
def ZmC (k:Nat):Int × Unit → Option ((Int × Int × Unit) × Unit)
 | (a0,()) => bif decide (a0 < -1099511627776) then some ((0,12,()),()) else bif decide ((1099511627776:Int) < a0) then some ((0,12,()),()) else some ((IntKind.i64.wrap (Int.ofNat (BitVec.ofInt 64 (IntKind.i64.wrap (a0 * (2:Int))) ^^^ BitVec.ofInt 64 (a0.fdiv (9223372036854775808:Int))).toNat),0,()),())
def ZfK (k:Nat):=ZmC k
theorem ZG8 (k:Nat) (x:Kd.dens Zw):Zt (ZK k) nA Tryz.f206 Zw ZN x = ZfK k x:=by
 show _ = ZmC k x
 obtain ⟨a0,⟨⟩⟩:=x
 kernel_rfl
theorem ZCA (k:Nat):Ctr Tryz.prog k 206 (mk Zw ZN ZfK) :=
 Zu (fn:=Tryz.f206) (Zd Zb) (by kernel_rfl) (by kernel_rfl) (ZG8 k)
noncomputable abbrev ZN2:Nat × Callee:=(206,mk Zw ZN ZfK)
def Zvo (k:Nat):Int × Unit → Option (Int × Unit):=fun x => ZMQ x
def ZMR:Go.Shelf.Ren:=⟨fun n => match n with | 129 => 270 | _ => 0,fun n => match n with | 0 => 0 | 3 => 3 | 4 => 4 | 5 => 5 | 9 => 9 | 46 => 62 | 53 => 124 | _ => 0,fun n => n⟩
set_option maxRecDepth 100000 in
theorem ZJz:Go.Proofs.Lays.n129 Tryz.prog ZMR:=by
 constructor <;> first | kernel_rfl | (intro w; rfl)
set_option maxRecDepth 100000 in
theorem ZDz (k:Nat):Ctr Tryz.prog k 270 (mk Zhs Zf Zvo):=ZBk ZJz (fn:=Tryz.f270) (by kernel_rfl) (by kernel_rfl) (by kernel_rfl) (by kernel_rfl)
noncomputable abbrev ZLG:Nat × Callee:=(270,mk Zhs Zf Zvo)
noncomputable def ZLt (k:Nat):=Qq k [ZLG]
def Znq (k:Nat):Int × Unit → Option (Int × Unit)
 | (a0,()) => (Zvo k (IntKind.u64.wrap (IntKind.i64.wrap (Int.ofNat (BitVec.ofInt 64 a0 ^^^ BitVec.ofInt 64 (a0.fdiv (9223372036854775808:Int))).toNat)),())).bind fun y => some (IntKind.i64.wrap (y.1 + 1),())
def Zqc (k:Nat):=Znq k
theorem ZHY (k:Nat) (x:Kd.dens Zw):Zt (ZLt k) nA Tryz.f267 Zw Zf x = Zqc k x:=by
 show _ = Znq k x
 obtain ⟨a0,⟨⟩⟩:=x
 kernel_rfl
theorem ZDo (k:Nat):Ctr Tryz.prog k 267 (mk Zw Zf Zqc) :=
 Zu (fn:=Tryz.f267) (Zd (Za (ZDz k) Zb)) (by kernel_rfl) (by kernel_rfl) (ZHY k)
noncomputable abbrev ZLu:Nat × Callee:=(267,mk Zw Zf Zqc)
def Yw (k:Nat):Int × Unit → Option (Int × Unit):=match k with | 0 => ZfI 0 | n + 1 => ZfI (n + 1)
theorem Zz1:Yw = ZfI:=by funext k; cases k <;> rfl
theorem ZfJ (k:Nat):Ctr Tryz.prog k 205 (mk Zw Zf Yw):=by rw [Zz1]; exact ZCz k
def ZfL (k:Nat):Int × Unit → Option ((Int × Int × Unit) × Unit):=match k with | 0 => ZfK 0 | n + 1 => ZfK (n + 1)
theorem Zz2:ZfL = ZfK:=by funext k; cases k <;> rfl
theorem ZmB (k:Nat):Ctr Tryz.prog k 206 (mk Zw ZN ZfL):=by rw [Zz2]; exact ZCA k
abbrev Zce:Kd:=.tup [.view ZF3,.view .bool]
noncomputable def Zde (k:Nat):=Qq k [(205,mk Zw Zf Yw),(206,mk Zw ZN ZfL),ZLu]
noncomputable def ZpV:Nat → Ann:=fun id => bif Nat.beq id 16 then ⟨[55,56,54,13,12,14,7,6,46,45,0,8,9,1,4],[]⟩ else bif Nat.beq id 12 then ⟨[45,46,0,8,7,6,9,1,4],[]⟩ else bif Nat.beq id 5 then ⟨[23,24,22,8,9,1,0,7,6,4],[]⟩ else ⟨[],[]⟩
abbrev Zp2:=Int × Int × Int × Int × Bool × Bool × Int × Int × List Int × Int × Int × List Int × Int × Int × Int × Int × Int × Int
abbrev Zhy:=Zp2 → Option (((Int × Int × Int × Unit) × Bool × Unit) × Unit)
abbrev Zp1:=Int × Int × List Int × Bool × Int × Int × List Int × Int × Int × Int × Int × Int × Int
abbrev Zcd:=Zp1 → Option (((Int × Int × Int × Unit) × Bool × Unit) × Unit)
abbrev Zp0:=Int × Int × List Int × Int × Int × List Int × Bool × List Int × Int × Int × Int × Int × Int × Int
abbrev Zhx:=Zp0 → Option (((Int × Int × Int × Unit) × Bool × Unit) × Unit)
noncomputable def ZHJ:Zp2 → St
 | (v0,v1,v2,v3,v4,v5,v6,v7,v8,v9,v10,v11,v12,v13,v14,v15,v16,v17) => St.mk (Zo [(55,Zg v0),(56,Zg v1),(54,AV.own 8192),(13,Zg v2),(12,Zg v3),(14,avB v4),(7,avB v5),(6,AV.bx 8193 0),(46,Zg v6),(45,Zg v7),(0,WK v8),(8,AV.own 8192),(9,Zg v9),(1,Zg v10),(4,AV.bx 8194 0)]) (Zm [(8192,rsA v11 false),(8193,Qe [Zg v12,Zg v13,Zg v14]),(8194,Qe [Zg v15,Zg v16,Zg v17])])
noncomputable def ZfV (k:Nat) (L2:Zcd) (L3:Zhy):Zhy
 | (v0,v1,v2,v3,v4,v5,v6,v7,v8,v9,v10,v11,v12,v13,v14,v15,v16,v17) => bif decide (v1 < v0) then bif decide (0 ≤ v1 ∧ v1 < Int.ofNat v11.length) then bif decide (v1.toNat < v11.length) then bif decide (0 ≤ v3) then bif v4 then L3 (v0,IntKind.i64.wrap (v1 + 1),IntKind.i64.wrap (v2 + Int.fdiv (v11.getD v1.toNat 0) ((2:Int) ^ min v3.toNat 64)),v3,true,v5,v6,v7,v8,v9,v10,v11,v12,v13,v14,v15,v16,v17) else bif decide (0 ≤ v3) then L3 (v0,IntKind.i64.wrap (v1 + 1),IntKind.i64.wrap (v2 + Int.fdiv (v11.getD v1.toNat 0) ((2:Int) ^ min v3.toNat 64)),v3,decide ((65536:Int) < Int.fdiv (v11.getD v1.toNat 0) ((2:Int) ^ min v3.toNat 64)),v5,v6,v7,v8,v9,v10,v11,v12,v13,v14,v15,v16,v17) else none else none else none else none else bif !v4 then bif !v5 then L2 (v7,IntKind.i64.wrap (v6 + 1),v8,true,v9,v10,v11,v3,(0:Int),v2,v15,v16,v17) else bif decide (v2 < v14) then L2 (v7,IntKind.i64.wrap (v6 + 1),v8,true,v9,v10,v11,v3,(0:Int),v2,v15,v16,v17) else L2 (v7,IntKind.i64.wrap (v6 + 1),v8,v5,v9,v10,v11,v12,v13,v14,v15,v16,v17) else L2 (v7,IntKind.i64.wrap (v6 + 1),v8,v5,v9,v10,v11,v12,v13,v14,v15,v16,v17)
noncomputable def ZpZ (k:Nat) (L2:Zcd):Zhy:=Zh (fun L3 => ZfV k L2 L3) k
noncomputable def ZdZ (k:Nat) (n2:Nat) (n:Nat) (v:Zp2):Option (((Int × Int × Int × Unit) × Bool × Unit) × Unit) :=
 Zi (Zde k) ZpV [] [1,1,1,1,1,0,1,0,0,1,1,0,0,1,1,0,1,0] [n2] (Qh Tryz.f248) (Qi (Zde k) Tryz.f248 ZM Zce [] []) n (ZHJ v)
noncomputable def ZHI:Zp1 → St
 | (v0,v1,v2,v3,v4,v5,v6,v7,v8,v9,v10,v11,v12) => St.mk (Zo [(45,Zg v0),(46,Zg v1),(0,WK v2),(8,AV.own 8192),(7,avB v3),(6,AV.bx 8193 0),(9,Zg v4),(1,Zg v5),(4,AV.bx 8194 0)]) (Zm [(8192,rsA v6 false),(8193,Qe [Zg v7,Zg v8,Zg v9]),(8194,Qe [Zg v10,Zg v11,Zg v12])])
noncomputable def Znc (k:Nat) (L3:Zhy) (L2:Zcd):Zcd
 | (v0,v1,v2,v3,v4,v5,v6,v7,v8,v9,v10,v11,v12) => bif decide (v1 < v0) then L3 (Int.ofNat v6.length,(0:Int),IntKind.i64.wrap (IntKind.i64.wrap (v1 + 1) * Int.ofNat v2.length),v1,false,v3,v1,v0,v2,v4,v5,v6,v7,v8,v9,v10,v11,v12) else bif decide (v4 ≤ 31) then bif !v3 then (Yw k (v5,())).bind fun y => some (((y.1,v4,IntKind.i64.wrap ((5:Int) + IntKind.i64.wrap (v4 * Int.ofNat v2.length)),()),true,()),()) else bif decide (IntKind.i64.wrap ((5:Int) + IntKind.i64.wrap (v4 * Int.ofNat v2.length)) < v9) then (Yw k (v5,())).bind fun y => some (((y.1,v4,IntKind.i64.wrap ((5:Int) + IntKind.i64.wrap (v4 * Int.ofNat v2.length)),()),true,()),()) else some (((v7,v8,v9,()),v3,()),()) else some (((v7,v8,v9,()),v3,()),())
noncomputable def ZpY (k:Nat):Zcd:=Zh (fun L2 => Znc k (ZpZ k L2) L2) k
noncomputable def Zbb (k:Nat) (n:Nat) (v:Zp1) :=
 Zi (Zde k) ZpV [] [1,1,1,1,1,0,1,0] [] (Qh Tryz.f248) (Qi (Zde k) Tryz.f248 ZM Zce [] []) n (ZHI v)
noncomputable def ZHH:Zp0 → St
 | (v0,v1,v2,v3,v4,v5,v6,v7,v8,v9,v10,v11,v12,v13) => St.mk (Zo [(23,Zg v0),(24,Zg v1),(22,WK v2),(8,AV.own 8192),(9,Zg v3),(1,Zg v4),(0,WK v5),(7,avB v6),(6,AV.bx 8193 0),(4,AV.bx 8194 0)]) (Zm [(8192,rsA v7 false),(8193,Qe [Zg v8,Zg v9,Zg v10]),(8194,Qe [Zg v11,Zg v12,Zg v13])])
noncomputable def Znb (k:Nat) (L2:Zcd) (L1:Zhx):Zhx
 | (v0,v1,v2,v3,v4,v5,v6,v7,v8,v9,v10,v11,v12,v13) => bif decide (v1 < v0) then bif decide (0 ≤ v1 ∧ v1 < Int.ofNat v2.length) then (ZfL k (v2.getD v1.toNat 0,())).bind fun y => bif decide (0 ≤ v1 ∧ v1 < Int.ofNat v7.length) then bif decide (v1.toNat < v7.length) then bif v2.getD v1.toNat 0 != (0:Int) then (Zqc k (v2.getD v1.toNat 0,())).bind fun y_1 => L1 (v0,IntKind.i64.wrap (v1 + 1),v2,if v3 < y_1.1 then y_1.1 else v3,v4,v5,v6,v7.set v1.toNat y.1.1,v8,v9,v10,v11,v12,v13) else L1 (v0,IntKind.i64.wrap (v1 + 1),v2,v3,v4,v5,v6,v7.set v1.toNat y.1.1,v8,v9,v10,v11,v12,v13) else none else none else none else (Yw k (v4,())).bind fun y => L2 (y.1,(0:Int),v5,v6,v3,v4,v7,v8,v9,v10,v11,v12,v13)
noncomputable def ZpX (k:Nat):Zhx:=Zh (fun L1 => Znb k (ZpY k) L1) k
noncomputable def Zsu (k:Nat) (n:Nat) (v:Zp0) :=
 Zi (Zde k) ZpV [] [1,1,1,1,0,1,0] [] (Qh Tryz.f248) (Qi (Zde k) Tryz.f248 ZM Zce [] []) n (ZHH v)
noncomputable def Zna (k:Nat) (L1:Zhx):List Int × Int × Unit → Option (((Int × Int × Int × Unit) × Bool × Unit) × Unit)
 | (a0,a1,()) => bif decide ((0:Int) ≤ Int.ofNat a0.length ∧ Int.ofNat a0.length ≤ Int.ofNat a0.length ∧ Int.ofNat a0.length < (4294967296:Int)) then L1 (Int.ofNat a0.length,(0:Int),a0,(0:Int),a1,a0,false,List.replicate (Int.ofNat a0.length).toNat (0:Int),(0:Int),(0:Int),(0:Int),(0:Int),(0:Int),(0:Int)) else none
noncomputable def ZpW (k:Nat):=Zna k (ZpX k)
theorem ZAt (k:Nat) (n2:Nat):∀ n,ZdZ k n2 n = Zh (fun L3 => ZfV k (Zbb k n2) L3) n :=
 Zc (fun v => by kernel_rfl) (fun n v => by
  show ZdZ k n2 (n + 1) v = ZfV k (Zbb k n2) (ZdZ k n2 n) v
  obtain ⟨v0,v1,v2,v3,v4,v5,v6,v7,v8,v9,v10,v11,v12,v13,v14,v15,v16,v17⟩:=v
  kernel_rfl)
theorem ZAs (k:Nat):∀ n,Zbb k n = Zh (fun L2 => Znc k (ZpZ k L2) L2) n :=
 Zc (fun v => by kernel_rfl) (fun n v => by
  rw [show (ZpZ k (Zbb k n)) = ZdZ k n k from (ZAt k n k).symm]
  obtain ⟨v0,v1,v2,v3,v4,v5,v6,v7,v8,v9,v10,v11,v12⟩:=v
  kernel_rfl)
theorem ZAr (k:Nat):∀ n,Zsu k n = Zh (fun L1 => Znb k (ZpY k) L1) n :=
 Zc (fun v => by kernel_rfl) (fun n v => by
  rw [show (ZpY k) = Zbb k k from (ZAs k k).symm]
  obtain ⟨v0,v1,v2,v3,v4,v5,v6,v7,v8,v9,v10,v11,v12,v13⟩:=v
  kernel_rfl)
theorem ZHK (k:Nat) (x:Kd.dens ZM):Zt (Zde k) ZpV Tryz.f248 ZM Zce x = ZpW k x:=by
 show _ = Zna k (ZpX k) x
 rw [show ZpX k = Zsu k k from (ZAr k k).symm]
 obtain ⟨a0,⟨a1,⟨⟩⟩⟩:=x
 kernel_rfl
theorem ZDd (k:Nat):Ctr Tryz.prog k 248 (mk ZM Zce ZpW) :=
 Zu (fn:=Tryz.f248) (Zd (Za (ZfJ k) (Za (ZmB k) (Za (ZDo k) Zb)))) (by kernel_rfl) (by kernel_rfl) (ZHK k)
noncomputable abbrev ZLf:Nat × Callee:=(248,mk ZM Zce ZpW)
def Zba (k:Nat):Int × Unit → Option (Int × Unit):=match k with | 0 => Zc9 0 | n + 1 => Zc9 (n + 1)
theorem Zz0:Zba = Zc9:=by funext k; cases k <;> rfl
theorem ZfH (k:Nat):Ctr Tryz.prog k 204 (mk Zw Zf Zba):=by rw [Zz0]; exact Zr0 k
def ZpU (k:Nat):Int × Int × Int × Unit → Option (Bool × Unit):=match k with | 0 => Zdd 0 | n + 1 => Zdd (n + 1)
theorem ZAp:ZpU = Zdd:=by funext k; cases k <;> rfl
theorem ZAq (k:Nat):Ctr Tryz.prog k 217 (mk Zcc Zv ZpU):=by rw [ZAp]; exact Zst k
abbrev Zb9:Kd:=.view ZM1
noncomputable def Zc8 (k:Nat):=Qq k [ZCy,(204,mk Zw Zf Zba),(217,mk Zcc Zv ZpU),ZLf]
noncomputable def Zpk:Nat → Ann:=fun id => bif Nat.beq id 11 then ⟨[37,38,36,7,5,8,6,0,1,4,9],[.cell 8 2 (((Ty.int IntKind.i64).pair ((Ty.int IntKind.i64).pair ((Ty.int IntKind.i64).pair Ty.unit))))]⟩ else bif Nat.beq id 7 then ⟨[7,6,0,1,5,4],[.cell 5 2 (((Ty.int IntKind.i64).pair ((Ty.int IntKind.i64).pair ((Ty.int IntKind.i64).pair Ty.unit))))]⟩ else bif Nat.beq id 3 then ⟨[6,0,1,5,4],[.cell 5 2 (((Ty.int IntKind.i64).pair ((Ty.int IntKind.i64).pair ((Ty.int IntKind.i64).pair Ty.unit))))]⟩ else ⟨[],[]⟩
abbrev Zpp:=Int × Int × List (List Int) × Int × Int × List Int × Int × Bool × Int × Int × Int × List (Int × Int × Int × Unit) × Int × Int × Int × List (Int × Int × Int × Unit) × Int × Int × Int
abbrev Zhe:=Zpp → Option ((Int × Int × List (Int × Int × Int × Unit) × Int × Unit) × Unit)
abbrev Zpo:=Int × Int × List Int × Int × Int × Int × Int × List (Int × Int × Int × Unit) × Int × Int × Int
abbrev Zb8:=Zpo → Option ((Int × Int × List (Int × Int × Int × Unit) × Int × Unit) × Unit)
abbrev Zpn:=Int × List Int × Int × Int × Int × Int × List (Int × Int × Int × Unit) × Int × Int × Int
abbrev YZ:=Zpn → Option ((Int × Int × List (Int × Int × Int × Unit) × Int × Unit) × Unit)
noncomputable def ZG2:Zpp → St
 | (v0,v1,v2,v3,v4,v5,v6,v7,v8,v9,v10,v11,v12,v13,v14,v15,v16,v17,v18) => St.mk (Zo [(37,Zg v0),(38,Zg v1),(36,AV.val (PV.sl (Ty.int IntKind.i64).sl v2)),(7,Zg v3),(5,AV.bx 8192 0),(8,AV.bx 8194 0),(6,Zg v4),(0,WK v5),(1,Zg v6),(4,AV.bx 8196 0),(9,avB v7)]) (Zm [(8192,Qe [Zg v8,Zg v9,AV.own 8193,Zg v10]),(8193,RS.live (Res.arr ((Ty.int IntKind.i64).pair ((Ty.int IntKind.i64).pair ((Ty.int IntKind.i64).pair Ty.unit))) v11 false)),(8194,Qe [Zg v12,Zg v13,AV.own 8195,Zg v14]),(8195,RS.live (Res.arr ((Ty.int IntKind.i64).pair ((Ty.int IntKind.i64).pair ((Ty.int IntKind.i64).pair Ty.unit))) v15 false)),(8196,Qe [Zg v16,Zg v17,AV.val (PV.v (Value.slice none (0:Nat) (0:Nat))),Zg v18])])
noncomputable def ZfG (k:Nat) (L1:YZ) (L2:Zb8) (L3:Zhe):Zhe
 | (v0,v1,v2,v3,v4,v5,v6,v7,v8,v9,v10,v11,v12,v13,v14,v15,v16,v17,v18) => bif decide (v1 < v0) then bif decide (0 ≤ v1 ∧ v1 < Int.ofNat v2.length) then (ZpW k (v2.getD v1.toNat [],v3,())).bind fun y => bif !y.1.2.1 then bif y.1.2.1 then bif decide (v10 < 0) then L2 (IntKind.i64.wrap (v3 + 1),v4,v5,v6,v12,v13,v14,v15,v16,v17,v18) else bif decide (v14 < v10) then L2 (IntKind.i64.wrap (v3 + 1),v4,v5,v6,v12,v13,v14,v15,v16,v17,v18) else L2 (IntKind.i64.wrap (v3 + 1),v4,v5,v6,v8,v9,v10,v11,v16,v17,v18) else L2 (IntKind.i64.wrap (v3 + 1),v4,v5,v6,v8,v9,v10,v11,v16,v17,v18) else bif decide (v15.length + [(y.1.1.1,y.1.1.2.1,y.1.1.2.2.1,())].length < 2147483648) then (Zba k (v3,())).bind fun y_1 => L3 (v0,IntKind.i64.wrap (v1 + 1),v2,v3,v4,v5,v6,y.1.2.1,v8,v9,v10,v11,v12,v13,IntKind.i64.wrap (v14 + IntKind.i64.wrap (y_1.1 + y.1.1.2.2.1)),v15 ++ [(y.1.1.1,y.1.1.2.1,y.1.1.2.2.1,())],v16,v17,v18) else none else none else bif v7 then bif decide (v10 < 0) then L2 (IntKind.i64.wrap (v3 + 1),v4,v5,v6,v12,v13,v14,v15,v16,v17,v18) else bif decide (v14 < v10) then L2 (IntKind.i64.wrap (v3 + 1),v4,v5,v6,v12,v13,v14,v15,v16,v17,v18) else L2 (IntKind.i64.wrap (v3 + 1),v4,v5,v6,v8,v9,v10,v11,v16,v17,v18) else L2 (IntKind.i64.wrap (v3 + 1),v4,v5,v6,v8,v9,v10,v11,v16,v17,v18)
noncomputable def Zhf (k:Nat) (L1:YZ) (L2:Zb8):Zhe:=Zh (fun L3 => ZfG k L1 L2 L3) k
noncomputable def ZdO (k:Nat) (n1 n2:Nat) (n:Nat) (v:Zpp):Option ((Int × Int × List (Int × Int × Int × Unit) × Int × Unit) × Unit) :=
 Zi (Zc8 k) Zpk [] [1,1,0,1,0,0,1,0,0,1,1,0,0,1,0,0,1,0,1,0] [n1,n2] (Qh Tryz.f202) (Qi (Zc8 k) Tryz.f202 ZM Zb9 [] []) n (ZG2 v)
noncomputable def ZG1:Zpo → St
 | (v0,v1,v2,v3,v4,v5,v6,v7,v8,v9,v10) => St.mk (Zo [(7,Zg v0),(6,Zg v1),(0,WK v2),(1,Zg v3),(5,AV.bx 8192 0),(4,AV.bx 8194 0)]) (Zm [(8192,Qe [Zg v4,Zg v5,AV.own 8193,Zg v6]),(8193,RS.live (Res.arr ((Ty.int IntKind.i64).pair ((Ty.int IntKind.i64).pair ((Ty.int IntKind.i64).pair Ty.unit))) v7 false)),(8194,Qe [Zg v8,Zg v9,AV.val (PV.v (Value.slice none (0:Nat) (0:Nat))),Zg v10])])
noncomputable def ZfF (k:Nat) (L3:Zhe) (L1:YZ) (L2:Zb8):Zb8
 | (v0,v1,v2,v3,v4,v5,v6,v7,v8,v9,v10) => bif decide (v0 < 2) then (Zix k (v2,v3,v1,())).bind fun y => L3 (Int.ofNat (List.length y.1),(0:Int),y.1,v0,v1,v2,v3,true,v4,v5,v6,v7,v0,v1,(6:Int),[],v8,v9,v10) else L1 (IntKind.i64.wrap (v1 + 1),v2,v3,v4,v5,v6,v7,v8,v9,v10)
noncomputable def Zpm (k:Nat) (L1:YZ):Zb8:=Zh (fun L2 => ZfF k (Zhf k L1 L2) L1 L2) k
noncomputable def X1 (k:Nat) (n1:Nat) (n:Nat) (v:Zpo):Option ((Int × Int × List (Int × Int × Int × Unit) × Int × Unit) × Unit) :=
 Zi (Zc8 k) Zpk [] [1,1,0,1,0,0,1,0,0,1,1,0] [n1] (Qh Tryz.f202) (Qi (Zc8 k) Tryz.f202 ZM Zb9 [] []) n (ZG1 v)
noncomputable def ZG0:Zpn → St
 | (v0,v1,v2,v3,v4,v5,v6,v7,v8,v9) => St.mk (Zo [(6,Zg v0),(0,WK v1),(1,Zg v2),(5,AV.bx 8192 0),(4,AV.bx 8194 0)]) (Zm [(8192,Qe [Zg v3,Zg v4,AV.own 8193,Zg v5]),(8193,RS.live (Res.arr ((Ty.int IntKind.i64).pair ((Ty.int IntKind.i64).pair ((Ty.int IntKind.i64).pair Ty.unit))) v6 false)),(8194,Qe [Zg v7,Zg v8,AV.val (PV.v (Value.slice none (0:Nat) (0:Nat))),Zg v9])])
noncomputable def Zmw (k:Nat) (L2:Zb8) (L1:YZ):YZ
 | (v0,v1,v2,v3,v4,v5,v6,v7,v8,v9) => bif decide (v0 ≤ 4) then (ZpU k (IntKind.i64.wrap (Int.ofNat v1.length + v2),v2,v0,())).bind fun y => bif !y.1 then L1 (IntKind.i64.wrap (v0 + 1),v1,v2,v3,v4,v5,v6,v7,v8,v9) else L2 (0,v0,v1,v2,v3,v4,v5,v6,v7,v8,v9) else some ((v3,v4,v6,v5,()),())
noncomputable def Zpl (k:Nat):YZ:=Zh (fun L1 => Zmw k (Zpm k L1) L1) k
noncomputable def WM (k:Nat) (n:Nat) (v:Zpn) :=
 Zi (Zc8 k) Zpk [] [1,1,0,1,0] [] (Qh Tryz.f202) (Qi (Zc8 k) Tryz.f202 ZM Zb9 [] []) n (ZG0 v)
noncomputable def Zmv (k:Nat) (L1:YZ):List Int × Int × Unit → Option ((Int × Int × List (Int × Int × Int × Unit) × Int × Unit) × Unit)
 | (a0,a1,()) => L1 (0,a0,a1,(0:Int),(0:Int),(-1:Int),[],(0:Int),(0:Int),(0:Int))
noncomputable def Ziw (k:Nat):=Zmv k (Zpl k)
theorem ZzY (k:Nat) (n1 n2:Nat):∀ n,ZdO k n1 n2 n = Zh (fun L3 => ZfG k (WM k n1) (X1 k n1 n2) L3) n :=
 Zc (fun v => by kernel_rfl) (fun n v => by
  show ZdO k n1 n2 (n + 1) v = ZfG k (WM k n1) (X1 k n1 n2) (ZdO k n1 n2 n) v
  obtain ⟨v0,v1,v2,v3,v4,v5,v6,v7,v8,v9,v10,v11,v12,v13,v14,v15,v16,v17,v18⟩:=v
  kernel_rfl)
theorem ZzX (k:Nat) (n1:Nat):∀ n,X1 k n1 n = Zh (fun L2 => ZfF k (Zhf k (WM k n1) L2) (WM k n1) L2) n :=
 Zc (fun v => by kernel_rfl) (fun n v => by
  show X1 k n1 (n + 1) v = ZfF k (Zhf k (WM k n1) (X1 k n1 n)) (WM k n1) (X1 k n1 n) v
  rw [show (Zhf k (WM k n1) (X1 k n1 n)) = ZdO k n1 n k from (ZzY k n1 n k).symm]
  obtain ⟨v0,v1,v2,v3,v4,v5,v6,v7,v8,v9,v10⟩:=v
  kernel_rfl)
theorem ZzW (k:Nat):∀ n,WM k n = Zh (fun L1 => Zmw k (Zpm k L1) L1) n :=
 Zc (fun v => by kernel_rfl) (fun n v => by
  rw [show (Zpm k (WM k n)) = X1 k n k from (ZzX k n k).symm]
  obtain ⟨v0,v1,v2,v3,v4,v5,v6,v7,v8,v9⟩:=v
  kernel_rfl)
theorem ZG3 (k:Nat) (x:Kd.dens ZM):Zt (Zc8 k) Zpk Tryz.f202 ZM Zb9 x = Ziw k x:=by
 show _ = Zmv k (Zpl k) x
 rw [show Zpl k = WM k k from (ZzW k k).symm]
 obtain ⟨a0,⟨a1,⟨⟩⟩⟩:=x
 kernel_rfl
theorem ZrX (k:Nat):Ctr Tryz.prog k 202 (mk ZM Zb9 Ziw) :=
 Zu (fn:=Tryz.f202) (Zd (Za (ZrZ k) (Za (ZfH k) (Za (ZAq k) (Za (ZDd k) Zb))))) (by kernel_rfl) (by kernel_rfl) (ZG3 k)
noncomputable abbrev ZCw:Nat × Callee:=(202,mk ZM Zb9 Ziw)
noncomputable def ZK6 (k:Nat):=Qq k [ZCv,ZCw]
noncomputable def Zm1 (k:Nat):List Int × Int × Unit → Option ((Int × Int × Unit) × Unit)
 | (a0,a1,()) => (Ziv k (a0,a1,())).bind fun y => bif y.1 != 0 then some ((0,y.1,()),()) else (Ziw k (a0,a1,())).bind fun y => some ((y.1.2.2.2.1,0,()),())
noncomputable def ZpM (k:Nat):=Zm1 k
theorem ZHx (k:Nat) (x:Kd.dens ZM):Zt (ZK6 k) nA Tryz.f244 ZM ZN x = ZpM k x:=by
 show _ = Zm1 k x
 obtain ⟨a0,⟨a1,⟨⟩⟩⟩:=x
 kernel_rfl
theorem ZC2 (k:Nat):Ctr Tryz.prog k 244 (mk ZM ZN ZpM) :=
 Zu (fn:=Tryz.f244) (Zd (Za (ZrW k) (Za (ZrX k) Zb))) (by kernel_rfl) (by kernel_rfl) (ZHx k)
noncomputable abbrev ZK7:Nat × Callee:=(244,mk ZM ZN ZpM)
abbrev Zhb:List Kd:=[.view Zrv,.view (.int .i64),.view Zdk,.view (.int .i64)]
abbrev Zpc:Kd:=.tup [.view Zrv,.view .bool]
noncomputable def ZKN (k:Nat):=Qq k [ZC1,ZK7]
noncomputable def Zmq (k:Nat):(Int × Int × Int × List Int × (List Int × Int × Unit) × List Int × Int × Unit) × Int × (List Int × Int × Unit) × Int × Unit → Option (((Int × Int × Int × List Int × (List Int × Int × Unit) × List Int × Int × Unit) × Bool × Unit) × Unit)
 | ((a0,a1,a2,a3,(a4,a5,()),a6,a7,()),a8,(a9,a10,()),a11,()) => (ZiM k ((a9,a10,()),a3,())).bind fun y => bif y.1.2.1 != 0 then some (((a0,a1,a2,a3,(a4,a5,()),a6,a7,()),false,()),()) else (ZpM k (y.1.1,Int.ofNat a9.length,())).bind fun y_1 => bif y_1.1.2.1 != 0 then some (((a0,a1,a2,a3,(a4,a5,()),a6,a7,()),false,()),()) else some (((a8,a1,a2,a3,(a9,a10,()),y.1.1,IntKind.i64.wrap (IntKind.i64.wrap (a11 + IntKind.i64.wrap (Int.ofNat a9.length * a2)) + y_1.1.1),()),true,()),())
noncomputable def Zit (k:Nat):=Zmq k
theorem ZGT (k:Nat) (x:Kd.dens Zhb):Zt (ZKN k) nA Tryz.f198 Zhb Zpc x = Zit k x:=by
 show _ = Zmq k x
 obtain ⟨⟨a0,⟨a1,⟨a2,⟨a3,⟨⟨a4,⟨a5,⟨⟩⟩⟩,⟨a6,⟨a7,⟨⟩⟩⟩⟩⟩⟩⟩⟩,⟨a8,⟨⟨a9,⟨a10,⟨⟩⟩⟩,⟨a11,⟨⟩⟩⟩⟩⟩:=x
 kernel_rfl
theorem ZCs (k:Nat):Ctr Tryz.prog k 198 (mk Zhb Zpc Zit) :=
 Zu (fn:=Tryz.f198) (Zd (Za (Zsj k) (Za (ZC2 k) Zb))) (by kernel_rfl) (by kernel_rfl) (ZGT k)
noncomputable abbrev ZKO:Nat × Callee:=(198,mk Zhb Zpc Zit)
abbrev Zhv:Kd:=.view Zdk
noncomputable def Zvh (k:Nat):=Qq k [ZuX]
def ZC6:Nat → Ann:=fun id => bif Nat.beq id 4 then ⟨[19,20,18,3,2],[]⟩ else ⟨[],[]⟩
abbrev Zhu:=Zb6 → Option ((List Int × Int × Unit) × Unit)
def ZHA:Zb6 → St
 | (v0,v1,v2,v3,v4,v5) => St.mk (Zo [(19,Zg v0),(20,Zg v1),(18,WK v2),(3,AV.bx 8192 0),(2,AV.bx 8194 0)]) (Zm [(8192,Qe [AV.own 8193,Zg v3]),(8193,rsA v4 false),(8194,Qe [AV.val (PV.v (Value.slice none (0:Nat) (0:Nat))),Zg v5])])
def Zm4 (k:Nat) (L1:Zhu):Zhu
 | (v0,v1,v2,v3,v4,v5) => bif decide (v1 < v0) then bif decide (0 ≤ v1 ∧ v1 < Int.ofNat v2.length) then bif decide (0 ≤ v1 ∧ v1 < Int.ofNat v4.length) then bif decide (v1.toNat < v4.length) then L1 (v0,IntKind.i64.wrap (v1 + 1),v2,v3,v4.set v1.toNat (IntKind.i64.wrap (v2.getD v1.toNat 0 * (16:Int))),v5) else none else none else none else some ((v4,v3,()),())
def ZpQ (k:Nat):Zhu:=Zh (fun L1 => Zm4 k L1) k
noncomputable def Zsp (k:Nat) (n:Nat) (v:Zb6) :=
 Zi (Zvh k) ZC6 [] [1,1,1,0,1,0] [] (Qh Tryz.f245) (Qi (Zvh k) Tryz.f245 Zw Zhv [] []) n (ZHA v)
def Zm3 (k:Nat) (L1:Zhu):Int × Unit → Option ((List Int × Int × Unit) × Unit)
 | (a0,()) => bif decide (0 ≤ a0 ∧ a0 ≤ a0 ∧ a0 < 4294967296) then (Zc6 k (if (4:Int) < a0 then (4:Int) else a0,())).bind fun y => L1 (Int.ofNat (List.length y.1.1.1),(0:Int),y.1.1.1,(4:Int),List.replicate a0.toNat (0:Int),(0:Int)) else none
def ZpP (k:Nat):=Zm3 k (ZpQ k)
theorem ZAn (k:Nat):∀ n,Zsp k n = Zh (fun L1 => Zm4 k L1) n :=
 Zc (fun v => by kernel_rfl) (fun n v => by
  obtain ⟨v0,v1,v2,v3,v4,v5⟩:=v
  kernel_rfl)
theorem ZHB (k:Nat) (x:Kd.dens Zw):Zt (Zvh k) ZC6 Tryz.f245 Zw Zhv x = ZpP k x:=by
 show _ = Zm3 k (ZpQ k) x
 rw [show ZpQ k = Zsp k k from (ZAn k k).symm]
 obtain ⟨a0,⟨⟩⟩:=x
 kernel_rfl
theorem ZC7 (k:Nat):Ctr Tryz.prog k 245 (mk Zw Zhv ZpP) :=
 Zu (fn:=Tryz.f245) (Zd (Za (Zis k) Zb)) (by kernel_rfl) (by kernel_rfl) (ZHB k)
noncomputable abbrev ZLb:Nat × Callee:=(245,mk Zw Zhv ZpP)
noncomputable def Zvi (k:Nat):=Qq k [ZC1]
def ZC8:Nat → Ann:=fun id => bif Nat.beq id 4 then ⟨[18,19,17,8,7],[]⟩ else ⟨[],[]⟩
abbrev Zhw:=ZaG → Option ((Int × Int × Unit) × Unit)
def ZHC:ZaG → St
 | (v0,v1,v2,v3,v4) => St.mk (Zo [(18,Zg v0),(19,Zg v1),(17,WK v2),(8,Zg v3),(7,Zg v4)]) (Zm [])
def Zm6 (k:Nat) (L1:Zhw):Zhw
 | (v0,v1,v2,v3,v4) => bif decide (v1 < v0) then bif decide (0 ≤ v1 ∧ v1 < Int.ofNat v2.length) then L1 (v0,IntKind.i64.wrap (v1 + 1),v2,IntKind.i64.wrap (v3 + if v2.getD v1.toNat 0 < IntKind.i64.wrap ((0:Int) - v2.getD v1.toNat 0) then IntKind.i64.wrap ((0:Int) - v2.getD v1.toNat 0) else v2.getD v1.toNat 0),v4) else none else some ((v3,v4,()),())
def ZpR (k:Nat):Zhw:=Zh (fun L1 => Zm6 k L1) k
noncomputable def Zsq (k:Nat) (n:Nat) (v:ZaG) :=
 Zi (Zvi k) ZC8 [] [1,1,1,0,1,0] [] (Qh Tryz.f246) (Qi (Zvi k) Tryz.f246 Q3 ZN [] []) n (ZHC v)
def Zm5 (k:Nat) (L1:Zhw):(List Int × Int × Unit) × List Int × Unit → Option ((Int × Int × Unit) × Unit)
 | ((a0,a1,()),a2,()) => (ZiM k ((a0,a1,()),a2,())).bind fun y => L1 (Int.ofNat (List.length y.1.1),(0:Int),y.1.1,(0:Int),y.1.2.1)
def ZiO (k:Nat):=Zm5 k (ZpR k)
theorem ZAo (k:Nat):∀ n,Zsq k n = Zh (fun L1 => Zm6 k L1) n :=
 Zc (fun v => by kernel_rfl) (fun n v => by
  obtain ⟨v0,v1,v2,v3,v4⟩:=v
  kernel_rfl)
theorem ZHD (k:Nat) (x:Kd.dens Q3):Zt (Zvi k) ZC8 Tryz.f246 Q3 ZN x = ZiO k x:=by
 show _ = Zm5 k (ZpR k) x
 rw [show ZpR k = Zsq k k from (ZAo k k).symm]
 obtain ⟨⟨a0,⟨a1,⟨⟩⟩⟩,⟨a2,⟨⟩⟩⟩:=x
 kernel_rfl
theorem ZC9 (k:Nat):Ctr Tryz.prog k 246 (mk Q3 ZN ZiO) :=
 Zu (fn:=Tryz.f246) (Zd (Za (Zsj k) Zb)) (by kernel_rfl) (by kernel_rfl) (ZHD k)
noncomputable abbrev ZLc:Nat × Callee:=(246,mk Q3 ZN ZiO)
abbrev ZxN:Kd:=.own (.int .i64) false
def ZpS (k:Nat):List Int × Unit → Option (List Int × Unit):=fun x => Zfu x
noncomputable def ZiP:Code:=ZB0 Tryz.f221
theorem Zsr (k:Nat):Ctr Tryz.prog k 221 (mk Yg ZxN ZpS) :=
 Zl5 (C:=ZKd k) (A:=fun _ => ⟨[],[]⟩) (Zd Zb) Zdo (f:=221) (fn:=Tryz.f221) (o0:=Zgc (Ke [0] ZiP) 0) (o1:=Zgc (Ke [1,0,0] ZiP) 0) (o2:=Zgc (Ke [1,0,0] ZiP) 1)
  (r0:=0) (r1:=1) (X:=Ke [1,0,1,0] ZiP) (Y:=Ke [1,1] ZiP) (T:=61) (E:=3) (U:=61) (t:=(.int .i64))
  (by kernel_rfl) (by kernel_rfl) (by kernel_rfl) (by kernel_rfl) (by kernel_rfl) (of_decide_eq_true (by kernel_rfl)) (by kernel_rfl) ⟨by kernel_rfl,by kernel_rfl,by kernel_rfl⟩ ⟨by kernel_rfl,by kernel_rfl,by kernel_rfl⟩ ⟨by kernel_rfl,by kernel_rfl,by kernel_rfl⟩ (fun xs => by kernel_rfl) (by kernel_rfl)
noncomputable abbrev ZDa:Nat × Callee:=(221,mk Yg ZxN ZpS)
noncomputable def Zc7 (k:Nat):=Qq k [Ziq,ZLb,ZLc,ZDa]
def Zpd:Nat → Ann:=fun id => bif Nat.beq id 15 then ⟨[57,56,6,11,0,9,7,50,49,10,1,4],[.seen 6 0]⟩ else bif Nat.beq id 12 then ⟨[49,50,10,6,0,9,7,1,4],[]⟩ else bif Nat.beq id 9 then ⟨[10,1,6,0,9,7,4],[]⟩ else ⟨[],[]⟩
abbrev Zpj:=Int × Int × Int × Int × List Int × Bool × Int × Int × Int × Int × Int × List Int × Int × Int
abbrev Zhc:=Zpj → Option (((List Int × Int × Unit) × Int × Unit) × Unit)
abbrev Zpi:=Int × Int × Int × List Int × Bool × Int × Int × List Int × Int × Int
abbrev Zb7:=Zpi → Option (((List Int × Int × Unit) × Int × Unit) × Unit)
abbrev Zph:=Int × Int × List Int × Bool × Int × List Int × Int × Int
abbrev YY:=Zph → Option (((List Int × Int × Unit) × Int × Unit) × Unit)
def ZGW:Zpj → St
 | (v0,v1,v2,v3,v4,v5,v6,v7,v8,v9,v10,v11,v12,v13) => St.mk (Zo [(57,Zg v0),(56,AV.agg [Zg v1,Zg v2]),(6,AV.bx 8192 0),(11,Zg v3),(0,WK v4),(9,avB v5),(7,Zg v6),(50,Zg v7),(49,Zg v8),(10,Zg v9),(1,Zg v10),(4,AV.bx 8193 0)]) (Zm [(8192,Qe [WK v11,Zg v12]),(8193,Qe [AV.val (PV.v (Value.slice none (0:Nat) (0:Nat))),Zg v13])])
def ZfE (k:Nat) (L1:YY) (L2:Zb7) (L3:Zhc):Zhc
 | (v0,v1,v2,v3,v4,v5,v6,v7,v8,v9,v10,v11,v12,v13) => bif decide (v0 < 2) then bif decide (0 ≤ v0 ∧ v0 < 2) then (ZpS k (v11,())).bind fun y => bif decide (0 ≤ v3 ∧ v3 < Int.ofNat (List.length y.1)) then bif decide (v3.toNat < List.length y.1) then bif decide (0 ≤ v3 ∧ v3 < Int.ofNat (List.length y.1)) then bif decide (v3.toNat < List.length y.1) then (ZiO k ((List.set y.1 v3.toNat (IntKind.i64.wrap (List.getD y.1 v3.toNat 0 + [v1,v2].getD v0.toNat (0:Int))),v12,()),v4,())).bind fun y_1 => bif y_1.1.2.1 == 0 then bif !v5 then L3 (IntKind.i64.wrap (v0 + 1),v1,v2,v3,v4,true,y_1.1.1,v7,v8,v9,v10,List.set y.1 v3.toNat (IntKind.i64.wrap (List.getD y.1 v3.toNat 0 + [v1,v2].getD v0.toNat (0:Int))),v12,v13) else bif decide (y_1.1.1 < v6) then L3 (IntKind.i64.wrap (v0 + 1),v1,v2,v3,v4,true,y_1.1.1,v7,v8,v9,v10,List.set y.1 v3.toNat (IntKind.i64.wrap (List.getD y.1 v3.toNat 0 + [v1,v2].getD v0.toNat (0:Int))),v12,v13) else L3 (IntKind.i64.wrap (v0 + 1),v1,v2,v3,v4,v5,v6,v7,v8,v9,v10,v11,v12,v13) else L3 (IntKind.i64.wrap (v0 + 1),v1,v2,v3,v4,v5,v6,v7,v8,v9,v10,v11,v12,v13) else none else none else none else none else none else L2 (v8,IntKind.i64.wrap (v7 + 1),v9,v4,v5,v6,v10,v11,v12,v13)
def Zhd (k:Nat) (L1:YY) (L2:Zb7):Zhc:=Zh (fun L3 => ZfE k L1 L2 L3) k
noncomputable def ZdN (k:Nat) (n1 n2:Nat) (n:Nat) (v:Zpj):Option (((List Int × Int × Unit) × Int × Unit) × Unit) :=
 Zi (Zc7 k) Zpd [] [1,1,1,1,1,0,1,0,0,1,0,0,1,0,0,1,1,0,0,1,1,0] [n1,n2] (Qh Tryz.f199) (Qi (Zc7 k) Tryz.f199 ZM WW [] []) n (ZGW v)
def ZGV:Zpi → St
 | (v0,v1,v2,v3,v4,v5,v6,v7,v8,v9) => St.mk (Zo [(49,Zg v0),(50,Zg v1),(10,Zg v2),(6,AV.bx 8192 0),(0,WK v3),(9,avB v4),(7,Zg v5),(1,Zg v6),(4,AV.bx 8193 0)]) (Zm [(8192,Qe [WK v7,Zg v8]),(8193,Qe [AV.val (PV.v (Value.slice none (0:Nat) (0:Nat))),Zg v9])])
def ZfD (k:Nat) (L3:Zhc) (L1:YY) (L2:Zb7):Zb7
 | (v0,v1,v2,v3,v4,v5,v6,v7,v8,v9) => bif decide (v1 < v0) then L3 (0,v2,IntKind.i64.wrap ((0:Int) - v2),v1,v3,v4,v5,v1,v0,v2,v6,v7,v8,v9) else L1 (IntKind.i64.wrap (v2.tdiv (2:Int)),v6,v3,v4,v5,v7,v8,v9)
def Zpg (k:Nat) (L1:YY):Zb7:=Zh (fun L2 => ZfD k (Zhd k L1 L2) L1 L2) k
noncomputable def X0 (k:Nat) (n1:Nat) (n:Nat) (v:Zpi):Option (((List Int × Int × Unit) × Int × Unit) × Unit) :=
 Zi (Zc7 k) Zpd [] [1,1,1,1,1,0,1,0,0,1,0,0,1,0] [n1] (Qh Tryz.f199) (Qi (Zc7 k) Tryz.f199 ZM WW [] []) n (ZGV v)
def ZGU:Zph → St
 | (v0,v1,v2,v3,v4,v5,v6,v7) => St.mk (Zo [(10,Zg v0),(1,Zg v1),(6,AV.bx 8192 0),(0,WK v2),(9,avB v3),(7,Zg v4),(4,AV.bx 8193 0)]) (Zm [(8192,Qe [WK v5,Zg v6]),(8193,Qe [AV.val (PV.v (Value.slice none (0:Nat) (0:Nat))),Zg v7])])
def Zms (k:Nat) (L2:Zb7) (L1:YY):YY
 | (v0,v1,v2,v3,v4,v5,v6,v7) => bif decide ((0:Int) < v0) then L2 (v1,(0:Int),v0,v2,v3,v4,v1,v5,v6,v7) else some (((v5,v6,()),0,()),())
def Zpf (k:Nat):YY:=Zh (fun L1 => Zms k (Zpg k L1) L1) k
noncomputable def WL (k:Nat) (n:Nat) (v:Zph) :=
 Zi (Zc7 k) Zpd [] [1,1,1,1,1,0,1,0] [] (Qh Tryz.f199) (Qi (Zc7 k) Tryz.f199 ZM WW [] []) n (ZGU v)
def Zmr (k:Nat) (L1:YY):List Int × Int × Unit → Option (((List Int × Int × Unit) × Int × Unit) × Unit)
 | (a0,a1,()) => bif decide (a1 < 0) then some ((([],(0:Int),()),1,()),()) else bif decide ((8:Int) < a1) then some ((([],(0:Int),()),1,()),()) else bif decide (Int.ofNat a0.length < a1) then some ((([],(0:Int),()),1,()),()) else (Yv k (a0,(),())).bind fun y => bif y.1 then some ((([],(0:Int),()),12,()),()) else (ZpP k (a1,())).bind fun y => (ZiO k ((y.1.1,y.1.2.1,()),a0,())).bind fun y_1 => L1 (8,a1,a0,y_1.1.2.1 == 0,y_1.1.1,y.1.1,y.1.2.1,(0:Int))
def Zpe (k:Nat):=Zmr k (Zpf k)
theorem ZzV (k:Nat) (n1 n2:Nat):∀ n,ZdN k n1 n2 n = Zh (fun L3 => ZfE k (WL k n1) (X0 k n1 n2) L3) n :=
 Zc (fun v => by kernel_rfl) (fun n v => by
  show ZdN k n1 n2 (n + 1) v = ZfE k (WL k n1) (X0 k n1 n2) (ZdN k n1 n2 n) v
  obtain ⟨v0,v1,v2,v3,v4,v5,v6,v7,v8,v9,v10,v11,v12,v13⟩:=v
  kernel_rfl)
theorem ZzU (k:Nat) (n1:Nat):∀ n,X0 k n1 n = Zh (fun L2 => ZfD k (Zhd k (WL k n1) L2) (WL k n1) L2) n :=
 Zc (fun v => by kernel_rfl) (fun n v => by
  show X0 k n1 (n + 1) v = ZfD k (Zhd k (WL k n1) (X0 k n1 n)) (WL k n1) (X0 k n1 n) v
  rw [show (Zhd k (WL k n1) (X0 k n1 n)) = ZdN k n1 n k from (ZzV k n1 n k).symm]
  obtain ⟨v0,v1,v2,v3,v4,v5,v6,v7,v8,v9⟩:=v
  kernel_rfl)
theorem ZzT (k:Nat):∀ n,WL k n = Zh (fun L1 => Zms k (Zpg k L1) L1) n :=
 Zc (fun v => by kernel_rfl) (fun n v => by
  rw [show (Zpg k (WL k n)) = X0 k n k from (ZzU k n k).symm]
  obtain ⟨v0,v1,v2,v3,v4,v5,v6,v7⟩:=v
  kernel_rfl)
theorem ZGX (k:Nat) (x:Kd.dens ZM):Zt (Zc7 k) Zpd Tryz.f199 ZM WW x = Zpe k x:=by
 show _ = Zmr k (Zpf k) x
 rw [show Zpf k = WL k k from (ZzT k k).symm]
 obtain ⟨a0,⟨a1,⟨⟩⟩⟩:=x
 kernel_rfl
theorem ZCt (k:Nat):Ctr Tryz.prog k 199 (mk ZM WW Zpe) :=
 Zu (fn:=Tryz.f199) (Zd (Za (Zc4 k) (Za (ZC7 k) (Za (ZC9 k) (Za (Zsr k) Zb))))) (by kernel_rfl) (by kernel_rfl) (ZGX k)
noncomputable abbrev ZKP:Nat × Callee:=(199,mk ZM WW Zpe)
abbrev Zg7:List Kd:=[.view Zrv,.view .bool,.box [.view (.int .i64),.view (.int .i64),.view (.int .i64),.view (.sl (.int .i64)),.view (.sl (.int .i64)),.view (.int .i64),.view (.sl (.int .i64)),.view (.int .i64)]]
def Zml (k:Nat):(Int × Int × Int × List Int × (List Int × Int × Unit) × List Int × Int × Unit) × Bool × (Int × Int × Int × List Int × List Int × Int × List Int × Int × Unit) × Unit → Option (Unit × (Int × Int × Int × List Int × List Int × Int × List Int × Int × Unit) × Unit)
 | ((a0,a1,a2,a3,(a4,a5,()),a6,a7,()),a8,(a9,a10,a11,a12,a13,a14,a15,a16,()),()) => bif a8 then bif decide (a16 < 0) then some ((),(a0,a1,a2,a3,a4,a5,a6,a7,()),()) else bif decide (a7 < a16) then some ((),(a0,a1,a2,a3,a4,a5,a6,a7,()),()) else some ((),(a9,a10,a11,a12,a13,a14,a15,a16,()),()) else some ((),(a9,a10,a11,a12,a13,a14,a15,a16,()),())
def Zc5 (k:Nat):=Zml k
theorem ZGN (k:Nat) (x:Kd.dens Zg7):Zt (ZK k) nA Tryz.f196 Zg7 Z6 x = Zc5 k x:=by
 show _ = Zml k x
 obtain ⟨⟨a0,⟨a1,⟨a2,⟨a3,⟨⟨a4,⟨a5,⟨⟩⟩⟩,⟨a6,⟨a7,⟨⟩⟩⟩⟩⟩⟩⟩⟩,⟨a8,⟨⟨a9,⟨a10,⟨a11,⟨a12,⟨a13,⟨a14,⟨a15,⟨a16,⟨⟩⟩⟩⟩⟩⟩⟩⟩⟩,⟨⟩⟩⟩⟩:=x
 kernel_rfl
theorem ZCq (k:Nat):Ctr Tryz.prog k 196 (mk Zg7 Z6 Zc5) :=
 Zu (fn:=Tryz.f196) (Zd Zb) (by kernel_rfl) (by kernel_rfl) (ZGN k)
noncomputable abbrev ZKL:Nat × Callee:=(196,mk Zg7 Z6 Zc5)
abbrev Zf2:Kd:=.view Zrv
noncomputable def ZkX (k:Nat):=Qq k [ZCg,ZKK,ZuX,ZKO,ZKP,ZKL]
def ZyN:Nat → Ann:=fun id => bif Nat.beq id 21 then ⟨[82,81,11,6,10,12,9,4],[]⟩ else bif Nat.beq id 15 then ⟨[62,63,10,6,11,12,9,4],[]⟩ else bif Nat.beq id 4 then ⟨[28,29,27,6,5,4],[.cell 6 3 ((Ty.int IntKind.i64))]⟩ else ⟨[],[]⟩
abbrev ZwY:=Int × Int × Int × Int × Int × Int × Int × Int × List Int × List Int × Int × List Int × Int × Int × Int × Int × List Int × List Int × Int × List Int × Int × Int × Int × Int × Int × Int × List Int × Int × Int × Int × Int × Int
abbrev ZqX:=ZwY → Option ((Int × Int × Int × List Int × (List Int × Int × Unit) × List Int × Int × Unit) × Unit)
abbrev ZwX:=Int × Int × Int × Int × Int × Int × List Int × List Int × Int × List Int × Int × Int × Int × Int × List Int × List Int × Int × List Int × Int × Int × Int × Int × Int × Int × List Int × Int × Int × Int × Int × Int
abbrev ZqW:=ZwX → Option ((Int × Int × Int × List Int × (List Int × Int × Unit) × List Int × Int × Unit) × Unit)
abbrev ZwW:=Int × Int × List Int × Int × Int × Int × Int × Int × Int × List Int × Int × Int × Int × Int × Int
abbrev ZqV:=ZwW → Option ((Int × Int × Int × List Int × (List Int × Int × Unit) × List Int × Int × Unit) × Unit)
def ZMu:ZwY → St
 | (v0,v1,v2,v3,v4,v5,v6,v7,v8,v9,v10,v11,v12,v13,v14,v15,v16,v17,v18,v19,v20,v21,v22,v23,v24,v25,v26,v27,v28,v29,v30,v31) => St.mk (Zo [(82,Zg v0),(81,AV.agg [Zg v1,Zg v2,Zg v3]),(11,Zg v4),(6,AV.bx 8192 0),(10,AV.clo 196 [AV.bx 8193 0]),(12,AV.bx 8194 0),(9,AV.bx 8193 0),(4,AV.bx 8196 0)]) (Zm [(8192,Qe [Zg v5,Zg v6,Zg v7,WK v8,WK v9,Zg v10,WK v11,Zg v12]),(8193,Qe [Zg v13,Zg v14,Zg v15,WK v16,WK v17,Zg v18,WK v19,Zg v20]),(8194,Qe [Zg v21,Zg v22,Zg v23,AV.own 8195,AV.val (PV.v (Value.slice none (0:Nat) (0:Nat))),Zg v24,AV.val (PV.v (Value.slice none (0:Nat) (0:Nat))),Zg v25]),(8195,rsA v26 true),(8196,Qe [Zg v27,Zg v28,Zg v29,AV.val (PV.v (Value.slice none (0:Nat) (0:Nat))),AV.val (PV.v (Value.slice none (0:Nat) (0:Nat))),Zg v30,AV.val (PV.v (Value.slice none (0:Nat) (0:Nat))),Zg v31])])
noncomputable def ZtE (k:Nat) (L3:ZqX):ZqX
 | (v0,v1,v2,v3,v4,v5,v6,v7,v8,v9,v10,v11,v12,v13,v14,v15,v16,v17,v18,v19,v20,v21,v22,v23,v24,v25,v26,v27,v28,v29,v30,v31) => bif decide (v0 < 3) then bif decide (0 ≤ v0 ∧ v0 < 3) then bif decide ([v1,v2,v3].getD v0.toNat (0:Int) < v4) then (Zpe k (v8,[v1,v2,v3].getD v0.toNat (0:Int),())).bind fun y => (Zit k ((v5,v6,v7,v8,(v9,v10,()),v11,v12,()),IntKind.i64.wrap ((31:Int) + [v1,v2,v3].getD v0.toNat (0:Int)),(y.1.1.1,y.1.1.2.1,()),IntKind.i64.wrap ((9:Int) + IntKind.i64.wrap ((12:Int) * [v1,v2,v3].getD v0.toNat (0:Int))),())).bind fun y => (Zc5 k ((y.1.1.1,y.1.1.2.1,y.1.1.2.2.1,y.1.1.2.2.2.1,(y.1.1.2.2.2.2.1.1,y.1.1.2.2.2.2.1.2.1,()),y.1.1.2.2.2.2.2.1,y.1.1.2.2.2.2.2.2.1,()),y.1.2.1,(v13,v14,v15,v16,v17,v18,v19,v20,()),())).bind fun y => L3 (IntKind.i64.wrap (v0 + 1),v1,v2,v3,v4,v5,v6,v7,v8,v9,v10,v11,v12,y.2.1.1,y.2.1.2.1,y.2.1.2.2.1,y.2.1.2.2.2.1,y.2.1.2.2.2.2.1,y.2.1.2.2.2.2.2.1,y.2.1.2.2.2.2.2.2.1,y.2.1.2.2.2.2.2.2.2.1,v21,v22,v23,v24,v25,v26,v27,v28,v29,v30,v31) else L3 (IntKind.i64.wrap (v0 + 1),v1,v2,v3,v4,v5,v6,v7,v8,v9,v10,v11,v12,v13,v14,v15,v16,v17,v18,v19,v20,v21,v22,v23,v24,v25,v26,v27,v28,v29,v30,v31) else none else (Zc5 k (((1:Int),v22,v23,v26,([],v24,()),[],IntKind.i64.wrap (v4 * v7),()),true,(v13,v14,v15,v16,v17,v18,v19,v20,()),())).bind fun y => some ((y.2.1.1,y.2.1.2.1,y.2.1.2.2.1,y.2.1.2.2.2.1,(y.2.1.2.2.2.2.1,y.2.1.2.2.2.2.2.1,()),y.2.1.2.2.2.2.2.2.1,y.2.1.2.2.2.2.2.2.2.1,()),())
noncomputable def ZwV (k:Nat):ZqX:=Zh (fun L3 => ZtE k L3) k
noncomputable def ZyR (k:Nat) (n:Nat) (v:ZwY) :=
 Zi (ZkX k) ZyN [] [1,1,1,1,1,1,1,1,1,1,1,0,1,0] [] (Qh Tryz.f152) (Qi (ZkX k) Tryz.f152 ZM Zf2 [] []) n (ZMu v)
def ZMt:ZwX → St
 | (v0,v1,v2,v3,v4,v5,v6,v7,v8,v9,v10,v11,v12,v13,v14,v15,v16,v17,v18,v19,v20,v21,v22,v23,v24,v25,v26,v27,v28,v29) => St.mk (Zo [(62,Zg v0),(63,Zg v1),(10,AV.clo 196 [AV.bx 8192 0]),(6,AV.bx 8193 0),(11,Zg v2),(12,AV.bx 8194 0),(9,AV.bx 8192 0),(4,AV.bx 8196 0)]) (Zm [(8192,Qe [Zg v3,Zg v4,Zg v5,WK v6,WK v7,Zg v8,WK v9,Zg v10]),(8193,Qe [Zg v11,Zg v12,Zg v13,WK v14,WK v15,Zg v16,WK v17,Zg v18]),(8194,Qe [Zg v19,Zg v20,Zg v21,AV.own 8195,AV.val (PV.v (Value.slice none (0:Nat) (0:Nat))),Zg v22,AV.val (PV.v (Value.slice none (0:Nat) (0:Nat))),Zg v23]),(8195,rsA v24 true),(8196,Qe [Zg v25,Zg v26,Zg v27,AV.val (PV.v (Value.slice none (0:Nat) (0:Nat))),AV.val (PV.v (Value.slice none (0:Nat) (0:Nat))),Zg v28,AV.val (PV.v (Value.slice none (0:Nat) (0:Nat))),Zg v29])])
noncomputable def ZtD (k:Nat) (L3:ZqX) (L2:ZqW):ZqW
 | (v0,v1,v2,v3,v4,v5,v6,v7,v8,v9,v10,v11,v12,v13,v14,v15,v16,v17,v18,v19,v20,v21,v22,v23,v24,v25,v26,v27,v28,v29) => bif decide (v1 < v0) then (Zc6 k (v1,())).bind fun y => (Zit k ((v11,v12,v13,v14,(v15,v16,()),v17,v18,()),IntKind.i64.wrap ((8:Int) + v1),(y.1.1.1,y.1.1.2.1,()),0,())).bind fun y => (Zc5 k ((y.1.1.1,y.1.1.2.1,y.1.1.2.2.1,y.1.1.2.2.2.1,(y.1.1.2.2.2.2.1.1,y.1.1.2.2.2.2.1.2.1,()),y.1.1.2.2.2.2.2.1,y.1.1.2.2.2.2.2.2.1,()),y.1.2.1,(v3,v4,v5,v6,v7,v8,v9,v10,()),())).bind fun y => L2 (v0,IntKind.i64.wrap (v1 + 1),v2,y.2.1.1,y.2.1.2.1,y.2.1.2.2.1,y.2.1.2.2.2.1,y.2.1.2.2.2.2.1,y.2.1.2.2.2.2.2.1,y.2.1.2.2.2.2.2.2.1,y.2.1.2.2.2.2.2.2.2.1,v11,v12,v13,v14,v15,v16,v17,v18,v19,v20,v21,v22,v23,v24,v25,v26,v27,v28,v29) else L3 (0,(2:Int),(4:Int),(8:Int),v2,v11,v12,v13,v14,v15,v16,v17,v18,v3,v4,v5,v6,v7,v8,v9,v10,v19,v20,v21,v22,v23,v24,v25,v26,v27,v28,v29)
noncomputable def ZwU (k:Nat):ZqW:=Zh (fun L2 => ZtD k (ZwV k) L2) k
noncomputable def ZyQ (k:Nat) (n:Nat) (v:ZwX) :=
 Zi (ZkX k) ZyN [] [1,1,1,1,1,1,1,1,1,1,0,1,0] [] (Qh Tryz.f152) (Qi (ZkX k) Tryz.f152 ZM Zf2 [] []) n (ZMt v)
def ZMs:ZwW → St
 | (v0,v1,v2,v3,v4,v5,v6,v7,v8,v9,v10,v11,v12,v13,v14) => St.mk (Zo [(28,Zg v0),(29,Zg v1),(27,WK v2),(6,AV.bx 8192 0),(5,Zg v3),(4,AV.bx 8194 0)]) (Zm [(8192,Qe [Zg v4,Zg v5,Zg v6,AV.own 8193,AV.val (PV.v (Value.slice none (0:Nat) (0:Nat))),Zg v7,AV.val (PV.v (Value.slice none (0:Nat) (0:Nat))),Zg v8]),(8193,rsA v9 false),(8194,Qe [Zg v10,Zg v11,Zg v12,AV.val (PV.v (Value.slice none (0:Nat) (0:Nat))),AV.val (PV.v (Value.slice none (0:Nat) (0:Nat))),Zg v13,AV.val (PV.v (Value.slice none (0:Nat) (0:Nat))),Zg v14])])
def ZtC (k:Nat) (L2:ZqW) (L1:ZqV):ZqV
 | (v0,v1,v2,v3,v4,v5,v6,v7,v8,v9,v10,v11,v12,v13,v14) => bif decide (v1 < v0) then bif decide (0 ≤ v1 ∧ v1 < Int.ofNat v2.length) then bif decide (0 ≤ v3) then bif decide (v9.length + [Int.fdiv (v2.getD v1.toNat 0) ((2:Int) ^ min v3.toNat 64)].length < 2147483648) then L1 (v0,IntKind.i64.wrap (v1 + 1),v2,v3,v4,v5,v6,v7,v8,v9 ++ [Int.fdiv (v2.getD v1.toNat 0) ((2:Int) ^ min v3.toNat 64)],v10,v11,v12,v13,v14) else none else none else none else (ZdI k (v9,((v4,v5,v6,v9,[],v7,[],v8,()),()),())).bind fun y => (Zc5 k (((0:Int),v5,v6,v9,([],v7,()),[],v6,()),!y.1,(0,0,0,[],[],0,[],(-1:Int),()),())).bind fun y_1 => L2 (IntKind.i64.wrap ((if Int.ofNat v9.length < (4:Int) then Int.ofNat v9.length else (4:Int)) + (1:Int)),(0:Int),Int.ofNat v9.length,y_1.2.1.1,y_1.2.1.2.1,y_1.2.1.2.2.1,y_1.2.1.2.2.2.1,y_1.2.1.2.2.2.2.1,y_1.2.1.2.2.2.2.2.1,y_1.2.1.2.2.2.2.2.2.1,y_1.2.1.2.2.2.2.2.2.2.1,y.2.1.1,y.2.1.2.1,y.2.1.2.2.1,y.2.1.2.2.2.1,y.2.1.2.2.2.2.1,y.2.1.2.2.2.2.2.1,y.2.1.2.2.2.2.2.2.1,y.2.1.2.2.2.2.2.2.2.1,(0:Int),v5,v6,v7,v6,v9,v10,v11,v12,v13,v14)
noncomputable def ZwT (k:Nat):ZqV:=Zh (fun L1 => ZtC k (ZwU k) L1) k
noncomputable def ZyP (k:Nat) (n:Nat) (v:ZwW) :=
 Zi (ZkX k) ZyN [] [1,1,1,0,1,0] [] (Qh Tryz.f152) (Qi (ZkX k) Tryz.f152 ZM Zf2 [] []) n (ZMs v)
def ZtB (k:Nat) (L1:ZqV):List Int × Int × Unit → Option ((Int × Int × Int × List Int × (List Int × Int × Unit) × List Int × Int × Unit) × Unit)
 | (a0,a1,()) => (Zo4 k (a0,())).bind fun y => L1 (Int.ofNat a0.length,(0:Int),a0,y.1,(0:Int),y.1,IntKind.i64.wrap (a1 - y.1),(0:Int),(0:Int),[],(0:Int),(0:Int),(0:Int),(0:Int),(0:Int))
noncomputable def ZyO (k:Nat):=ZtB k (ZwT k)
theorem ZFw (k:Nat):∀ n,ZyR k n = Zh (fun L3 => ZtE k L3) n :=
 Zc (fun v => by kernel_rfl) (fun n v => by
  obtain ⟨v0,v1,v2,v3,v4,v5,v6,v7,v8,v9,v10,v11,v12,v13,v14,v15,v16,v17,v18,v19,v20,v21,v22,v23,v24,v25,v26,v27,v28,v29,v30,v31⟩:=v
  kernel_rfl)
theorem ZFv (k:Nat):∀ n,ZyQ k n = Zh (fun L2 => ZtD k (ZwV k) L2) n :=
 Zc (fun v => by kernel_rfl) (fun n v => by
  rw [show (ZwV k) = ZyR k k from (ZFw k k).symm]
  obtain ⟨v0,v1,v2,v3,v4,v5,v6,v7,v8,v9,v10,v11,v12,v13,v14,v15,v16,v17,v18,v19,v20,v21,v22,v23,v24,v25,v26,v27,v28,v29⟩:=v
  kernel_rfl)
theorem ZFu (k:Nat):∀ n,ZyP k n = Zh (fun L1 => ZtC k (ZwU k) L1) n :=
 Zc (fun v => by kernel_rfl) (fun n v => by
  rw [show (ZwU k) = ZyQ k k from (ZFv k k).symm]
  obtain ⟨v0,v1,v2,v3,v4,v5,v6,v7,v8,v9,v10,v11,v12,v13,v14⟩:=v
  kernel_rfl)
theorem ZMv (k:Nat) (x:Kd.dens ZM):Zt (ZkX k) ZyN Tryz.f152 ZM Zf2 x = ZyO k x:=by
 show _ = ZtB k (ZwT k) x
 rw [show ZwT k = ZyP k k from (ZFu k k).symm]
 obtain ⟨a0,⟨a1,⟨⟩⟩⟩:=x
 kernel_rfl
theorem ZJn (k:Nat):Ctr Tryz.prog k 152 (mk ZM Zf2 ZyO) :=
 Zu (fn:=Tryz.f152) (Zd (Za (ZuT k) (Za (ZCp k) (Za (Zis k) (Za (ZCs k) (Za (ZCt k) (Za (ZCq k) Zb))))))) (by kernel_rfl) (by kernel_rfl) (ZMv k)
noncomputable abbrev ZND:Nat × Callee:=(152,mk ZM Zf2 ZyO)
def ZKf:Nat → Ann:=fun id => bif Nat.beq id 4 then ⟨[15,16,0],[]⟩ else ⟨[],[]⟩
abbrev ZqY:=ZaF → Option (Int × (List Int × Int × Unit) × Unit)
def ZMw:ZaF → St
 | (v0,v1,v2,v3) => St.mk (Zo [(15,Zg v0),(16,Zg v1),(0,AV.bx 0 0)]) (Zm [(0,Qe [AV.own 8192,Zg v2]),(8192,RS.live (Res.arr (Ty.int IntKind.u8) v3 false))])
def ZtH (k:Nat) (L1:ZqY):ZqY
 | (v0,v1,v2,v3) => bif decide (v1 < v0) then (ZfB k ((v3,v2,()),0,())).bind fun y => L1 (v0,IntKind.i64.wrap (v1 + 1),y.2.1.2.1,y.2.1.1) else (ZfB k ((v3,v2,()),1,())).bind fun y => some (0,(y.2.1.1,y.2.1.2.1,()),())
def ZwZ (k:Nat):ZqY:=Zh (fun L1 => ZtH k L1) k
noncomputable def ZyS (k:Nat) (n:Nat) (v:ZaF) :=
 Zi (Zoc k) ZKf [0] [1,1,0,1,0] [] (Qh Tryz.f153) (Qi (Zoc k) Tryz.f153 Yk Zf [AV.bx (nat_lit 0) (nat_lit 0)] [[]]) n (ZMw v)
def ZtG (k:Nat) (L1:ZqY):(List Int × Int × Unit) × Int × Unit → Option (Int × (List Int × Int × Unit) × Unit)
 | ((a0,a1,()),a2,()) => bif decide (a2 < 0) then some (1,(a0,a1,()),()) else bif decide ((65536:Int) < a2) then some (1,(a0,a1,()),()) else L1 (a2,(0:Int),a1,a0)
def ZtF (k:Nat):=ZtG k (ZwZ k)
theorem ZFx (k:Nat):∀ n,ZyS k n = Zh (fun L1 => ZtH k L1) n :=
 Zc (fun v => by kernel_rfl) (fun n v => by
  obtain ⟨v0,v1,v2,v3⟩:=v
  kernel_rfl)
theorem ZMx (k:Nat) (x:Kd.dens Yk):Zt (Zoc k) ZKf Tryz.f153 Yk Zf x = ZtF k x:=by
 show _ = ZtG k (ZwZ k) x
 rw [show ZwZ k = ZyS k k from (ZFx k k).symm]
 obtain ⟨⟨a0,⟨a1,⟨⟩⟩⟩,⟨a2,⟨⟩⟩⟩:=x
 kernel_rfl
theorem ZyT (k:Nat):Ctr Tryz.prog k 153 (mk Yk Zf ZtF) :=
 Zu (fn:=Tryz.f153) (Zd (Za (ZrS k) Zb)) (by kernel_rfl) (by kernel_rfl) (ZMx k)
noncomputable abbrev ZKg:Nat × Callee:=(153,mk Yk Zf ZtF)
def Zmt (k:Nat):(List Int × Int × Unit) × Int × Int × Unit → Option (Int × (List Int × Int × Unit) × Unit)
 | ((a0,a1,()),a2,a3,()) => (Zob k (a3,())).bind fun y => bif y.1 then some (1,(a0,a1,()),()) else bif a3 == 0 then bif a2 != 0 then some (12,(a0,a1,()),()) else bif decide ((0:Int) < a3) then bif decide (0 ≤ IntKind.i64.wrap (a3 - 1)) then bif a2.fdiv ((2:Int) ^ min (IntKind.i64.wrap (a3 - 1)).toNat 64) != (0:Int) then bif decide (0 ≤ IntKind.i64.wrap (a3 - 1)) then bif a2.fdiv ((2:Int) ^ min (IntKind.i64.wrap (a3 - 1)).toNat 64) != (-1:Int) then some (12,(a0,a1,()),()) else (ZcO k ((a0,a1,()),IntKind.u64.wrap a2,a3,())).bind fun y => some (0,(y.2.1.1,y.2.1.2.1,()),()) else none else (ZcO k ((a0,a1,()),IntKind.u64.wrap a2,a3,())).bind fun y => some (0,(y.2.1.1,y.2.1.2.1,()),()) else none else (ZcO k ((a0,a1,()),IntKind.u64.wrap a2,a3,())).bind fun y => some (0,(y.2.1.1,y.2.1.2.1,()),()) else bif decide ((0:Int) < a3) then bif decide (0 ≤ IntKind.i64.wrap (a3 - 1)) then bif a2.fdiv ((2:Int) ^ min (IntKind.i64.wrap (a3 - 1)).toNat 64) != (0:Int) then bif decide (0 ≤ IntKind.i64.wrap (a3 - 1)) then bif a2.fdiv ((2:Int) ^ min (IntKind.i64.wrap (a3 - 1)).toNat 64) != (-1:Int) then some (12,(a0,a1,()),()) else (ZcO k ((a0,a1,()),IntKind.u64.wrap a2,a3,())).bind fun y => some (0,(y.2.1.1,y.2.1.2.1,()),()) else none else (ZcO k ((a0,a1,()),IntKind.u64.wrap a2,a3,())).bind fun y => some (0,(y.2.1.1,y.2.1.2.1,()),()) else none else (ZcO k ((a0,a1,()),IntKind.u64.wrap a2,a3,())).bind fun y => some (0,(y.2.1.1,y.2.1.2.1,()),())
def Ziu (k:Nat):=Zmt k
theorem ZGY (k:Nat) (x:Kd.dens Km):Zt (ZJX k) nA Tryz.f200 Km Zf x = Ziu k x:=by
 show _ = Zmt k x
 obtain ⟨⟨a0,⟨a1,⟨⟩⟩⟩,⟨a2,⟨a3,⟨⟩⟩⟩⟩:=x
 kernel_rfl
theorem ZrV (k:Nat):Ctr Tryz.prog k 200 (mk Km Zf Ziu) :=
 Zu (fn:=Tryz.f200) (Zd (Za (ZqR k) (Za (ZyJ k) Zb))) (by kernel_rfl) (by kernel_rfl) (ZGY k)
noncomputable abbrev ZCu:Nat × Callee:=(200,mk Km Zf Ziu)
abbrev W2:List Kd:=[.box [.own (.int .u8) false,.view (.int .i64)],.view (.sl (.int .i64)),.view (.int .i64)]
noncomputable def ZFy (k:Nat):=Qq k [ZCu]
def ZKh:Nat → Ann:=fun id => bif Nat.beq id 1 then ⟨[9,10,8,0,2],[]⟩ else ⟨[],[]⟩
abbrev ZbE:=Int × Int × List Int × Int × Int × List Int
abbrev ZqZ:=ZbE → Option (Unit × (List Int × Int × Unit) × Unit)
def ZMy:ZbE → St
 | (v0,v1,v2,v3,v4,v5) => St.mk (Zo [(9,Zg v0),(10,Zg v1),(8,WK v2),(0,AV.bx 0 0),(2,Zg v3)]) (Zm [(0,Qe [AV.own 8192,Zg v4]),(8192,RS.live (Res.arr (Ty.int IntKind.u8) v5 false))])
def ZtJ (k:Nat) (L1:ZqZ):ZqZ
 | (v0,v1,v2,v3,v4,v5) => bif decide (v1 < v0) then bif decide (0 ≤ v1 ∧ v1 < Int.ofNat v2.length) then (Ziu k ((v5,v4,()),v2.getD v1.toNat 0,v3,())).bind fun y => L1 (v0,IntKind.i64.wrap (v1 + 1),v2,v3,y.2.1.2.1,y.2.1.1) else none else some ((),(v5,v4,()),())
def Zw0 (k:Nat):ZqZ:=Zh (fun L1 => ZtJ k L1) k
noncomputable def ZyU (k:Nat) (n:Nat) (v:ZbE) :=
 Zi (ZFy k) ZKh [0] [1,0] [] (Qh Tryz.f154) (Qi (ZFy k) Tryz.f154 W2 Z6 [AV.bx (nat_lit 0) (nat_lit 0)] [[]]) n (ZMy v)
def ZtI (k:Nat) (L1:ZqZ):(List Int × Int × Unit) × List Int × Int × Unit → Option (Unit × (List Int × Int × Unit) × Unit)
 | ((a0,a1,()),a2,a3,()) => L1 (Int.ofNat a2.length,(0:Int),a2,a3,a1,a0)
def ZbD (k:Nat):=ZtI k (Zw0 k)
theorem ZFz (k:Nat):∀ n,ZyU k n = Zh (fun L1 => ZtJ k L1) n :=
 Zc (fun v => by kernel_rfl) (fun n v => by
  obtain ⟨v0,v1,v2,v3,v4,v5⟩:=v
  kernel_rfl)
theorem ZMz (k:Nat) (x:Kd.dens W2):Zt (ZFy k) ZKh Tryz.f154 W2 Z6 x = ZbD k x:=by
 show _ = ZtI k (Zw0 k) x
 rw [show Zw0 k = ZyU k k from (ZFz k k).symm]
 obtain ⟨⟨a0,⟨a1,⟨⟩⟩⟩,⟨a2,⟨a3,⟨⟩⟩⟩⟩:=x
 kernel_rfl
theorem ZJo (k:Nat):Ctr Tryz.prog k 154 (mk W2 Z6 ZbD) :=
 Zu (fn:=Tryz.f154) (Zd (Za (ZrV k) Zb)) (by kernel_rfl) (by kernel_rfl) (ZMz k)
noncomputable abbrev ZNE:Nat × Callee:=(154,mk W2 Z6 ZbD)
noncomputable def ZtK (k:Nat):=Qq k [ZFa,ZKg,ZCv,ZCw,ZCy,(204,mk Zw Zf Zba),(205,mk Zw Zf Yw),(206,mk Zw ZN ZfL),ZCu]
noncomputable def ZFA:Nat → Ann:=fun id => bif Nat.beq id 17 then ⟨[69,70,68,11,8,0,41,40,39],[]⟩ else bif Nat.beq id 10 then ⟨[40,41,39,8,0],[]⟩ else ⟨[],[]⟩
abbrev Zw4:=Int × Int × List Int × Int × Int × List (List Int) × Int × List Int × Int × Int × Int × Int × Int × List (Int × Int × Int × Unit) × Int
abbrev Zq0:=Zw4 → Option (Int × (List Int × Int × Unit) × Unit)
abbrev Zw3:=Int × Int × List (List Int) × Int × List Int × Int × Int × List (Int × Int × Int × Unit) × Int
abbrev Zf3:=Zw3 → Option (Int × (List Int × Int × Unit) × Unit)
noncomputable def ZMB:Zw4 → St
 | (v0,v1,v2,v3,v4,v5,v6,v7,v8,v9,v10,v11,v12,v13,v14) => St.mk (Zo [(69,Zg v0),(70,Zg v1),(68,WK v2),(11,AV.bx 8193 0),(8,AV.bx 8194 0),(0,AV.bx 0 0),(41,Zg v3),(40,Zg v4),(39,AV.val (PV.sl (Ty.int IntKind.i64).sl v5))]) (Zm [(0,Qe [AV.own 8192,Zg v6]),(8192,RS.live (Res.arr (Ty.int IntKind.u8) v7 false)),(8193,Qe [Zg v8,Zg v9,Zg v10]),(8194,Qe [Zg v11,Zg v12,AV.val (PV.sl ((Ty.int IntKind.i64).pair ((Ty.int IntKind.i64).pair ((Ty.int IntKind.i64).pair Ty.unit))) v13),Zg v14])])
noncomputable def ZkZ (k:Nat) (L1:Zf3) (L2:Zq0):Zq0
 | (v0,v1,v2,v3,v4,v5,v6,v7,v8,v9,v10,v11,v12,v13,v14) => bif decide (v1 < v0) then bif decide (0 ≤ v1 ∧ v1 < Int.ofNat v2.length) then (Yw k (v11,())).bind fun y => bif v8 == y.1 then (Ziu k ((v7,v6,()),v2.getD v1.toNat 0,v9,())).bind fun y => L2 (v0,IntKind.i64.wrap (v1 + 1),v2,v3,v4,v5,y.2.1.2.1,y.2.1.1,v8,v9,v10,v11,v12,v13,v14) else (ZfL k (v2.getD v1.toNat 0,())).bind fun y => bif decide (0 ≤ v8) then (ZtF k ((v7,v6,()),Int.fdiv y.1.1 ((2:Int) ^ min v8.toNat 64),())).bind fun y_1 => bif decide (0 ≤ v8) then (ZP k ((y_1.2.1.1,y_1.2.1.2.1,()),IntKind.i64.wrap (Int.ofNat (BitVec.ofInt 64 y.1.1 &&& BitVec.ofInt 64 (IntKind.i64.wrap (IntKind.i64.wrap ((1:Int) * (2:Int) ^ min v8.toNat 64) - (1:Int)))).toNat),v8,())).bind fun y => L2 (v0,IntKind.i64.wrap (v1 + 1),v2,v3,v4,v5,y.2.1.2.1,y.2.1.1,v8,v9,v10,v11,v12,v13,v14) else none else none else none else L1 (v4,IntKind.i64.wrap (v3 + 1),v5,v6,v7,v11,v12,v13,v14)
noncomputable def Zw2 (k:Nat) (L1:Zf3):Zq0:=Zh (fun L2 => ZkZ k L1 L2) k
noncomputable def ZhY (k:Nat) (n1:Nat) (n:Nat) (v:Zw4):Option (Int × (List Int × Int × Unit) × Unit) :=
 Zi (ZtK k) ZFA [0] [1,1,1,1,1,1,0,1,0,0,1,1,0,0,1,1,1,1,1,0] [n1] (Qh Tryz.f155) (Qi (ZtK k) Tryz.f155 W2 Zf [AV.bx (nat_lit 0) (nat_lit 0)] [[]]) n (ZMB v)
noncomputable def ZMA:Zw3 → St
 | (v0,v1,v2,v3,v4,v5,v6,v7,v8) => St.mk (Zo [(40,Zg v0),(41,Zg v1),(39,AV.val (PV.sl (Ty.int IntKind.i64).sl v2)),(8,AV.bx 8193 0),(0,AV.bx 0 0)]) (Zm [(0,Qe [AV.own 8192,Zg v3]),(8192,RS.live (Res.arr (Ty.int IntKind.u8) v4 false)),(8193,Qe [Zg v5,Zg v6,AV.val (PV.sl ((Ty.int IntKind.i64).pair ((Ty.int IntKind.i64).pair ((Ty.int IntKind.i64).pair Ty.unit))) v7),Zg v8])])
noncomputable def ZtM (k:Nat) (L2:Zq0) (L1:Zf3):Zf3
 | (v0,v1,v2,v3,v4,v5,v6,v7,v8) => bif decide (v1 < v0) then bif decide (0 ≤ v1 ∧ v1 < Int.ofNat v2.length) then bif decide (0 ≤ v1 ∧ v1 < Int.ofNat v7.length) then (Zba k (v5,())).bind fun y => (ZP k ((v4,v3,()),(v7.getD v1.toNat (0,0,0,())).1,y.1,())).bind fun y => (Yw k (v5,())).bind fun y_1 => bif (v7.getD v1.toNat (0,0,0,())).1 == y_1.1 then (ZP k ((y.2.1.1,y.2.1.2.1,()),(v7.getD v1.toNat (0,0,0,())).2.1,5,())).bind fun y => L2 (Int.ofNat (List.length (v2.getD v1.toNat [])),(0:Int),v2.getD v1.toNat [],v1,v0,v2,y.2.1.2.1,y.2.1.1,(v7.getD v1.toNat (0,0,0,())).1,(v7.getD v1.toNat (0,0,0,())).2.1,(v7.getD v1.toNat (0,0,0,())).2.2.1,v5,v6,v7,v8) else L2 (Int.ofNat (List.length (v2.getD v1.toNat [])),(0:Int),v2.getD v1.toNat [],v1,v0,v2,y.2.1.2.1,y.2.1.1,(v7.getD v1.toNat (0,0,0,())).1,(v7.getD v1.toNat (0,0,0,())).2.1,(v7.getD v1.toNat (0,0,0,())).2.2.1,v5,v6,v7,v8) else none else none else some (0,(v4,v3,()),())
noncomputable def Zw1 (k:Nat):Zf3:=Zh (fun L1 => ZtM k (Zw2 k L1) L1) k
noncomputable def Ze3 (k:Nat) (n:Nat) (v:Zw3) :=
 Zi (ZtK k) ZFA [0] [1,1,1,1,1,1,0,1,0] [] (Qh Tryz.f155) (Qi (ZtK k) Tryz.f155 W2 Zf [AV.bx (nat_lit 0) (nat_lit 0)] [[]]) n (ZMA v)
noncomputable def ZtL (k:Nat) (L1:Zf3):(List Int × Int × Unit) × List Int × Int × Unit → Option (Int × (List Int × Int × Unit) × Unit)
 | ((a0,a1,()),a2,a3,()) => (Ziv k (a2,a3,())).bind fun y => bif y.1 != 0 then some (y.1,(a0,a1,()),()) else (Ziw k (a2,a3,())).bind fun y => (ZP k ((a0,a1,()),y.1.1,2,())).bind fun y_1 => (ZP k ((y_1.2.1.1,y_1.2.1.2.1,()),y.1.2.1,4,())).bind fun y_2 => (Zix k (a2,a3,y.1.2.1,())).bind fun y_3 => L1 (Int.ofNat (List.length y_3.1),(0:Int),y_3.1,y_2.2.1.2.1,y_2.2.1.1,y.1.1,y.1.2.1,y.1.2.2.1,y.1.2.2.2.1)
noncomputable def ZkY (k:Nat):=ZtL k (Zw1 k)
theorem ZFC (k:Nat) (n1:Nat):∀ n,ZhY k n1 n = Zh (fun L2 => ZkZ k (Ze3 k n1) L2) n :=
 Zc (fun v => by kernel_rfl) (fun n v => by
  show ZhY k n1 (n + 1) v = ZkZ k (Ze3 k n1) (ZhY k n1 n) v
  obtain ⟨v0,v1,v2,v3,v4,v5,v6,v7,v8,v9,v10,v11,v12,v13,v14⟩:=v
  kernel_rfl)
theorem ZFB (k:Nat):∀ n,Ze3 k n = Zh (fun L1 => ZtM k (Zw2 k L1) L1) n :=
 Zc (fun v => by kernel_rfl) (fun n v => by
  rw [show (Zw2 k (Ze3 k n)) = ZhY k n k from (ZFC k n k).symm]
  obtain ⟨v0,v1,v2,v3,v4,v5,v6,v7,v8⟩:=v
  kernel_rfl)
theorem ZMC (k:Nat) (x:Kd.dens W2):Zt (ZtK k) ZFA Tryz.f155 W2 Zf x = ZkY k x:=by
 show _ = ZtL k (Zw1 k) x
 rw [show Zw1 k = Ze3 k k from (ZFB k k).symm]
 obtain ⟨⟨a0,⟨a1,⟨⟩⟩⟩,⟨a2,⟨a3,⟨⟩⟩⟩⟩:=x
 kernel_rfl
theorem ZJp (k:Nat):Ctr Tryz.prog k 155 (mk W2 Zf ZkY) :=
 Zu (fn:=Tryz.f155) (Zd (Za (ZaD k) (Za (ZyT k) (Za (ZrW k) (Za (ZrX k) (Za (ZrZ k) (Za (ZfH k) (Za (ZfJ k) (Za (ZmB k) (Za (ZrV k) Zb)))))))))) (by kernel_rfl) (by kernel_rfl) (ZMC k)
noncomputable abbrev ZNF:Nat × Callee:=(155,mk W2 Zf ZkY)
noncomputable def ZNj (k:Nat):=Qq k [ZFa,ZNC,ZND,ZKg,ZNE,ZNF]
noncomputable def Zs1 (k:Nat):(List Int × Int × Unit) × List Int × Int × Unit → Option (Int × (List Int × Int × Unit) × Unit)
 | ((a0,a1,()),a2,a3,()) => (ZyM k (a2,a3,())).bind fun y => bif y.1 != 0 then some (y.1,(a0,a1,()),()) else (ZyO k (a2,a3,())).bind fun y => (ZP k ((a0,a1,()),y.1.1,7,())).bind fun y_1 => bif decide ((0:Int) < y.1.2.1) then (ZP k ((y_1.2.1.1,y_1.2.1.2.1,()),1,1,())).bind fun y_2 => (ZtF k ((y_2.2.1.1,y_2.2.1.2.1,()),IntKind.i64.wrap (y.1.2.1 - 1),())).bind fun y_3 => bif y.1.1 == 0 then bif decide ((0:Int) ≤ 0 ∧ (0:Int) ≤ 1 ∧ (1:Int) ≤ Int.ofNat (List.length y.1.2.2.2.1)) then (ZbD k ((y_3.2.1.1,y_3.2.1.2.1,()),List.drop 0 (List.take 1 y.1.2.2.2.1),y.1.2.2.1,())).bind fun y => some (0,(y.2.1.1,y.2.1.2.1,()),()) else none else bif y.1.1 == 1 then (ZbD k ((y_3.2.1.1,y_3.2.1.2.1,()),y.1.2.2.2.1,y.1.2.2.1,())).bind fun y => some (0,(y.2.1.1,y.2.1.2.1,()),()) else bif decide ((0:Int) ≤ 0 ∧ (0:Int) ≤ Int.ofNat (List.length y.1.2.2.2.2.1.1) ∧ Int.ofNat (List.length y.1.2.2.2.2.1.1) ≤ Int.ofNat (List.length y.1.2.2.2.1)) then (ZbD k ((y_3.2.1.1,y_3.2.1.2.1,()),List.drop 0 (List.take (Int.ofNat (List.length y.1.2.2.2.2.1.1)).toNat y.1.2.2.2.1),y.1.2.2.1,())).bind fun y_4 => bif decide ((31:Int) < y.1.1) then (ZP k ((y_4.2.1.1,y_4.2.1.2.1,()),11,4,())).bind fun y_5 => (ZP k ((y_5.2.1.1,y_5.2.1.2.1,()),y.1.2.2.2.2.1.2.1,5,())).bind fun y_6 => (ZbD k ((y_6.2.1.1,y_6.2.1.2.1,()),y.1.2.2.2.2.1.1,12,())).bind fun y_7 => (ZkY k ((y_7.2.1.1,y_7.2.1.2.1,()),y.1.2.2.2.2.2.1,Int.ofNat (List.length y.1.2.2.2.2.1.1),())).bind fun y => some (y.1,(y.2.1.1,y.2.1.2.1,()),()) else (ZkY k ((y_4.2.1.1,y_4.2.1.2.1,()),y.1.2.2.2.2.2.1,Int.ofNat (List.length y.1.2.2.2.2.1.1),())).bind fun y => some (y.1,(y.2.1.1,y.2.1.2.1,()),()) else none else (ZP k ((y_1.2.1.1,y_1.2.1.2.1,()),0,1,())).bind fun y_2 => bif y.1.1 == 0 then bif decide ((0:Int) ≤ 0 ∧ (0:Int) ≤ 1 ∧ (1:Int) ≤ Int.ofNat (List.length y.1.2.2.2.1)) then (ZbD k ((y_2.2.1.1,y_2.2.1.2.1,()),List.drop 0 (List.take 1 y.1.2.2.2.1),y.1.2.2.1,())).bind fun y => some (0,(y.2.1.1,y.2.1.2.1,()),()) else none else bif y.1.1 == 1 then (ZbD k ((y_2.2.1.1,y_2.2.1.2.1,()),y.1.2.2.2.1,y.1.2.2.1,())).bind fun y => some (0,(y.2.1.1,y.2.1.2.1,()),()) else bif decide ((0:Int) ≤ 0 ∧ (0:Int) ≤ Int.ofNat (List.length y.1.2.2.2.2.1.1) ∧ Int.ofNat (List.length y.1.2.2.2.2.1.1) ≤ Int.ofNat (List.length y.1.2.2.2.1)) then (ZbD k ((y_2.2.1.1,y_2.2.1.2.1,()),List.drop 0 (List.take (Int.ofNat (List.length y.1.2.2.2.2.1.1)).toNat y.1.2.2.2.1),y.1.2.2.1,())).bind fun y_3 => bif decide ((31:Int) < y.1.1) then (ZP k ((y_3.2.1.1,y_3.2.1.2.1,()),11,4,())).bind fun y_4 => (ZP k ((y_4.2.1.1,y_4.2.1.2.1,()),y.1.2.2.2.2.1.2.1,5,())).bind fun y_5 => (ZbD k ((y_5.2.1.1,y_5.2.1.2.1,()),y.1.2.2.2.2.1.1,12,())).bind fun y_6 => (ZkY k ((y_6.2.1.1,y_6.2.1.2.1,()),y.1.2.2.2.2.2.1,Int.ofNat (List.length y.1.2.2.2.2.1.1),())).bind fun y => some (y.1,(y.2.1.1,y.2.1.2.1,()),()) else (ZkY k ((y_3.2.1.1,y_3.2.1.2.1,()),y.1.2.2.2.2.2.1,Int.ofNat (List.length y.1.2.2.2.2.1.1),())).bind fun y => some (y.1,(y.2.1.1,y.2.1.2.1,()),()) else none
noncomputable def Zyq (k:Nat):=Zs1 k
theorem ZLY (k:Nat) (x:Kd.dens W2):Zt (ZNj k) nA Tryz.f98 W2 Zf x = Zyq k x:=by
 show _ = Zs1 k x
 obtain ⟨⟨a0,⟨a1,⟨⟩⟩⟩,⟨a2,⟨a3,⟨⟩⟩⟩⟩:=x
 kernel_rfl
theorem ZJc (k:Nat):Ctr Tryz.prog k 98 (mk W2 Zf Zyq) :=
 Zu (fn:=Tryz.f98) (Zd (Za (ZaD k) (Za (ZJm k) (Za (ZJn k) (Za (ZyT k) (Za (ZJo k) (Za (ZJp k) Zb))))))) (by kernel_rfl) (by kernel_rfl) (ZLY k)
noncomputable abbrev ZNk:Nat × Callee:=(98,mk W2 Zf Zyq)
def Zs2 (k:Nat):(List Int × Int × Unit) × Unit → Option (Int × (List Int × Int × Unit) × Unit)
 | ((a0,a1,()),()) => some (IntKind.i64.wrap (Int.ofNat (BitVec.ofInt 64 (IntKind.i64.wrap ((0:Int) - a1)) &&& BitVec.ofInt 64 (7:Int)).toNat),(a0,IntKind.i64.wrap (a1 + IntKind.i64.wrap (Int.ofNat (BitVec.ofInt 64 (IntKind.i64.wrap ((0:Int) - a1)) &&& BitVec.ofInt 64 (7:Int)).toNat)),()),())
def Zyr (k:Nat):=Zs2 k
theorem ZLZ (k:Nat) (x:Kd.dens ZaE):Zt (ZK k) nA Tryz.f99 ZaE Zf x = Zyr k x:=by
 show _ = Zs2 k x
 obtain ⟨⟨a0,⟨a1,⟨⟩⟩⟩,⟨⟩⟩:=x
 kernel_rfl
theorem ZJd (k:Nat):Ctr Tryz.prog k 99 (mk ZaE Zf Zyr) :=
 Zu (fn:=Tryz.f99) (Zd Zb) (by kernel_rfl) (by kernel_rfl) (ZLZ k)
noncomputable abbrev ZNl:Nat × Callee:=(99,mk ZaE Zf Zyr)
def Zs4 (k:Nat):List Int × Unit → Option (Int × Unit)
 | (a0,()) => (Ztw k (a0,16,32773,())).bind fun y => some (y.1,())
def Zs3 (k:Nat):=Zs4 k
theorem ZL0 (k:Nat) (x:Kd.dens QO):Zt (ZJY k) nA Tryz.f61 QO Zf x = Zs3 k x:=by
 show _ = Zs4 k x
 obtain ⟨a0,⟨⟩⟩:=x
 kernel_rfl
theorem Zys (k:Nat):Ctr Tryz.prog k 61 (mk QO Zf Zs3) :=
 Zu (fn:=Tryz.f61) (Zd (Za (ZyL k) Zb)) (by kernel_rfl) (by kernel_rfl) (ZL0 k)
noncomputable abbrev ZJ1:Nat × Callee:=(61,mk QO Zf Zs3)
abbrev ZfT:Kd:=.tup [.own (.int .u8) false,.view (.int .i64)]
noncomputable def Zsk (k:Nat):=Qq k [ZJV,ZNe,ZJW,ZFa,ZNf,ZJZ,ZNh,ZJ0,ZNk,ZNl,ZJ1]
def ZC3:Nat → Ann:=fun id => bif Nat.beq id 27 then ⟨[87,88,86,12,7],[]⟩ else bif Nat.beq id 20 then ⟨[61,62,60,12,10,11,2,8,7],[]⟩ else ⟨[],[]⟩
abbrev Zvf:=Int × Int × List Int × List (List Int) × Int × List Int
abbrev ZpO:=Zvf → Option ((List Int × Int × Unit) × Unit)
abbrev Zve:=Int × Int × List Int × Int × Int × Int × List (List Int) × Int × List Int × Int × Int × Int
abbrev ZpN:=Zve → Option ((List Int × Int × Unit) × Unit)
def ZK9:Zvf → St
 | (v0,v1,v2,v3,v4,v5) => St.mk (Zo [(87,Zg v0),(88,Zg v1),(86,WK v2),(12,AV.bx 8192 0),(7,AV.val (PV.sl (Ty.int IntKind.i64).sl v3))]) (Zm [(8192,Qe [AV.own 8193,Zg v4]),(8193,RS.live (Res.arr (Ty.int IntKind.u8) v5 false))])
noncomputable def Zso (k:Nat) (L2:ZpO):ZpO
 | (v0,v1,v2,v3,v4,v5) => bif decide (v1 < v0) then bif decide (0 ≤ v1 ∧ v1 < Int.ofNat v2.length) then bif decide (0 ≤ v1 ∧ v1 < Int.ofNat v3.length) then (Zyq k ((v5,v4,()),v3.getD v1.toNat [],v2.getD v1.toNat 0,())).bind fun y => bif y.1 != 0 then some (([],y.1,()),()) else L2 (v0,IntKind.i64.wrap (v1 + 1),v2,v3,y.2.1.2.1,y.2.1.1) else none else none else (Zyr k ((v5,v4,()),())).bind fun y => (ZgL k ((y.2.1.1,y.2.1.2.1,()),())).bind fun y => (Zs3 k (y.1,())).bind fun y_1 => (ZP k ((y.2.1.1,y.2.1.2.1,()),y_1.1,16,())).bind fun y => (ZgL k ((y.2.1.1,y.2.1.2.1,()),())).bind fun y => some ((y.1,0,()),())
noncomputable def Zvd (k:Nat):ZpO:=Zh (fun L2 => Zso k L2) k
noncomputable def ZxM (k:Nat) (n:Nat) (v:Zvf) :=
 Zi (Zsk k) ZC3 [] [1,1,1,1,1,1,1,1,1,1,1,1,1,1,1,1,1,0,1,0] [] (Qh Tryz.f43) (Qi (Zsk k) Tryz.f43 Xk ZfT [] []) n (ZK9 v)
def ZK8:Zve → St
 | (v0,v1,v2,v3,v4,v5,v6,v7,v8,v9,v10,v11) => St.mk (Zo [(61,Zg v0),(62,Zg v1),(60,AV.val (PV.sl (Ty.int IntKind.u8) v2)),(12,AV.bx 8192 0),(10,Zg v3),(11,Zg v4),(2,AV.bx 8194 0),(8,Zg v5),(7,AV.val (PV.sl (Ty.int IntKind.i64).sl v6))]) (Zm [(8192,Qe [AV.own 8193,Zg v7]),(8193,RS.live (Res.arr (Ty.int IntKind.u8) v8 false)),(8194,Qe [Zg v9,Zg v10,Zg v11])])
def Zsn (k:Nat) (L2:ZpO) (L1:ZpN):ZpN
 | (v0,v1,v2,v3,v4,v5,v6,v7,v8,v9,v10,v11) => bif decide (v1 < v0) then bif decide (0 ≤ v1 ∧ v1 < Int.ofNat v2.length) then (ZP k ((v8,v7,()),IntKind.i64.wrap (v2.getD v1.toNat 0),8,())).bind fun y => L1 (v0,IntKind.i64.wrap (v1 + 1),v2,v3,v4,v5,v6,y.2.1.2.1,y.2.1.1,v9,v10,v11) else none else (ZP k ((v8,v7,()),IntKind.i64.wrap (v3 - 1),IntKind.i64.wrap ((8:Int) * IntKind.i64.wrap (IntKind.i64.wrap (v4 - 6) + (1:Int))),())).bind fun y => (ZgL k ((y.2.1.1,y.2.1.2.1,()),())).bind fun y => (ZsW k (y.1,())).bind fun y_1 => (ZP k ((y.2.1.1,y.2.1.2.1,()),y_1.1,8,())).bind fun y => (ZsZ k ((v9,v10,v11,()),v5,())).bind fun y_2 => L2 (Int.ofNat (List.length y_2.1),(0:Int),y_2.1,v6,y.2.1.2.1,y.2.1.1)
noncomputable def Zvc (k:Nat):ZpN:=Zh (fun L1 => Zsn k (Zvd k) L1) k
noncomputable def ZxL (k:Nat) (n:Nat) (v:Zve) :=
 Zi (Zsk k) ZC3 [] [1,1,1,1,1,1,1,1,1,1,1,1,1,1,0,1,0] [] (Qh Tryz.f43) (Qi (Zsk k) Tryz.f43 Xk ZfT [] []) n (ZK8 v)
def Zsm (k:Nat) (L1:ZpN):(Int × Int × Int × Unit) × (Int × List (List Int) × Unit) × Unit → Option ((List Int × Int × Unit) × Unit)
 | ((a0,a1,a2,()),(a3,a4,()),()) => (ZkO k ((a0,a1,a2,()),(a3,a4,()),())).bind fun y => bif y.1 != 0 then some (([],y.1,()),()) else (Zyj k ((a3,a4,()),())).bind fun y => bif y.1.2.2.1 != 0 then some (([],y.1.2.2.1,()),()) else bif decide ((0:Int) ≤ 0 ∧ (0:Int) < Int.ofNat (List.length y.1.1)) then bif decide ((256:Int) < Int.ofNat (List.length (List.getD y.1.1 (0:Nat) []))) then (Zn8 k ()).bind fun y_1 => (ZP k ((y_1.1.1,y_1.1.2.1,()),16382,14,())).bind fun y_2 => (ZP k ((y_2.2.1.1,y_2.2.1.2.1,()),7,6,())).bind fun y_3 => (ZP k ((y_3.2.1.1,y_3.2.1.2.1,()),y.1.2.1,8,())).bind fun y_4 => (ZP k ((y_4.2.1.1,y_4.2.1.2.1,()),0,4,())).bind fun y_5 => (ZsS k (a3,())).bind fun y_6 => bif y_6.1.2.1 != 0 then some (([],y_6.1.2.1,()),()) else L1 (Int.ofNat (List.length y_6.1.1),(0:Int),y_6.1.1,Int.ofNat (List.length (List.getD y.1.1 (0:Nat) [])),(7:Int),y.1.2.1,y.1.1,y_5.2.1.2.1,y_5.2.1.1,a0,a1,a2) else (Zn8 k ()).bind fun y_1 => (ZP k ((y_1.1.1,y_1.1.2.1,()),16382,14,())).bind fun y_2 => (ZP k ((y_2.2.1.1,y_2.2.1.2.1,()),6,6,())).bind fun y_3 => (ZP k ((y_3.2.1.1,y_3.2.1.2.1,()),y.1.2.1,8,())).bind fun y_4 => (ZP k ((y_4.2.1.1,y_4.2.1.2.1,()),0,4,())).bind fun y_5 => (ZsS k (a3,())).bind fun y_6 => bif y_6.1.2.1 != 0 then some (([],y_6.1.2.1,()),()) else L1 (Int.ofNat (List.length y_6.1.1),(0:Int),y_6.1.1,Int.ofNat (List.length (List.getD y.1.1 (0:Nat) [])),(6:Int),y.1.2.1,y.1.1,y_5.2.1.2.1,y_5.2.1.1,a0,a1,a2) else none
noncomputable def Zsl (k:Nat):=Zsm k (Zvc k)
theorem ZC5 (k:Nat):∀ n,ZxM k n = Zh (fun L2 => Zso k L2) n :=
 Zc (fun v => by kernel_rfl) (fun n v => by
  obtain ⟨v0,v1,v2,v3,v4,v5⟩:=v
  kernel_rfl)
theorem ZC4 (k:Nat):∀ n,ZxL k n = Zh (fun L1 => Zsn k (Zvd k) L1) n :=
 Zc (fun v => by kernel_rfl) (fun n v => by
  rw [show (Zvd k) = ZxM k k from (ZC5 k k).symm]
  obtain ⟨v0,v1,v2,v3,v4,v5,v6,v7,v8,v9,v10,v11⟩:=v
  kernel_rfl)
theorem ZLa (k:Nat) (x:Kd.dens Xk):Zt (Zsk k) ZC3 Tryz.f43 Xk ZfT x = Zsl k x:=by
 show _ = Zsm k (Zvc k) x
 rw [show Zvc k = ZxL k k from (ZC4 k k).symm]
 obtain ⟨⟨a0,⟨a1,⟨a2,⟨⟩⟩⟩⟩,⟨⟨a3,⟨a4,⟨⟩⟩⟩,⟨⟩⟩⟩:=x
 kernel_rfl
theorem ZHy (k:Nat):Ctr Tryz.prog k 43 (mk Xk ZfT Zsl) :=
 Zu (fn:=Tryz.f43) (Zd (Za (Zyi k) (Za (ZJa k) (Za (Zyk k) (Za (ZaD k) (Za (ZJb k) (Za (Zyn k) (Za (Zyo k) (Za (Zyp k) (Za (ZJc k) (Za (ZJd k) (Za (Zys k) Zb)))))))))))) (by kernel_rfl) (by kernel_rfl) (ZLa k)
noncomputable abbrev ZOg:Nat × Callee:=(43,mk Xk ZfT Zsl)
abbrev ZqG:Kd:=.box [.view (.sl (.int .u8)),.view (.int .i64)]
noncomputable def ZNm (k:Nat):=Qq k [ZKe]
def Zs5 (k:Nat):List Int × Unit → Option ((List Int × Int × Unit) × Unit)
 | (a0,()) => (ZkW k (a0,())).bind fun y => some ((y.1,0,()),())
def Zn9 (k:Nat):=Zs5 k
theorem ZL1 (k:Nat) (x:Kd.dens QO):Zt (ZNm k) nA Tryz.f48 QO ZqG x = Zn9 k x:=by
 show _ = Zs5 k x
 obtain ⟨a0,⟨⟩⟩:=x
 kernel_rfl
theorem Zyt (k:Nat):Ctr Tryz.prog k 48 (mk QO ZqG Zn9) :=
 Zu (fn:=Tryz.f48) (Zd (Za (ZqU k) Zb)) (by kernel_rfl) (by kernel_rfl) (ZL1 k)
noncomputable abbrev ZNn:Nat × Callee:=(48,mk QO ZqG Zn9)
abbrev Q5:List Kd:=[.box [.view (.sl (.int .u8)),.view (.int .i64)]]
def Zth (k:Nat):(List Int × Int × Unit) × Unit → Option (Int × (List Int × Int × Unit) × Unit)
 | ((a0,a1,()),()) => some (a1,(a0,a1,()),())
def ZbB (k:Nat):=Zth k
theorem ZMb (k:Nat) (x:Kd.dens Q5):Zt (ZK k) nA Tryz.f50 Q5 Zf x = ZbB k x:=by
 show _ = Zth k x
 obtain ⟨⟨a0,⟨a1,⟨⟩⟩⟩,⟨⟩⟩:=x
 kernel_rfl
theorem Ze1 (k:Nat):Ctr Tryz.prog k 50 (mk Q5 Zf ZbB) :=
 Zu (fn:=Tryz.f50) (Zd Zb) (by kernel_rfl) (by kernel_rfl) (ZMb k)
noncomputable abbrev ZyA:Nat × Callee:=(50,mk Q5 Zf ZbB)
abbrev Zq1:List Kd:=[.box [.view (.sl (.int .u8)),.ref [.view (.sl (.int .u8)),.view (.int .i64)],.view (.int .i64)],.view .bool,.view (.int .i64)]
def ZtN (k:Nat):(List Int × (List Int × Int × Unit) × Int × Unit) × Bool × Int × Unit → Option (Unit × (List Int × (List Int × Int × Unit) × Int × Unit) × Unit)
 | ((a0,(a1,a2,()),a3,()),a4,a5,()) => bif a3 == 0 then bif !a4 then some ((),(a0,(a1,a2,()),a5,()),()) else some ((),(a0,(a1,a2,()),a3,()),()) else some ((),(a0,(a1,a2,()),a3,()),())
def WI (k:Nat):=ZtN k
theorem ZMD (k:Nat) (x:Kd.dens Zq1):Zt (ZK k) nA Tryz.f118 Zq1 Z6 x = WI k x:=by
 show _ = ZtN k x
 obtain ⟨⟨a0,⟨⟨a1,⟨a2,⟨⟩⟩⟩,⟨a3,⟨⟩⟩⟩⟩,⟨a4,⟨a5,⟨⟩⟩⟩⟩:=x
 kernel_rfl
theorem ZhZ (k:Nat):Ctr Tryz.prog k 118 (mk Zq1 Z6 WI) :=
 Zu (fn:=Tryz.f118) (Zd Zb) (by kernel_rfl) (by kernel_rfl) (ZMD k)
noncomputable abbrev ZyV:Nat × Callee:=(118,mk Zq1 Z6 WI)
abbrev Wk:List Kd:=[.box [.view (.sl (.int .u8)),.view (.int .i64)],.view (.int .i64)]
def Zt0 (k:Nat):(List Int × Int × Unit) × Int × Unit → Option (Int × (List Int × Int × Unit) × Unit)
 | ((a0,a1,()),a2,()) => bif decide (0 ≤ IntKind.i64.wrap (a2.tdiv (8:Int)) ∧ IntKind.i64.wrap (a2.tdiv (8:Int)) < Int.ofNat a0.length) then bif decide (0 ≤ IntKind.i64.wrap ((7:Int) - a2.tmod (8:Int))) then some (IntKind.i64.wrap (Int.ofNat (BitVec.ofInt 64 (IntKind.i64.wrap (Int.fdiv (a0.getD (IntKind.i64.wrap (a2.tdiv (8:Int))).toNat 0) ((2:Int) ^ min (IntKind.i64.wrap ((7:Int) - a2.tmod (8:Int))).toNat 8))) &&& BitVec.ofInt 64 (1:Int)).toNat),(a0,a1,()),()) else none else none
def Zod (k:Nat):=Zt0 k
theorem ZMM (k:Nat) (x:Kd.dens Wk):Zt (ZK k) nA Tryz.f126 Wk Zf x = Zod k x:=by
 show _ = Zt0 k x
 obtain ⟨⟨a0,⟨a1,⟨⟩⟩⟩,⟨a2,⟨⟩⟩⟩:=x
 kernel_rfl
theorem Zq5 (k:Nat):Ctr Tryz.prog k 126 (mk Wk Zf Zod) :=
 Zu (fn:=Tryz.f126) (Zd Zb) (by kernel_rfl) (by kernel_rfl) (ZMM k)
noncomputable abbrev ZKl:Nat × Callee:=(126,mk Wk Zf Zod)
def Znd (k:Nat):(List Int × Int × Unit) × Unit → Option (Int × (List Int × Int × Unit) × Unit)
 | ((a0,a1,()),()) => some (IntKind.i64.wrap (IntKind.i64.wrap ((8:Int) * Int.ofNat a0.length) - a1),(a0,a1,()),())
def Zp3 (k:Nat):=Znd k
theorem ZHL (k:Nat) (x:Kd.dens Q5):Zt (ZK k) nA Tryz.f207 Q5 Zf x = Zp3 k x:=by
 show _ = Znd k x
 obtain ⟨⟨a0,⟨a1,⟨⟩⟩⟩,⟨⟩⟩:=x
 kernel_rfl
theorem ZDe (k:Nat):Ctr Tryz.prog k 207 (mk Q5 Zf Zp3) :=
 Zu (fn:=Tryz.f207) (Zd Zb) (by kernel_rfl) (by kernel_rfl) (ZHL k)
noncomputable abbrev ZLg:Nat × Callee:=(207,mk Q5 Zf Zp3)
noncomputable def ZuY (k:Nat):=Qq k [ZKa,ZKl,ZLg]
def ZCB:Nat → Ann:=fun id => bif Nat.beq id 7 then ⟨[19,20,6,0],[]⟩ else ⟨[],[]⟩
abbrev Zpt:=Int × Int × Int × List Int × Int
abbrev Zhj:=Zpt → Option ((Int × Int × Unit) × (List Int × Int × Unit) × Unit)
def ZG9:Zpt → St
 | (v0,v1,v2,v3,v4) => St.mk (Zo [(19,Zg v0),(20,Zg v1),(6,Zg v2),(0,AV.bx 0 0)]) (Zm [(0,Qe [AV.val (PV.sl (Ty.int IntKind.u8) v3),Zg v4])])
def ZmE (k:Nat) (L1:Zhj):Zhj
 | (v0,v1,v2,v3,v4) => bif decide (v1 < v0) then (Zod k ((v3,v4,()),v4,())).bind fun y => L1 (v0,IntKind.i64.wrap (v1 + 1),IntKind.i64.wrap (Int.ofNat (BitVec.ofInt 64 (IntKind.i64.wrap (v2 * (2:Int))) ||| BitVec.ofInt 64 y.1).toNat),y.2.1.1,IntKind.i64.wrap (y.2.1.2.1 + 1)) else some ((v2,0,()),(v3,v4,()),())
def Zps (k:Nat):Zhj:=Zh (fun L1 => ZmE k L1) k
noncomputable def Zr1 (k:Nat) (n:Nat) (v:Zpt) :=
 Zi (ZuY k) ZCB [0] [1,1,1,0,1,0] [] (Qh Tryz.f156) (Qi (ZuY k) Tryz.f156 Wk ZN [AV.bx (nat_lit 0) (nat_lit 0)] [[]]) n (ZG9 v)
def ZmD (k:Nat) (L1:Zhj):(List Int × Int × Unit) × Int × Unit → Option ((Int × Int × Unit) × (List Int × Int × Unit) × Unit)
 | ((a0,a1,()),a2,()) => (Zob k (a2,())).bind fun y => bif y.1 then some ((0,1,()),(a0,a1,()),()) else (Zp3 k ((a0,a1,()),())).bind fun y => bif decide (y.1 < a2) then some ((0,10,()),(y.2.1.1,y.2.1.2.1,()),()) else L1 (a2,(0:Int),(0:Int),y.2.1.1,y.2.1.2.1)
def Xx (k:Nat):=ZmD k (Zps k)
theorem Zz4 (k:Nat):∀ n,Zr1 k n = Zh (fun L1 => ZmE k L1) n :=
 Zc (fun v => by kernel_rfl) (fun n v => by
  obtain ⟨v0,v1,v2,v3,v4⟩:=v
  kernel_rfl)
theorem ZHa (k:Nat) (x:Kd.dens Wk):Zt (ZuY k) ZCB Tryz.f156 Wk ZN x = Xx k x:=by
 show _ = ZmD k (Zps k) x
 rw [show Zps k = Zr1 k k from (Zz4 k k).symm]
 obtain ⟨⟨a0,⟨a1,⟨⟩⟩⟩,⟨a2,⟨⟩⟩⟩:=x
 kernel_rfl
theorem Yx (k:Nat):Ctr Tryz.prog k 156 (mk Wk ZN Xx) :=
 Zu (fn:=Tryz.f156) (Zd (Za (ZqR k) (Za (Zq5 k) (Za (ZDe k) Zb)))) (by kernel_rfl) (by kernel_rfl) (ZHa k)
noncomputable abbrev Zpu:Nat × Callee:=(156,mk Wk ZN Xx)
abbrev Zq2:List Kd:=[.box [.view (.sl (.int .u8)),.ref [.view (.sl (.int .u8)),.view (.int .i64)],.view (.int .i64)],.view (.int .i64)]
noncomputable def ZFD (k:Nat):=Qq k [Zpu]
def ZtO (k:Nat):(List Int × (List Int × Int × Unit) × Int × Unit) × Int × Unit → Option (Int × (List Int × (List Int × Int × Unit) × Int × Unit) × Unit)
 | ((a0,(a1,a2,()),a3,()),a4,()) => bif a3 == 0 then (Xx k ((a1,a2,()),a4,())).bind fun y => some (y.1.1,(a0,(y.2.1.1,y.2.1.2.1,()),y.1.2.1,()),()) else some (0,(a0,(a1,a2,()),a3,()),())
def Ya (k:Nat):=ZtO k
theorem ZME (k:Nat) (x:Kd.dens Zq2):Zt (ZFD k) nA Tryz.f119 Zq2 Zf x = Ya k x:=by
 show _ = ZtO k x
 obtain ⟨⟨a0,⟨⟨a1,⟨a2,⟨⟩⟩⟩,⟨a3,⟨⟩⟩⟩⟩,⟨a4,⟨⟩⟩⟩:=x
 kernel_rfl
theorem Zh0 (k:Nat):Ctr Tryz.prog k 119 (mk Zq2 Zf Ya) :=
 Zu (fn:=Tryz.f119) (Zd (Za (Yx k) Zb)) (by kernel_rfl) (by kernel_rfl) (ZME k)
noncomputable abbrev ZyW:Nat × Callee:=(119,mk Zq2 Zf Ya)
abbrev ZqK:List Kd:=[.box [.view (.sl (.int .u8)),.ref [.view (.sl (.int .u8)),.view (.int .i64)],.view (.int .i64)],.view (.int .i64),.fn 96]
noncomputable def ZNs (k:Nat):=Qq k [ZyA,ZyV,ZyW,ZJZ]
def Ztb (k:Nat):(List Int × (List Int × Int × Unit) × Int × Unit) × Int × Unit × Unit → Option (Unit × (List Int × (List Int × Int × Unit) × Int × Unit) × Unit)
 | ((a0,(a1,a2,()),a3,()),a4,(),()) => (ZbB k ((a1,a2,()),())).bind fun y => (Ya k ((a0,(y.2.1.1,y.2.1.2.1,()),a3,()),a4,())).bind fun y_1 => bif y_1.2.1.2.2.1 != 0 then (WI k ((y_1.2.1.1,(y_1.2.1.2.1.1,y_1.2.1.2.1.2.1,()),y_1.2.1.2.2.1,()),true,16,())).bind fun y => some ((),(y.2.1.1,(y.2.1.2.1.1,y.2.1.2.1.2.1,()),y.2.1.2.2.1,()),()) else bif decide ((0:Int) ≤ 0 ∧ (0:Int) ≤ IntKind.i64.wrap (Int.tdiv y.1 (8:Int)) ∧ IntKind.i64.wrap (Int.tdiv y.1 (8:Int)) ≤ Int.ofNat (List.length y_1.2.1.1)) then (ZsW k (List.drop 0 (List.take (IntKind.i64.wrap (Int.tdiv y.1 (8:Int))).toNat y_1.2.1.1),())).bind fun y => (WI k ((y_1.2.1.1,(y_1.2.1.2.1.1,y_1.2.1.2.1.2.1,()),y_1.2.1.2.2.1,()),y_1.1 == y.1,16,())).bind fun y => some ((),(y.2.1.1,(y.2.1.2.1.1,y.2.1.2.1.2.1,()),y.2.1.2.2.1,()),()) else none
def ZkR (k:Nat):=Ztb k
theorem ZL7 (k:Nat) (x:Kd.dens ZqK):Zt (ZNs k) nA Tryz.f60 ZqK Z6 x = ZkR k x:=by
 show _ = Ztb k x
 obtain ⟨⟨a0,⟨⟨a1,⟨a2,⟨⟩⟩⟩,⟨a3,⟨⟩⟩⟩⟩,⟨a4,⟨⟨⟩,⟨⟩⟩⟩⟩:=x
 kernel_rfl
theorem ZJh (k:Nat):Ctr Tryz.prog k 60 (mk ZqK Z6 ZkR) :=
 Zu (fn:=Tryz.f60) (Zd (Za (Ze1 k) (Za (ZhZ k) (Za (Zh0 k) (Za (Zyn k) Zb))))) (by kernel_rfl) (by kernel_rfl) (ZL7 k)
noncomputable abbrev ZNt:Nat × Callee:=(60,mk ZqK Z6 ZkR)
def ZtQ (k:Nat):(Int × Int × Int × Unit) × Int × Unit → Option (Bool × Unit)
 | ((a0,a1,a2,()),a3,()) => bif a0 == 1 then some (a3 == 0,()) else bif a3 == 1 then some (true,()) else bif decide (8 ≤ a3) then some (decide (a3 ≤ 10),()) else some (false,())
def ZtP (k:Nat):=ZtQ k
theorem ZMF (k:Nat) (x:Kd.dens ZbA):Zt (ZK k) nA Tryz.f120 ZbA Zv x = ZtP k x:=by
 show _ = ZtQ k x
 obtain ⟨⟨a0,⟨a1,⟨a2,⟨⟩⟩⟩⟩,⟨a3,⟨⟩⟩⟩:=x
 kernel_rfl
theorem ZJq (k:Nat):Ctr Tryz.prog k 120 (mk ZbA Zv ZtP) :=
 Zu (fn:=Tryz.f120) (Zd Zb) (by kernel_rfl) (by kernel_rfl) (ZMF k)
noncomputable abbrev ZNG:Nat × Callee:=(120,mk ZbA Zv ZtP)
abbrev Y2:List Kd:=[.view (.int .u8)]
def Znr (k:Nat):Int × Unit → Option (Int × Unit)
 | (a0,()) => bif decide (0 ≤ a0 ∧ a0 < 256) then some (IntKind.i64.wrap (Int.ofNat ((ByteArray.mk (([0,1,2,2,3,3,3,3,4,4,4,4,4,4,4,4,5,5,5,5,5,5,5,5,5,5,5,5,5,5,5,5,6,6,6,6,6,6,6,6,6,6,6,6,6,6,6,6,6,6,6,6,6,6,6,6,6,6,6,6,6,6,6,6].append [7,7,7,7,7,7,7,7,7,7,7,7,7,7,7,7,7,7,7,7,7,7,7,7,7,7,7,7,7,7,7,7,7,7,7,7,7,7,7,7,7,7,7,7,7,7,7,7,7,7,7,7,7,7,7,7,7,7,7,7,7,7,7,7]).append ([8,8,8,8,8,8,8,8,8,8,8,8,8,8,8,8,8,8,8,8,8,8,8,8,8,8,8,8,8,8,8,8,8,8,8,8,8,8,8,8,8,8,8,8,8,8,8,8,8,8,8,8,8,8,8,8,8,8,8,8,8,8,8,8].append [8,8,8,8,8,8,8,8,8,8,8,8,8,8,8,8,8,8,8,8,8,8,8,8,8,8,8,8,8,8,8,8,8,8,8,8,8,8,8,8,8,8,8,8,8,8,8,8,8,8,8,8,8,8,8,8,8,8,8,8,8,8,8,8])).toArray).data.toList.getD a0.toNat 0).toNat),()) else none
def Zqd (k:Nat):=Znr k
theorem ZHZ (k:Nat) (x:Kd.dens Y2):Zt (ZK k) nA Tryz.f251 Y2 Zf x = Zqd k x:=by
 show _ = Znr k x
 obtain ⟨a0,⟨⟩⟩:=x
 kernel_rfl
theorem ZDp (k:Nat):Ctr Tryz.prog k 251 (mk Y2 Zf Zqd) :=
 Zu (fn:=Tryz.f251) (Zd Zb) (by kernel_rfl) (by kernel_rfl) (ZHZ k)
noncomputable abbrev ZLv:Nat × Callee:=(251,mk Y2 Zf Zqd)
noncomputable def ZLh (k:Nat):=Qq k [ZLv]
def Zne (k:Nat):Int × Unit → Option (Int × Unit)
 | (a0,()) => (Zqd k (a0,())).bind fun y => some (IntKind.i64.wrap ((8:Int) - y.1),())
def Zp4 (k:Nat):=Zne k
theorem ZHM (k:Nat) (x:Kd.dens Y2):Zt (ZLh k) nA Tryz.f213 Y2 Zf x = Zp4 k x:=by
 show _ = Zne k x
 obtain ⟨a0,⟨⟩⟩:=x
 kernel_rfl
theorem ZDf (k:Nat):Ctr Tryz.prog k 213 (mk Y2 Zf Zp4) :=
 Zu (fn:=Tryz.f213) (Zd (Za (ZDp k) Zb)) (by kernel_rfl) (by kernel_rfl) (ZHM k)
noncomputable abbrev ZLi:Nat × Callee:=(213,mk Y2 Zf Zp4)
abbrev K7:Kd:=.tup [.view (.int .i64),.view (.int .i64),.view (.int .i64)]
noncomputable def ZuZ (k:Nat):=Qq k [ZKc,ZLi]
def ZCC:Nat → Ann:=fun id => bif Nat.beq id 10 then ⟨[8,5,0,6,7],[]⟩ else ⟨[],[]⟩
abbrev Zhk:=ZaG → Option ((Int × Int × Int × Unit) × Unit)
def ZHb:ZaG → St
 | (v0,v1,v2,v3,v4) => St.mk (Zo [(8,Zg v0),(5,Zg v1),(0,AV.val (PV.sl (Ty.int IntKind.u8) v2)),(6,Zg v3),(7,Zg v4)]) (Zm [])
def ZmG (k:Nat) (L1:Zhk):Zhk
 | (v0,v1,v2,v3,v4) => bif decide (v0 < v1) then bif decide (v0 < Int.ofNat v2.length) then bif decide (0 ≤ v0 ∧ v0 < Int.ofNat v2.length) then bif Int.fdiv (v2.getD v0.toNat 0) (64:Int) != 2 then some ((0,0,2,()),()) else bif decide (0 ≤ v0 ∧ v0 < Int.ofNat v2.length) then L1 (IntKind.i64.wrap (v0 + 1),v1,v2,IntKind.i64.wrap (Int.ofNat (BitVec.ofInt 64 (IntKind.i64.wrap (v3 * (64:Int))) ||| BitVec.ofInt 64 (IntKind.i64.wrap (Int.ofNat (BitVec.ofInt 64 (IntKind.i64.wrap (v2.getD v0.toNat 0)) &&& BitVec.ofInt 64 (63:Int)).toNat))).toNat),IntKind.i64.wrap (Int.ofNat (BitVec.ofInt 64 (IntKind.i64.wrap (v4 * (64:Int))) ||| BitVec.ofInt 64 (IntKind.i64.wrap (Int.ofNat (BitVec.ofInt 64 (IntKind.i64.wrap (v2.getD v0.toNat 0)) &&& BitVec.ofInt 64 (63:Int)).toNat))).toNat)) else none else none else L1 (IntKind.i64.wrap (v0 + 1),v1,v2,IntKind.i64.wrap (Int.ofNat (BitVec.ofInt 64 (IntKind.i64.wrap (v3 * (64:Int))) ||| BitVec.ofInt 64 (0:Int)).toNat),IntKind.i64.wrap (Int.ofNat (BitVec.ofInt 64 (IntKind.i64.wrap (v4 * (64:Int))) ||| BitVec.ofInt 64 (63:Int)).toNat)) else (Ztu k (IntKind.i64.wrap (v1 - 1),())).bind fun y => bif decide ((0:Int) ≤ y.1) then bif decide (v4 < IntKind.i64.wrap ((1:Int) * (2:Int) ^ min (Int.toNat y.1) (64:Nat))) then some ((0,0,2,()),()) else bif decide (Int.ofNat v2.length < v1) then some ((0,0,10,()),()) else some ((v3,v1,0,()),()) else none
def Zpw (k:Nat):Zhk:=Zh (fun L1 => ZmG k L1) k
noncomputable def Zr2 (k:Nat) (n:Nat) (v:ZaG) :=
 Zi (ZuZ k) ZCC [] [1,1,1,1,1,0,1,0] [] (Qh Tryz.f164) (Qi (ZuZ k) Tryz.f164 QO K7 [] []) n (ZHb v)
def ZmF (k:Nat) (L1:Zhk):List Int × Unit → Option ((Int × Int × Int × Unit) × Unit)
 | (a0,()) => bif Int.ofNat a0.length == (0:Int) then some ((0,0,10,()),()) else bif decide ((0:Int) ≤ 0 ∧ (0:Int) < Int.ofNat a0.length) then (Zp4 k (IntKind.u8.wrap (Int.ofNat (BitVec.ofInt 8 (255:Int) ^^^ BitVec.ofInt 8 (a0.getD 0 0)).toNat),())).bind fun y => bif y.1 == 0 then bif decide ((0:Int) ≤ 0 ∧ (0:Int) < Int.ofNat a0.length) then some ((IntKind.i64.wrap (a0.getD 0 0),1,0,()),()) else none else bif y.1 == 1 then some ((0,0,2,()),()) else bif decide ((7:Int) < y.1) then some ((0,0,2,()),()) else bif decide ((0:Int) ≤ 0 ∧ (0:Int) < Int.ofNat a0.length) then bif decide ((0:Int) ≤ y.1) then bif decide ((0:Int) ≤ 0 ∧ (0:Int) < Int.ofNat a0.length) then bif decide ((0:Int) ≤ y.1) then L1 (1,y.1,a0,IntKind.i64.wrap (Int.ofNat (BitVec.ofInt 64 (IntKind.i64.wrap (a0.getD 0 0)) &&& BitVec.ofInt 64 (Int.fdiv (127:Int) ((2:Int) ^ min (Int.toNat y.1) (64:Nat)))).toNat),IntKind.i64.wrap (Int.ofNat (BitVec.ofInt 64 (IntKind.i64.wrap (a0.getD 0 0)) &&& BitVec.ofInt 64 (Int.fdiv (127:Int) ((2:Int) ^ min (Int.toNat y.1) (64:Nat)))).toNat)) else none else none else none else none else none
def Zpv (k:Nat):=ZmF k (Zpw k)
theorem Zz5 (k:Nat):∀ n,Zr2 k n = Zh (fun L1 => ZmG k L1) n :=
 Zc (fun v => by kernel_rfl) (fun n v => by
  obtain ⟨v0,v1,v2,v3,v4⟩:=v
  kernel_rfl)
theorem ZHc (k:Nat) (x:Kd.dens QO):Zt (ZuZ k) ZCC Tryz.f164 QO K7 x = Zpv k x:=by
 show _ = ZmF k (Zpw k) x
 rw [show Zpw k = Zr2 k k from (Zz5 k k).symm]
 obtain ⟨a0,⟨⟩⟩:=x
 kernel_rfl
theorem ZCD (k:Nat):Ctr Tryz.prog k 164 (mk QO K7 Zpv) :=
 Zu (fn:=Tryz.f164) (Zd (Za (ZyK k) (Za (ZDf k) Zb))) (by kernel_rfl) (by kernel_rfl) (ZHc k)
noncomputable abbrev ZKU:Nat × Callee:=(164,mk QO K7 Zpv)
abbrev Zk0:List Kd:=[.box [.view (.sl (.int .u8)),.ref [.view (.sl (.int .u8)),.view (.int .i64)],.view (.int .i64)]]
noncomputable def ZFE (k:Nat):=Qq k [ZyA,ZyV,ZyW,ZKU]
def ZKi:Nat → Ann:=fun id => bif Nat.beq id 6 then ⟨[31,32,0,3],[]⟩ else ⟨[],[]⟩
abbrev Zw6:=Int × Int × Int × List Int × Int × List Int × Int
abbrev Zq3:=Zw6 → Option (Int × (List Int × (List Int × Int × Unit) × Int × Unit) × Unit)
def ZMG:Zw6 → St
 | (v0,v1,v2,v3,v4,v5,v6) => St.mk (Zo [(31,Zg v0),(32,Zg v1),(0,AV.bx 0 0),(3,Zg v2)]) (Zm [(0,Qe [AV.val (PV.sl (Ty.int IntKind.u8) v3),AV.bx 1 0,Zg v4]),(1,Qe [AV.val (PV.sl (Ty.int IntKind.u8) v5),Zg v6])])
def ZtT (k:Nat) (L1:Zq3):Zq3
 | (v0,v1,v2,v3,v4,v5,v6) => bif decide (v1 < v0) then (Ya k ((v3,(v5,v6,()),v4,()),8,())).bind fun y => L1 (v0,IntKind.i64.wrap (v1 + 1),v2,y.2.1.1,y.2.1.2.2.1,y.2.1.2.1.1,y.2.1.2.1.2.1) else (WI k ((v3,(v5,v6,()),v4,()),decide (v2 ≤ 2147483647),2,())).bind fun y => some (v2,(y.2.1.1,(y.2.1.2.1.1,y.2.1.2.1.2.1,()),y.2.1.2.2.1,()),())
def Zw5 (k:Nat):Zq3:=Zh (fun L1 => ZtT k L1) k
noncomputable def ZyX (k:Nat) (n:Nat) (v:Zw6) :=
 Zi (ZFE k) ZKi [0,1] [1,1,1,1,0,1,0] [] (Qh Tryz.f121) (Qi (ZFE k) Tryz.f121 Zk0 Zf [AV.bx (nat_lit 0) (nat_lit 0)] [[1]]) n (ZMG v)
def ZtS (k:Nat) (L1:Zq3):(List Int × (List Int × Int × Unit) × Int × Unit) × Unit → Option (Int × (List Int × (List Int × Int × Unit) × Int × Unit) × Unit)
 | ((a0,(a1,a2,()),a3,()),()) => bif a3 != 0 then some (0,(a0,(a1,a2,()),a3,()),()) else (ZbB k ((a1,a2,()),())).bind fun y => bif decide (0 ≤ IntKind.i64.wrap (Int.tdiv y.1 (8:Int)) ∧ IntKind.i64.wrap (Int.tdiv y.1 (8:Int)) ≤ Int.ofNat a0.length ∧ Int.ofNat a0.length ≤ Int.ofNat a0.length) then (Zpv k (List.drop (IntKind.i64.wrap (Int.tdiv y.1 (8:Int))).toNat (List.take (Int.ofNat a0.length).toNat a0),())).bind fun y_1 => L1 (y_1.1.2.1,(0:Int),y_1.1.1,a0,y_1.1.2.2.1,y.2.1.1,y.2.1.2.1) else none
def ZtR (k:Nat):=ZtS k (Zw5 k)
theorem ZFF (k:Nat):∀ n,ZyX k n = Zh (fun L1 => ZtT k L1) n :=
 Zc (fun v => by kernel_rfl) (fun n v => by
  obtain ⟨v0,v1,v2,v3,v4,v5,v6⟩:=v
  kernel_rfl)
theorem ZMH (k:Nat) (x:Kd.dens Zk0):Zt (ZFE k) ZKi Tryz.f121 Zk0 Zf x = ZtR k x:=by
 show _ = ZtS k (Zw5 k) x
 rw [show Zw5 k = ZyX k k from (ZFF k k).symm]
 obtain ⟨⟨a0,⟨⟨a1,⟨a2,⟨⟩⟩⟩,⟨a3,⟨⟩⟩⟩⟩,⟨⟩⟩:=x
 kernel_rfl
theorem ZJr (k:Nat):Ctr Tryz.prog k 121 (mk Zk0 Zf ZtR) :=
 Zu (fn:=Tryz.f121) (Zd (Za (Ze1 k) (Za (ZhZ k) (Za (Zh0 k) (Za (ZCD k) Zb))))) (by kernel_rfl) (by kernel_rfl) (ZMH k)
noncomputable abbrev ZNH:Nat × Callee:=(121,mk Zk0 Zf ZtR)
abbrev ZqH:List Kd:=[.box [.view (.sl (.int .u8)),.ref [.view (.sl (.int .u8)),.view (.int .i64)],.view (.int .i64)],.view Zgn]
noncomputable def ZNo (k:Nat):=Qq k [ZNt,ZyV,ZyW,ZNG,ZNH]
def Zs6 (k:Nat):(List Int × (List Int × Int × Unit) × Int × Unit) × (Int × Int × Int × Unit) × Unit → Option ((Int × Int × Int × Unit) × (List Int × (List Int × Int × Unit) × Int × Unit) × Unit)
 | ((a0,(a1,a2,()),a3,()),(a4,a5,a6,()),()) => (Ya k ((a0,(a1,a2,()),a3,()),15,())).bind fun y => (WI k ((y.2.1.1,(y.2.1.2.1.1,y.2.1.2.1.2.1,()),y.2.1.2.2.1,()),y.1 == 32764,11,())).bind fun y => (Ya k ((y.2.1.1,(y.2.1.2.1.1,y.2.1.2.1.2.1,()),y.2.1.2.2.1,()),1,())).bind fun y => (WI k ((y.2.1.1,(y.2.1.2.1.1,y.2.1.2.1.2.1,()),y.2.1.2.2.1,()),y.1 == 0,2,())).bind fun y => (Ya k ((y.2.1.1,(y.2.1.2.1.1,y.2.1.2.1.2.1,()),y.2.1.2.2.1,()),4,())).bind fun y => bif y.1 == 6 then (WI k ((y.2.1.1,(y.2.1.2.1.1,y.2.1.2.1.2.1,()),y.2.1.2.2.1,()),true,2,())).bind fun y_1 => (Ya k ((y_1.2.1.1,(y_1.2.1.2.1.1,y_1.2.1.2.1.2.1,()),y_1.2.1.2.2.1,()),4,())).bind fun y_2 => (WI k ((y_2.2.1.1,(y_2.2.1.2.1.1,y_2.2.1.2.1.2.1,()),y_2.2.1.2.2.1,()),y_2.1 == 0,2,())).bind fun y_3 => (Ya k ((y_3.2.1.1,(y_3.2.1.2.1.1,y_3.2.1.2.1.2.1,()),y_3.2.1.2.2.1,()),4,())).bind fun y_4 => (ZtP k ((a4,a5,a6,()),y_4.1,())).bind fun y_5 => (WI k ((y_4.2.1.1,(y_4.2.1.2.1.1,y_4.2.1.2.1.2.1,()),y_4.2.1.2.2.1,()),y_5.1,2,())).bind fun y_6 => (Ya k ((y_6.2.1.1,(y_6.2.1.2.1.1,y_6.2.1.2.1.2.1,()),y_6.2.1.2.2.1,()),4,())).bind fun y_7 => (WI k ((y_7.2.1.1,(y_7.2.1.2.1.1,y_7.2.1.2.1.2.1,()),y_7.2.1.2.2.1,()),y_7.1 == 0,2,())).bind fun y_8 => (ZtR k ((y_8.2.1.1,(y_8.2.1.2.1.1,y_8.2.1.2.1.2.1,()),y_8.2.1.2.2.1,()),())).bind fun y_9 => bif y_9.2.1.2.2.1 == 0 then (Ya k ((y_9.2.1.1,(y_9.2.1.2.1.1,y_9.2.1.2.1.2.1,()),y_9.2.1.2.2.1,()),IntKind.i64.wrap ((8:Int) * IntKind.i64.wrap (IntKind.i64.wrap (y.1 - 6) + (1:Int))),())).bind fun y => (WI k ((y.2.1.1,(y.2.1.2.1.1,y.2.1.2.1.2.1,()),y.2.1.2.2.1,()),decide (IntKind.i64.wrap (y.1 + 1) ≤ (512:Int)),1,())).bind fun y_10 => (ZkR k ((y_10.2.1.1,(y_10.2.1.2.1.1,y_10.2.1.2.1.2.1,()),y_10.2.1.2.2.1,()),8,(),())).bind fun y_11 => some ((y_4.1,y_9.1,IntKind.i64.wrap (y.1 + 1),()),(y_11.2.1.1,(y_11.2.1.2.1.1,y_11.2.1.2.1.2.1,()),y_11.2.1.2.2.1,()),()) else (WI k ((y_9.2.1.1,(y_9.2.1.2.1.1,y_9.2.1.2.1.2.1,()),y_9.2.1.2.2.1,()),decide ((0:Int) ≤ 512),1,())).bind fun y => (ZkR k ((y.2.1.1,(y.2.1.2.1.1,y.2.1.2.1.2.1,()),y.2.1.2.2.1,()),8,(),())).bind fun y => some ((y_4.1,y_9.1,0,()),(y.2.1.1,(y.2.1.2.1.1,y.2.1.2.1.2.1,()),y.2.1.2.2.1,()),()) else (WI k ((y.2.1.1,(y.2.1.2.1.1,y.2.1.2.1.2.1,()),y.2.1.2.2.1,()),y.1 == 7,2,())).bind fun y_1 => (Ya k ((y_1.2.1.1,(y_1.2.1.2.1.1,y_1.2.1.2.1.2.1,()),y_1.2.1.2.2.1,()),4,())).bind fun y_2 => (WI k ((y_2.2.1.1,(y_2.2.1.2.1.1,y_2.2.1.2.1.2.1,()),y_2.2.1.2.2.1,()),y_2.1 == 0,2,())).bind fun y_3 => (Ya k ((y_3.2.1.1,(y_3.2.1.2.1.1,y_3.2.1.2.1.2.1,()),y_3.2.1.2.2.1,()),4,())).bind fun y_4 => (ZtP k ((a4,a5,a6,()),y_4.1,())).bind fun y_5 => (WI k ((y_4.2.1.1,(y_4.2.1.2.1.1,y_4.2.1.2.1.2.1,()),y_4.2.1.2.2.1,()),y_5.1,2,())).bind fun y_6 => (Ya k ((y_6.2.1.1,(y_6.2.1.2.1.1,y_6.2.1.2.1.2.1,()),y_6.2.1.2.2.1,()),4,())).bind fun y_7 => (WI k ((y_7.2.1.1,(y_7.2.1.2.1.1,y_7.2.1.2.1.2.1,()),y_7.2.1.2.2.1,()),y_7.1 == 0,2,())).bind fun y_8 => (ZtR k ((y_8.2.1.1,(y_8.2.1.2.1.1,y_8.2.1.2.1.2.1,()),y_8.2.1.2.2.1,()),())).bind fun y_9 => bif y_9.2.1.2.2.1 == 0 then (Ya k ((y_9.2.1.1,(y_9.2.1.2.1.1,y_9.2.1.2.1.2.1,()),y_9.2.1.2.2.1,()),IntKind.i64.wrap ((8:Int) * IntKind.i64.wrap (IntKind.i64.wrap (y.1 - 6) + (1:Int))),())).bind fun y => (WI k ((y.2.1.1,(y.2.1.2.1.1,y.2.1.2.1.2.1,()),y.2.1.2.2.1,()),decide (IntKind.i64.wrap (y.1 + 1) ≤ (512:Int)),1,())).bind fun y_10 => (ZkR k ((y_10.2.1.1,(y_10.2.1.2.1.1,y_10.2.1.2.1.2.1,()),y_10.2.1.2.2.1,()),8,(),())).bind fun y_11 => some ((y_4.1,y_9.1,IntKind.i64.wrap (y.1 + 1),()),(y_11.2.1.1,(y_11.2.1.2.1.1,y_11.2.1.2.1.2.1,()),y_11.2.1.2.2.1,()),()) else (WI k ((y_9.2.1.1,(y_9.2.1.2.1.1,y_9.2.1.2.1.2.1,()),y_9.2.1.2.2.1,()),decide ((0:Int) ≤ 512),1,())).bind fun y => (ZkR k ((y.2.1.1,(y.2.1.2.1.1,y.2.1.2.1.2.1,()),y.2.1.2.2.1,()),8,(),())).bind fun y => some ((y_4.1,y_9.1,0,()),(y.2.1.1,(y.2.1.2.1.1,y.2.1.2.1.2.1,()),y.2.1.2.2.1,()),())
def Zyu (k:Nat):=Zs6 k
theorem ZL2 (k:Nat) (x:Kd.dens ZqH):Zt (ZNo k) nA Tryz.f56 ZqH K7 x = Zyu k x:=by
 show _ = Zs6 k x
 obtain ⟨⟨a0,⟨⟨a1,⟨a2,⟨⟩⟩⟩,⟨a3,⟨⟩⟩⟩⟩,⟨⟨a4,⟨a5,⟨a6,⟨⟩⟩⟩⟩,⟨⟩⟩⟩:=x
 kernel_rfl
theorem ZJe (k:Nat):Ctr Tryz.prog k 56 (mk ZqH K7 Zyu) :=
 Zu (fn:=Tryz.f56) (Zd (Za (ZJh k) (Za (ZhZ k) (Za (Zh0 k) (Za (ZJq k) (Za (ZJr k) Zb)))))) (by kernel_rfl) (by kernel_rfl) (ZL2 k)
noncomputable abbrev ZNp:Nat × Callee:=(56,mk ZqH K7 Zyu)
abbrev Zhl:List Kd:=[.box [.ref [.view (.sl (.int .u8)),.view (.int .i64)],.view (.int .i64)],.view .bool]
def ZmH (k:Nat):((List Int × Int × Unit) × Int × Unit) × Bool × Unit → Option (Unit × ((List Int × Int × Unit) × Int × Unit) × Unit)
 | (((a0,a1,()),a2,()),a3,()) => bif a2 == 0 then bif !a3 then some ((),((a0,a1,()),2,()),()) else some ((),((a0,a1,()),a2,()),()) else some ((),((a0,a1,()),a2,()),())
def Xi (k:Nat):=ZmH k
theorem ZHd (k:Nat) (x:Kd.dens Zhl):Zt (ZK k) nA Tryz.f165 Zhl Z6 x = Xi k x:=by
 show _ = ZmH k x
 obtain ⟨⟨⟨a0,⟨a1,⟨⟩⟩⟩,⟨a2,⟨⟩⟩⟩,⟨a3,⟨⟩⟩⟩:=x
 kernel_rfl
theorem Zr3 (k:Nat):Ctr Tryz.prog k 165 (mk Zhl Z6 Xi) :=
 Zu (fn:=Tryz.f165) (Zd Zb) (by kernel_rfl) (by kernel_rfl) (ZHd k)
noncomputable abbrev ZCE:Nat × Callee:=(165,mk Zhl Z6 Xi)
abbrev Y0:List Kd:=[.box [.ref [.view (.sl (.int .u8)),.view (.int .i64)],.view (.int .i64)],.view (.int .i64)]
def ZmI (k:Nat):((List Int × Int × Unit) × Int × Unit) × Int × Unit → Option (Int × ((List Int × Int × Unit) × Int × Unit) × Unit)
 | (((a0,a1,()),a2,()),a3,()) => bif a2 == 0 then (Xx k ((a0,a1,()),a3,())).bind fun y => some (y.1.1,((y.2.1.1,y.2.1.2.1,()),y.1.2.1,()),()) else some (0,((a0,a1,()),a2,()),())
def Kl (k:Nat):=ZmI k
theorem ZHe (k:Nat) (x:Kd.dens Y0):Zt (ZFD k) nA Tryz.f166 Y0 Zf x = Kl k x:=by
 show _ = ZmI k x
 obtain ⟨⟨⟨a0,⟨a1,⟨⟩⟩⟩,⟨a2,⟨⟩⟩⟩,⟨a3,⟨⟩⟩⟩:=x
 kernel_rfl
theorem Zr4 (k:Nat):Ctr Tryz.prog k 166 (mk Y0 Zf Kl) :=
 Zu (fn:=Tryz.f166) (Zd (Za (Yx k) Zb)) (by kernel_rfl) (by kernel_rfl) (ZHe k)
noncomputable abbrev ZCF:Nat × Callee:=(166,mk Y0 Zf Kl)
def ZmK (k:Nat):Int × Unit → Option (Bool × Unit)
 | (a0,()) => bif a0 == 0 then some (true,()) else bif a0 == 1 then some (true,()) else bif decide (8 ≤ a0) then bif decide (a0 ≤ 12) then some (true,()) else bif decide ((31:Int) < a0) then some (decide (a0 ≤ 39),()) else some (false,()) else bif decide ((31:Int) < a0) then some (decide (a0 ≤ 39),()) else some (false,())
def Zpx (k:Nat):=ZmK k
theorem ZHg (k:Nat) (x:Kd.dens Zw):Zt (ZK k) nA Tryz.f167 Zw Zv x = Zpx k x:=by
 show _ = ZmK k x
 obtain ⟨a0,⟨⟩⟩:=x
 kernel_rfl
theorem ZCG (k:Nat):Ctr Tryz.prog k 167 (mk Zw Zv Zpx) :=
 Zu (fn:=Tryz.f167) (Zd Zb) (by kernel_rfl) (by kernel_rfl) (ZHg k)
noncomputable abbrev ZKW:Nat × Callee:=(167,mk Zw Zv Zpx)
noncomputable def ZfM (k:Nat):=Qq k [ZKl]
def ZCH:Nat → Ann:=fun id => bif Nat.beq id 4 then ⟨[4,0],[]⟩ else ⟨[],[]⟩
abbrev Zpz:=Int × List Int × Int
abbrev Zhm:=Zpz → Option ((Int × Int × Unit) × (List Int × Int × Unit) × Unit)
def ZHh:Zpz → St
 | (v0,v1,v2) => St.mk (Zo [(4,Zg v0),(0,AV.bx 0 0)]) (Zm [(0,Qe [AV.val (PV.sl (Ty.int IntKind.u8) v1),Zg v2])])
def ZmM (k:Nat) (L1:Zhm):Zhm
 | (v0,v1,v2) => bif decide (v0 < IntKind.i64.wrap ((8:Int) * Int.ofNat v1.length)) then (Zod k ((v1,v2,()),v0,())).bind fun y => bif y.1 == 1 then some ((IntKind.i64.wrap (v0 - y.2.1.2.1),0,()),(y.2.1.1,IntKind.i64.wrap (v0 + 1),()),()) else L1 (IntKind.i64.wrap (v0 + 1),y.2.1.1,y.2.1.2.1) else some ((0,10,()),(v1,v2,()),())
def Zpy (k:Nat):Zhm:=Zh (fun L1 => ZmM k L1) k
noncomputable def Zr5 (k:Nat) (n:Nat) (v:Zpz) :=
 Zi (ZfM k) ZCH [0] [1,1,0,1,0] [] (Qh Tryz.f168) (Qi (ZfM k) Tryz.f168 Q5 ZN [AV.bx (nat_lit 0) (nat_lit 0)] [[]]) n (ZHh v)
def ZmL (k:Nat) (L1:Zhm):(List Int × Int × Unit) × Unit → Option ((Int × Int × Unit) × (List Int × Int × Unit) × Unit)
 | ((a0,a1,()),()) => L1 (a1,a0,a1)
def Ziy (k:Nat):=ZmL k (Zpy k)
theorem Zz7 (k:Nat):∀ n,Zr5 k n = Zh (fun L1 => ZmM k L1) n :=
 Zc (fun v => by kernel_rfl) (fun n v => by
  obtain ⟨v0,v1,v2⟩:=v
  kernel_rfl)
theorem ZHi (k:Nat) (x:Kd.dens Q5):Zt (ZfM k) ZCH Tryz.f168 Q5 ZN x = Ziy k x:=by
 show _ = ZmL k (Zpy k) x
 rw [show Zpy k = Zr5 k k from (Zz7 k k).symm]
 obtain ⟨⟨a0,⟨a1,⟨⟩⟩⟩,⟨⟩⟩:=x
 kernel_rfl
theorem Zr6 (k:Nat):Ctr Tryz.prog k 168 (mk Q5 ZN Ziy) :=
 Zu (fn:=Tryz.f168) (Zd (Za (Zq5 k) Zb)) (by kernel_rfl) (by kernel_rfl) (ZHi k)
noncomputable abbrev ZCI:Nat × Callee:=(168,mk Q5 ZN Ziy)
noncomputable def ZNI (k:Nat):=Qq k [ZCE,ZCF,ZKW,ZCI]
def ZtW (k:Nat):((List Int × Int × Unit) × Int × Unit) × Int × Unit → Option ((Int × Int × Unit) × ((List Int × Int × Unit) × Int × Unit) × Unit)
 | (((a0,a1,()),a2,()),a3,()) => (Kl k (((a0,a1,()),a2,()),1,())).bind fun y => (Xi k (((y.2.1.1.1,y.2.1.1.2.1,()),y.2.1.2.1,()),y.1 == 0,())).bind fun y => (Kl k (((y.2.1.1.1,y.2.1.1.2.1,()),y.2.1.2.1,()),6,())).bind fun y => (Zpx k (y.1,())).bind fun y_1 => (Xi k (((y.2.1.1.1,y.2.1.1.2.1,()),y.2.1.2.1,()),y_1.1,())).bind fun y_2 => (Kl k (((y_2.2.1.1.1,y_2.2.1.1.2.1,()),y_2.2.1.2.1,()),1,())).bind fun y_3 => bif y_3.1 == 1 then bif y_3.2.1.2.1 == 0 then (Ziy k ((y_3.2.1.1.1,y_3.2.1.1.2.1,()),())).bind fun y_4 => (Xi k (((y_4.2.1.1,y_4.2.1.2.1,()),y_4.1.2.1,()),decide (IntKind.i64.wrap (y_4.1.1 + 1) < a3),())).bind fun y_5 => some ((y.1,IntKind.i64.wrap (y_4.1.1 + 1),()),((y_5.2.1.1.1,y_5.2.1.1.2.1,()),y_5.2.1.2.1,()),()) else (Xi k (((y_3.2.1.1.1,y_3.2.1.1.2.1,()),y_3.2.1.2.1,()),decide ((0:Int) < a3),())).bind fun y_4 => some ((y.1,0,()),((y_4.2.1.1.1,y_4.2.1.1.2.1,()),y_4.2.1.2.1,()),()) else (Xi k (((y_3.2.1.1.1,y_3.2.1.1.2.1,()),y_3.2.1.2.1,()),decide ((0:Int) < a3),())).bind fun y_4 => some ((y.1,0,()),((y_4.2.1.1.1,y_4.2.1.1.2.1,()),y_4.2.1.2.1,()),())
def ZyZ (k:Nat):=ZtW k
theorem ZMJ (k:Nat) (x:Kd.dens Y0):Zt (ZNI k) nA Tryz.f123 Y0 ZN x = ZyZ k x:=by
 show _ = ZtW k x
 obtain ⟨⟨⟨a0,⟨a1,⟨⟩⟩⟩,⟨a2,⟨⟩⟩⟩,⟨a3,⟨⟩⟩⟩:=x
 kernel_rfl
theorem ZJs (k:Nat):Ctr Tryz.prog k 123 (mk Y0 ZN ZyZ) :=
 Zu (fn:=Tryz.f123) (Zd (Za (Zr3 k) (Za (Zr4 k) (Za (ZCG k) (Za (Zr6 k) Zb))))) (by kernel_rfl) (by kernel_rfl) (ZMJ k)
noncomputable abbrev ZNJ:Nat × Callee:=(123,mk Y0 ZN ZyZ)
abbrev ZhB:List Kd:=[.view (.int .u32),.view (.int .u32)]
abbrev Zqe:Kd:=.tup [.view (.int .u32),.view (.int .u32)]
def Zns (k:Nat):Int × Int × Unit → Option ((Int × Int × Unit) × Unit)
 | (a0,a1,()) => some ((IntKind.u32.wrap ((IntKind.u64.wrap (IntKind.u64.wrap a0 * IntKind.u64.wrap a1)).fdiv (4294967296:Int)),IntKind.u32.wrap (IntKind.u64.wrap (IntKind.u64.wrap a0 * IntKind.u64.wrap a1)),()),())
def Zvl (k:Nat):=Zns k
theorem ZH0 (k:Nat) (x:Kd.dens ZhB):Zt (ZK k) nA Tryz.f252 ZhB Zqe x = Zvl k x:=by
 show _ = Zns k x
 obtain ⟨a0,⟨a1,⟨⟩⟩⟩:=x
 kernel_rfl
theorem ZDq (k:Nat):Ctr Tryz.prog k 252 (mk ZhB Zqe Zvl) :=
 Zu (fn:=Tryz.f252) (Zd Zb) (by kernel_rfl) (by kernel_rfl) (ZH0 k)
noncomputable abbrev ZLw:Nat × Callee:=(252,mk ZhB Zqe Zvl)
abbrev Y3:List Kd:=[.view (.int .u64),.view (.int .u64)]
abbrev Zcf:Kd:=.tup [.view (.int .u64),.view (.int .u64)]
def Znt (k:Nat):Int × Int × Unit → Option ((Int × Int × Unit) × Unit)
 | (a0,a1,()) => some ((IntKind.u64.wrap (IntKind.u64.wrap (IntKind.u64.wrap (a0.fdiv (4294967296:Int) * a1.fdiv (4294967296:Int)) + (IntKind.u64.wrap (IntKind.u64.wrap (a0.fdiv (4294967296:Int) * IntKind.u64.wrap (Int.ofNat (BitVec.ofInt 64 a1 &&& BitVec.ofInt 64 (4294967295:Int)).toNat)) + (IntKind.u64.wrap (IntKind.u64.wrap (Int.ofNat (BitVec.ofInt 64 a0 &&& BitVec.ofInt 64 (4294967295:Int)).toNat) * IntKind.u64.wrap (Int.ofNat (BitVec.ofInt 64 a1 &&& BitVec.ofInt 64 (4294967295:Int)).toNat))).fdiv (4294967296:Int))).fdiv (4294967296:Int)) + (IntKind.u64.wrap (IntKind.u64.wrap (Int.ofNat (BitVec.ofInt 64 (IntKind.u64.wrap (IntKind.u64.wrap (a0.fdiv (4294967296:Int) * IntKind.u64.wrap (Int.ofNat (BitVec.ofInt 64 a1 &&& BitVec.ofInt 64 (4294967295:Int)).toNat)) + (IntKind.u64.wrap (IntKind.u64.wrap (Int.ofNat (BitVec.ofInt 64 a0 &&& BitVec.ofInt 64 (4294967295:Int)).toNat) * IntKind.u64.wrap (Int.ofNat (BitVec.ofInt 64 a1 &&& BitVec.ofInt 64 (4294967295:Int)).toNat))).fdiv (4294967296:Int))) &&& BitVec.ofInt 64 (4294967295:Int)).toNat) + IntKind.u64.wrap (IntKind.u64.wrap (Int.ofNat (BitVec.ofInt 64 a0 &&& BitVec.ofInt 64 (4294967295:Int)).toNat) * a1.fdiv (4294967296:Int)))).fdiv (4294967296:Int)),IntKind.u64.wrap (a0 * a1),()),())
def Zqf (k:Nat):=Znt k
theorem ZH1 (k:Nat) (x:Kd.dens Y3):Zt (ZK k) nA Tryz.f253 Y3 Zcf x = Zqf k x:=by
 show _ = Znt k x
 obtain ⟨a0,⟨a1,⟨⟩⟩⟩:=x
 kernel_rfl
theorem ZDr (k:Nat):Ctr Tryz.prog k 253 (mk Y3 Zcf Zqf) :=
 Zu (fn:=Tryz.f253) (Zd Zb) (by kernel_rfl) (by kernel_rfl) (ZH1 k)
noncomputable abbrev ZLx:Nat × Callee:=(253,mk Y3 Zcf Zqf)
noncomputable def ZLj (k:Nat):=Qq k [ZLw,ZLx]
def Znf (k:Nat):Int × Int × Unit → Option ((Int × Int × Unit) × Unit)
 | (a0,a1,()) => (Zqf k (a0,a1,())).bind fun y => some ((y.1.1,y.1.2.1,()),())
def Zp5 (k:Nat):=Znf k
theorem ZHN (k:Nat) (x:Kd.dens Y3):Zt (ZLj k) nA Tryz.f214 Y3 Zcf x = Zp5 k x:=by
 show _ = Znf k x
 obtain ⟨a0,⟨a1,⟨⟩⟩⟩:=x
 kernel_rfl
theorem ZDg (k:Nat):Ctr Tryz.prog k 214 (mk Y3 Zcf Zp5) :=
 Zu (fn:=Tryz.f214) (Zd (Za (ZDq k) (Za (ZDr k) Zb))) (by kernel_rfl) (by kernel_rfl) (ZHN k)
noncomputable abbrev ZLk:Nat × Callee:=(214,mk Y3 Zcf Zp5)
noncomputable def Zu0 (k:Nat):=Qq k [ZLk] (fun r => bif Nat.beq r 999999 then [1] else [])
def ZCJ:Nat → Ann:=fun id => bif Nat.beq id 8 then ⟨[8,7],[]⟩ else ⟨[],[]⟩
abbrev ZpC:=Int × List Int
abbrev Zhn:=ZpC → Option (List Int × Unit)
def ZHj:ZpC → St
 | (v0,v1) => St.mk (Zo [(8,Zg v0),(7,AV.own 8192)]) (Zm [(8192,rsA v1 false)])
def ZmO (k:Nat) (L1:Zhn):Zhn
 | (v0,v1) => bif decide (v0 < Int.ofNat v1.length) then bif decide (0 ≤ v0 ∧ v0 ≤ Int.ofNat v1.length ∧ Int.ofNat v1.length ≤ Int.ofNat v1.length) then bif decide ((0:Int) ≤ 0 ∧ (0:Int) ≤ v0 ∧ v0 ≤ Int.ofNat v1.length) then bif decide (v0.toNat ≤ (Int.ofNat v1.length).toNat ∧ (Int.ofNat v1.length).toNat ≤ v1.length) then bif decide ((0:Nat) ≤ v0.toNat ∧ v0.toNat ≤ v1.length) then L1 (IntKind.i64.wrap (v0 + Int.ofNat (min (List.drop 0 (List.take v0.toNat v1)).length ((Int.ofNat v1.length).toNat - v0.toNat))),List.take v0.toNat v1 ++ List.take ((Int.ofNat v1.length).toNat - v0.toNat) (List.drop 0 (List.take v0.toNat v1)) ++ List.drop (v0.toNat + min (List.drop 0 (List.take v0.toNat v1)).length ((Int.ofNat v1.length).toNat - v0.toNat)) v1) else none else none else none else none else some (v1,())
def ZpB (k:Nat):Zhn:=Zh (fun L1 => ZmO k L1) k
noncomputable def Zr7 (k:Nat) (n:Nat) (v:ZpC) :=
 Zi (Zu0 k) ZCJ [] [1,1,1,1,1,1,0,0] [] (Qh Tryz.f169) (Qi (Zu0 k) Tryz.f169 ZM Xl [] []) n (ZHj v)
def ZmN (k:Nat) (L1:Zhn):List Int × Int × Unit → Option (List Int × Unit)
 | (a0,a1,()) => bif decide (a1 < 0) then none else (Zp5 k (IntKind.u64.wrap (Int.ofNat a0.length),IntKind.u64.wrap a1,())).bind fun y => bif decide ((0:Int) < y.1.1) then none else bif decide ((9223372036854775807:Int) < y.1.2.1) then none else bif decide (0 ≤ IntKind.i64.wrap y.1.2.1 ∧ IntKind.i64.wrap y.1.2.1 ≤ IntKind.i64.wrap y.1.2.1 ∧ IntKind.i64.wrap y.1.2.1 < 4294967296) then L1 (Int.ofNat (min a0.length ((List.replicate (IntKind.i64.wrap y.1.2.1).toNat (0:Int)).length - (0:Nat))),List.take 0 (List.replicate (IntKind.i64.wrap y.1.2.1).toNat (0:Int)) ++ List.take ((List.replicate (IntKind.i64.wrap y.1.2.1).toNat (0:Int)).length - (0:Nat)) a0 ++ List.drop ((0:Nat) + min a0.length ((List.replicate (IntKind.i64.wrap y.1.2.1).toNat (0:Int)).length - (0:Nat))) (List.replicate (IntKind.i64.wrap y.1.2.1).toNat (0:Int))) else none
def ZpA (k:Nat):=ZmN k (ZpB k)
theorem Zz8 (k:Nat):∀ n,Zr7 k n = Zh (fun L1 => ZmO k L1) n :=
 Zc (fun v => by kernel_rfl) (fun n v => by
  obtain ⟨v0,v1⟩:=v
  kernel_rfl)
theorem ZHk (k:Nat) (x:Kd.dens ZM):Zt (Zu0 k) ZCJ Tryz.f169 ZM Xl x = ZpA k x:=by
 show _ = ZmN k (ZpB k) x
 rw [show ZpB k = Zr7 k k from (Zz8 k k).symm]
 obtain ⟨a0,⟨a1,⟨⟩⟩⟩:=x
 kernel_rfl
theorem ZCK (k:Nat):Ctr Tryz.prog k 169 (mk ZM Xl ZpA) :=
 Zu (fn:=Tryz.f169) (Zd (Za (ZDg k) Zb)) (by kernel_rfl) (by kernel_rfl) (ZHk k)
noncomputable abbrev ZKX:Nat × Callee:=(169,mk ZM Xl ZpA)
def Zng (k:Nat):(List Int × Int × Unit) × Int × Unit → Option ((Int × Int × Unit) × (List Int × Int × Unit) × Unit)
 | ((a0,a1,()),a2,()) => (Xx k ((a0,a1,()),a2,())).bind fun y => bif y.1.2.1 == 0 then bif decide ((0:Int) < a2) then bif decide (0 ≤ IntKind.i64.wrap (a2 - 1)) then bif Int.fdiv y.1.1 ((2:Int) ^ min (IntKind.i64.wrap (a2 - 1)).toNat 64) == (1:Int) then bif decide (0 ≤ a2) then some ((IntKind.i64.wrap (y.1.1 - IntKind.i64.wrap ((1:Int) * (2:Int) ^ min a2.toNat 64)),y.1.2.1,()),(y.2.1.1,y.2.1.2.1,()),()) else none else some ((y.1.1,y.1.2.1,()),(y.2.1.1,y.2.1.2.1,()),()) else none else some ((y.1.1,y.1.2.1,()),(y.2.1.1,y.2.1.2.1,()),()) else some ((y.1.1,y.1.2.1,()),(y.2.1.1,y.2.1.2.1,()),())
def ZiR (k:Nat):=Zng k
theorem ZHO (k:Nat) (x:Kd.dens Wk):Zt (ZFD k) nA Tryz.f215 Wk ZN x = ZiR k x:=by
 show _ = Zng k x
 obtain ⟨⟨a0,⟨a1,⟨⟩⟩⟩,⟨a2,⟨⟩⟩⟩:=x
 kernel_rfl
theorem Zsv (k:Nat):Ctr Tryz.prog k 215 (mk Wk ZN ZiR) :=
 Zu (fn:=Tryz.f215) (Zd (Za (Yx k) Zb)) (by kernel_rfl) (by kernel_rfl) (ZHO k)
noncomputable abbrev ZLl:Nat × Callee:=(215,mk Wk ZN ZiR)
abbrev ZdS:List Kd:=[.box [.ref [.view (.sl (.int .u8)),.view (.int .i64)],.view (.int .i64)],.view (.int .i64),.view (.int .i64)]
noncomputable def ZpD (k:Nat):=Qq k [ZLl]
def ZCL:Nat → Ann:=fun id => bif Nat.beq id 3 then ⟨[9,10,0,2,7],[.slot 7 ((Ty.int IntKind.i64))]⟩ else ⟨[],[]⟩
abbrev ZpF:=Int × Int × Int × Int × List Int × Int × List Int
abbrev Zho:=ZpF → Option (List Int × ((List Int × Int × Unit) × Int × Unit) × Unit)
def ZHl:ZpF → St
 | (v0,v1,v2,v3,v4,v5,v6) => St.mk (Zo [(9,Zg v0),(10,Zg v1),(0,AV.bx 0 0),(2,Zg v2),(7,AV.own 8192)]) (Zm [(0,Qe [AV.bx 1 0,Zg v3]),(1,Qe [AV.val (PV.sl (Ty.int IntKind.u8) v4),Zg v5]),(8192,rsA v6 false)])
def ZmQ (k:Nat) (L1:Zho):Zho
 | (v0,v1,v2,v3,v4,v5,v6) => bif decide (v1 < v0) then bif v3 == 0 then (ZiR k ((v4,v5,()),v2,())).bind fun y => bif decide (v6.length + [y.1.1].length < 2147483648) then L1 (v0,IntKind.i64.wrap (v1 + 1),v2,y.1.2.1,y.2.1.1,y.2.1.2.1,v6 ++ [y.1.1]) else none else bif decide (v6.length + (1:Nat) < (2147483648:Nat)) then L1 (v0,IntKind.i64.wrap (v1 + 1),v2,v3,v4,v5,v6 ++ [(0:Int)]) else none else some (v6,((v4,v5,()),v3,()),())
def ZpE (k:Nat):Zho:=Zh (fun L1 => ZmQ k L1) k
noncomputable def Zr8 (k:Nat) (n:Nat) (v:ZpF) :=
 Zi (ZpD k) ZCL [0,1] [1,1,0,1,0] [] (Qh Tryz.f170) (Qi (ZpD k) Tryz.f170 ZdS Xl [AV.bx (nat_lit 0) (nat_lit 0)] [[1]]) n (ZHl v)
def ZmP (k:Nat) (L1:Zho):((List Int × Int × Unit) × Int × Unit) × Int × Int × Unit → Option (List Int × ((List Int × Int × Unit) × Int × Unit) × Unit)
 | (((a0,a1,()),a2,()),a3,a4,()) => L1 (a3,(0:Int),a4,a2,a0,a1,[])
def K8 (k:Nat):=ZmP k (ZpE k)
theorem Zz9 (k:Nat):∀ n,Zr8 k n = Zh (fun L1 => ZmQ k L1) n :=
 Zc (fun v => by kernel_rfl) (fun n v => by
  obtain ⟨v0,v1,v2,v3,v4,v5,v6⟩:=v
  kernel_rfl)
theorem ZHm (k:Nat) (x:Kd.dens ZdS):Zt (ZpD k) ZCL Tryz.f170 ZdS Xl x = K8 k x:=by
 show _ = ZmP k (ZpE k) x
 rw [show ZpE k = Zr8 k k from (Zz9 k k).symm]
 obtain ⟨⟨⟨a0,⟨a1,⟨⟩⟩⟩,⟨a2,⟨⟩⟩⟩,⟨a3,⟨a4,⟨⟩⟩⟩⟩:=x
 kernel_rfl
theorem ZCM (k:Nat):Ctr Tryz.prog k 170 (mk ZdS Xl K8) :=
 Zu (fn:=Tryz.f170) (Zd (Za (Zsv k) Zb)) (by kernel_rfl) (by kernel_rfl) (ZHm k)
noncomputable abbrev ZKY:Nat × Callee:=(170,mk ZdS Xl K8)
def Znz (k:Nat):Int × Unit → Option ((Int × Int × Unit) × Unit)
 | (a0,()) => bif decide (a0 < 0) then some ((0,12,()),()) else bif decide ((2199023255552:Int) < a0) then some ((0,12,()),()) else some ((IntKind.i64.wrap (Int.ofNat (BitVec.ofInt 64 (a0.fdiv (2:Int)) ^^^ BitVec.ofInt 64 (IntKind.i64.wrap ((0:Int) - IntKind.i64.wrap (Int.ofNat (BitVec.ofInt 64 a0 &&& BitVec.ofInt 64 (1:Int)).toNat)))).toNat),0,()),())
def Zqm (k:Nat):=Znz k
theorem ZH8 (k:Nat) (x:Kd.dens Zw):Zt (ZK k) nA Tryz.f268 Zw ZN x = Zqm k x:=by
 show _ = Znz k x
 obtain ⟨a0,⟨⟩⟩:=x
 kernel_rfl
theorem ZDA (k:Nat):Ctr Tryz.prog k 268 (mk Zw ZN Zqm) :=
 Zu (fn:=Tryz.f268) (Zd Zb) (by kernel_rfl) (by kernel_rfl) (ZH8 k)
noncomputable abbrev ZLH:Nat × Callee:=(268,mk Zw ZN Zqm)
noncomputable def ZLC (k:Nat):=Qq k [Zpu,ZCI,ZLH]
def Znv (k:Nat):(List Int × Int × Unit) × Int × Unit → Option ((Int × Int × Unit) × (List Int × Int × Unit) × Unit)
 | ((a0,a1,()),a2,()) => (Ziy k ((a0,a1,()),())).bind fun y => bif y.1.2.1 != 0 then some ((0,y.1.2.1,()),(y.2.1.1,y.2.1.2.1,()),()) else (Xx k ((y.2.1.1,y.2.1.2.1,()),a2,())).bind fun y_1 => bif y_1.1.2.1 != 0 then some ((0,y_1.1.2.1,()),(y_1.2.1.1,y_1.2.1.2.1,()),()) else bif decide (0 ≤ a2) then bif decide (4294967295 ≤ IntKind.i64.wrap (Int.ofNat (BitVec.ofInt 64 (IntKind.i64.wrap (y.1.1 * (2:Int) ^ min a2.toNat 64)) ||| BitVec.ofInt 64 y_1.1.1).toNat)) then some ((0,12,()),(y_1.2.1.1,y_1.2.1.2.1,()),()) else (Zqm k (IntKind.i64.wrap (Int.ofNat (BitVec.ofInt 64 (IntKind.i64.wrap (y.1.1 * (2:Int) ^ min a2.toNat 64)) ||| BitVec.ofInt 64 y_1.1.1).toNat),())).bind fun y => some ((y.1.1,y.1.2.1,()),(y_1.2.1.1,y_1.2.1.2.1,()),()) else none
def Zqj (k:Nat):=Znv k
theorem ZH4 (k:Nat) (x:Kd.dens Wk):Zt (ZLC k) nA Tryz.f255 Wk ZN x = Zqj k x:=by
 show _ = Znv k x
 obtain ⟨⟨a0,⟨a1,⟨⟩⟩⟩,⟨a2,⟨⟩⟩⟩:=x
 kernel_rfl
theorem ZDv (k:Nat):Ctr Tryz.prog k 255 (mk Wk ZN Zqj) :=
 Zu (fn:=Tryz.f255) (Zd (Za (Yx k) (Za (Zr6 k) (Za (ZDA k) Zb)))) (by kernel_rfl) (by kernel_rfl) (ZH4 k)
noncomputable abbrev ZLD:Nat × Callee:=(255,mk Wk ZN Zqj)
abbrev Y4:List Kd:=[.box [.ref [.view (.sl (.int .u8)),.view (.int .i64)]],.box [.view (.int .i64)]]
noncomputable def ZLy (k:Nat):=Qq k [ZLD]
def Znu (k:Nat):((List Int × Int × Unit) × Unit) × (Int × Unit) × Unit → Option ((Int × Int × Unit) × ((List Int × Int × Unit) × Unit) × (Int × Unit) × Unit)
 | (((a0,a1,()),()),(a2,()),()) => (Zqj k ((a0,a1,()),a2,())).bind fun y => some ((y.1.1,y.1.2.1,()),((y.2.1.1,y.2.1.2.1,()),()),(a2,()),())
def Zqg (k:Nat):=Znu k
theorem ZH2 (k:Nat) (x:Kd.dens Y4):Zt (ZLy k) nA Tryz.f254 Y4 ZN x = Zqg k x:=by
 show _ = Znu k x
 obtain ⟨⟨⟨a0,⟨a1,⟨⟩⟩⟩,⟨⟩⟩,⟨⟨a2,⟨⟩⟩,⟨⟩⟩⟩:=x
 kernel_rfl
theorem ZDs (k:Nat):Ctr Tryz.prog k 254 (mk Y4 ZN Zqg) :=
 Zu (fn:=Tryz.f254) (Zd (Za (ZDv k) Zb)) (by kernel_rfl) (by kernel_rfl) (ZH2 k)
noncomputable abbrev ZLz:Nat × Callee:=(254,mk Y4 ZN Zqg)
def Znw (k:Nat):((List Int × Int × Unit) × Unit) × (Int × Unit) × Unit → Option ((Int × Int × Unit) × ((List Int × Int × Unit) × Unit) × (Int × Unit) × Unit)
 | (((a0,a1,()),()),(a2,()),()) => (ZiR k ((a0,a1,()),a2,())).bind fun y => some ((y.1.1,y.1.2.1,()),((y.2.1.1,y.2.1.2.1,()),()),(a2,()),())
def Zqk (k:Nat):=Znw k
theorem ZH5 (k:Nat) (x:Kd.dens Y4):Zt (ZpD k) nA Tryz.f256 Y4 ZN x = Zqk k x:=by
 show _ = Znw k x
 obtain ⟨⟨⟨a0,⟨a1,⟨⟩⟩⟩,⟨⟩⟩,⟨⟨a2,⟨⟩⟩,⟨⟩⟩⟩:=x
 kernel_rfl
theorem ZDw (k:Nat):Ctr Tryz.prog k 256 (mk Y4 ZN Zqk) :=
 Zu (fn:=Tryz.f256) (Zd (Za (Zsv k) Zb)) (by kernel_rfl) (by kernel_rfl) (ZH5 k)
noncomputable abbrev ZLE:Nat × Callee:=(256,mk Y4 ZN Zqk)
abbrev QU:List Kd:=[.box [.view (.sl (.int .u8)),.view (.int .i64)],.view (.int .i64),.view (.int .i64)]
noncomputable def ZiS (k:Nat):=Qq k [(204,mk Zw Zf Zba),(205,mk Zw Zf Yw),Zpu,ZLz,ZLE]
noncomputable def Zvj:Nat → Ann:=fun id => bif Nat.beq id 12 then ⟨[40,41,10,13],[.slot 13 ((Ty.int IntKind.i64))]⟩ else ⟨[],[]⟩
abbrev Y1:=ZbE → Option ((List Int × Int × Unit) × (List Int × Int × Unit) × Unit)
noncomputable def ZHP:ZbE → St
 | (v0,v1,v2,v3,v4,v5) => St.mk (Zo [(40,Zg v0),(41,Zg v1),(10,AV.clo 256 [AV.bx 8192 0,AV.bx 8193 0]),(13,AV.own 8194)]) (Zm [(0,Qe [AV.val (PV.sl (Ty.int IntKind.u8) v2),Zg v3]),(8192,Qe [AV.bx 0 0]),(8193,Qe [Zg v4]),(8194,rsA v5 false)])
noncomputable def Zni (k:Nat) (L1:Y1):Y1
 | (v0,v1,v2,v3,v4,v5) => bif decide (v1 < v0) then (Zqk k (((v2,v3,()),()),(v4,()),())).bind fun y => bif y.1.2.1 != 0 then some (([],y.1.2.1,()),(y.2.1.1.1,y.2.1.1.2.1,()),()) else bif decide (v5.length + [y.1.1].length < 2147483648) then L1 (v0,IntKind.i64.wrap (v1 + 1),y.2.1.1.1,y.2.1.1.2.1,y.2.2.1.1,v5 ++ [y.1.1]) else none else some ((v5,0,()),(v2,v3,()),())
noncomputable def Zp6 (k:Nat):Y1:=Zh (fun L1 => Zni k L1) k
noncomputable def Zsw (k:Nat) (n:Nat) (v:ZbE) :=
 Zi (ZiS k) Zvj [0] [1,1,1,1,1,1,0,1,0] [] (Qh Tryz.f218) (Qi (ZiS k) Tryz.f218 QU Ql [AV.bx (nat_lit 0) (nat_lit 0)] [[]]) n (ZHP v)
noncomputable def ZHQ:ZbE → St
 | (v0,v1,v2,v3,v4,v5) => St.mk (Zo [(40,Zg v0),(41,Zg v1),(10,AV.clo 254 [AV.bx 8192 0,AV.bx 8193 0]),(13,AV.own 8194)]) (Zm [(0,Qe [AV.val (PV.sl (Ty.int IntKind.u8) v2),Zg v3]),(8192,Qe [AV.bx 0 0]),(8193,Qe [Zg v4]),(8194,rsA v5 false)])
noncomputable def Znj (k:Nat) (L2:Y1):Y1
 | (v0,v1,v2,v3,v4,v5) => bif decide (v1 < v0) then (Zqg k (((v2,v3,()),()),(v4,()),())).bind fun y => bif y.1.2.1 != 0 then some (([],y.1.2.1,()),(y.2.1.1.1,y.2.1.1.2.1,()),()) else bif decide (v5.length + [y.1.1].length < 2147483648) then L2 (v0,IntKind.i64.wrap (v1 + 1),y.2.1.1.1,y.2.1.1.2.1,y.2.2.1.1,v5 ++ [y.1.1]) else none else some ((v5,0,()),(v2,v3,()),())
noncomputable def Zp7 (k:Nat):Y1:=Zh (fun L2 => Znj k L2) k
noncomputable def Zsx (k:Nat) (n:Nat) (v:ZbE) :=
 Zi (ZiS k) Zvj [0] [1,1,1,1,1,1,0,1,0] [] (Qh Tryz.f218) (Qi (ZiS k) Tryz.f218 QU Ql [AV.bx (nat_lit 0) (nat_lit 0)] [[]]) n (ZHQ v)
noncomputable def Znh (k:Nat) (L1:Y1) (L2:Y1):(List Int × Int × Unit) × Int × Int × Unit → Option ((List Int × Int × Unit) × (List Int × Int × Unit) × Unit)
 | ((a0,a1,()),a2,a3,()) => (Zba k (a2,())).bind fun y => (Xx k ((a0,a1,()),y.1,())).bind fun y => bif y.1.2.1 != 0 then some (([],y.1.2.1,()),(y.2.1.1,y.2.1.2.1,()),()) else (Yw k (a2,())).bind fun y_1 => bif y.1.1 == y_1.1 then (Xx k ((y.2.1.1,y.2.1.2.1,()),5,())).bind fun y => bif y.1.2.1 != 0 then some (([],y.1.2.1,()),(y.2.1.1,y.2.1.2.1,()),()) else L1 (a3,(0:Int),y.2.1.1,y.2.1.2.1,y.1.1,[]) else L2 (a3,(0:Int),y.2.1.1,y.2.1.2.1,y.1.1,[])
noncomputable def ZiT (k:Nat):=Znh k (Zp6 k) (Zp7 k)
theorem ZAu (k:Nat):∀ n,Zsw k n = Zh (fun L1 => Zni k L1) n :=
 Zc (fun v => by kernel_rfl) (fun n v => by
  obtain ⟨v0,v1,v2,v3,v4,v5⟩:=v
  kernel_rfl)
theorem ZAv (k:Nat):∀ n,Zsx k n = Zh (fun L2 => Znj k L2) n :=
 Zc (fun v => by kernel_rfl) (fun n v => by
  obtain ⟨v0,v1,v2,v3,v4,v5⟩:=v
  kernel_rfl)
theorem ZHR (k:Nat) (x:Kd.dens QU):Zt (ZiS k) Zvj Tryz.f218 QU Ql x = ZiT k x:=by
 show _ = Znh k (Zp6 k) (Zp7 k) x
 rw [show Zp6 k = Zsw k k from (ZAu k k).symm,show Zp7 k = Zsx k k from (ZAv k k).symm]
 obtain ⟨⟨a0,⟨a1,⟨⟩⟩⟩,⟨a2,⟨a3,⟨⟩⟩⟩⟩:=x
 kernel_rfl
theorem ZDh (k:Nat):Ctr Tryz.prog k 218 (mk QU Ql ZiT) :=
 Zu (fn:=Tryz.f218) (Zd (Za (ZfH k) (Za (ZfJ k) (Za (Yx k) (Za (ZDs k) (Za (ZDw k) Zb)))))) (by kernel_rfl) (by kernel_rfl) (ZHR k)
noncomputable abbrev ZLm:Nat × Callee:=(218,mk QU Ql ZiT)
noncomputable def Zu1 (k:Nat):=Qq k [Zpu,ZDb,ZLe,ZLm]
def ZCN:Nat → Ann:=fun id => bif Nat.beq id 15 then ⟨[52,53,1,10,2,0,8,11],[.slot 11 ((Ty.int IntKind.i64))]⟩ else ⟨[],[]⟩
abbrev ZpH:=Int × Int × Int × Int × Int × Int × List Int × Int × List Int
abbrev Zhp:=ZpH → Option ((List Int × Int × Unit) × (List Int × Int × Unit) × Unit)
def ZHn:ZpH → St
 | (v0,v1,v2,v3,v4,v5,v6,v7,v8) => St.mk (Zo [(52,Zg v0),(53,Zg v1),(1,Zg v2),(10,Zg v3),(2,Zg v4),(0,AV.bx 0 0),(8,Zg v5),(11,AV.own 8192)]) (Zm [(0,Qe [AV.val (PV.sl (Ty.int IntKind.u8) v6),Zg v7]),(8192,rsA v8 false)])
noncomputable def ZmS (k:Nat) (L1:Zhp):Zhp
 | (v0,v1,v2,v3,v4,v5,v6,v7,v8) => bif decide (v1 < v0) then bif decide (0 ≤ v3) then bif v1 == 0 then (ZiT k ((v6,v7,()),v5,IntKind.i64.wrap (v2.fdiv ((2:Int) ^ min v3.toNat 64) - v4),())).bind fun y => bif y.1.2.1 != 0 then some (([],y.1.2.1,()),(y.2.1.1,y.2.1.2.1,()),()) else bif decide (v8.length + List.length y.1.1 < 2147483648) then L1 (v0,IntKind.i64.wrap (v1 + 1),v2,v3,v4,v5,y.2.1.1,y.2.1.2.1,v8 ++ y.1.1) else none else (ZiT k ((v6,v7,()),v5,v2.fdiv ((2:Int) ^ min v3.toNat 64),())).bind fun y => bif y.1.2.1 != 0 then some (([],y.1.2.1,()),(y.2.1.1,y.2.1.2.1,()),()) else bif decide (v8.length + List.length y.1.1 < 2147483648) then L1 (v0,IntKind.i64.wrap (v1 + 1),v2,v3,v4,v5,y.2.1.1,y.2.1.2.1,v8 ++ y.1.1) else none else none else some ((v8,0,()),(v6,v7,()),())
noncomputable def ZpG (k:Nat):Zhp:=Zh (fun L1 => ZmS k L1) k
noncomputable def Zr9 (k:Nat) (n:Nat) (v:ZpH) :=
 Zi (Zu1 k) ZCN [0] [1,1,1,1,1,1,1,0,1,0] [] (Qh Tryz.f172) (Qi (Zu1 k) Tryz.f172 QU Ql [AV.bx (nat_lit 0) (nat_lit 0)] [[]]) n (ZHn v)
def ZmR (k:Nat) (L1:Zhp):(List Int × Int × Unit) × Int × Int × Unit → Option ((List Int × Int × Unit) × (List Int × Int × Unit) × Unit)
 | ((a0,a1,()),a2,a3,()) => (ZiQ k (a2,a3,())).bind fun y => bif !y.1 then some (([],1,()),(a0,a1,()),()) else (Xx k ((a0,a1,()),2,())).bind fun y => bif y.1.2.1 != 0 then some (([],y.1.2.1,()),(y.2.1.1,y.2.1.2.1,()),()) else bif decide ((1:Int) < y.1.1) then some (([],2,()),(y.2.1.1,y.2.1.2.1,()),()) else (Xx k ((y.2.1.1,y.2.1.2.1,()),4,())).bind fun y_1 => bif y_1.1.2.1 != 0 then some (([],y_1.1.2.1,()),(y_1.2.1.1,y_1.2.1.2.1,()),()) else (Zdd k (a2,a3,y_1.1.1,())).bind fun y_2 => bif !y_2.1 then some (([],2,()),(y_1.2.1.1,y_1.2.1.2.1,()),()) else bif decide ((0:Int) ≤ y_1.1.1) then L1 (IntKind.i64.wrap ((1:Int) * (2:Int) ^ min (Int.toNat y_1.1.1) (64:Nat)),(0:Int),a2,y_1.1.1,a3,y.1.1,y_1.2.1.1,y_1.2.1.2.1,[]) else none
noncomputable def Zda (k:Nat):=ZmR k (ZpG k)
theorem ZAa (k:Nat):∀ n,Zr9 k n = Zh (fun L1 => ZmS k L1) n :=
 Zc (fun v => by kernel_rfl) (fun n v => by
  obtain ⟨v0,v1,v2,v3,v4,v5,v6,v7,v8⟩:=v
  kernel_rfl)
theorem ZHo (k:Nat) (x:Kd.dens QU):Zt (Zu1 k) ZCN Tryz.f172 QU Ql x = Zda k x:=by
 show _ = ZmR k (ZpG k) x
 rw [show ZpG k = Zr9 k k from (ZAa k k).symm]
 obtain ⟨⟨a0,⟨a1,⟨⟩⟩⟩,⟨a2,⟨a3,⟨⟩⟩⟩⟩:=x
 kernel_rfl
theorem ZCO (k:Nat):Ctr Tryz.prog k 172 (mk QU Ql Zda) :=
 Zu (fn:=Tryz.f172) (Zd (Za (Yx k) (Za (Zss k) (Za (Zst k) (Za (ZDh k) Zb))))) (by kernel_rfl) (by kernel_rfl) (ZHo k)
noncomputable abbrev ZKZ:Nat × Callee:=(172,mk QU Ql Zda)
abbrev ZdT:List Kd:=[.view Zdk,.view (.sl (.int .i64)),.view (.sl (.int .i64))]
noncomputable def Zu2 (k:Nat):=Qq k [Ziq,Zvg,ZDa,ZDi,ZDk]
def ZCP:Nat → Ann:=fun id => bif Nat.beq id 9 then ⟨[32,33,31,3,8],[.«show» 8]⟩ else ⟨[],[]⟩
abbrev ZpJ:=Int × Int × List Int × List Int × Int × List Int
abbrev Zhq:=ZpJ → Option ((List Int × Int × Unit) × Unit)
def ZHp:ZpJ → St
 | (v0,v1,v2,v3,v4,v5) => St.mk (Zo [(32,Zg v0),(33,Zg v1),(31,WK v2),(3,AV.bx 8192 0),(8,AV.own 8193)]) (Zm [(8192,Qe [WK v3,Zg v4]),(8193,rsA v5 true)])
def ZmU (k:Nat) (L1:Zhq):Zhq
 | (v0,v1,v2,v3,v4,v5) => bif decide (v1 < v0) then bif decide (0 ≤ v1 ∧ v1 < Int.ofNat v2.length) then (ZiV k ((v3,v4,()),v5,())).bind fun y => (ZfU k (IntKind.i64.wrap (v2.getD v1.toNat 0 + y.1),())).bind fun y_1 => bif y_1.1 then some (([],12,()),()) else bif decide (v5.length + [IntKind.i64.wrap (v2.getD v1.toNat 0 + y.1)].length < 2147483648) then L1 (v0,IntKind.i64.wrap (v1 + 1),v2,v3,v4,v5 ++ [IntKind.i64.wrap (v2.getD v1.toNat 0 + y.1)]) else none else none else some ((v5,0,()),())
def ZpI (k:Nat):Zhq:=Zh (fun L1 => ZmU k L1) k
noncomputable def Zsa (k:Nat) (n:Nat) (v:ZpJ) :=
 Zi (Zu2 k) ZCP [] [1,1,1,0,1,0] [] (Qh Tryz.f173) (Qi (Zu2 k) Tryz.f173 ZdT Ql [] []) n (ZHp v)
def ZmT (k:Nat) (L1:Zhq):(List Int × Int × Unit) × List Int × List Int × Unit → Option ((List Int × Int × Unit) × Unit)
 | ((a0,a1,()),a2,a3,()) => (ZiU k ((a0,a1,()),())).bind fun y => bif y.1 != 0 then some (([],2,()),()) else bif Int.ofNat a2.length != Int.ofNat a0.length then some (([],1,()),()) else (Yv k (a2,(),())).bind fun y => bif y.1 then some (([],12,()),()) else (Yv k (a3,(),())).bind fun y => bif y.1 then some (([],12,()),()) else (ZpS k (a2,())).bind fun y => L1 (Int.ofNat a3.length,(0:Int),a3,a0,a1,y.1)
def Zdb (k:Nat):=ZmT k (ZpI k)
theorem ZAb (k:Nat):∀ n,Zsa k n = Zh (fun L1 => ZmU k L1) n :=
 Zc (fun v => by kernel_rfl) (fun n v => by
  obtain ⟨v0,v1,v2,v3,v4,v5⟩:=v
  kernel_rfl)
theorem ZHq (k:Nat) (x:Kd.dens ZdT):Zt (Zu2 k) ZCP Tryz.f173 ZdT Ql x = Zdb k x:=by
 show _ = ZmT k (ZpI k) x
 rw [show ZpI k = Zsa k k from (ZAb k k).symm]
 obtain ⟨⟨a0,⟨a1,⟨⟩⟩⟩,⟨a2,⟨a3,⟨⟩⟩⟩⟩:=x
 kernel_rfl
theorem ZCQ (k:Nat):Ctr Tryz.prog k 173 (mk ZdT Ql Zdb) :=
 Zu (fn:=Tryz.f173) (Zd (Za (Zc4 k) (Za (ZiN k) (Za (Zsr k) (Za (Zsy k) (Za (ZsA k) Zb)))))) (by kernel_rfl) (by kernel_rfl) (ZHq k)
noncomputable abbrev ZK0:Nat × Callee:=(173,mk ZdT Ql Zdb)
abbrev Zq4:List Kd:=[.box [.ref [.view (.sl (.int .u8)),.view (.int .i64)],.view (.int .i64)],.view (.int .i64),.view (.int .i64),.view (.int .i64)]
noncomputable def ZNK (k:Nat):=Qq k [ZuX,ZCE,ZCF,ZKX,ZKY,ZKZ,ZK0]
noncomputable def ZtX (k:Nat):((List Int × Int × Unit) × Int × Unit) × Int × Int × Int × Unit → Option (List Int × ((List Int × Int × Unit) × Int × Unit) × Unit)
 | (((a0,a1,()),a2,()),a3,a4,a5,()) => bif a3 == 0 then (K8 k (((a0,a1,()),a2,()),1,a5,())).bind fun y => (ZpA k (y.1,a4,())).bind fun y_1 => some (y_1.1,((y.2.1.1.1,y.2.1.1.2.1,()),y.2.1.2.1,()),()) else bif a3 == 1 then (K8 k (((a0,a1,()),a2,()),a4,a5,())).bind fun y => some (y.1,((y.2.1.1.1,y.2.1.1.2.1,()),y.2.1.2.1,()),()) else bif decide ((31:Int) < a3) then (Xi k (((a0,a1,()),a2,()),decide (IntKind.i64.wrap (a3 - 31) ≤ a4),())).bind fun y => bif y.2.1.2.1 != 0 then some ([],((y.2.1.1.1,y.2.1.1.2.1,()),y.2.1.2.1,()),()) else (K8 k (((y.2.1.1.1,y.2.1.1.2.1,()),y.2.1.2.1,()),IntKind.i64.wrap (a3 - 31),a5,())).bind fun y => (Zc6 k (if (4:Int) < IntKind.i64.wrap (a3 - 31) then (4:Int) else IntKind.i64.wrap (a3 - 31),())).bind fun y_1 => bif decide ((31:Int) < a3) then (Kl k (((y.2.1.1.1,y.2.1.1.2.1,()),y.2.1.2.1,()),4,())).bind fun y_2 => (Xi k (((y_2.2.1.1.1,y_2.2.1.1.2.1,()),y_2.2.1.2.1,()),y_2.1 == 11,())).bind fun y_3 => (Kl k (((y_3.2.1.1.1,y_3.2.1.1.2.1,()),y_3.2.1.2.1,()),5,())).bind fun y_4 => (Xi k (((y_4.2.1.1.1,y_4.2.1.1.2.1,()),y_4.2.1.2.1,()),decide (y_4.1 ≤ 15),())).bind fun y_5 => (K8 k (((y_5.2.1.1.1,y_5.2.1.1.2.1,()),y_5.2.1.2.1,()),IntKind.i64.wrap (a3 - 31),12,())).bind fun y_6 => bif y_6.2.1.2.1 != 0 then some ([],((y_6.2.1.1.1,y_6.2.1.1.2.1,()),y_6.2.1.2.1,()),()) else (Zda k ((y_6.2.1.1.1,y_6.2.1.1.2.1,()),a4,IntKind.i64.wrap (a3 - 31),())).bind fun y_7 => bif y_7.1.2.1 != 0 then some ([],((y_7.2.1.1,y_7.2.1.2.1,()),y_7.1.2.1,()),()) else (Zdb k ((y_6.1,y_4.1,()),y.1,y_7.1.1,())).bind fun y => some (y.1.1,((y_7.2.1.1,y_7.2.1.2.1,()),y.1.2.1,()),()) else bif y.2.1.2.1 != 0 then some ([],((y.2.1.1.1,y.2.1.1.2.1,()),y.2.1.2.1,()),()) else (Zda k ((y.2.1.1.1,y.2.1.1.2.1,()),a4,IntKind.i64.wrap (a3 - 31),())).bind fun y_2 => bif y_2.1.2.1 != 0 then some ([],((y_2.2.1.1,y_2.2.1.2.1,()),y_2.1.2.1,()),()) else (Zdb k ((y_1.1.1.1,y_1.1.1.2.1,()),y.1,y_2.1.1,())).bind fun y => some (y.1.1,((y_2.2.1.1,y_2.2.1.2.1,()),y.1.2.1,()),()) else (Xi k (((a0,a1,()),a2,()),decide (IntKind.i64.wrap (a3 - 8) ≤ a4),())).bind fun y => bif y.2.1.2.1 != 0 then some ([],((y.2.1.1.1,y.2.1.1.2.1,()),y.2.1.2.1,()),()) else (K8 k (((y.2.1.1.1,y.2.1.1.2.1,()),y.2.1.2.1,()),IntKind.i64.wrap (a3 - 8),a5,())).bind fun y => (Zc6 k (if (4:Int) < IntKind.i64.wrap (a3 - 8) then (4:Int) else IntKind.i64.wrap (a3 - 8),())).bind fun y_1 => bif decide ((31:Int) < a3) then (Kl k (((y.2.1.1.1,y.2.1.1.2.1,()),y.2.1.2.1,()),4,())).bind fun y_2 => (Xi k (((y_2.2.1.1.1,y_2.2.1.1.2.1,()),y_2.2.1.2.1,()),y_2.1 == 11,())).bind fun y_3 => (Kl k (((y_3.2.1.1.1,y_3.2.1.1.2.1,()),y_3.2.1.2.1,()),5,())).bind fun y_4 => (Xi k (((y_4.2.1.1.1,y_4.2.1.1.2.1,()),y_4.2.1.2.1,()),decide (y_4.1 ≤ 15),())).bind fun y_5 => (K8 k (((y_5.2.1.1.1,y_5.2.1.1.2.1,()),y_5.2.1.2.1,()),IntKind.i64.wrap (a3 - 8),12,())).bind fun y_6 => bif y_6.2.1.2.1 != 0 then some ([],((y_6.2.1.1.1,y_6.2.1.1.2.1,()),y_6.2.1.2.1,()),()) else (Zda k ((y_6.2.1.1.1,y_6.2.1.1.2.1,()),a4,IntKind.i64.wrap (a3 - 8),())).bind fun y_7 => bif y_7.1.2.1 != 0 then some ([],((y_7.2.1.1,y_7.2.1.2.1,()),y_7.1.2.1,()),()) else (Zdb k ((y_6.1,y_4.1,()),y.1,y_7.1.1,())).bind fun y => some (y.1.1,((y_7.2.1.1,y_7.2.1.2.1,()),y.1.2.1,()),()) else bif y.2.1.2.1 != 0 then some ([],((y.2.1.1.1,y.2.1.1.2.1,()),y.2.1.2.1,()),()) else (Zda k ((y.2.1.1.1,y.2.1.1.2.1,()),a4,IntKind.i64.wrap (a3 - 8),())).bind fun y_2 => bif y_2.1.2.1 != 0 then some ([],((y_2.2.1.1,y_2.2.1.2.1,()),y_2.1.2.1,()),()) else (Zdb k ((y_1.1.1.1,y_1.1.1.2.1,()),y.1,y_2.1.1,())).bind fun y => some (y.1.1,((y_2.2.1.1,y_2.2.1.2.1,()),y.1.2.1,()),())
noncomputable def Zy0 (k:Nat):=ZtX k
theorem ZMK (k:Nat) (x:Kd.dens Zq4):Zt (ZNK k) nA Tryz.f124 Zq4 Xl x = Zy0 k x:=by
 show _ = ZtX k x
 obtain ⟨⟨⟨a0,⟨a1,⟨⟩⟩⟩,⟨a2,⟨⟩⟩⟩,⟨a3,⟨a4,⟨a5,⟨⟩⟩⟩⟩⟩:=x
 kernel_rfl
theorem ZJt (k:Nat):Ctr Tryz.prog k 124 (mk Zq4 Xl Zy0) :=
 Zu (fn:=Tryz.f124) (Zd (Za (Zis k) (Za (Zr3 k) (Za (Zr4 k) (Za (ZCK k) (Za (ZCM k) (Za (ZCO k) (Za (ZCQ k) Zb)))))))) (by kernel_rfl) (by kernel_rfl) (ZMK k)
noncomputable abbrev ZNL:Nat × Callee:=(124,mk Zq4 Xl Zy0)
noncomputable def ZFe (k:Nat):=Qq k [ZKj,ZNJ,ZNL,ZKk]
def ZJ2:Nat → Ann:=fun id => bif Nat.beq id 12 then ⟨[58,59,57,2,10,12],[.slot 12 ((Ty.int IntKind.i64))]⟩ else ⟨[],[]⟩
abbrev ZwC:=Int × Int × List Int × Int × Int × List Int × Int × List Int
abbrev ZqI:=ZwC → Option ((List Int × Int × Unit) × (List Int × Int × Unit) × Unit)
def ZL3:ZwC → St
 | (v0,v1,v2,v3,v4,v5,v6,v7) => St.mk (Zo [(58,Zg v0),(59,Zg v1),(57,WK v2),(2,Zg v3),(10,Zg v4),(12,AV.own 8192)]) (Zm [(0,Qe [AV.val (PV.sl (Ty.int IntKind.u8) v5),Zg v6]),(8192,rsA v7 false)])
def Zs8 (k:Nat) (L1:ZqI):ZqI
 | (v0,v1,v2,v3,v4,v5,v6,v7) => bif decide (v1 < v0) then bif decide (0 ≤ v1 ∧ v1 < Int.ofNat v2.length) then (ZtY k (v2.getD v1.toNat 0,IntKind.i64.wrap (v3 - v4),())).bind fun y => bif !y.1 then some (([],12,()),(v5,v6,()),()) else bif decide (0 ≤ v4) then bif decide (v7.length + [IntKind.i64.wrap (v2.getD v1.toNat 0 * (2:Int) ^ min v4.toNat 64)].length < 2147483648) then L1 (v0,IntKind.i64.wrap (v1 + 1),v2,v3,v4,v5,v6,v7 ++ [IntKind.i64.wrap (v2.getD v1.toNat 0 * (2:Int) ^ min v4.toNat 64)]) else none else none else none else some ((v7,0,()),(v5,v6,()),())
def ZwB (k:Nat):ZqI:=Zh (fun L1 => Zs8 k L1) k
noncomputable def Zyw (k:Nat) (n:Nat) (v:ZwC) :=
 Zi (ZFe k) ZJ2 [0] [1,1,1,1,1,1,1,1,0,1,0] [] (Qh Tryz.f58) (Qi (ZFe k) Tryz.f58 QU Ql [AV.bx (nat_lit 0) (nat_lit 0)] [[]]) n (ZL3 v)
noncomputable def Zs7 (k:Nat) (L1:ZqI):(List Int × Int × Unit) × Int × Int × Unit → Option ((List Int × Int × Unit) × (List Int × Int × Unit) × Unit)
 | ((a0,a1,()),a2,a3,()) => (ZtU k (a2,a3,())).bind fun y => bif !y.1 then some (([],1,()),(a0,a1,()),()) else (ZyZ k (((a0,a1,()),0,()),a3,())).bind fun y => bif y.2.1.2.1 != 0 then some (([],y.2.1.2.1,()),(y.2.1.1.1,y.2.1.1.2.1,()),()) else (Zy0 k (((y.2.1.1.1,y.2.1.1.2.1,()),y.2.1.2.1,()),y.1.1,a2,IntKind.i64.wrap (a3 - y.1.2.1),())).bind fun y_1 => bif y_1.2.1.2.1 != 0 then some (([],y_1.2.1.2.1,()),(y_1.2.1.1.1,y_1.2.1.1.2.1,()),()) else L1 (Int.ofNat (List.length y_1.1),(0:Int),y_1.1,a3,y.1.2.1,y_1.2.1.1.1,y_1.2.1.1.2.1,[])
noncomputable def Zyv (k:Nat):=Zs7 k (ZwB k)
theorem ZFf (k:Nat):∀ n,Zyw k n = Zh (fun L1 => Zs8 k L1) n :=
 Zc (fun v => by kernel_rfl) (fun n v => by
  obtain ⟨v0,v1,v2,v3,v4,v5,v6,v7⟩:=v
  kernel_rfl)
theorem ZL4 (k:Nat) (x:Kd.dens QU):Zt (ZFe k) ZJ2 Tryz.f58 QU Ql x = Zyv k x:=by
 show _ = Zs7 k (ZwB k) x
 rw [show ZwB k = Zyw k k from (ZFf k k).symm]
 obtain ⟨⟨a0,⟨a1,⟨⟩⟩⟩,⟨a2,⟨a3,⟨⟩⟩⟩⟩:=x
 kernel_rfl
theorem ZJf (k:Nat):Ctr Tryz.prog k 58 (mk QU Ql Zyv) :=
 Zu (fn:=Tryz.f58) (Zd (Za (ZyY k) (Za (ZJs k) (Za (ZJt k) (Za (Zy1 k) Zb))))) (by kernel_rfl) (by kernel_rfl) (ZL4 k)
noncomputable abbrev ZNq:Nat × Callee:=(58,mk QU Ql Zyv)
def ZJ3:Nat → Ann:=fun id => bif Nat.beq id 5 then ⟨[4,3,0],[]⟩ else ⟨[],[]⟩
abbrev ZqJ:=Qy → Option (Int × (List Int × Int × Unit) × Unit)
def ZL5:Qy → St
 | (v0,v1,v2,v3) => St.mk (Zo [(4,Zg v0),(3,Zg v1),(0,AV.bx 0 0)]) (Zm [(0,Qe [AV.val (PV.sl (Ty.int IntKind.u8) v2),Zg v3])])
def Zta (k:Nat) (L1:ZqJ):ZqJ
 | (v0,v1,v2,v3) => bif decide (v0 < v1) then (Zod k ((v2,v3,()),v0,())).bind fun y => bif y.1 == 1 then some (2,(y.2.1.1,y.2.1.2.1,()),()) else L1 (IntKind.i64.wrap (v0 + 1),v1,y.2.1.1,y.2.1.2.1) else some (0,(v2,v1,()),())
def ZwD (k:Nat):ZqJ:=Zh (fun L1 => Zta k L1) k
noncomputable def Zyy (k:Nat) (n:Nat) (v:Qy) :=
 Zi (ZfM k) ZJ3 [0] [1,1,1,0,1,0] [] (Qh Tryz.f59) (Qi (ZfM k) Tryz.f59 Q5 Zf [AV.bx (nat_lit 0) (nat_lit 0)] [[]]) n (ZL5 v)
def Zs9 (k:Nat) (L1:ZqJ):(List Int × Int × Unit) × Unit → Option (Int × (List Int × Int × Unit) × Unit)
 | ((a0,a1,()),()) => L1 (a1,IntKind.i64.wrap (Int.ofNat (BitVec.ofInt 64 (IntKind.i64.wrap (a1 + 7)) &&& ~~~BitVec.ofInt 64 (7:Int)).toNat),a0,a1)
def Zyx (k:Nat):=Zs9 k (ZwD k)
theorem ZFg (k:Nat):∀ n,Zyy k n = Zh (fun L1 => Zta k L1) n :=
 Zc (fun v => by kernel_rfl) (fun n v => by
  obtain ⟨v0,v1,v2,v3⟩:=v
  kernel_rfl)
theorem ZL6 (k:Nat) (x:Kd.dens Q5):Zt (ZfM k) ZJ3 Tryz.f59 Q5 Zf x = Zyx k x:=by
 show _ = Zs9 k (ZwD k) x
 rw [show ZwD k = Zyy k k from (ZFg k k).symm]
 obtain ⟨⟨a0,⟨a1,⟨⟩⟩⟩,⟨⟩⟩:=x
 kernel_rfl
theorem ZJg (k:Nat):Ctr Tryz.prog k 59 (mk Q5 Zf Zyx) :=
 Zu (fn:=Tryz.f59) (Zd (Za (Zq5 k) Zb)) (by kernel_rfl) (by kernel_rfl) (ZL6 k)
noncomputable abbrev ZNr:Nat × Callee:=(59,mk Q5 Zf Zyx)
abbrev ZdL:List Kd:=[.box [.view (.sl (.int .u8)),.ref [.view (.sl (.int .u8)),.view (.int .i64)],.view (.int .i64)],.view (.int .i64),.fn 61]
noncomputable def ZGI (k:Nat):=Qq k [ZyA,ZyV,ZyW,ZJ1]
def Zir (k:Nat):(List Int × (List Int × Int × Unit) × Int × Unit) × Int × Unit × Unit → Option (Unit × (List Int × (List Int × Int × Unit) × Int × Unit) × Unit)
 | ((a0,(a1,a2,()),a3,()),a4,(),()) => (ZbB k ((a1,a2,()),())).bind fun y => (Ya k ((a0,(y.2.1.1,y.2.1.2.1,()),a3,()),a4,())).bind fun y_1 => bif y_1.2.1.2.2.1 != 0 then (WI k ((y_1.2.1.1,(y_1.2.1.2.1.1,y_1.2.1.2.1.2.1,()),y_1.2.1.2.2.1,()),true,16,())).bind fun y => some ((),(y.2.1.1,(y.2.1.2.1.1,y.2.1.2.1.2.1,()),y.2.1.2.2.1,()),()) else bif decide ((0:Int) ≤ 0 ∧ (0:Int) ≤ IntKind.i64.wrap (Int.tdiv y.1 (8:Int)) ∧ IntKind.i64.wrap (Int.tdiv y.1 (8:Int)) ≤ Int.ofNat (List.length y_1.2.1.1)) then (Zs3 k (List.drop 0 (List.take (IntKind.i64.wrap (Int.tdiv y.1 (8:Int))).toNat y_1.2.1.1),())).bind fun y => (WI k ((y_1.2.1.1,(y_1.2.1.2.1.1,y_1.2.1.2.1.2.1,()),y_1.2.1.2.2.1,()),y_1.1 == y.1,16,())).bind fun y => some ((),(y.2.1.1,(y.2.1.2.1.1,y.2.1.2.1.2.1,()),y.2.1.2.2.1,()),()) else none
def Zg4 (k:Nat):=Zir k
theorem ZCm (k:Nat) (x:Kd.dens ZdL):Zt (ZGI k) nA Tryz.f60 ZdL Z6 x = Zg4 k x:=by
 show _ = Zir k x
 obtain ⟨⟨a0,⟨⟨a1,⟨a2,⟨⟩⟩⟩,⟨a3,⟨⟩⟩⟩⟩,⟨a4,⟨⟨⟩,⟨⟩⟩⟩⟩:=x
 kernel_rfl
theorem ZzO (k:Nat):Ctr Tryz.prog k 60 (mk ZdL Z6 Zg4) :=
 Zu (fn:=Tryz.f60) (Zd (Za (Ze1 k) (Za (ZhZ k) (Za (Zh0 k) (Za (Zys k) Zb))))) (by kernel_rfl) (by kernel_rfl) (ZCm k)
noncomputable abbrev ZGJ:Nat × Callee:=(60,mk ZdL Z6 Zg4)
abbrev ZkS:List Kd:=[.view (.sl (.int .i64)),.view (.sl (.int .i64)),.view (.int .i64)]
noncomputable def ZFh (k:Nat):=Qq k [ZJ7,ZKm]
def ZJ4:Nat → Ann:=fun id => bif Nat.beq id 7 then ⟨[36,37,35,1,2,8,9],[]⟩ else ⟨[],[]⟩
abbrev ZwF:=Int × Int × List Int × List Int × Int × List Int × List Int
abbrev ZqL:=ZwF → Option ((List (Nat × Nat) × Int × Unit) × Unit)
def ZL8:ZwF → St
 | (v0,v1,v2,v3,v4,v5,v6) => St.mk (Zo [(36,Zg v0),(37,Zg v1),(35,WK v2),(1,WK v3),(2,Zg v4),(8,AV.own 8192),(9,AV.own 8193)]) (Zm [(8192,rsA v5 false),(8193,rsA v6 false)])
def Zte (k:Nat) (L1:ZqL):ZqL
 | (v0,v1,v2,v3,v4,v5,v6) => bif decide (v1 < v0) then bif decide (0 ≤ v1 ∧ v1 < Int.ofNat v2.length) then bif decide (0 ≤ v1 ∧ v1 < Int.ofNat v3.length) then bif decide ((if v3.getD v1.toNat 0 < v2.getD v1.toNat 0 then v3.getD v1.toNat 0 else v2.getD v1.toNat 0) < -67108864) then some (([],12,()),()) else bif decide ((67108864:Int) < if v2.getD v1.toNat 0 < v3.getD v1.toNat 0 then v3.getD v1.toNat 0 else v2.getD v1.toNat 0) then some (([],12,()),()) else bif v4 == 0 then bif decide (0 ≤ v1 ∧ v1 < Int.ofNat v5.length) then bif decide (v1.toNat < v5.length) then bif decide (0 ≤ v1 ∧ v1 < Int.ofNat v6.length) then bif decide (v1.toNat < v6.length) then L1 (v0,IntKind.i64.wrap (v1 + 1),v2,v3,v4,v5.set v1.toNat (v2.getD v1.toNat 0),v6.set v1.toNat (v3.getD v1.toNat 0)) else none else none else none else none else bif v4 == 8 then bif decide (0 ≤ v1 ∧ v1 < Int.ofNat v5.length) then bif decide (v1.toNat < v5.length) then bif decide (0 ≤ v1 ∧ v1 < Int.ofNat v6.length) then bif decide (v1.toNat < v6.length) then L1 (v0,IntKind.i64.wrap (v1 + 1),v2,v3,v4,v5.set v1.toNat (v2.getD v1.toNat 0),v6.set v1.toNat (IntKind.i64.wrap (v2.getD v1.toNat 0 - v3.getD v1.toNat 0))) else none else none else none else none else bif v4 == 9 then bif decide (0 ≤ v1 ∧ v1 < Int.ofNat v5.length) then bif decide (v1.toNat < v5.length) then bif decide (0 ≤ v1 ∧ v1 < Int.ofNat v6.length) then bif decide (v1.toNat < v6.length) then L1 (v0,IntKind.i64.wrap (v1 + 1),v2,v3,v4,v5.set v1.toNat (IntKind.i64.wrap (v2.getD v1.toNat 0 + v3.getD v1.toNat 0)),v6.set v1.toNat (v3.getD v1.toNat 0)) else none else none else none else none else bif v4 == 10 then bif decide (0 ≤ v1 ∧ v1 < Int.ofNat v5.length) then bif decide (v1.toNat < v5.length) then bif decide (0 ≤ v1 ∧ v1 < Int.ofNat v6.length) then bif decide (v1.toNat < v6.length) then L1 (v0,IntKind.i64.wrap (v1 + 1),v2,v3,v4,v5.set v1.toNat ((IntKind.i64.wrap (IntKind.i64.wrap (Int.ofNat (BitVec.ofInt 64 (IntKind.i64.wrap (v2.getD v1.toNat 0 * (2:Int))) ||| BitVec.ofInt 64 (IntKind.i64.wrap (Int.ofNat (BitVec.ofInt 64 (v3.getD v1.toNat 0) &&& BitVec.ofInt 64 (1:Int)).toNat))).toNat) + v3.getD v1.toNat 0)).fdiv (2:Int)),v6.set v1.toNat ((IntKind.i64.wrap (IntKind.i64.wrap (Int.ofNat (BitVec.ofInt 64 (IntKind.i64.wrap (v2.getD v1.toNat 0 * (2:Int))) ||| BitVec.ofInt 64 (IntKind.i64.wrap (Int.ofNat (BitVec.ofInt 64 (v3.getD v1.toNat 0) &&& BitVec.ofInt 64 (1:Int)).toNat))).toNat) - v3.getD v1.toNat 0)).fdiv (2:Int))) else none else none else none else none else L1 (v0,IntKind.i64.wrap (v1 + 1),v2,v3,v4,v5,v6) else none else none else (Ztk k (v5,v6,())).bind fun y => some ((y.1.1,y.1.2.1,()),())
def ZwE (k:Nat):ZqL:=Zh (fun L1 => Zte k L1) k
noncomputable def Zyz (k:Nat) (n:Nat) (v:ZwF) :=
 Zi (ZFh k) ZJ4 [] [1,1,1,0,1,0] [] (Qh Tryz.f62) (Qi (ZFh k) Tryz.f62 ZkS ZbC [] []) n (ZL8 v)
def Ztd (k:Nat) (L1:ZqL):List Int × List Int × Int × Unit → Option ((List (Nat × Nat) × Int × Unit) × Unit)
 | (a0,a1,a2,()) => (Zt1 k (a2,())).bind fun y => bif !y.1 then some (([],1,()),()) else bif Int.ofNat a0.length != Int.ofNat a1.length then some (([],1,()),()) else bif decide ((8192:Int) < Int.ofNat a0.length) then some (([],14,()),()) else bif decide ((0:Int) ≤ Int.ofNat a0.length ∧ Int.ofNat a0.length ≤ Int.ofNat a0.length ∧ Int.ofNat a0.length < (4294967296:Int)) then bif decide ((0:Int) ≤ Int.ofNat a0.length ∧ Int.ofNat a0.length ≤ Int.ofNat a0.length ∧ Int.ofNat a0.length < (4294967296:Int)) then L1 (Int.ofNat a0.length,(0:Int),a0,a1,a2,List.replicate (Int.ofNat a0.length).toNat (0:Int),List.replicate (Int.ofNat a0.length).toNat (0:Int)) else none else none
def Ztc (k:Nat):=Ztd k (ZwE k)
theorem ZFi (k:Nat):∀ n,Zyz k n = Zh (fun L1 => Zte k L1) n :=
 Zc (fun v => by kernel_rfl) (fun n v => by
  obtain ⟨v0,v1,v2,v3,v4,v5,v6⟩:=v
  kernel_rfl)
theorem ZL9 (k:Nat) (x:Kd.dens ZkS):Zt (ZFh k) ZJ4 Tryz.f62 ZkS ZbC x = Ztc k x:=by
 show _ = Ztd k (ZwE k) x
 rw [show ZwE k = Zyz k k from (ZFi k k).symm]
 obtain ⟨a0,⟨a1,⟨a2,⟨⟩⟩⟩⟩:=x
 kernel_rfl
theorem ZJi (k:Nat):Ctr Tryz.prog k 62 (mk ZkS ZbC Ztc) :=
 Zu (fn:=Tryz.f62) (Zd (Za (ZyE k) (Za (Zy2 k) Zb))) (by kernel_rfl) (by kernel_rfl) (ZL9 k)
noncomputable abbrev ZNu:Nat × Callee:=(62,mk ZkS ZbC Ztc)
noncomputable def ZNv (k:Nat):=Qq k [ZFp]
def Ztg (k:Nat):List (Nat × Nat) × Unit → Option ((List Int × List Int × Int × Unit) × Unit)
 | (a0,()) => (Zoa k (a0,0,())).bind fun y => some ((y.1.1,y.1.2.1,y.1.2.2.1,()),())
def Ztf (k:Nat):=Ztg k
theorem ZMa (k:Nat) (x:Kd.dens QT):Zt (ZNv k) nA Tryz.f63 QT Zdh x = Ztf k x:=by
 show _ = Ztg k x
 obtain ⟨a0,⟨⟩⟩:=x
 kernel_rfl
theorem ZJj (k:Nat):Ctr Tryz.prog k 63 (mk QT Zdh Ztf) :=
 Zu (fn:=Tryz.f63) (Zd (Za (ZqQ k) Zb)) (by kernel_rfl) (by kernel_rfl) (ZMa k)
noncomputable abbrev ZNw:Nat × Callee:=(63,mk QT Zdh Ztf)
abbrev ZiX:List Kd:=[.view Zgn,.view (.sl (.int .u8))]
abbrev Zqi:Kd:=.tup [.view Zf4,.view (.int .i64),.view (.int .i64)]
noncomputable def ZDt (k:Nat):=Qq k [ZxK,ZJV,ZJ0,ZNn,ZNp,ZNq,ZNr,ZGJ,ZNu,ZNw,ZyA]
def ZJT:Nat → Ann:=fun id => bif Nat.beq id 10 then ⟨[55,56,54,8,11,4,12,2,9],[.cell 12 1 ((Ty.int IntKind.i64).sl)]⟩ else ⟨[],[]⟩
abbrev Zvn:=Int × Int × List Int × Int × Int × List Int × Int × List Int × Int × Int × Int × List (List Int) × Int × Int × Int
abbrev Zqh:=Zvn → Option (((Int × List (List Int) × Unit) × Int × Int × Unit) × Unit)
def ZLA:Zvn → St
 | (v0,v1,v2,v3,v4,v5,v6,v7,v8,v9,v10,v11,v12,v13,v14) => St.mk (Zo [(55,Zg v0),(56,Zg v1),(54,WK v2),(8,AV.bx 8192 0),(11,Zg v3),(4,AV.bx 8194 0),(12,AV.bx 8195 0),(2,AV.bx 8197 0),(9,Zg v4)]) (Zm [(8192,Qe [AV.val (PV.sl (Ty.int IntKind.u8) v5),AV.bx 8193 0,Zg v6]),(8193,Qe [AV.val (PV.sl (Ty.int IntKind.u8) v7),Zg v8]),(8194,Qe [Zg v9,AV.val (PV.v (Value.slice none (0:Nat) (0:Nat)))]),(8195,Qe [Zg v10,AV.own 8196]),(8196,RS.live (Res.arr (Ty.int IntKind.i64).sl v11 false)),(8197,Qe [Zg v12,Zg v13,Zg v14])])
noncomputable def ZsC (k:Nat) (L1:Zqh):Zqh
 | (v0,v1,v2,v3,v4,v5,v6,v7,v8,v9,v10,v11,v12,v13,v14) => bif decide (v1 < v0) then bif decide (0 ≤ v1 ∧ v1 < Int.ofNat v2.length) then (Zyv k ((v7,v8,()),v3,v2.getD v1.toNat 0,())).bind fun y => bif y.1.2.1 != 0 then some ((((0:Int),[],()),0,y.1.2.1,()),()) else bif decide (v11.length + [y.1.1].length < 2147483648) then L1 (v0,IntKind.i64.wrap (v1 + 1),v2,v3,v4,v5,v6,y.2.1.1,y.2.1.2.1,v9,v10,v11 ++ [y.1.1],v12,v13,v14) else none else none else (Zyx k ((v7,v8,()),())).bind fun y => (Zg4 k ((v5,(y.2.1.1,y.2.1.2.1,()),y.1,()),16,(),())).bind fun y => bif y.2.1.2.2.1 != 0 then some ((((0:Int),[],()),0,y.2.1.2.2.1,()),()) else bif decide ((1:Int) < v12) then bif v4 == 1 then bif decide ((0:Int) ≤ 0 ∧ (0:Int) < Int.ofNat v11.length) then bif decide ((0:Nat) < v11.length) then bif decide ((0:Int) ≤ 1 ∧ (1:Int) < Int.ofNat v11.length) then bif decide ((1:Nat) < v11.length) then (Ztc k (v11.getD 0 [],v11.getD 1 [],0,())).bind fun y_1 => bif y_1.1.2.1 != 0 then some ((((0:Int),[],()),0,y_1.1.2.1,()),()) else (Ztf k (y_1.1.1,())).bind fun y_2 => bif y_2.1.2.2.1 != 0 then some ((((0:Int),[],()),0,y_2.1.2.2.1,()),()) else (ZkO k ((v12,v13,v14,()),(v10,[y_2.1.1,y_2.1.2.1],()),())).bind fun y_3 => bif y_3.1 != 0 then some ((((0:Int),[],()),0,y_3.1,()),()) else (ZbB k ((y.2.1.2.1.1,y.2.1.2.1.2.1,()),())).bind fun y => some (((v10,[y_2.1.1,y_2.1.2.1],()),IntKind.i64.wrap (Int.tdiv y.1 (8:Int)),0,()),()) else none else none else none else none else bif decide ((0:Int) ≤ 0 ∧ (0:Int) < Int.ofNat v11.length) then bif decide ((0:Nat) < v11.length) then bif decide ((0:Int) ≤ 1 ∧ (1:Int) < Int.ofNat v11.length) then bif decide ((1:Nat) < v11.length) then (Ztc k (v11.getD 0 [],v11.getD 1 [],v4,())).bind fun y_1 => bif y_1.1.2.1 != 0 then some ((((0:Int),[],()),0,y_1.1.2.1,()),()) else (Ztf k (y_1.1.1,())).bind fun y_2 => bif y_2.1.2.2.1 != 0 then some ((((0:Int),[],()),0,y_2.1.2.2.1,()),()) else (ZkO k ((v12,v13,v14,()),(v10,[y_2.1.1,y_2.1.2.1],()),())).bind fun y_3 => bif y_3.1 != 0 then some ((((0:Int),[],()),0,y_3.1,()),()) else (ZbB k ((y.2.1.2.1.1,y.2.1.2.1.2.1,()),())).bind fun y => some (((v10,[y_2.1.1,y_2.1.2.1],()),IntKind.i64.wrap (Int.tdiv y.1 (8:Int)),0,()),()) else none else none else none else none else (ZkO k ((v12,v13,v14,()),(v10,v11,()),())).bind fun y_1 => bif y_1.1 != 0 then some ((((0:Int),[],()),0,y_1.1,()),()) else (ZbB k ((y.2.1.2.1.1,y.2.1.2.1.2.1,()),())).bind fun y => some (((v10,v11,()),IntKind.i64.wrap (Int.tdiv y.1 (8:Int)),0,()),())
noncomputable def Zvm (k:Nat):Zqh:=Zh (fun L1 => ZsC k L1) k
noncomputable def ZxP (k:Nat) (n:Nat) (v:Zvn) :=
 Zi (ZDt k) ZJT [] [1,1,1,1,1,1,0,1,0] [] (Qh Tryz.f27) (Qi (ZDt k) Tryz.f27 ZiX Zqi [] []) n (ZLA v)
def ZsB (k:Nat) (L1:Zqh):(Int × Int × Int × Unit) × List Int × Unit → Option (((Int × List (List Int) × Unit) × Int × Int × Unit) × Unit)
 | ((a0,a1,a2,()),a3,()) => (ZgA k ((a0,a1,a2,()),())).bind fun y => bif y.1 != 0 then some ((((0:Int),[],()),0,y.1,()),()) else (Zn9 k (a3,())).bind fun y => (Zyu k ((a3,(y.1.1,y.1.2.1,()),0,()),(a0,a1,a2,()),())).bind fun y => bif y.2.1.2.2.1 != 0 then some ((((0:Int),[],()),0,y.2.1.2.2.1,()),()) else (ZsZ k ((a0,a1,a2,()),y.1.1,())).bind fun y_1 => L1 (Int.ofNat (List.length y_1.1),(0:Int),y_1.1,y.1.2.2.1,y.1.1,y.2.1.1,y.2.1.2.2.1,y.2.1.2.1.1,y.2.1.2.1.2.1,(0:Int),y.1.2.1,[],a0,a1,a2)
noncomputable def ZxO (k:Nat):=ZsB k (Zvm k)
theorem ZDu (k:Nat):∀ n,ZxP k n = Zh (fun L1 => ZsC k L1) n :=
 Zc (fun v => by kernel_rfl) (fun n v => by
  obtain ⟨v0,v1,v2,v3,v4,v5,v6,v7,v8,v9,v10,v11,v12,v13,v14⟩:=v
  kernel_rfl)
theorem ZLB (k:Nat) (x:Kd.dens ZiX):Zt (ZDt k) ZJT Tryz.f27 ZiX Zqi x = ZxO k x:=by
 show _ = ZsB k (Zvm k) x
 rw [show Zvm k = ZxP k k from (ZDu k k).symm]
 obtain ⟨⟨a0,⟨a1,⟨a2,⟨⟩⟩⟩⟩,⟨a3,⟨⟩⟩⟩:=x
 kernel_rfl
theorem ZH3 (k:Nat):Ctr Tryz.prog k 27 (mk ZiX Zqi ZxO) :=
 Zu (fn:=Tryz.f27) (Zd (Za (Zhi k) (Za (Zyi k) (Za (Zyp k) (Za (Zyt k) (Za (ZJe k) (Za (ZJf k) (Za (ZJg k) (Za (ZzO k) (Za (ZJi k) (Za (ZJj k) (Za (Ze1 k) Zb)))))))))))) (by kernel_rfl) (by kernel_rfl) (ZLB k)
noncomputable abbrev ZNc:Nat × Callee:=(27,mk ZiX Zqi ZxO)
def ZJ5:Nat → Ann:=fun id => bif Nat.beq id 4 then ⟨[5,0,1],[]⟩ else ⟨[],[]⟩
abbrev ZwH:=Int × List Int × List Int
abbrev ZqM:=ZwH → Option (Bool × Unit)
def ZMc:ZwH → St
 | (v0,v1,v2) => St.mk (Zo [(5,Zg v0),(0,WK v1),(1,WK v2)]) (Zm [])
def Ztj (k:Nat) (L1:ZqM):ZqM
 | (v0,v1,v2) => bif decide (v0 < Int.ofNat v1.length) then bif decide (0 ≤ v0 ∧ v0 < Int.ofNat v1.length) then bif decide (0 ≤ v0 ∧ v0 < Int.ofNat v2.length) then bif v1.getD v0.toNat 0 != v2.getD v0.toNat 0 then some (false,()) else L1 (IntKind.i64.wrap (v0 + 1),v1,v2) else none else none else some (true,())
def ZwG (k:Nat):ZqM:=Zh (fun L1 => Ztj k L1) k
noncomputable def ZyC (k:Nat) (n:Nat) (v:ZwH) :=
 Zi (ZK k) ZJ5 [] [1,1,0,1,0] [] (Qh Tryz.f117) (Qi (ZK k) Tryz.f117 Kn Zv [] []) n (ZMc v)
def Zti (k:Nat) (L1:ZqM):List Int × List Int × Unit → Option (Bool × Unit)
 | (a0,a1,()) => bif Int.ofNat a0.length != Int.ofNat a1.length then some (false,()) else L1 (0,a0,a1)
def ZyB (k:Nat):=Zti k (ZwG k)
theorem ZFj (k:Nat):∀ n,ZyC k n = Zh (fun L1 => Ztj k L1) n :=
 Zc (fun v => by kernel_rfl) (fun n v => by
  obtain ⟨v0,v1,v2⟩:=v
  kernel_rfl)
theorem ZMd (k:Nat) (x:Kd.dens Kn):Zt (ZK k) ZJ5 Tryz.f117 Kn Zv x = ZyB k x:=by
 show _ = Zti k (ZwG k) x
 rw [show ZwG k = ZyC k k from (ZFj k k).symm]
 obtain ⟨a0,⟨a1,⟨⟩⟩⟩:=x
 kernel_rfl
theorem ZJk (k:Nat):Ctr Tryz.prog k 117 (mk Kn Zv ZyB) :=
 Zu (fn:=Tryz.f117) (Zd Zb) (by kernel_rfl) (by kernel_rfl) (ZMd k)
noncomputable abbrev ZNx:Nat × Callee:=(117,mk Kn Zv ZyB)
abbrev ZfX:List Kd:=[.view Zf4,.view Zf4]
noncomputable def ZEQ (k:Nat):=Qq k [ZNx]
def ZJU:Nat → Ann:=fun id => bif Nat.beq id 4 then ⟨[5,2,3],[]⟩ else ⟨[],[]⟩
abbrev Zwi:=Int × Int × List (List Int) × Int × List (List Int)
abbrev Zqy:=Zwi → Option (Bool × Unit)
def ZLI:Zwi → St
 | (v0,v1,v2,v3,v4) => St.mk (Zo [(5,Zg v0),(2,AV.bx 8192 0),(3,AV.bx 8193 0)]) (Zm [(8192,Qe [Zg v1,AV.val (PV.sl (Ty.int IntKind.i64).sl v2)]),(8193,Qe [Zg v3,AV.val (PV.sl (Ty.int IntKind.i64).sl v4)])])
def ZsJ (k:Nat) (L1:Zqy):Zqy
 | (v0,v1,v2,v3,v4) => bif decide (v0 < Int.ofNat v2.length) then bif decide (0 ≤ v0 ∧ v0 < Int.ofNat v2.length) then bif decide (0 ≤ v0 ∧ v0 < Int.ofNat v4.length) then (ZyB k (v2.getD v0.toNat [],v4.getD v0.toNat [],())).bind fun y => bif !y.1 then some (false,()) else L1 (IntKind.i64.wrap (v0 + 1),v1,v2,v3,v4) else none else none else some (true,())
def Zwh (k:Nat):Zqy:=Zh (fun L1 => ZsJ k L1) k
noncomputable def Zya (k:Nat) (n:Nat) (v:Zwi) :=
 Zi (ZEQ k) ZJU [] [1,1,0,1,0] [] (Qh Tryz.f55) (Qi (ZEQ k) Tryz.f55 ZfX Zv [] []) n (ZLI v)
def ZsI (k:Nat) (L1:Zqy):(Int × List (List Int) × Unit) × (Int × List (List Int) × Unit) × Unit → Option (Bool × Unit)
 | ((a0,a1,()),(a2,a3,()),()) => bif a0 != a2 then some (false,()) else bif Int.ofNat a1.length != Int.ofNat a3.length then some (false,()) else L1 (0,a0,a1,a2,a3)
def ZsH (k:Nat):=ZsI k (Zwh k)
theorem ZER (k:Nat):∀ n,Zya k n = Zh (fun L1 => ZsJ k L1) n :=
 Zc (fun v => by kernel_rfl) (fun n v => by
  obtain ⟨v0,v1,v2,v3,v4⟩:=v
  kernel_rfl)
theorem ZLJ (k:Nat) (x:Kd.dens ZfX):Zt (ZEQ k) ZJU Tryz.f55 ZfX Zv x = ZsH k x:=by
 show _ = ZsI k (Zwh k) x
 rw [show Zwh k = Zya k k from (ZER k k).symm]
 obtain ⟨⟨a0,⟨a1,⟨⟩⟩⟩,⟨⟨a2,⟨a3,⟨⟩⟩⟩,⟨⟩⟩⟩:=x
 kernel_rfl
theorem ZIX (k:Nat):Ctr Tryz.prog k 55 (mk ZfX Zv ZsH) :=
 Zu (fn:=Tryz.f55) (Zd (Za (ZJk k) Zb)) (by kernel_rfl) (by kernel_rfl) (ZLJ k)
noncomputable abbrev ZOh:Nat × Callee:=(55,mk ZfX Zv ZsH)
def ZdR (k:Nat):(Int × Int × Int × Unit) × Unit → Option (Bool × Unit)
 | ((a0,a1,a2,()),()) => bif a0 == 1 then bif decide (4 ≤ a1) then bif decide (a1 ≤ 24) then bif decide (1 ≤ a2) then some (decide (a2 ≤ 655350),()) else some (false,()) else some (false,()) else some (false,()) else bif a0 == 2 then bif decide (4 ≤ a1) then bif decide (a1 ≤ 24) then bif decide (1 ≤ a2) then some (decide (a2 ≤ 655350),()) else some (false,()) else some (false,()) else some (false,()) else some (false,())
def ZmJ (k:Nat):=ZdR k
theorem ZKV (k:Nat) (x:Kd.dens K6):Zt (ZK k) nA Tryz.f32 K6 Zv x = ZmJ k x:=by
 show _ = ZdR k x
 obtain ⟨⟨a0,⟨a1,⟨a2,⟨⟩⟩⟩⟩,⟨⟩⟩:=x
 kernel_rfl
theorem ZHf (k:Nat):Ctr Tryz.prog k 32 (mk K6 Zv ZmJ) :=
 Zu (fn:=Tryz.f32) (Zd Zb) (by kernel_rfl) (by kernel_rfl) (ZKV k)
noncomputable abbrev ZOf:Nat × Callee:=(32,mk K6 Zv ZmJ)
def ZeZ (k:Nat):Int × Int × Unit → Option (Bool × Unit)
 | (a0,a1,()) => bif a1 == 0 then some (a0 == 0,()) else bif decide (0 ≤ IntKind.i64.wrap (a1 - 1)) then bif decide (IntKind.i64.wrap ((0:Int) - IntKind.i64.wrap ((1:Int) * (2:Int) ^ min (IntKind.i64.wrap (a1 - 1)).toNat 64)) ≤ a0) then bif decide (0 ≤ IntKind.i64.wrap (a1 - 1)) then some (decide (a0 < IntKind.i64.wrap ((1:Int) * (2:Int) ^ min (IntKind.i64.wrap (a1 - 1)).toNat 64)),()) else none else some (false,()) else none
def Zn7 (k:Nat):=ZeZ k
theorem ZLK (k:Nat) (x:Kd.dens Wv):Zt (ZK k) nA Tryz.f33 Wv Zv x = Zn7 k x:=by
 show _ = ZeZ k x
 obtain ⟨a0,⟨a1,⟨⟩⟩⟩:=x
 kernel_rfl
theorem ZI9 (k:Nat):Ctr Tryz.prog k 33 (mk Wv Zv Zn7) :=
 Zu (fn:=Tryz.f33) (Zd Zb) (by kernel_rfl) (by kernel_rfl) (ZLK k)
noncomputable abbrev ZOi:Nat × Callee:=(33,mk Wv Zv Zn7)
end Go.Sh
