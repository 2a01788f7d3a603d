/-
  What the row needs, part 8.
-/
import Derived.Test.YtmeahimfdhdggaaGreatDoorXFrameWrites7
import Derived.Test.YtmeahimfdhdggaaGreatDoorProg
set_option linter.unusedSimpArgs false
set_option linter.unusedVariables false
set_option linter.unusedSectionVars false
namespace Go.Sh
open Go Go.Proofs
def deBruijnT:List Int:=[0,1,56,2,57,49,28,3,61,58,42,50,38,29,17,4,62,47,59,36,45,43,51,22,53,39,33,30,24,18,12,5,63,55,48,27,60,41,37,16,46,35,44,21,52,32,23,11,54,26,40,15,34,20,31,10,25,14,19,9,13,8,7,6]
instance frameGl:Gl:=⟨fun g => bif Nat.beq g 1 then (.u8,deBruijnT) else (.u8,[])⟩
abbrev shapeT:Ty:=.pair (.int .i64) (.pair (.int .i64) (.pair (.int .i64) .unit))
abbrev frameT:Ty:=.pair (.int .i64) (.pair (.sl (.sl (.int .i64))) .unit)
abbrev ZQo:Ty:=.pair (.sl (.int .i64)) (.pair (.sl (.int .i64)) .unit)
abbrev Zdo:Ty:=.pair (.sl (.int .i64)) (.pair (.int .i64) .unit)
abbrev ZwD:Ty:=.pair (.int .i64) (.pair (.int .i64) (.pair (.int .i64) (.pair (.sl (.int .i64)) (.pair Zdo (.pair (.sl (.int .i64)) (.pair (.int .i64) .unit))))))
abbrev ZPC:Ty:=.pair (.int .i64) (.pair .str (.pair (.int .i64) .unit))
abbrev ZLF:Ty:=.pair (.int .i64) (.pair (.int .i64) (.pair (.int .i64) .unit))
abbrev ZTV:Ty:=.pair (.int .i64) (.pair (.int .i64) (.pair (.sl ZLF) (.pair (.int .i64) .unit)))
theorem ZhT:Tryz.prog.follows .mixedOrders = true:=by kernel_rfl
abbrev Zp (v:Int):AV:=AV.val (PV.v (Value.int IntKind.i64 v))
abbrev WM (v:List Int):AV:=AV.val (PV.sl (Ty.int IntKind.i64) v)
abbrev avB (v:Bool):AV:=AV.val (PV.v (Value.bool v))
noncomputable abbrev Q4 (f:Func):Code:=f.body.getD .skip
noncomputable def Wc (k:Nat) (l:List (Nat × Callee)) (live:Nat → List Nat:=fun _ => []):Ctx:={ P:=Tryz.prog,Φ:=phi l,k:=k,live:=live }
def nA:Nat → Ann:=fun _ => ⟨[],[]⟩
noncomputable abbrev ZF (C:Ctx) (A:Nat → Ann) (fn:Func) (pk:List Kd) (rk:Kd) (x:Kd.dens pk):=ZCb C A fn.ntmps (Q4 fn) fn.results.toList pk rk (XE pk x) (ZHg pk rk)
noncomputable abbrev Q8 (C:Ctx) (fn:Func) (pk:List Kd) (rk:Kd) (a:List AV) (b:List (List Nat)):=Ka C fn.results.toList pk a b rk (ZHg pk rk)
noncomputable def ZVA (fn:Func):Bool:=fn.body.isSome && (!(fn.name == "runtime.NumGoroutine") && Yb Tryz.prog fn.ntmps (Q4 fn))
abbrev Wh (l:List AV):RS:=RS.live (Res.box l)
abbrev rsA (v:List Int) (b:Bool):RS:=RS.live (Res.arr (Ty.int IntKind.i64) v b)
theorem ZG {l:List (Nat × Callee)} {live:Nat → List Nat} {A:Nat → Ann} {f k:Nat} {fn:Func} {pk:List Kd} {rk:Kd} {F:Nat → Kd.dens pk → Option (Ans pk rk)} (hC:∀ f cal,phi l f = some cal → Ctr Tryz.prog k f cal)
  (hf:Tryz.prog.funcs[f]? = some fn) (hq:ZVA fn = true)
  (h:∀ x,ZF (Wc k l live) A fn pk rk x = F k x):Ctr Tryz.prog k f (mk pk rk F) :=
 have hq1:(fn.body.isSome && (!(fn.name == "runtime.NumGoroutine") && Yb Tryz.prog fn.ntmps (Q4 fn))) = true:=hq
 have hq2:=Bool.and_eq_true_iff.1 hq1
 have hq3:=Bool.and_eq_true_iff.1 hq2.2
 have hb:fn.body = some (Q4 fn):=by
  cases e:fn.body with
  | none => rw [e] at hq2; exact absurd hq2.1 (by simp)
  | some c => show some c = some (fn.body.getD .skip); rw [e]; rfl
 ZO4 (C:=Wc k l live) hC ZhT hf hb (by simpa using hq3.1) hq3.2 (fun x y e => (h x).trans e)
abbrev Zd5:List Kd:=[.view shapeT]
abbrev Ze:Kd:=.view (.int .i64)
noncomputable def ZJ (k:Nat):=Wc k []
def Ziu (k:Nat):(Int × Int × Int × Unit) × Unit → Option (Int × Unit)
 | ((a0,a1,a2,()),()) => bif decide (a0 < 1) then some (2,()) else bif decide ((2:Int) < a0) then some (2,()) else bif decide (a1 < 4) then some (2,()) else bif decide ((24:Int) < a1) then some (2,()) else bif decide (a2 < 1) then some (2,()) else bif decide ((655350:Int) < a2) then some (2,()) else some (0,())
def ZoG (k:Nat):=Ziu k
theorem ZQT (k:Nat) (x:Kd.dens Zd5):ZF (ZJ k) nA Tryz.f11 Zd5 Ze x = ZoG k x:=by
 show _ = Ziu k x
 obtain ⟨⟨a0,⟨a1,⟨a2,⟨⟩⟩⟩⟩,⟨⟩⟩:=x
 kernel_rfl
theorem Zue (k:Nat):Ctr Tryz.prog k 11 (mk Zd5 Ze ZoG) :=
 ZG (fn:=Tryz.f11) (Zh Zc) (by kernel_rfl) (by kernel_rfl) (ZQT k)
noncomputable abbrev ZHQ:Nat × Callee:=(11,mk Zd5 Ze ZoG)
abbrev QY:List Kd:=[.view shapeT,.view frameT]
noncomputable def Zpw (k:Nat):=Wc k [ZHQ]
def ZCF:Nat → Ann:=fun id => bif Nat.beq id 17 then ⟨[68,69,67,2,63,62,61],[]⟩ else bif Nat.beq id 14 then ⟨[62,63,61,2],[]⟩ else bif Nat.beq id 8 then ⟨[42,43,41,6,3,2],[]⟩ else ⟨[],[]⟩
abbrev ZBf:=Int × Int × List Int × Int × Int × List (List Int) × Int × Int × Int
abbrev ZuX:=ZBf → Option (Int × Unit)
abbrev ZBe:=Int × Int × List (List Int) × Int × Int × Int
abbrev Zld:=ZBe → Option (Int × Unit)
abbrev ZBd:=Int × Int × List (List Int) × Int × Int × List (List Int) × Int × Int × Int
abbrev ZuW:=ZBd → Option (Int × Unit)
def ZR6:ZBf → St
 | (v0,v1,v2,v3,v4,v5,v6,v7,v8) => St.mk (Zy [(68,Zp v0),(69,Zp v1),(67,WM v2),(2,AV.bx 8192 0),(63,Zp v3),(62,Zp v4),(61,AV.val (PV.sl (Ty.int IntKind.i64).sl v5))]) (Zx [(8192,Wh [Zp v6,Zp v7,Zp v8])])
def Zcr (k:Nat) (L2:Zld) (L3:ZuX):ZuX
 | (v0,v1,v2,v3,v4,v5,v6,v7,v8) => bif decide (v1 < v0) then bif decide (0 ≤ v1 ∧ v1 < Int.ofNat v2.length) then bif decide (0 ≤ IntKind.i64.wrap (v7 - 1)) then bif Int.fdiv (v2.getD v1.toNat 0) ((2:Int) ^ min (IntKind.i64.wrap (v7 - 1)).toNat 64) != (0:Int) then bif Int.fdiv (v2.getD v1.toNat 0) ((2:Int) ^ min (IntKind.i64.wrap (v7 - 1)).toNat 64) != (-1:Int) then some (12,()) else L3 (v0,IntKind.i64.wrap (v1 + 1),v2,v3,v4,v5,v6,v7,v8) else L3 (v0,IntKind.i64.wrap (v1 + 1),v2,v3,v4,v5,v6,v7,v8) else none else none else L2 (v4,IntKind.i64.wrap (v3 + 1),v5,v6,v7,v8)
def Zpy (k:Nat) (L2:Zld):ZuX:=Zm (fun L3 => Zcr k L2 L3) k
noncomputable def ZnH (k:Nat) (n2:Nat) (n:Nat) (v:ZBf):Option (Int × Unit) :=
 Zt (Zpw k) ZCF [] [1,1,1,1,1,0,1,0,0,1,1,0,0,1,1,0] [n2] (Q4 Tryz.f23) (Q8 (Zpw k) Tryz.f23 QY Ze [] []) n (ZR6 v)
def ZR5:ZBe → St
 | (v0,v1,v2,v3,v4,v5) => St.mk (Zy [(62,Zp v0),(63,Zp v1),(61,AV.val (PV.sl (Ty.int IntKind.i64).sl v2)),(2,AV.bx 8192 0)]) (Zx [(8192,Wh [Zp v3,Zp v4,Zp v5])])
def Zcq (k:Nat) (L3:ZuX) (L2:Zld):Zld
 | (v0,v1,v2,v3,v4,v5) => bif decide (v1 < v0) then bif decide (0 ≤ v1 ∧ v1 < Int.ofNat v2.length) then L3 (Int.ofNat (List.length (v2.getD v1.toNat [])),(0:Int),v2.getD v1.toNat [],v1,v0,v2,v3,v4,v5) else none else some (0,())
def Zek (k:Nat):Zld:=Zm (fun L2 => Zcq k (Zpy k L2) L2) k
noncomputable def ZiP (k:Nat) (n:Nat) (v:ZBe) :=
 Zt (Zpw k) ZCF [] [1,1,1,1,1,0,1,0] [] (Q4 Tryz.f23) (Q8 (Zpw k) Tryz.f23 QY Ze [] []) n (ZR5 v)
def ZR4:ZBd → St
 | (v0,v1,v2,v3,v4,v5,v6,v7,v8) => St.mk (Zy [(42,Zp v0),(43,Zp v1),(41,AV.val (PV.sl (Ty.int IntKind.i64).sl v2)),(6,Zp v3),(3,AV.bx 8192 0),(2,AV.bx 8193 0)]) (Zx [(8192,Wh [Zp v4,AV.val (PV.sl (Ty.int IntKind.i64).sl v5)]),(8193,Wh [Zp v6,Zp v7,Zp v8])])
def Zcp (k:Nat) (L2:Zld) (L1:ZuW):ZuW
 | (v0,v1,v2,v3,v4,v5,v6,v7,v8) => bif decide (v1 < v0) then bif decide (0 ≤ v1 ∧ v1 < Int.ofNat v2.length) then bif Int.ofNat (List.length (v2.getD v1.toNat [])) != v3 then some (1,()) else bif decide (v3 < 1) then some (1,()) else bif decide ((512:Int) < v3) then some (1,()) else L1 (v0,IntKind.i64.wrap (v1 + 1),v2,v3,v4,v5,v6,v7,v8) else none else L2 (Int.ofNat v5.length,(0:Int),v5,v6,v7,v8)
def Zpx (k:Nat):ZuW:=Zm (fun L1 => Zcp k (Zek k) L1) k
noncomputable def ZCG (k:Nat) (n:Nat) (v:ZBd) :=
 Zt (Zpw k) ZCF [] [1,1,1,1,0,1,0] [] (Q4 Tryz.f23) (Q8 (Zpw k) Tryz.f23 QY Ze [] []) n (ZR4 v)
def ZiQ (k:Nat) (L1:ZuW):(Int × Int × Int × Unit) × (Int × List (List Int) × Unit) × Unit → Option (Int × Unit)
 | ((a0,a1,a2,()),(a3,a4,()),()) => (ZoG k ((a0,a1,a2,()),())).bind fun y => bif y.1 != 0 then some (y.1,()) else bif decide (a3 < 0) then some (1,()) else bif decide ((2147483647:Int) < a3) then some (1,()) else bif Int.ofNat a4.length != a0 then some (1,()) else bif decide ((0:Int) ≤ 0 ∧ (0:Int) < Int.ofNat a4.length) then L1 (Int.ofNat a4.length,(0:Int),a4,Int.ofNat (List.length (a4.getD 0 [])),a3,a4,a0,a1,a2) else none
def ZgV (k:Nat):=ZiQ k (Zpx k)
theorem ZJA (k:Nat) (n2:Nat):∀ n,ZnH k n2 n = Zm (fun L3 => Zcr k (ZiP k n2) L3) n :=
 Zk (fun v => by kernel_rfl) (fun n v => by
  show ZnH k n2 (n + 1) v = Zcr k (ZiP k n2) (ZnH k n2 n) v
  obtain ⟨v0,v1,v2,v3,v4,v5,v6,v7,v8⟩:=v
  kernel_rfl)
theorem ZJz (k:Nat):∀ n,ZiP k n = Zm (fun L2 => Zcq k (Zpy k L2) L2) n :=
 Zk (fun v => by kernel_rfl) (fun n v => by
  rw [show (Zpy k (ZiP k n)) = ZnH k n k from (ZJA k n k).symm]
  obtain ⟨v0,v1,v2,v3,v4,v5⟩:=v
  kernel_rfl)
theorem ZJy (k:Nat):∀ n,ZCG k n = Zm (fun L1 => Zcp k (Zek k) L1) n :=
 Zk (fun v => by kernel_rfl) (fun n v => by
  rw [show (Zek k) = ZiP k k from (ZJz k k).symm]
  obtain ⟨v0,v1,v2,v3,v4,v5,v6,v7,v8⟩:=v
  kernel_rfl)
theorem ZR7 (k:Nat) (x:Kd.dens QY):ZF (Zpw k) ZCF Tryz.f23 QY Ze x = ZgV k x:=by
 show _ = ZiQ k (Zpx k) x
 rw [show Zpx k = ZCG k k from (ZJy k k).symm]
 obtain ⟨⟨a0,⟨a1,⟨a2,⟨⟩⟩⟩⟩,⟨⟨a3,⟨a4,⟨⟩⟩⟩,⟨⟩⟩⟩:=x
 kernel_rfl
theorem ZCH (k:Nat):Ctr Tryz.prog k 23 (mk QY Ze ZgV) :=
 ZG (fn:=Tryz.f23) (Zh (Za (Zue k) Zc)) (by kernel_rfl) (by kernel_rfl) (ZR7 k)
noncomputable abbrev ZPJ:Nat × Callee:=(23,mk QY Ze ZgV)
abbrev ZpR:List Kd:=[.view (.sl (.int .i64)),.view (.sl (.int .i64))]
abbrev Zex:Kd:=.tup [.view (.sl (.cx .f64)),.view (.int .i64)]
def ZPZ:Nat → Ann:=fun id => bif Nat.beq id 7 then ⟨[21,22,20,1,6],[.slot 6 ((Ty.cx FloatKind.f64))]⟩ else ⟨[],[]⟩
abbrev ZBu:=Int × Int × List Int × List Int × List (Nat × Nat)
abbrev Zvx:=ZBu → Option ((List (Nat × Nat) × Int × Unit) × Unit)
def ZSQ:ZBu → St
 | (v0,v1,v2,v3,v4) => St.mk (Zy [(21,Zp v0),(22,Zp v1),(20,WM v2),(1,WM v3),(6,AV.own 8192)]) (Zx [(8192,RS.live (Res.arr (Ty.cx FloatKind.f64) v4 false))])
def KG (k:Nat) (L1:Zvx):Zvx
 | (v0,v1,v2,v3,v4) => bif decide (v1 < v0) then bif decide (0 ≤ v1 ∧ v1 < Int.ofNat v2.length) then bif decide (0 ≤ v1 ∧ v1 < Int.ofNat v3.length) then bif decide (v2.getD v1.toNat 0 < (-16777216:Int)) then some (([],12,()),()) else bif decide ((16777216:Int) < v2.getD v1.toNat 0) then some (([],12,()),()) else bif decide (v3.getD v1.toNat 0 < (-16777216:Int)) then some (([],12,()),()) else bif decide ((16777216:Int) < v3.getD v1.toNat 0) then some (([],12,()),()) else bif decide (v4.length + [(FloatKind.f64.nearest (v2.getD v1.toNat 0),FloatKind.f64.nearest (v3.getD v1.toNat 0))].length < 2147483648) then L1 (v0,IntKind.i64.wrap (v1 + 1),v2,v3,v4 ++ [(FloatKind.f64.nearest (v2.getD v1.toNat 0),FloatKind.f64.nearest (v3.getD v1.toNat 0))]) else none else none else none else some ((v4,0,()),())
def ZpQ (k:Nat):Zvx:=Zm (fun L1 => KG k L1) k
noncomputable def ZC4 (k:Nat) (n:Nat) (v:ZBu) :=
 Zt (ZJ k) ZPZ [] [1,1,1,0,1,0] [] (Q4 Tryz.f59) (Q8 (ZJ k) Tryz.f59 ZpR Zex [] []) n (ZSQ v)
def Zcz (k:Nat) (L1:Zvx):List Int × List Int × Unit → Option ((List (Nat × Nat) × Int × Unit) × Unit)
 | (a0,a1,()) => bif Int.ofNat a0.length != Int.ofNat a1.length then some (([],1,()),()) else bif decide ((8192:Int) < Int.ofNat a0.length) then some (([],14,()),()) else L1 (Int.ofNat a0.length,(0:Int),a0,a1,[])
def ZpP (k:Nat):=Zcz k (ZpQ k)
theorem ZKl (k:Nat):∀ n,ZC4 k n = Zm (fun L1 => KG k L1) n :=
 Zk (fun v => by kernel_rfl) (fun n v => by
  obtain ⟨v0,v1,v2,v3,v4⟩:=v
  kernel_rfl)
theorem ZSR (k:Nat) (x:Kd.dens ZpR):ZF (ZJ k) ZPZ Tryz.f59 ZpR Zex x = ZpP k x:=by
 show _ = Zcz k (ZpQ k) x
 rw [show ZpQ k = ZC4 k k from (ZKl k k).symm]
 obtain ⟨a0,⟨a1,⟨⟩⟩⟩:=x
 kernel_rfl
theorem ZC5 (k:Nat):Ctr Tryz.prog k 59 (mk ZpR Zex ZpP) :=
 ZG (fn:=Tryz.f59) (Zh Zc) (by kernel_rfl) (by kernel_rfl) (ZSR k)
noncomputable abbrev ZP0:Nat × Callee:=(59,mk ZpR Zex ZpP)
abbrev Zr:List Kd:=[.view (.int .i64)]
abbrev ZA:Kd:=.view .bool
def Zzg (k:Nat):Int × Unit → Option (Bool × Unit)
 | (a0,()) => bif a0 == 0 then some (true,()) else bif decide (8 ≤ a0) then some (decide (a0 ≤ 10),()) else some (false,())
def ZsQ (k:Nat):=Zzg k
theorem ZTI (k:Nat) (x:Kd.dens Zr):ZF (ZJ k) nA Tryz.f91 Zr ZA x = ZsQ k x:=by
 show _ = Zzg k x
 obtain ⟨a0,⟨⟩⟩:=x
 kernel_rfl
theorem ZDy (k:Nat):Ctr Tryz.prog k 91 (mk Zr ZA ZsQ) :=
 ZG (fn:=Tryz.f91) (Zh Zc) (by kernel_rfl) (by kernel_rfl) (ZTI k)
noncomputable abbrev ZQj:Nat × Callee:=(91,mk Zr ZA ZsQ)
abbrev Qu:List Kd:=[.view (.fl .f64)]
abbrev Q1:Kd:=.view (.fl .f64)
def Zf1 (k:Nat):Nat × Unit → Option (Nat × Unit)
 | (a0,()) => some ((IntKind.u64.wrap (Int.ofNat (BitVec.ofInt 64 (Int.ofNat a0) &&& ~~~BitVec.ofInt 64 (9223372036854775808:Int)).toNat)).toNat,())
def Zd9 (k:Nat):=Zf1 k
theorem ZNc (k:Nat) (x:Kd.dens Qu):ZF (ZJ k) nA Tryz.f143 Qu Q1 x = Zd9 k x:=by
 show _ = Zf1 k x
 obtain ⟨a0,⟨⟩⟩:=x
 kernel_rfl
theorem ZoP (k:Nat):Ctr Tryz.prog k 143 (mk Qu Q1 Zd9) :=
 ZG (fn:=Tryz.f143) (Zh Zc) (by kernel_rfl) (by kernel_rfl) (ZNc k)
noncomputable abbrev ZAM:Nat × Callee:=(143,mk Qu Q1 Zd9)
abbrev ZnG:List Kd:=[.view (.fl .f64),.view (.fl .f64)]
def Zsy (k:Nat):Nat × Nat × Unit → Option (Nat × Unit)
 | (a0,a1,()) => some ((IntKind.u64.wrap (Int.ofNat (BitVec.ofInt 64 (IntKind.u64.wrap (Int.ofNat (BitVec.ofInt 64 (Int.ofNat a0) &&& ~~~BitVec.ofInt 64 (9223372036854775808:Int)).toNat)) ||| BitVec.ofInt 64 (IntKind.u64.wrap (Int.ofNat (BitVec.ofInt 64 (Int.ofNat a1) &&& BitVec.ofInt 64 (9223372036854775808:Int)).toNat))).toNat)).toNat,())
def Zpt (k:Nat):=Zsy k
theorem ZOi (k:Nat) (x:Kd.dens ZnG):ZF (ZJ k) nA Tryz.f193 ZnG Q1 x = Zpt k x:=by
 show _ = Zsy k x
 obtain ⟨a0,⟨a1,⟨⟩⟩⟩:=x
 kernel_rfl
theorem Zyw (k:Nat):Ctr Tryz.prog k 193 (mk ZnG Q1 Zpt) :=
 ZG (fn:=Tryz.f193) (Zh Zc) (by kernel_rfl) (by kernel_rfl) (ZOi k)
noncomputable abbrev ZJu:Nat × Callee:=(193,mk ZnG Q1 Zpt)
noncomputable def ZRF (k:Nat):=Wc k [ZAM,ZJu]
def Zss (k:Nat):Nat × Unit → Option (Nat × Unit)
 | (a0,()) => (Zd9 k (a0,())).bind fun y => bif FloatKind.f64.format.order y.1 (4607182418800017408:Nat) == some Ordering.lt then (Zpt k (0,a0,())).bind fun y => some (y.1,()) else bif decide (IntKind.u64.wrap (IntKind.u64.wrap (Int.ofNat (BitVec.ofInt 64 ((Int.ofNat a0).fdiv (4503599627370496:Int)) &&& BitVec.ofInt 64 (2047:Int)).toNat) - 1023) < (52:Int)) then bif decide (0 ≤ IntKind.u64.wrap ((52:Int) - IntKind.u64.wrap (IntKind.u64.wrap (Int.ofNat (BitVec.ofInt 64 ((Int.ofNat a0).fdiv (4503599627370496:Int)) &&& BitVec.ofInt 64 (2047:Int)).toNat) - 1023))) then some ((IntKind.u64.wrap (Int.ofNat (BitVec.ofInt 64 (Int.ofNat a0) &&& ~~~BitVec.ofInt 64 (IntKind.u64.wrap (IntKind.u64.wrap ((1:Int) * (2:Int) ^ min (IntKind.u64.wrap ((52:Int) - IntKind.u64.wrap (IntKind.u64.wrap (Int.ofNat (BitVec.ofInt 64 ((Int.ofNat a0).fdiv (4503599627370496:Int)) &&& BitVec.ofInt 64 (2047:Int)).toNat) - 1023))).toNat 64) - (1:Int)))).toNat)).toNat,()) else none else some ((Int.ofNat a0).toNat,())
def ZA8 (k:Nat):=Zss k
theorem ZNZ (k:Nat) (x:Kd.dens Qu):ZF (ZRF k) nA Tryz.f177 Qu Q1 x = ZA8 k x:=by
 show _ = Zss k x
 obtain ⟨a0,⟨⟩⟩:=x
 kernel_rfl
theorem ZJb (k:Nat):Ctr Tryz.prog k 177 (mk Qu Q1 ZA8) :=
 ZG (fn:=Tryz.f177) (Zh (Za (ZoP k) (Za (Zyw k) Zc))) (by kernel_rfl) (by kernel_rfl) (ZNZ k)
noncomputable abbrev ZRG:Nat × Callee:=(177,mk Qu Q1 ZA8)
noncomputable def ZQ8 (k:Nat):=Wc k [ZRG]
def ZfZ (k:Nat):Nat × Unit → Option (Nat × Unit)
 | (a0,()) => (WP Ieee.Toward.zero a0).bind fun y => some (y,())
def Zd8 (k:Nat):=ZfZ k
theorem ZNa (k:Nat) (x:Kd.dens Qu):ZF (ZQ8 k) nA Tryz.f141 Qu Q1 x = Zd8 k x:=by
 show _ = ZfZ k x
 obtain ⟨a0,⟨⟩⟩:=x
 kernel_rfl
theorem ZxP (k:Nat):Ctr Tryz.prog k 141 (mk Qu Q1 Zd8) :=
 ZG (fn:=Tryz.f141) (Zh (Za (ZJb k) Zc)) (by kernel_rfl) (by kernel_rfl) (ZNa k)
noncomputable abbrev ZIk:Nat × Callee:=(141,mk Qu Q1 Zd8)
abbrev Zna:List Kd:=[.view (.fl .f64),.view (.int .i64)]
noncomputable def ZQ9 (k:Nat):=Wc k [ZAM]
def Zf0 (k:Nat):Nat × Int × Unit → Option (Bool × Unit)
 | (a0,a1,()) => bif a1 == 0 then (Zd9 k (a0,())).bind fun y => some (FloatKind.f64.format.order y.1 (9218868437227405311:Nat) == some Ordering.gt,()) else bif decide (a1 < 0) then some (FloatKind.f64.format.order (a0 ^^^ (9223372036854775808:Nat)) (9218868437227405311:Nat) == some Ordering.gt,()) else some (FloatKind.f64.format.order a0 (9218868437227405311:Nat) == some Ordering.gt,())
def ZkS (k:Nat):=Zf0 k
theorem ZNb (k:Nat) (x:Kd.dens Zna):ZF (ZQ9 k) nA Tryz.f142 Zna ZA x = ZkS k x:=by
 show _ = Zf0 k x
 obtain ⟨a0,⟨a1,⟨⟩⟩⟩:=x
 kernel_rfl
theorem ZxR (k:Nat):Ctr Tryz.prog k 142 (mk Zna ZA ZkS) :=
 ZG (fn:=Tryz.f142) (Zh (Za (ZoP k) Zc)) (by kernel_rfl) (by kernel_rfl) (ZNb k)
noncomputable abbrev ZIl:Nat × Callee:=(142,mk Zna ZA ZkS)
abbrev WX:List Kd:=[.view (.sl (.cx .f64))]
noncomputable def Zhp (k:Nat):=Wc k [ZIk,ZIl,ZAM]
def ZtV:Nat → Ann:=fun id => bif Nat.beq id 14 then ⟨[37,38,36],[]⟩ else bif Nat.beq id 7 then ⟨[23,22,14,13,12,0],[]⟩ else bif Nat.beq id 4 then ⟨[13,14,12,0],[]⟩ else ⟨[],[]⟩
abbrev ZtX:=Int × Nat × Nat × Int × Int × List (Nat × Nat) × List (Nat × Nat)
abbrev Zmt:=ZtX → Option (Int × Unit)
abbrev ZtY:=Int × Int × List (Nat × Nat)
abbrev Zmu:=ZtY → Option (Int × Unit)
abbrev ZtW:=Int × Int × List (Nat × Nat) × List (Nat × Nat)
abbrev Zfm:=ZtW → Option (Int × Unit)
def ZL8:ZtX → St
 | (v0,v1,v2,v3,v4,v5,v6) => St.mk (Zy [(23,Zp v0),(22,AV.agg [AV.val (PV.v (Value.float FloatKind.f64 v1)),AV.val (PV.v (Value.float FloatKind.f64 v2))]),(14,Zp v3),(13,Zp v4),(12,AV.val (PV.sl (Ty.cx FloatKind.f64) v5)),(0,AV.val (PV.sl (Ty.cx FloatKind.f64) v6))]) (Zx [])
def Y4 (k:Nat) (L1:Zfm) (L2:Zmt):Zmt
 | (v0,v1,v2,v3,v4,v5,v6) => bif decide (v0 < 2) then bif decide (0 ≤ v0 ∧ v0 < 2) then (Zd8 k ([v1,v2].getD v0.toNat 0,())).bind fun y => bif FloatKind.f64.format.order y.1 ([v1,v2].getD v0.toNat 0) != some Ordering.eq then some (2,()) else (ZkS k ([v1,v2].getD v0.toNat 0,0,())).bind fun y => bif y.1 then some (2,()) else L2 (IntKind.i64.wrap (v0 + 1),v1,v2,v3,v4,v5,v6) else none else L1 (v4,IntKind.i64.wrap (v3 + 1),v5,v6)
def Zij (k:Nat) (L1:Zfm):Zmt:=Zm (fun L2 => Y4 k L1 L2) k
noncomputable def Zil (k:Nat) (n1:Nat) (n:Nat) (v:ZtX):Option (Int × Unit) :=
 Zt (Zhp k) ZtV [] [1,1,0,1,0,0,1,1,0,0,1,1,0] [n1] (Q4 Tryz.f100) (Q8 (Zhp k) Tryz.f100 WX Ze [] []) n (ZL8 v)
def ZL9:ZtY → St
 | (v0,v1,v2) => St.mk (Zy [(37,Zp v0),(38,Zp v1),(36,AV.val (PV.sl (Ty.cx FloatKind.f64) v2))]) (Zx [])
def ZbR (k:Nat) (L3:Zmu):Zmu
 | (v0,v1,v2) => bif decide (v1 < v0) then bif decide (0 ≤ v1 ∧ v1 < Int.ofNat v2.length) then (Zd9 k ((v2.getD v1.toNat ((0:Nat),(0:Nat))).1,())).bind fun y => (Zd9 k ((v2.getD v1.toNat ((0:Nat),(0:Nat))).2,())).bind fun y_1 => (ZzA FloatKind.f64 y.1 y_1.1).bind fun y => bif FloatKind.f64.format.order y (4715268809856909312:Nat) == some Ordering.gt then some (12,()) else L3 (v0,IntKind.i64.wrap (v1 + 1),v2) else none else some (0,())
def Zik (k:Nat):Zmu:=Zm (fun L3 => ZbR k L3) k
noncomputable def Zxg (k:Nat) (n:Nat) (v:ZtY) :=
 Zt (Zhp k) ZtV [] [1,1,1,0,1,0] [] (Q4 Tryz.f100) (Q8 (Zhp k) Tryz.f100 WX Ze [] []) n (ZL9 v)
def ZL7:ZtW → St
 | (v0,v1,v2,v3) => St.mk (Zy [(13,Zp v0),(14,Zp v1),(12,AV.val (PV.sl (Ty.cx FloatKind.f64) v2)),(0,AV.val (PV.sl (Ty.cx FloatKind.f64) v3))]) (Zx [])
def ZbQ (k:Nat) (L2:Zmt) (L3:Zmu) (L1:Zfm):Zfm
 | (v0,v1,v2,v3) => bif decide (v1 < v0) then bif decide (0 ≤ v1 ∧ v1 < Int.ofNat v2.length) then L2 (0,(v2.getD v1.toNat ((0:Nat),(0:Nat))).1,(v2.getD v1.toNat ((0:Nat),(0:Nat))).2,v1,v0,v2,v3) else none else L3 (Int.ofNat v3.length,(0:Int),v3)
def Zmv (k:Nat):Zfm:=Zm (fun L1 => ZbQ k (Zij k L1) (Zik k) L1) k
noncomputable def ZdY (k:Nat) (n:Nat) (v:ZtW) :=
 Zt (Zhp k) ZtV [] [1,1,0,1,0] [] (Q4 Tryz.f100) (Q8 (Zhp k) Tryz.f100 WX Ze [] []) n (ZL7 v)
def Zfn (k:Nat) (L1:Zfm):List (Nat × Nat) × Unit → Option (Int × Unit)
 | (a0,()) => bif decide ((8192:Int) < Int.ofNat a0.length) then some (14,()) else L1 (Int.ofNat a0.length,(0:Int),a0,a0)
def Zow (k:Nat):=Zfn k (Zmv k)
theorem ZEo (k:Nat) (n1:Nat):∀ n,Zil k n1 n = Zm (fun L2 => Y4 k (ZdY k n1) L2) n :=
 Zk (fun v => by kernel_rfl) (fun n v => by
  show Zil k n1 (n + 1) v = Y4 k (ZdY k n1) (Zil k n1 n) v
  obtain ⟨v0,v1,v2,v3,v4,v5,v6⟩:=v
  kernel_rfl)
theorem ZEp (k:Nat):∀ n,Zxg k n = Zm (fun L3 => ZbR k L3) n :=
 Zk (fun v => by kernel_rfl) (fun n v => by
  obtain ⟨v0,v1,v2⟩:=v
  kernel_rfl)
theorem ZEn (k:Nat):∀ n,ZdY k n = Zm (fun L1 => ZbQ k (Zij k L1) (Zik k) L1) n :=
 Zk (fun v => by kernel_rfl) (fun n v => by
  rw [show (Zij k (ZdY k n)) = Zil k n k from (ZEo k n k).symm,show (Zik k) = Zxg k k from (ZEp k k).symm]
  obtain ⟨v0,v1,v2,v3⟩:=v
  kernel_rfl)
theorem ZMa (k:Nat) (x:Kd.dens WX):ZF (Zhp k) ZtV Tryz.f100 WX Ze x = Zow k x:=by
 show _ = Zfn k (Zmv k) x
 rw [show Zmv k = ZdY k k from (ZEn k k).symm]
 obtain ⟨a0,⟨⟩⟩:=x
 kernel_rfl
theorem ZHl (k:Nat):Ctr Tryz.prog k 100 (mk WX Ze Zow) :=
 ZG (fn:=Tryz.f100) (Zh (Za (ZxP k) (Za (ZxR k) (Za (ZoP k) Zc)))) (by kernel_rfl) (by kernel_rfl) (ZMa k)
noncomputable abbrev ZQA:Nat × Callee:=(100,mk WX Ze Zow)
abbrev Zmw:List Kd:=[.view (.cx .f64)]
def Zfo (k:Nat):(Nat × Nat) × Unit → Option (Nat × Unit)
 | (a0,()) => (cMulBits a0.1 a0.2 (4607182418800017408:Nat) (4607182418800017408:Nat)).bind fun y => some (y.1,())
def Zhq (k:Nat):=Zfo k
theorem ZMb (k:Nat) (x:Kd.dens Zmw):ZF (ZJ k) nA Tryz.f101 Zmw Q1 x = Zhq k x:=by
 show _ = Zfo k x
 obtain ⟨a0,⟨⟩⟩:=x
 kernel_rfl
theorem ZHm (k:Nat):Ctr Tryz.prog k 101 (mk Zmw Q1 Zhq) :=
 ZG (fn:=Tryz.f101) (Zh Zc) (by kernel_rfl) (by kernel_rfl) (ZMb k)
noncomputable abbrev ZQB:Nat × Callee:=(101,mk Zmw Q1 Zhq)
def Zsu (k:Nat):Nat × Unit → Option (Bool × Unit)
 | (a0,()) => some (FloatKind.f64.format.order a0 a0 != some Ordering.eq,())
def ZuL (k:Nat):=Zsu k
theorem ZN1 (k:Nat) (x:Kd.dens Qu):ZF (ZJ k) nA Tryz.f180 Qu ZA x = ZuL k x:=by
 show _ = Zsu k x
 obtain ⟨a0,⟨⟩⟩:=x
 kernel_rfl
theorem ZJd (k:Nat):Ctr Tryz.prog k 180 (mk Qu ZA ZuL) :=
 ZG (fn:=Tryz.f180) (Zh Zc) (by kernel_rfl) (by kernel_rfl) (ZN1 k)
noncomputable abbrev ZRI:Nat × Callee:=(180,mk Qu ZA ZuL)
abbrev ZuM:Kd:=.tup [.view (.fl .f64),.view (.fl .f64)]
noncomputable def ZRJ (k:Nat):=Wc k [ZIk,ZJu]
def Zsv (k:Nat):Nat × Unit → Option ((Nat × Nat × Unit) × Unit)
 | (a0,()) => (Zd8 k (a0,())).bind fun y => (floatBits BinOp.sub FloatKind.f64 a0 y.1).bind fun y_1 => (Zpt k (y_1,a0,())).bind fun y_2 => some ((y.1,y_2.1,()),())
def Zpi (k:Nat):=Zsv k
theorem ZN2 (k:Nat) (x:Kd.dens Qu):ZF (ZRJ k) nA Tryz.f181 Qu ZuM x = Zpi k x:=by
 show _ = Zsv k x
 obtain ⟨a0,⟨⟩⟩:=x
 kernel_rfl
theorem ZJe (k:Nat):Ctr Tryz.prog k 181 (mk Qu ZuM Zpi) :=
 ZG (fn:=Tryz.f181) (Zh (Za (ZxP k) (Za (Zyw k) Zc))) (by kernel_rfl) (by kernel_rfl) (ZN2 k)
noncomputable abbrev ZRK:Nat × Callee:=(181,mk Qu ZuM Zpi)
noncomputable def ZRa (k:Nat):=Wc k [ZIl,ZRI,ZRK]
def Zsa (k:Nat):Nat × Unit → Option (Nat × Unit)
 | (a0,()) => bif FloatKind.f64.format.order a0 (0:Nat) == some Ordering.eq then some (a0,()) else (ZuL k (a0,())).bind fun y => bif y.1 then some (a0,()) else (ZkS k (a0,0,())).bind fun y => bif y.1 then some (a0,()) else bif FloatKind.f64.format.order a0 (0:Nat) == some Ordering.lt then (Zpi k (a0 ^^^ (9223372036854775808:Nat),())).bind fun y => bif FloatKind.f64.format.order y.1.2.1 (0:Nat) != some Ordering.eq then (floatBits BinOp.add FloatKind.f64 y.1.1 (4607182418800017408:Nat)).bind fun y => some (y ^^^ (9223372036854775808:Nat),()) else some (y.1.1 ^^^ (9223372036854775808:Nat),()) else (Zpi k (a0,())).bind fun y => some (y.1.1,())
def ZAN (k:Nat):=Zsa k
theorem ZNd (k:Nat) (x:Kd.dens Qu):ZF (ZRa k) nA Tryz.f145 Qu Q1 x = ZAN k x:=by
 show _ = Zsa k x
 obtain ⟨a0,⟨⟩⟩:=x
 kernel_rfl
theorem ZIm (k:Nat):Ctr Tryz.prog k 145 (mk Qu Q1 ZAN) :=
 ZG (fn:=Tryz.f145) (Zh (Za (ZxR k) (Za (ZJd k) (Za (ZJe k) Zc)))) (by kernel_rfl) (by kernel_rfl) (ZNd k)
noncomputable abbrev ZRb:Nat × Callee:=(145,mk Qu Q1 ZAN)
noncomputable def ZQC (k:Nat):=Wc k [ZRb]
def Zfp (k:Nat):Nat × Unit → Option (Nat × Unit)
 | (a0,()) => (WP Ieee.Toward.down a0).bind fun y => some (y,())
def Zoy (k:Nat):=Zfp k
theorem ZMc (k:Nat) (x:Kd.dens Qu):ZF (ZQC k) nA Tryz.f102 Qu Q1 x = Zoy k x:=by
 show _ = Zfp k x
 obtain ⟨a0,⟨⟩⟩:=x
 kernel_rfl
theorem ZHn (k:Nat):Ctr Tryz.prog k 102 (mk Qu Q1 Zoy) :=
 ZG (fn:=Tryz.f102) (Zh (Za (ZIm k) Zc)) (by kernel_rfl) (by kernel_rfl) (ZMc k)
noncomputable abbrev ZQD:Nat × Callee:=(102,mk Qu Q1 Zoy)
abbrev ZpT:List Kd:=[.view (.sl (.cx .f64)),.view (.int .i64)]
abbrev ZhG:Kd:=.tup [.view (.sl (.int .i64)),.view (.sl (.int .i64)),.view (.int .i64)]
noncomputable def ZKq (k:Nat):=Wc k [ZQj,ZQA,ZQB,ZQD]
def ZP2:Nat → Ann:=fun id => bif Nat.beq id 8 then ⟨[23,24,22,1,8,9],[.slot 8 ((Ty.int IntKind.i64)),.slot 9 ((Ty.int IntKind.i64))]⟩ else ⟨[],[]⟩
abbrev ZBx:=Int × Int × List (Nat × Nat) × Int × List Int × List Int
abbrev Zvz:=ZBx → Option ((List Int × List Int × Int × Unit) × Unit)
def ZSU:ZBx → St
 | (v0,v1,v2,v3,v4,v5) => St.mk (Zy [(23,Zp v0),(24,Zp v1),(22,AV.val (PV.sl (Ty.cx FloatKind.f64) v2)),(1,Zp v3),(8,AV.own 8192),(9,AV.own 8193)]) (Zx [(8192,rsA v4 false),(8193,rsA v5 false)])
def Zey (k:Nat) (L1:Zvz):Zvz
 | (v0,v1,v2,v3,v4,v5) => bif decide (v1 < v0) then bif decide (0 ≤ v1 ∧ v1 < Int.ofNat v2.length) then bif v3 == 8 then (Zhq k (((v2.getD v1.toNat ((0:Nat),(0:Nat))).1,(v2.getD v1.toNat ((0:Nat),(0:Nat))).2),())).bind fun y => (floatToIntVal FloatKind.f64 (v2.getD v1.toNat ((0:Nat),(0:Nat))).1 IntKind.i64).bind fun y_1 => bif decide (v4.length + [y_1].length < 2147483648) then (floatToIntVal FloatKind.f64 y.1 IntKind.i64).bind fun y => bif decide (v5.length + [y].length < 2147483648) then L1 (v0,IntKind.i64.wrap (v1 + 1),v2,v3,v4 ++ [y_1],v5 ++ [y]) else none else none else bif v3 == 9 then (Zhq k (((v2.getD v1.toNat ((0:Nat),(0:Nat))).1,(v2.getD v1.toNat ((0:Nat),(0:Nat))).2),())).bind fun y => (floatToIntVal FloatKind.f64 y.1 IntKind.i64).bind fun y => bif decide (v4.length + [y].length < 2147483648) then (floatToIntVal FloatKind.f64 (v2.getD v1.toNat ((0:Nat),(0:Nat))).2 IntKind.i64).bind fun y_1 => bif decide (v5.length + [y_1].length < 2147483648) then L1 (v0,IntKind.i64.wrap (v1 + 1),v2,v3,v4 ++ [y],v5 ++ [y_1]) else none else none else bif v3 == 10 then (floatBits BinOp.add FloatKind.f64 (v2.getD v1.toNat ((0:Nat),(0:Nat))).1 (v2.getD v1.toNat ((0:Nat),(0:Nat))).2).bind fun y => (floatBits BinOp.quo FloatKind.f64 y (4611686018427387904:Nat)).bind fun y => (Zoy k (y,())).bind fun y => (Zhq k (((v2.getD v1.toNat ((0:Nat),(0:Nat))).1,(v2.getD v1.toNat ((0:Nat),(0:Nat))).2),())).bind fun y_1 => (floatToIntVal FloatKind.f64 y.1 IntKind.i64).bind fun y => bif decide (v4.length + [y].length < 2147483648) then (floatToIntVal FloatKind.f64 y_1.1 IntKind.i64).bind fun y_2 => bif decide (v5.length + [y_2].length < 2147483648) then L1 (v0,IntKind.i64.wrap (v1 + 1),v2,v3,v4 ++ [y],v5 ++ [y_2]) else none else none else (floatToIntVal FloatKind.f64 (v2.getD v1.toNat ((0:Nat),(0:Nat))).1 IntKind.i64).bind fun y => bif decide (v4.length + [y].length < 2147483648) then (floatToIntVal FloatKind.f64 (v2.getD v1.toNat ((0:Nat),(0:Nat))).2 IntKind.i64).bind fun y_1 => bif decide (v5.length + [y_1].length < 2147483648) then L1 (v0,IntKind.i64.wrap (v1 + 1),v2,v3,v4 ++ [y],v5 ++ [y_1]) else none else none else none else some ((v4,v5,0,()),())
def ZvA (k:Nat):Zvz:=Zm (fun L1 => Zey k L1) k
noncomputable def ZC7 (k:Nat) (n:Nat) (v:ZBx) :=
 Zt (ZKq k) ZP2 [] [1,1,1,1,0,1,0] [] (Q4 Tryz.f61) (Q8 (ZKq k) Tryz.f61 ZpT ZhG [] []) n (ZSU v)
def Zjj (k:Nat) (L1:Zvz):List (Nat × Nat) × Int × Unit → Option ((List Int × List Int × Int × Unit) × Unit)
 | (a0,a1,()) => (ZsQ k (a1,())).bind fun y => bif !y.1 then some (([],[],1,()),()) else (Zow k (a0,())).bind fun y => bif y.1 != 0 then some (([],[],y.1,()),()) else L1 (Int.ofNat a0.length,(0:Int),a0,a1,[],[])
def ZpS (k:Nat):=Zjj k (ZvA k)
theorem ZKr (k:Nat):∀ n,ZC7 k n = Zm (fun L1 => Zey k L1) n :=
 Zk (fun v => by kernel_rfl) (fun n v => by
  obtain ⟨v0,v1,v2,v3,v4,v5⟩:=v
  kernel_rfl)
theorem ZSV (k:Nat) (x:Kd.dens ZpT):ZF (ZKq k) ZP2 Tryz.f61 ZpT ZhG x = ZpS k x:=by
 show _ = Zjj k (ZvA k) x
 rw [show ZvA k = ZC7 k k from (ZKr k k).symm]
 obtain ⟨a0,⟨a1,⟨⟩⟩⟩:=x
 kernel_rfl
theorem ZvB (k:Nat):Ctr Tryz.prog k 61 (mk ZpT ZhG ZpS) :=
 ZG (fn:=Tryz.f61) (Zh (Za (ZDy k) (Za (ZHl k) (Za (ZHm k) (Za (ZHn k) Zc))))) (by kernel_rfl) (by kernel_rfl) (ZSV k)
noncomputable abbrev ZKs:Nat × Callee:=(61,mk ZpT ZhG ZpS)
abbrev Qy:List Kd:=[.view (.sl (.int .i64))]
def ZQk:Nat → Ann:=fun id => bif Nat.beq id 3 then ⟨[8,9,7,3,4],[]⟩ else ⟨[],[]⟩
abbrev ZaG:=Int × Int × List Int × Int × Int
abbrev Zv9:=ZaG → Option (Int × Unit)
def ZTJ:ZaG → St
 | (v0,v1,v2,v3,v4) => St.mk (Zy [(8,Zp v0),(9,Zp v1),(7,WM v2),(3,Zp v3),(4,Zp v4)]) (Zx [])
def ZeP (k:Nat) (L1:Zv9):Zv9
 | (v0,v1,v2,v3,v4) => bif decide (v1 < v0) then bif decide (0 ≤ v1 ∧ v1 < Int.ofNat v2.length) then L1 (v0,IntKind.i64.wrap (v1 + 1),v2,IntKind.i64.wrap (v3 + if IntKind.i64.wrap (v2.getD v1.toNat 0 - v4) < IntKind.i64.wrap (v4 - v2.getD v1.toNat 0) then IntKind.i64.wrap (v4 - v2.getD v1.toNat 0) else IntKind.i64.wrap (v2.getD v1.toNat 0 - v4)),v2.getD v1.toNat 0) else none else some (v3,())
def Zwa (k:Nat):Zv9:=Zm (fun L1 => ZeP k L1) k
noncomputable def ZDz (k:Nat) (n:Nat) (v:ZaG) :=
 Zt (ZJ k) ZQk [] [1,1,0,1,0] [] (Q4 Tryz.f99) (Q8 (ZJ k) Tryz.f99 Qy Ze [] []) n (ZTJ v)
def ZjO (k:Nat) (L1:Zv9):List Int × Unit → Option (Int × Unit)
 | (a0,()) => L1 (Int.ofNat a0.length,(0:Int),a0,(0:Int),(0:Int))
def ZsR (k:Nat):=ZjO k (Zwa k)
theorem ZK8 (k:Nat):∀ n,ZDz k n = Zm (fun L1 => ZeP k L1) n :=
 Zk (fun v => by kernel_rfl) (fun n v => by
  obtain ⟨v0,v1,v2,v3,v4⟩:=v
  kernel_rfl)
theorem ZTK (k:Nat) (x:Kd.dens Qy):ZF (ZJ k) ZQk Tryz.f99 Qy Ze x = ZsR k x:=by
 show _ = ZjO k (Zwa k) x
 rw [show Zwa k = ZDz k k from (ZK8 k k).symm]
 obtain ⟨a0,⟨⟩⟩:=x
 kernel_rfl
theorem ZO0 (k:Nat):Ctr Tryz.prog k 99 (mk Qy Ze ZsR) :=
 ZG (fn:=Tryz.f99) (Zh Zc) (by kernel_rfl) (by kernel_rfl) (ZTK k)
noncomputable abbrev ZVe:Nat × Callee:=(99,mk Qy Ze ZsR)
abbrev ZZ:Kd:=.tup [.view (.int .i64),.view (.int .i64)]
noncomputable def ZKn (k:Nat):=Wc k [ZKs,ZVe]
def ZP1:Nat → Ann:=fun id => bif Nat.beq id 3 then ⟨[13,12,0,5,4],[]⟩ else ⟨[],[]⟩
abbrev ZBw:=Int × Int × Int × Int × Int × List (Nat × Nat) × Int × Int
abbrev Zvy:=ZBw → Option ((Int × Int × Unit) × Unit)
def ZSS:ZBw → St
 | (v0,v1,v2,v3,v4,v5,v6,v7) => St.mk (Zy [(13,Zp v0),(12,AV.agg [Zp v1,Zp v2,Zp v3,Zp v4]),(0,AV.val (PV.sl (Ty.cx FloatKind.f64) v5)),(5,Zp v6),(4,Zp v7)]) (Zx [])
def ZcA (k:Nat) (L1:Zvy):Zvy
 | (v0,v1,v2,v3,v4,v5,v6,v7) => bif decide (v0 < 4) then bif decide (0 ≤ v0 ∧ v0 < 4) then (ZpS k (v5,[v1,v2,v3,v4].getD v0.toNat (0:Int),())).bind fun y => bif y.1.2.2.1 != 0 then some ((0,y.1.2.2.1,()),()) else (ZsR k (y.1.1,())).bind fun y_1 => (ZsR k (y.1.2.1,())).bind fun y => bif decide (v6 < 0) then L1 (IntKind.i64.wrap (v0 + 1),v1,v2,v3,v4,v5,IntKind.i64.wrap (y_1.1 + y.1),[v1,v2,v3,v4].getD v0.toNat (0:Int)) else bif decide (IntKind.i64.wrap (y_1.1 + y.1) < v6) then L1 (IntKind.i64.wrap (v0 + 1),v1,v2,v3,v4,v5,IntKind.i64.wrap (y_1.1 + y.1),[v1,v2,v3,v4].getD v0.toNat (0:Int)) else L1 (IntKind.i64.wrap (v0 + 1),v1,v2,v3,v4,v5,v6,v7) else none else some ((v7,0,()),())
def ZBv (k:Nat):Zvy:=Zm (fun L1 => ZcA k L1) k
noncomputable def ZC6 (k:Nat) (n:Nat) (v:ZBw) :=
 Zt (ZKn k) ZP1 [] [1,1,0,1,0] [] (Q4 Tryz.f60) (Q8 (ZKn k) Tryz.f60 WX ZZ [] []) n (ZSS v)
def ZyX (k:Nat) (L1:Zvy):List (Nat × Nat) × Unit → Option ((Int × Int × Unit) × Unit)
 | (a0,()) => L1 (0,(0:Int),(8:Int),(9:Int),(10:Int),a0,(-1:Int),(0:Int))
def ZyW (k:Nat):=ZyX k (ZBv k)
theorem ZKo (k:Nat):∀ n,ZC6 k n = Zm (fun L1 => ZcA k L1) n :=
 Zk (fun v => by kernel_rfl) (fun n v => by
  obtain ⟨v0,v1,v2,v3,v4,v5,v6,v7⟩:=v
  kernel_rfl)
theorem ZST (k:Nat) (x:Kd.dens WX):ZF (ZKn k) ZP1 Tryz.f60 WX ZZ x = ZyW k x:=by
 show _ = ZyX k (ZBv k) x
 rw [show ZBv k = ZC6 k k from (ZKo k k).symm]
 obtain ⟨a0,⟨⟩⟩:=x
 kernel_rfl
theorem ZOH (k:Nat):Ctr Tryz.prog k 60 (mk WX ZZ ZyW) :=
 ZG (fn:=Tryz.f60) (Zh (Za (ZvB k) (Za (ZO0 k) Zc))) (by kernel_rfl) (by kernel_rfl) (ZST k)
noncomputable abbrev ZUQ:Nat × Callee:=(60,mk WX ZZ ZyW)
abbrev YJ:List Kd:=[.view frameT]
abbrev ZBg:Kd:=.tup [.view (.sl (.sl (.int .i64))),.view (.int .i64),.view (.int .i64)]
noncomputable def ZUn (k:Nat):=Wc k [ZP0,ZUQ,ZKs]
def ZiR (k:Nat):(Int × List (List Int) × Unit) × Unit → Option ((List (List Int) × Int × Int × Unit) × Unit)
 | ((a0,a1,()),()) => bif Int.ofNat a1.length == (1:Int) then some ((a1,0,0,()),()) else bif decide ((0:Int) ≤ 0 ∧ (0:Int) < Int.ofNat a1.length) then bif decide ((0:Int) ≤ 1 ∧ (1:Int) < Int.ofNat a1.length) then (ZpP k (a1.getD 0 [],a1.getD 1 [],())).bind fun y => bif y.1.2.1 != 0 then some (([],0,y.1.2.1,()),()) else (ZyW k (y.1.1,())).bind fun y_1 => bif y_1.1.2.1 != 0 then some (([],0,y_1.1.2.1,()),()) else (ZpS k (y.1.1,y_1.1.1,())).bind fun y => bif y_1.1.1 == 0 then some (([y.1.1,y.1.2.1],1,y.1.2.2.1,()),()) else some (([y.1.1,y.1.2.1],y_1.1.1,y.1.2.2.1,()),()) else none else none
def Zyy (k:Nat):=ZiR k
theorem ZR8 (k:Nat) (x:Kd.dens YJ):ZF (ZUn k) nA Tryz.f24 YJ ZBg x = Zyy k x:=by
 show _ = ZiR k x
 obtain ⟨⟨a0,⟨a1,⟨⟩⟩⟩,⟨⟩⟩:=x
 kernel_rfl
theorem ZOk (k:Nat):Ctr Tryz.prog k 24 (mk YJ ZBg Zyy) :=
 ZG (fn:=Tryz.f24) (Zh (Za (ZC5 k) (Za (ZOH k) (Za (ZvB k) Zc)))) (by kernel_rfl) (by kernel_rfl) (ZR8 k)
noncomputable abbrev ZUo:Nat × Callee:=(24,mk YJ ZBg Zyy)
abbrev Zel:List Kd:=[]
abbrev ZBh:Kd:=.box [.own (.int .u8) false,.view (.int .i64)]
def Zyz (k:Nat):Unit → Option ((List Int × Int × Unit) × Unit)
 | () => some (([],0,()),())
def Zpz (k:Nat):=Zyz k
theorem ZR9 (k:Nat) (x:Kd.dens Zel):ZF (ZJ k) nA Tryz.f25 Zel ZBh x = Zpz k x:=by
 show _ = Zyz k x
 obtain ⟨⟩:=x
 kernel_rfl
theorem ZOl (k:Nat):Ctr Tryz.prog k 25 (mk Zel ZBh Zpz) :=
 ZG (fn:=Tryz.f25) (Zh Zc) (by kernel_rfl) (by kernel_rfl) (ZR9 k)
noncomputable abbrev ZUp:Nat × Callee:=(25,mk Zel ZBh Zpz)
def Zjk (k:Nat):Int × Unit → Option (Bool × Unit)
 | (a0,()) => bif decide (a0 < 0) then some (true,()) else some (decide ((32:Int) < a0),())
def ZpV (k:Nat):=Zjk k
theorem ZSW (k:Nat) (x:Kd.dens Zr):ZF (ZJ k) nA Tryz.f62 Zr ZA x = ZpV k x:=by
 show _ = Zjk k x
 obtain ⟨a0,⟨⟩⟩:=x
 kernel_rfl
theorem ZvC (k:Nat):Ctr Tryz.prog k 62 (mk Zr ZA ZpV) :=
 ZG (fn:=Tryz.f62) (Zh Zc) (by kernel_rfl) (by kernel_rfl) (ZSW k)
noncomputable abbrev ZP3:Nat × Callee:=(62,mk Zr ZA ZpV)
abbrev Zad:List Kd:=[.box [.own (.int .u8) false,.view (.int .i64)],.view (.int .i64)]
abbrev QB:Kd:=.tup []
def Zfq (k:Nat):(List Int × Int × Unit) × Int × Unit → Option (Unit × (List Int × Int × Unit) × Unit)
 | ((a0,a1,()),a2,()) => bif a1.tmod (8:Int) == 0 then bif decide (a0.length + (1:Nat) < (2147483648:Nat)) then bif decide (0 ≤ IntKind.i64.wrap (a1.tdiv (8:Int)) ∧ IntKind.i64.wrap (a1.tdiv (8:Int)) < Int.ofNat (a0 ++ [(0:Int)]).length) then bif decide ((IntKind.i64.wrap (a1.tdiv (8:Int))).toNat < (a0 ++ [(0:Int)]).length) then bif decide (0 ≤ IntKind.i64.wrap ((7:Int) - a1.tmod (8:Int))) then bif decide (0 ≤ IntKind.i64.wrap (a1.tdiv (8:Int)) ∧ IntKind.i64.wrap (a1.tdiv (8:Int)) < Int.ofNat (a0 ++ [(0:Int)]).length) then bif decide ((IntKind.i64.wrap (a1.tdiv (8:Int))).toNat < (a0 ++ [(0:Int)]).length) then some ((),((a0 ++ [(0:Int)]).set (IntKind.i64.wrap (a1.tdiv (8:Int))).toNat (IntKind.u8.wrap (Int.ofNat (BitVec.ofInt 8 ((a0 ++ [(0:Int)]).getD (IntKind.i64.wrap (a1.tdiv (8:Int))).toNat 0) ||| BitVec.ofInt 8 (IntKind.u8.wrap (IntKind.i64.wrap (a2 * (2:Int) ^ min (IntKind.i64.wrap ((7:Int) - a1.tmod (8:Int))).toNat 64)))).toNat)),IntKind.i64.wrap (a1 + 1),()),()) else none else none else none else none else none else none else bif decide (0 ≤ IntKind.i64.wrap (a1.tdiv (8:Int)) ∧ IntKind.i64.wrap (a1.tdiv (8:Int)) < Int.ofNat a0.length) then bif decide ((IntKind.i64.wrap (a1.tdiv (8:Int))).toNat < a0.length) then bif decide (0 ≤ IntKind.i64.wrap ((7:Int) - a1.tmod (8:Int))) then bif decide (0 ≤ IntKind.i64.wrap (a1.tdiv (8:Int)) ∧ IntKind.i64.wrap (a1.tdiv (8:Int)) < Int.ofNat a0.length) then bif decide ((IntKind.i64.wrap (a1.tdiv (8:Int))).toNat < a0.length) then some ((),(a0.set (IntKind.i64.wrap (a1.tdiv (8:Int))).toNat (IntKind.u8.wrap (Int.ofNat (BitVec.ofInt 8 (a0.getD (IntKind.i64.wrap (a1.tdiv (8:Int))).toNat 0) ||| BitVec.ofInt 8 (IntKind.u8.wrap (IntKind.i64.wrap (a2 * (2:Int) ^ min (IntKind.i64.wrap ((7:Int) - a1.tmod (8:Int))).toNat 64)))).toNat)),IntKind.i64.wrap (a1 + 1),()),()) else none else none else none else none else none
def Zhr (k:Nat):=Zfq k
theorem ZMd (k:Nat) (x:Kd.dens Zad):ZF (ZJ k) nA Tryz.f103 Zad QB x = Zhr k x:=by
 show _ = Zfq k x
 obtain ⟨⟨a0,⟨a1,⟨⟩⟩⟩,⟨a2,⟨⟩⟩⟩:=x
 kernel_rfl
theorem Zxh (k:Nat):Ctr Tryz.prog k 103 (mk Zad QB Zhr) :=
 ZG (fn:=Tryz.f103) (Zh Zc) (by kernel_rfl) (by kernel_rfl) (ZMd k)
noncomputable abbrev ZQE:Nat × Callee:=(103,mk Zad QB Zhr)
abbrev ZpX:List Kd:=[.box [.own (.int .u8) false,.view (.int .i64)],.view (.int .u64),.view (.int .i64)]
noncomputable def ZsF (k:Nat):=Wc k [ZQE]
def ZP4:Nat → Ann:=fun id => bif Nat.beq id 1 then ⟨[6,0,1],[]⟩ else ⟨[],[]⟩
abbrev Zdi:=Int × Int × Int × List Int
abbrev ZvD:=Zdi → Option (Unit × (List Int × Int × Unit) × Unit)
def ZSX:Zdi → St
 | (v0,v1,v2,v3) => St.mk (Zy [(6,Zp v0),(0,AV.bx 0 0),(1,AV.val (PV.v (Value.int IntKind.u64 v1)))]) (Zx [(0,Wh [AV.own 8192,Zp v2]),(8192,RS.live (Res.arr (Ty.int IntKind.u8) v3 false))])
def Zez (k:Nat) (L1:ZvD):ZvD
 | (v0,v1,v2,v3) => bif decide (0 ≤ v0) then bif decide (0 ≤ v0) then (Zhr k ((v3,v2,()),IntKind.i64.wrap (IntKind.u64.wrap (Int.ofNat (BitVec.ofInt 64 (v1.fdiv ((2:Int) ^ min v0.toNat 64)) &&& BitVec.ofInt 64 (1:Int)).toNat)),())).bind fun y => L1 (IntKind.i64.wrap (v0 - 1),v1,y.2.1.2.1,y.2.1.1) else none else some ((),(v3,v2,()),())
def ZvE (k:Nat):ZvD:=Zm (fun L1 => Zez k L1) k
noncomputable def ZC8 (k:Nat) (n:Nat) (v:Zdi) :=
 Zt (ZsF k) ZP4 [0] [1,0] [] (Q4 Tryz.f63) (Q8 (ZsF k) Tryz.f63 ZpX QB [AV.bx (nat_lit 0) (nat_lit 0)] [[]]) n (ZSX v)
def Zjl (k:Nat) (L1:ZvD):(List Int × Int × Unit) × Int × Int × Unit → Option (Unit × (List Int × Int × Unit) × Unit)
 | ((a0,a1,()),a2,a3,()) => L1 (IntKind.i64.wrap (a3 - 1),a2,a1,a0)
def ZdE (k:Nat):=Zjl k (ZvE k)
theorem ZKt (k:Nat):∀ n,ZC8 k n = Zm (fun L1 => Zez k L1) n :=
 Zk (fun v => by kernel_rfl) (fun n v => by
  obtain ⟨v0,v1,v2,v3⟩:=v
  kernel_rfl)
theorem ZSY (k:Nat) (x:Kd.dens ZpX):ZF (ZsF k) ZP4 Tryz.f63 ZpX QB x = ZdE k x:=by
 show _ = Zjl k (ZvE k) x
 rw [show ZvE k = ZC8 k k from (ZKt k k).symm]
 obtain ⟨⟨a0,⟨a1,⟨⟩⟩⟩,⟨a2,⟨a3,⟨⟩⟩⟩⟩:=x
 kernel_rfl
theorem ZC9 (k:Nat):Ctr Tryz.prog k 63 (mk ZpX QB ZdE) :=
 ZG (fn:=Tryz.f63) (Zh (Za (Zxh k) Zc)) (by kernel_rfl) (by kernel_rfl) (ZSY k)
noncomputable abbrev ZUR:Nat × Callee:=(63,mk ZpX QB ZdE)
abbrev Zem:List Kd:=[.box [.own (.int .u8) false,.view (.int .i64)],.view (.int .i64),.view (.int .i64)]
noncomputable def ZPK (k:Nat):=Wc k [ZP3,ZUR]
def ZiS (k:Nat):(List Int × Int × Unit) × Int × Int × Unit → Option (Int × (List Int × Int × Unit) × Unit)
 | ((a0,a1,()),a2,a3,()) => (ZpV k (a3,())).bind fun y => bif y.1 then some (1,(a0,a1,()),()) else bif decide (a2 < 0) then some (12,(a0,a1,()),()) else bif decide (0 ≤ a3) then bif a2.fdiv ((2:Int) ^ min a3.toNat 64) != (0:Int) then some (12,(a0,a1,()),()) else (ZdE k ((a0,a1,()),IntKind.u64.wrap a2,a3,())).bind fun y => some (0,(y.2.1.1,y.2.1.2.1,()),()) else none
def QQ (k:Nat):=ZiS k
theorem ZSa (k:Nat) (x:Kd.dens Zem):ZF (ZPK k) nA Tryz.f26 Zem Ze x = QQ k x:=by
 show _ = ZiS k x
 obtain ⟨⟨a0,⟨a1,⟨⟩⟩⟩,⟨a2,⟨a3,⟨⟩⟩⟩⟩:=x
 kernel_rfl
theorem ZuY (k:Nat):Ctr Tryz.prog k 26 (mk Zem Ze QQ) :=
 ZG (fn:=Tryz.f26) (Zh (Za (ZvC k) (Za (ZC9 k) Zc))) (by kernel_rfl) (by kernel_rfl) (ZSa k)
noncomputable abbrev ZJD:Nat × Callee:=(26,mk Zem Ze QQ)
def Zjm (k:Nat):Int × Unit → Option (Int × Unit)
 | (a0,()) => bif a0 == 1 then some (7,()) else some (IntKind.i64.wrap (IntKind.i64.wrap ((5:Int) * a0) + 1),())
def ZsG (k:Nat):=Zjm k
theorem ZSZ (k:Nat) (x:Kd.dens Zr):ZF (ZJ k) nA Tryz.f64 Zr Ze x = ZsG k x:=by
 show _ = Zjm k x
 obtain ⟨a0,⟨⟩⟩:=x
 kernel_rfl
theorem ZDa (k:Nat):Ctr Tryz.prog k 64 (mk Zr Ze ZsG) :=
 ZG (fn:=Tryz.f64) (Zh Zc) (by kernel_rfl) (by kernel_rfl) (ZSZ k)
noncomputable abbrev ZP5:Nat × Callee:=(64,mk Zr Ze ZsG)
abbrev ZpC:Kd:=.tup [.view (.sl (.int .u8)),.view (.int .i64)]
noncomputable def ZyA (k:Nat):=Wc k [ZP5]
def ZJE:Nat → Ann:=fun id => bif Nat.beq id 10 then ⟨[6,5,0,4],[]⟩ else bif Nat.beq id 6 then ⟨[0,4],[]⟩ else ⟨[],[]⟩
abbrev Zu0:=Zdi → Option ((List Int × Int × Unit) × Unit)
abbrev Zdg:=Int × Int
abbrev ZuZ:=Zdg → Option ((List Int × Int × Unit) × Unit)
def ZSc:Zdi → St
 | (v0,v1,v2,v3) => St.mk (Zy [(6,Zp v0),(5,AV.own 8192),(0,Zp v1),(4,Zp v2)]) (Zx [(8192,RS.live (Res.arr (Ty.int IntKind.u8) v3 false))])
def Zeo (k:Nat) (L2:Zu0):Zu0
 | (v0,v1,v2,v3) => bif decide ((0:Int) < v0) then bif decide (0 ≤ v0 ∧ v0 < Int.ofNat v3.length) then bif decide (v0.toNat < v3.length) then L2 (IntKind.i64.wrap (v0 - 1),v1.fdiv (64:Int),v2,v3.set v0.toNat (IntKind.u8.wrap (Int.ofNat (BitVec.ofInt 8 (128:Int) ||| BitVec.ofInt 8 (IntKind.u8.wrap (IntKind.i64.wrap (Int.ofNat (BitVec.ofInt 64 v1 &&& BitVec.ofInt 64 (63:Int)).toNat)))).toNat))) else none else none else bif decide (0 ≤ v2) then bif decide ((0:Int) ≤ 0 ∧ (0:Int) < Int.ofNat v3.length) then bif decide ((0:Nat) < v3.length) then some ((v3.set (0:Nat) (IntKind.u8.wrap (Int.ofNat (BitVec.ofInt 8 (IntKind.u8.wrap (Int.fdiv (65280:Int) ((2:Int) ^ min v2.toNat 64))) ||| BitVec.ofInt 8 (IntKind.u8.wrap v1)).toNat)),0,()),()) else none else none else none
def ZpB (k:Nat):Zu0:=Zm (fun L2 => Zeo k L2) k
noncomputable def ZCJ (k:Nat) (n:Nat) (v:Zdi) :=
 Zt (ZyA k) ZJE [] [1,1,1,1,1,1,0,1,0] [] (Q4 Tryz.f27) (Q8 (ZyA k) Tryz.f27 Zr ZpC [] []) n (ZSc v)
def ZSb:Zdg → St
 | (v0,v1) => St.mk (Zy [(0,Zp v0),(4,Zp v1)]) (Zx [])
def Zen (k:Nat) (L2:Zu0) (L1:ZuZ):ZuZ
 | (v0,v1) => (ZsG k (v1,())).bind fun y => bif decide ((0:Int) ≤ y.1) then bif decide ((0:Int) < v0.fdiv ((2:Int) ^ min (Int.toNat y.1) (64:Nat))) then L1 (v0,IntKind.i64.wrap (v1 + 1)) else bif decide (0 ≤ v1 ∧ v1 ≤ v1 ∧ v1 < 4294967296) then L2 (IntKind.i64.wrap (v1 - 1),v0,v1,List.replicate v1.toNat (0:Int)) else none else none
def Zu1 (k:Nat):ZuZ:=Zm (fun L1 => Zen k (ZpB k) L1) k
noncomputable def ZCI (k:Nat) (n:Nat) (v:Zdg) :=
 Zt (ZyA k) ZJE [] [1,1,1,1,0,0] [] (Q4 Tryz.f27) (Q8 (ZyA k) Tryz.f27 Zr ZpC [] []) n (ZSb v)
def ZiT (k:Nat) (L1:ZuZ):Int × Unit → Option ((List Int × Int × Unit) × Unit)
 | (a0,()) => bif decide (a0 < 0) then some (([],12,()),()) else bif decide ((68719476735:Int) < a0) then some (([],12,()),()) else bif decide (a0 < 128) then some (([IntKind.u8.wrap a0],0,()),()) else L1 (a0,(2:Int))
def ZpA (k:Nat):=ZiT k (Zu1 k)
theorem ZJG (k:Nat):∀ n,ZCJ k n = Zm (fun L2 => Zeo k L2) n :=
 Zk (fun v => by kernel_rfl) (fun n v => by
  obtain ⟨v0,v1,v2,v3⟩:=v
  kernel_rfl)
theorem ZJF (k:Nat):∀ n,ZCI k n = Zm (fun L1 => Zen k (ZpB k) L1) n :=
 Zk (fun v => by kernel_rfl) (fun n v => by
  rw [show (ZpB k) = ZCJ k k from (ZJG k k).symm]
  obtain ⟨v0,v1⟩:=v
  kernel_rfl)
theorem ZSd (k:Nat) (x:Kd.dens Zr):ZF (ZyA k) ZJE Tryz.f27 Zr ZpC x = ZpA k x:=by
 show _ = ZiT k (Zu1 k) x
 rw [show Zu1 k = ZCI k k from (ZJF k k).symm]
 obtain ⟨a0,⟨⟩⟩:=x
 kernel_rfl
theorem ZOm (k:Nat):Ctr Tryz.prog k 27 (mk Zr ZpC ZpA) :=
 ZG (fn:=Tryz.f27) (Zh (Za (ZDa k) Zc)) (by kernel_rfl) (by kernel_rfl) (ZSd k)
noncomputable abbrev ZUq:Nat × Callee:=(27,mk Zr ZpC ZpA)
abbrev Zlh:List Kd:=[.view (.sl (.int .u8)),.view (.int .i64),.view (.int .u64)]
def ZKu:Nat → Ann:=fun id => bif Nat.beq id 7 then ⟨[24,7,1,2,13,12,11],[]⟩ else bif Nat.beq id 3 then ⟨[12,13,11,7,1,2],[]⟩ else ⟨[],[]⟩
abbrev ZBz:=Int × Int × Int × Int × Int × Int × List Int
abbrev ZvF:=ZBz → Option (Int × Unit)
abbrev ZBy:=Int × Int × List Int × Int × Int × Int
abbrev Zlg:=ZBy → Option (Int × Unit)
def ZS1:ZBz → St
 | (v0,v1,v2,v3,v4,v5,v6) => St.mk (Zy [(24,Zp v0),(7,AV.val (PV.v (Value.int IntKind.u64 v1))),(1,Zp v2),(2,AV.val (PV.v (Value.int IntKind.u64 v3))),(13,Zp v4),(12,Zp v5),(11,AV.val (PV.sl (Ty.int IntKind.u8) v6))]) (Zx [])
def ZcB (k:Nat) (L1:Zlg) (L2:ZvF):ZvF
 | (v0,v1,v2,v3,v4,v5,v6) => bif decide (v0 < 8) then bif decide (0 ≤ IntKind.i64.wrap (v2 - 1)) then bif decide (0 ≤ v2) then L2 (IntKind.i64.wrap (v0 + 1),IntKind.u64.wrap (Int.ofNat (BitVec.ofInt 64 (IntKind.u64.wrap (Int.ofNat (BitVec.ofInt 64 (IntKind.u64.wrap (v1 * (2:Int))) &&& BitVec.ofInt 64 (IntKind.u64.wrap (IntKind.u64.wrap ((1:Int) * (2:Int) ^ min v2.toNat 64) - (1:Int)))).toNat)) ^^^ BitVec.ofInt 64 (IntKind.u64.wrap (IntKind.u64.wrap (Int.ofNat (BitVec.ofInt 64 (v1.fdiv ((2:Int) ^ min (IntKind.i64.wrap (v2 - 1)).toNat 64)) &&& BitVec.ofInt 64 (1:Int)).toNat) * v3))).toNat),v2,v3,v4,v5,v6) else none else none else L1 (v5,IntKind.i64.wrap (v4 + 1),v6,v1,v2,v3)
def ZvH (k:Nat) (L1:Zlg):ZvF:=Zm (fun L2 => ZcB k L1 L2) k
noncomputable def ZnL (k:Nat) (n1:Nat) (n:Nat) (v:ZBz):Option (Int × Unit) :=
 Zt (ZJ k) ZKu [] [1,1,0,1,0,0,1,1,0,0,1,1,1,0] [n1] (Q4 Tryz.f65) (Q8 (ZJ k) Tryz.f65 Zlh Ze [] []) n (ZS1 v)
def ZS0:ZBy → St
 | (v0,v1,v2,v3,v4,v5) => St.mk (Zy [(12,Zp v0),(13,Zp v1),(11,AV.val (PV.sl (Ty.int IntKind.u8) v2)),(7,AV.val (PV.v (Value.int IntKind.u64 v3))),(1,Zp v4),(2,AV.val (PV.v (Value.int IntKind.u64 v5)))]) (Zx [])
def ZeA (k:Nat) (L2:ZvF) (L1:Zlg):Zlg
 | (v0,v1,v2,v3,v4,v5) => bif decide (v1 < v0) then bif decide (0 ≤ v1 ∧ v1 < Int.ofNat v2.length) then bif decide (0 ≤ IntKind.i64.wrap (v4 - 8)) then L2 (0,IntKind.u64.wrap (Int.ofNat (BitVec.ofInt 64 v3 ^^^ BitVec.ofInt 64 (IntKind.u64.wrap (IntKind.u64.wrap (v2.getD v1.toNat 0) * (2:Int) ^ min (IntKind.i64.wrap (v4 - 8)).toNat 64))).toNat),v4,v5,v1,v0,v2) else none else none else some (IntKind.i64.wrap v3,())
def ZvG (k:Nat):Zlg:=Zm (fun L1 => ZeA k (ZvH k L1) L1) k
noncomputable def Zjn (k:Nat) (n:Nat) (v:ZBy) :=
 Zt (ZJ k) ZKu [] [1,1,0,1,0] [] (Q4 Tryz.f65) (Q8 (ZJ k) Tryz.f65 Zlh Ze [] []) n (ZS0 v)
def Zjo (k:Nat) (L1:Zlg):List Int × Int × Int × Unit → Option (Int × Unit)
 | (a0,a1,a2,()) => L1 (Int.ofNat a0.length,(0:Int),a0,(0:Int),a1,a2)
def ZgY (k:Nat):=Zjo k (ZvG k)
theorem ZKw (k:Nat) (n1:Nat):∀ n,ZnL k n1 n = Zm (fun L2 => ZcB k (Zjn k n1) L2) n :=
 Zk (fun v => by kernel_rfl) (fun n v => by
  show ZnL k n1 (n + 1) v = ZcB k (Zjn k n1) (ZnL k n1 n) v
  obtain ⟨v0,v1,v2,v3,v4,v5,v6⟩:=v
  kernel_rfl)
theorem ZKv (k:Nat):∀ n,Zjn k n = Zm (fun L1 => ZeA k (ZvH k L1) L1) n :=
 Zk (fun v => by kernel_rfl) (fun n v => by
  rw [show (ZvH k (Zjn k n)) = ZnL k n k from (ZKw k n k).symm]
  obtain ⟨v0,v1,v2,v3,v4,v5⟩:=v
  kernel_rfl)
theorem ZS2 (k:Nat) (x:Kd.dens Zlh):ZF (ZJ k) ZKu Tryz.f65 Zlh Ze x = ZgY k x:=by
 show _ = Zjo k (ZvG k) x
 rw [show ZvG k = Zjn k k from (ZKv k k).symm]
 obtain ⟨a0,⟨a1,⟨a2,⟨⟩⟩⟩⟩:=x
 kernel_rfl
theorem ZDb (k:Nat):Ctr Tryz.prog k 65 (mk Zlh Ze ZgY) :=
 ZG (fn:=Tryz.f65) (Zh Zc) (by kernel_rfl) (by kernel_rfl) (ZS2 k)
noncomputable abbrev ZUS:Nat × Callee:=(65,mk Zlh Ze ZgY)
abbrev Wg:List Kd:=[.view (.sl (.int .u8))]
noncomputable def ZPL (k:Nat):=Wc k [ZUS]
def ZiU (k:Nat):List Int × Unit → Option (Int × Unit)
 | (a0,()) => (ZgY k (a0,8,7,())).bind fun y => some (y.1,())
def Zsz (k:Nat):=ZiU k
theorem ZSe (k:Nat) (x:Kd.dens Wg):ZF (ZPL k) nA Tryz.f28 Wg Ze x = Zsz k x:=by
 show _ = ZiU k x
 obtain ⟨a0,⟨⟩⟩:=x
 kernel_rfl
theorem ZCK (k:Nat):Ctr Tryz.prog k 28 (mk Wg Ze Zsz) :=
 ZG (fn:=Tryz.f28) (Zh (Za (ZDb k) Zc)) (by kernel_rfl) (by kernel_rfl) (ZSe k)
noncomputable abbrev ZPM:Nat × Callee:=(28,mk Wg Ze Zsz)
abbrev ZpZ:Kd:=.own (.int .u8) false
def ZsH (k:Nat):List Int × Unit → Option (List Int × Unit):=fun x => KY x
noncomputable def ZP6 (k:Nat):Ctx:={ P:=Tryz.prog,Φ:=phi [],k:=k,live:=fun _ => [] }
noncomputable def Zy0:Code:=ZG9 Tryz.f66
theorem ZDc (k:Nat):Ctr Tryz.prog k 66 (mk Wg ZpZ ZsH) :=
 ZrE (C:=ZP6 k) (A:=fun _ => ⟨[],[]⟩) (Zh Zc) ZhT (f:=66) (fn:=Tryz.f66) (o0:=Zlz (Zbo [0] Zy0) 0) (o1:=Zlz (Zbo [1,0,0] Zy0) 0) (o2:=Zlz (Zbo [1,0,0] Zy0) 1)
  (r0:=0) (r1:=1) (X:=Zbo [1,0,1,0] Zy0) (Y:=Zbo [1,1] Zy0) (T:=32) (E:=5) (U:=32) (t:=(.int .u8))
  (by kernel_rfl) (by kernel_rfl) (by kernel_rfl) (by kernel_rfl) (by kernel_rfl) (of_decide_eq_true (by kernel_rfl)) (by kernel_rfl) ⟨by kernel_rfl,by kernel_rfl,by kernel_rfl⟩ ⟨by kernel_rfl,by kernel_rfl,by kernel_rfl⟩ ⟨by kernel_rfl,by kernel_rfl,by kernel_rfl⟩ (fun xs => by kernel_rfl) (by kernel_rfl)
noncomputable abbrev ZP7:Nat × Callee:=(66,mk Wg ZpZ ZsH)
abbrev Zep:List Kd:=[.box [.own (.int .u8) false,.view (.int .i64)]]
noncomputable def ZUr (k:Nat):=Wc k [ZP7] (fun r => bif Nat.beq r 999998 then [66] else [])
def ZiV (k:Nat):(List Int × Int × Unit) × Unit → Option (List Int × (List Int × Int × Unit) × Unit)
 | ((a0,a1,()),()) => (ZsH k (a0,())).bind fun y => some (y.1,(a0,a1,()),())
def ZpD (k:Nat):=ZiV k
theorem ZSf (k:Nat) (x:Kd.dens Zep):ZF (ZUr k) nA Tryz.f29 Zep ZpZ x = ZpD k x:=by
 show _ = ZiV k x
 obtain ⟨⟨a0,⟨a1,⟨⟩⟩⟩,⟨⟩⟩:=x
 kernel_rfl
theorem ZOn (k:Nat):Ctr Tryz.prog k 29 (mk Zep ZpZ ZpD) :=
 ZG (fn:=Tryz.f29) (Zh (Za (ZDc k) Zc)) (by kernel_rfl) (by kernel_rfl) (ZSf k)
noncomputable abbrev ZUs:Nat × Callee:=(29,mk Zep ZpZ ZpD)
abbrev Zeq:List Kd:=[.view shapeT,.view (.int .i64)]
abbrev YK:Kd:=.view (.sl (.int .i64))
noncomputable def ZUt (k:Nat):=Wc k [] (fun r => bif Nat.beq r 999999 then [1] else [])
def ZiW (k:Nat):(Int × Int × Int × Unit) × Int × Unit → Option (List Int × Unit)
 | ((a0,a1,a2,()),a3,()) => bif decide ((0:Int) ≤ 0 ∧ (0:Int) ≤ a0 ∧ a0 ≤ Int.ofNat [a1,a1].length) then bif a3 == 8 then bif decide ((0:Nat) ≤ a0.toNat ∧ a0.toNat ≤ [a1,a1].length ∧ (0:Int) ≤ 1 ∧ (1:Nat) < a0.toNat - (0:Nat)) then bif decide ((0:Nat) ≤ a0.toNat ∧ a0.toNat ≤ [a1,a1].length ∧ (0:Int) ≤ 1 ∧ (1:Nat) < a0.toNat - (0:Nat)) then bif decide ((0:Nat) ≤ a0.toNat ∧ a0.toNat ≤ ([a1,a1].set (1:Nat) (IntKind.i64.wrap ([a1,a1].getD 1 0 + (1:Int)))).length) then some (List.drop 0 (List.take a0.toNat ([a1,a1].set (1:Nat) (IntKind.i64.wrap ([a1,a1].getD 1 0 + (1:Int))))),()) else none else none else none else bif a3 == 10 then bif decide ((0:Nat) ≤ a0.toNat ∧ a0.toNat ≤ [a1,a1].length ∧ (0:Int) ≤ 1 ∧ (1:Nat) < a0.toNat - (0:Nat)) then bif decide ((0:Nat) ≤ a0.toNat ∧ a0.toNat ≤ [a1,a1].length ∧ (0:Int) ≤ 1 ∧ (1:Nat) < a0.toNat - (0:Nat)) then bif decide ((0:Nat) ≤ a0.toNat ∧ a0.toNat ≤ ([a1,a1].set (1:Nat) (IntKind.i64.wrap ([a1,a1].getD 1 0 + (1:Int)))).length) then some (List.drop 0 (List.take a0.toNat ([a1,a1].set (1:Nat) (IntKind.i64.wrap ([a1,a1].getD 1 0 + (1:Int))))),()) else none else none else none else bif a3 == 9 then bif decide ((0:Nat) ≤ a0.toNat ∧ a0.toNat ≤ [a1,a1].length ∧ (0:Int) ≤ 0 ∧ (0:Nat) < a0.toNat - (0:Nat)) then bif decide ((0:Nat) ≤ a0.toNat ∧ a0.toNat ≤ [a1,a1].length ∧ (0:Int) ≤ 0 ∧ (0:Nat) < a0.toNat - (0:Nat)) then bif decide ((0:Nat) ≤ a0.toNat ∧ a0.toNat ≤ ([a1,a1].set (0:Nat) (IntKind.i64.wrap ([a1,a1].getD 0 0 + (1:Int)))).length) then some (List.drop 0 (List.take a0.toNat ([a1,a1].set (0:Nat) (IntKind.i64.wrap ([a1,a1].getD 0 0 + (1:Int))))),()) else none else none else none else bif decide ((0:Nat) ≤ a0.toNat ∧ a0.toNat ≤ [a1,a1].length) then some (List.drop 0 (List.take a0.toNat [a1,a1]),()) else none else none
def ZsA (k:Nat):=ZiW k
theorem ZSg (k:Nat) (x:Kd.dens Zeq):ZF (ZUt k) nA Tryz.f30 Zeq YK x = ZsA k x:=by
 show _ = ZiW k x
 obtain ⟨⟨a0,⟨a1,⟨a2,⟨⟩⟩⟩⟩,⟨a3,⟨⟩⟩⟩:=x
 kernel_rfl
theorem ZCL (k:Nat):Ctr Tryz.prog k 30 (mk Zeq YK ZsA) :=
 ZG (fn:=Tryz.f30) (Zh Zc) (by kernel_rfl) (by kernel_rfl) (ZSg k)
noncomputable abbrev ZPN:Nat × Callee:=(30,mk Zeq YK ZsA)
abbrev Qf:List Kd:=[.view (.int .i64),.view (.int .i64)]
def ZjJ (k:Nat):Int × Int × Unit → Option (Bool × Unit)
 | (a0,a1,()) => bif decide (1 ≤ a0) then bif decide (a0 ≤ 512) then bif decide (4 ≤ a1) then some (decide (a1 ≤ 25),()) else some (false,()) else some (false,()) else some (false,())
def ZsO (k:Nat):=ZjJ k
theorem ZTD (k:Nat) (x:Kd.dens Qf):ZF (ZJ k) nA Tryz.f86 Qf ZA x = ZsO k x:=by
 show _ = ZjJ k x
 obtain ⟨a0,⟨a1,⟨⟩⟩⟩:=x
 kernel_rfl
theorem ZDw (k:Nat):Ctr Tryz.prog k 86 (mk Qf ZA ZsO) :=
 ZG (fn:=Tryz.f86) (Zh Zc) (by kernel_rfl) (by kernel_rfl) (ZTD k)
noncomputable abbrev ZQf:Nat × Callee:=(86,mk Qf ZA ZsO)
def ZjM (k:Nat):Int × Int × Unit → Option (Bool × Unit)
 | (a0,a1,()) => bif decide (0 ≤ IntKind.i64.wrap (a1 - 1)) then bif a0.fdiv ((2:Int) ^ min (IntKind.i64.wrap (a1 - 1)).toNat 64) == (0:Int) then some (true,()) else bif decide (0 ≤ IntKind.i64.wrap (a1 - 1)) then some (a0.fdiv ((2:Int) ^ min (IntKind.i64.wrap (a1 - 1)).toNat 64) == (-1:Int),()) else none else none
def ZsP (k:Nat):=ZjM k
theorem ZTG (k:Nat) (x:Kd.dens Qf):ZF (ZJ k) nA Tryz.f89 Qf ZA x = ZsP k x:=by
 show _ = ZjM k x
 obtain ⟨a0,⟨a1,⟨⟩⟩⟩:=x
 kernel_rfl
theorem ZDx (k:Nat):Ctr Tryz.prog k 89 (mk Qf ZA ZsP) :=
 ZG (fn:=Tryz.f89) (Zh Zc) (by kernel_rfl) (by kernel_rfl) (ZTG k)
noncomputable abbrev ZQh:Nat × Callee:=(89,mk Qf ZA ZsP)
abbrev Zmx:List Kd:=[.view (.int .i64),.box [.view (.int .i64)]]
noncomputable def ZQF (k:Nat):=Wc k [ZQh]
def Zfr (k:Nat):Int × (Int × Unit) × Unit → Option (Bool × (Int × Unit) × Unit)
 | (a0,(a1,()),()) => (ZsP k (a0,a1,())).bind fun y => some (!y.1,(a1,()),())
def ZoA (k:Nat):=Zfr k
theorem ZMg (k:Nat) (x:Kd.dens Zmx):ZF (ZQF k) nA Tryz.f105 Zmx ZA x = ZoA k x:=by
 show _ = Zfr k x
 obtain ⟨a0,⟨⟨a1,⟨⟩⟩,⟨⟩⟩⟩:=x
 kernel_rfl
theorem ZHz (k:Nat):Ctr Tryz.prog k 105 (mk Zmx ZA ZoA) :=
 ZG (fn:=Tryz.f105) (Zh (Za (ZDx k) Zc)) (by kernel_rfl) (by kernel_rfl) (ZMg k)
noncomputable abbrev ZQG:Nat × Callee:=(105,mk Zmx ZA ZoA)
abbrev XT:List Kd:=[.view (.sl (.int .i64)),.clo 105 [.box [.view (.int .i64)]]]
noncomputable def ZoR (k:Nat):=Wc k [ZQG]
def X8:Nat → Ann:=fun id => bif Nat.beq id 2 then ⟨[7,8,1,0],[]⟩ else ⟨[],[]⟩
abbrev Wx:=Int × Int × List Int × Int
abbrev Zf2:=Wx → Option (Int × (Int × Unit) × Unit)
def ZFg:Wx → St
 | (v0,v1,v2,v3) => St.mk (Zy [(7,Zp v0),(8,Zp v1),(1,AV.clo 105 [AV.bx 0 0]),(0,WM v2)]) (Zx [(0,Wh [Zp v3])])
def Kz (k:Nat) (L1:Zf2):Zf2
 | (v0,v1,v2,v3) => bif decide (v1 < v0) then bif decide (0 ≤ v1 ∧ v1 < Int.ofNat v2.length) then (ZoA k (v2.getD v1.toNat 0,(v3,()),())).bind fun y => bif y.1 then some (v1,(y.2.1.1,()),()) else L1 (v0,IntKind.i64.wrap (v1 + 1),v2,y.2.1.1) else none else some ((-1:Int),(v3,()),())
def ZkT (k:Nat):Zf2:=Zm (fun L1 => Kz k L1) k
noncomputable def ZoS (k:Nat) (n:Nat) (v:Wx) :=
 Zt (ZoR k) X8 [0] [1,0,1,0] [] (Q4 Tryz.f146) (Q8 (ZoR k) Tryz.f146 XT Ze [AV.bx (nat_lit 0) (nat_lit 0)] [[]]) n (ZFg v)
def ZlX (k:Nat) (L1:Zf2):List Int × ((Int × Unit) × Unit) × Unit → Option (Int × (Int × Unit) × Unit)
 | (a0,((a1,()),()),()) => L1 (Int.ofNat a0.length,(0:Int),a0,a1)
def Zea (k:Nat):=ZlX k (ZkT k)
theorem ZxT (k:Nat):∀ n,ZoS k n = Zm (fun L1 => Kz k L1) n :=
 Zk (fun v => by kernel_rfl) (fun n v => by
  obtain ⟨v0,v1,v2,v3⟩:=v
  kernel_rfl)
theorem ZFh (k:Nat) (x:Kd.dens XT):ZF (ZoR k) X8 Tryz.f146 XT Ze x = Zea k x:=by
 show _ = ZlX k (ZkT k) x
 rw [show ZkT k = ZoS k k from (ZxT k k).symm]
 obtain ⟨a0,⟨⟨⟨a1,⟨⟩⟩,⟨⟩⟩,⟨⟩⟩⟩:=x
 kernel_rfl
theorem ZAO (k:Nat):Ctr Tryz.prog k 146 (mk XT Ze Zea) :=
 ZG (fn:=Tryz.f146) (Zh (Za (ZHz k) Zc)) (by kernel_rfl) (by kernel_rfl) (ZFh k)
noncomputable abbrev ZIn:Nat × Callee:=(146,mk XT Ze Zea)
noncomputable def ZHp (k:Nat):=Wc k [ZIn]
def Za0 (k:Nat):List Int × ((Int × Unit) × Unit) × Unit → Option (Bool × (Int × Unit) × Unit)
 | (a0,((a1,()),()),()) => (Zea k (a0,((a1,()),()),())).bind fun y => some (decide ((0:Int) ≤ y.1),(y.2.1.1,()),())
def ZdZ (k:Nat):=Za0 k
theorem ZEr (k:Nat) (x:Kd.dens XT):ZF (ZHp k) nA Tryz.f104 XT ZA x = ZdZ k x:=by
 show _ = Za0 k x
 obtain ⟨a0,⟨⟨⟨a1,⟨⟩⟩,⟨⟩⟩,⟨⟩⟩⟩:=x
 kernel_rfl
theorem ZAs (k:Nat):Ctr Tryz.prog k 104 (mk XT ZA ZdZ) :=
 ZG (fn:=Tryz.f104) (Zh (Za (ZAO k) Zc)) (by kernel_rfl) (by kernel_rfl) (ZEr k)
noncomputable abbrev ZHq:Nat × Callee:=(104,mk XT ZA ZdZ)
abbrev Zz:List Kd:=[.view (.sl (.int .i64)),.view (.int .i64)]
noncomputable def ZUT (k:Nat):=Wc k [ZQf,ZHq]
def Zjp (k:Nat):List Int × Int × Unit → Option (Int × Unit)
 | (a0,a1,()) => (ZsO k (Int.ofNat a0.length,a1,())).bind fun y => bif !y.1 then some (1,()) else (ZdZ k (a0,((a1,()),()),())).bind fun y => bif y.1 then some (12,()) else some (0,())
def ZsI (k:Nat):=Zjp k
theorem ZS3 (k:Nat) (x:Kd.dens Zz):ZF (ZUT k) nA Tryz.f67 Zz Ze x = ZsI k x:=by
 show _ = Zjp k x
 obtain ⟨a0,⟨a1,⟨⟩⟩⟩:=x
 kernel_rfl
theorem ZOI (k:Nat):Ctr Tryz.prog k 67 (mk Zz Ze ZsI) :=
 ZG (fn:=Tryz.f67) (Zh (Za (ZDw k) (Za (ZAs k) Zc))) (by kernel_rfl) (by kernel_rfl) (ZS3 k)
noncomputable abbrev ZUU:Nat × Callee:=(67,mk Zz Ze ZsI)
abbrev ZmB:List Kd:=[.view (.int .i64),.box [.view (.int .i64),.view (.int .i64),.view (.int .i64),.view (.sl (.int .i64)),.view (.sl (.int .i64)),.view (.int .i64),.view (.sl (.int .i64)),.view (.int .i64)]]
def Zft (k:Nat):Int × (Int × Int × Int × List Int × List Int × Int × List Int × Int × Unit) × Unit → Option (Bool × (Int × Int × Int × List Int × List Int × Int × List Int × Int × Unit) × Unit)
 | (a0,(a1,a2,a3,a4,a5,a6,a7,a8,()),()) => bif decide ((0:Int) ≤ 0 ∧ (0:Int) < Int.ofNat a4.length) then some (a0 != a4.getD 0 0,(a1,a2,a3,a4,a5,a6,a7,a8,()),()) else none
def ZoD (k:Nat):=Zft k
theorem ZMk (k:Nat) (x:Kd.dens ZmB):ZF (ZJ k) nA Tryz.f108 ZmB ZA x = ZoD k x:=by
 show _ = Zft k x
 obtain ⟨a0,⟨⟨a1,⟨a2,⟨a3,⟨a4,⟨a5,⟨a6,⟨a7,⟨a8,⟨⟩⟩⟩⟩⟩⟩⟩⟩⟩,⟨⟩⟩⟩:=x
 kernel_rfl
theorem ZHD (k:Nat):Ctr Tryz.prog k 108 (mk ZmB ZA ZoD) :=
 ZG (fn:=Tryz.f108) (Zh Zc) (by kernel_rfl) (by kernel_rfl) (ZMk k)
noncomputable abbrev ZQJ:Nat × Callee:=(108,mk ZmB ZA ZoD)
abbrev XU:List Kd:=[.view (.sl (.int .i64)),.clo 108 [.box [.view (.int .i64),.view (.int .i64),.view (.int .i64),.view (.sl (.int .i64)),.view (.sl (.int .i64)),.view (.int .i64),.view (.sl (.int .i64)),.view (.int .i64)]]]
noncomputable def ZoT (k:Nat):=Wc k [ZQJ]
abbrev ZkV:=Int × Int × List Int × Int × Int × Int × List Int × List Int × Int × List Int × Int
abbrev Zf3:=ZkV → Option (Int × (Int × Int × Int × List Int × List Int × Int × List Int × Int × Unit) × Unit)
def ZFi:ZkV → St
 | (v0,v1,v2,v3,v4,v5,v6,v7,v8,v9,v10) => St.mk (Zy [(7,Zp v0),(8,Zp v1),(1,AV.clo 108 [AV.bx 0 0]),(0,WM v2)]) (Zx [(0,Wh [Zp v3,Zp v4,Zp v5,WM v6,WM v7,Zp v8,WM v9,Zp v10])])
def KA (k:Nat) (L1:Zf3):Zf3
 | (v0,v1,v2,v3,v4,v5,v6,v7,v8,v9,v10) => bif decide (v1 < v0) then bif decide (0 ≤ v1 ∧ v1 < Int.ofNat v2.length) then (ZoD k (v2.getD v1.toNat 0,(v3,v4,v5,v6,v7,v8,v9,v10,()),())).bind fun y => bif y.1 then some (v1,(y.2.1.1,y.2.1.2.1,y.2.1.2.2.1,y.2.1.2.2.2.1,y.2.1.2.2.2.2.1,y.2.1.2.2.2.2.2.1,y.2.1.2.2.2.2.2.2.1,y.2.1.2.2.2.2.2.2.2.1,()),()) else L1 (v0,IntKind.i64.wrap (v1 + 1),v2,y.2.1.1,y.2.1.2.1,y.2.1.2.2.1,y.2.1.2.2.2.1,y.2.1.2.2.2.2.1,y.2.1.2.2.2.2.2.1,y.2.1.2.2.2.2.2.2.1,y.2.1.2.2.2.2.2.2.2.1) else none else some ((-1:Int),(v3,v4,v5,v6,v7,v8,v9,v10,()),())
def ZkU (k:Nat):Zf3:=Zm (fun L1 => KA k L1) k
noncomputable def ZoU (k:Nat) (n:Nat) (v:ZkV) :=
 Zt (ZoT k) X8 [0] [1,0,1,0] [] (Q4 Tryz.f146) (Q8 (ZoT k) Tryz.f146 XU Ze [AV.bx (nat_lit 0) (nat_lit 0)] [[]]) n (ZFi v)
def ZlY (k:Nat) (L1:Zf3):List Int × ((Int × Int × Int × List Int × List Int × Int × List Int × Int × Unit) × Unit) × Unit → Option (Int × (Int × Int × Int × List Int × List Int × Int × List Int × Int × Unit) × Unit)
 | (a0,((a1,a2,a3,a4,a5,a6,a7,a8,()),()),()) => L1 (Int.ofNat a0.length,(0:Int),a0,a1,a2,a3,a4,a5,a6,a7,a8)
def Zeb (k:Nat):=ZlY k (ZkU k)
theorem ZxU (k:Nat):∀ n,ZoU k n = Zm (fun L1 => KA k L1) n :=
 Zk (fun v => by kernel_rfl) (fun n v => by
  obtain ⟨v0,v1,v2,v3,v4,v5,v6,v7,v8,v9,v10⟩:=v
  kernel_rfl)
theorem ZFj (k:Nat) (x:Kd.dens XU):ZF (ZoT k) X8 Tryz.f146 XU Ze x = Zeb k x:=by
 show _ = ZlY k (ZkU k) x
 rw [show ZkU k = ZoU k k from (ZxU k k).symm]
 obtain ⟨a0,⟨⟨⟨a1,⟨a2,⟨a3,⟨a4,⟨a5,⟨a6,⟨a7,⟨a8,⟨⟩⟩⟩⟩⟩⟩⟩⟩⟩,⟨⟩⟩,⟨⟩⟩⟩:=x
 kernel_rfl
theorem ZAP (k:Nat):Ctr Tryz.prog k 146 (mk XU Ze Zeb) :=
 ZG (fn:=Tryz.f146) (Zh (Za (ZHD k) Zc)) (by kernel_rfl) (by kernel_rfl) (ZFj k)
noncomputable abbrev ZIo:Nat × Callee:=(146,mk XU Ze Zeb)
noncomputable def ZHr (k:Nat):=Wc k [ZIo]
def Za1 (k:Nat):List Int × ((Int × Int × Int × List Int × List Int × Int × List Int × Int × Unit) × Unit) × Unit → Option (Bool × (Int × Int × Int × List Int × List Int × Int × List Int × Int × Unit) × Unit)
 | (a0,((a1,a2,a3,a4,a5,a6,a7,a8,()),()),()) => (Zeb k (a0,((a1,a2,a3,a4,a5,a6,a7,a8,()),()),())).bind fun y => some (decide ((0:Int) ≤ y.1),(y.2.1.1,y.2.1.2.1,y.2.1.2.2.1,y.2.1.2.2.2.1,y.2.1.2.2.2.2.1,y.2.1.2.2.2.2.2.1,y.2.1.2.2.2.2.2.2.1,y.2.1.2.2.2.2.2.2.2.1,()),())
def Zd0 (k:Nat):=Za1 k
theorem ZEs (k:Nat) (x:Kd.dens XU):ZF (ZHr k) nA Tryz.f104 XU ZA x = Zd0 k x:=by
 show _ = Za1 k x
 obtain ⟨a0,⟨⟨⟨a1,⟨a2,⟨a3,⟨a4,⟨a5,⟨a6,⟨a7,⟨a8,⟨⟩⟩⟩⟩⟩⟩⟩⟩⟩,⟨⟩⟩,⟨⟩⟩⟩:=x
 kernel_rfl
theorem ZAt (k:Nat):Ctr Tryz.prog k 104 (mk XU ZA Zd0) :=
 ZG (fn:=Tryz.f104) (Zh (Za (ZAP k) Zc)) (by kernel_rfl) (by kernel_rfl) (ZEs k)
noncomputable abbrev ZHs:Nat × Callee:=(104,mk XU ZA Zd0)
abbrev Znb:List Kd:=[.view (.int .u64)]
def ZAT (k:Nat):Int × Unit → Option (Int × Unit):=fun x => tzF x
def ZVo:Go.Shelf.Ren:=⟨fun n => match n with | 29 => 147 | _ => 0,fun n => match n with | 0 => 0 | 3 => 3 | 4 => 4 | 5 => 5 | 22 => 49 | 25 => 114 | 54 => 216 | _ => 0,fun n => n⟩
set_option maxRecDepth 100000 in
theorem ZTX:Go.Proofs.Lays7.n29 Tryz.prog ZVo:=by
 constructor <;> first | kernel_rfl | (intro w; rfl)
set_option maxRecDepth 100000 in
theorem ZIs (k:Nat):Ctr Tryz.prog k 147 (mk Znb Ze ZAT):=ZTY ZTX (fn:=Tryz.f147) (by kernel_rfl) rfl (by kernel_rfl) (by kernel_rfl) (by kernel_rfl)
noncomputable abbrev ZRc:Nat × Callee:=(147,mk Znb Ze ZAT)
noncomputable def ZAx (k:Nat):=Wc k [ZRc]
def ZHA:Nat → Ann:=fun id => bif Nat.beq id 3 then ⟨[7,8,6,3],[]⟩ else ⟨[],[]⟩
abbrev Zmy:=Wx → Option (Int × Unit)
def ZMh:Wx → St
 | (v0,v1,v2,v3) => St.mk (Zy [(7,Zp v0),(8,Zp v1),(6,WM v2),(3,Zp v3)]) (Zx [])
def ZbS (k:Nat) (L1:Zmy):Zmy
 | (v0,v1,v2,v3) => bif decide (v1 < v0) then bif decide (0 ≤ v1 ∧ v1 < Int.ofNat v2.length) then L1 (v0,IntKind.i64.wrap (v1 + 1),v2,IntKind.i64.wrap (Int.ofNat (BitVec.ofInt 64 v3 ||| BitVec.ofInt 64 (v2.getD v1.toNat 0)).toNat)) else none else bif v3 == 0 then some (0,()) else (ZAT k (IntKind.u64.wrap v3,())).bind fun y => some (y.1,())
def Zmz (k:Nat):Zmy:=Zm (fun L1 => ZbS k L1) k
noncomputable def Zxm (k:Nat) (n:Nat) (v:Wx) :=
 Zt (ZAx k) ZHA [] [1,1,0,1,0] [] (Q4 Tryz.f106) (Q8 (ZAx k) Tryz.f106 Qy Ze [] []) n (ZMh v)
def Zfs (k:Nat) (L1:Zmy):List Int × Unit → Option (Int × Unit)
 | (a0,()) => L1 (Int.ofNat a0.length,(0:Int),a0,(0:Int))
def ZoB (k:Nat):=Zfs k (Zmz k)
theorem ZEy (k:Nat):∀ n,Zxm k n = Zm (fun L1 => ZbS k L1) n :=
 Zk (fun v => by kernel_rfl) (fun n v => by
  obtain ⟨v0,v1,v2,v3⟩:=v
  kernel_rfl)
theorem ZMi (k:Nat) (x:Kd.dens Qy):ZF (ZAx k) ZHA Tryz.f106 Qy Ze x = ZoB k x:=by
 show _ = Zfs k (Zmz k) x
 rw [show Zmz k = Zxm k k from (ZEy k k).symm]
 obtain ⟨a0,⟨⟩⟩:=x
 kernel_rfl
theorem ZHB (k:Nat):Ctr Tryz.prog k 106 (mk Qy Ze ZoB) :=
 ZG (fn:=Tryz.f106) (Zh (Za (ZIs k) Zc)) (by kernel_rfl) (by kernel_rfl) (ZMi k)
noncomputable abbrev ZQH:Nat × Callee:=(106,mk Qy Ze ZoB)
abbrev Q0:Kd:=.tup [.view Zdo,.view (.int .i64)]
def ZtZ:Nat → Ann:=fun id => bif Nat.beq id 17 then ⟨[48,49,47,8,2],[.cell 8 0 ((Ty.int IntKind.i64))]⟩ else bif Nat.beq id 9 then ⟨[29,30,28,5,20,19,2],[]⟩ else bif Nat.beq id 5 then ⟨[19,20,4,2],[]⟩ else ⟨[],[]⟩
abbrev Zt3:=Int × Int × Int × Int × List Int × List Int × Int
abbrev ZmC:=Zt3 → Option (((List Int × Int × Unit) × Int × Unit) × Unit)
abbrev Zae:=Int × Int × List Int × Int × List Int × Int
abbrev ZmD:=Zae → Option (((List Int × Int × Unit) × Int × Unit) × Unit)
abbrev Zfu:=Wx → Option (((List Int × Int × Unit) × Int × Unit) × Unit)
def ZMm:Zt3 → St
 | (v0,v1,v2,v3,v4,v5,v6) => St.mk (Zy [(29,Zp v0),(30,Zp v1),(28,AV.own 8192),(5,AV.own 8193),(20,Zp v2),(19,Zp v3),(2,AV.bx 8194 0)]) (Zx [(8192,rsA v4 false),(8193,rsA v5 false),(8194,Wh [AV.val (PV.v (Value.slice none (0:Nat) (0:Nat))),Zp v6])])
def ZkC (k:Nat) (L1:Zfu) (L2:ZmC):ZmC
 | (v0,v1,v2,v3,v4,v5,v6) => bif decide (v1 < v0) then bif decide (0 ≤ v1 ∧ v1 < Int.ofNat v4.length) then bif decide (v1.toNat < v4.length) then bif decide (0 ≤ IntKind.i64.wrap (v1 + 1) ∧ IntKind.i64.wrap (v1 + 1) < Int.ofNat v5.length) then bif decide ((IntKind.i64.wrap (v1 + 1)).toNat < v5.length) then bif decide (0 ≤ IntKind.i64.wrap (v1 + 1) ∧ IntKind.i64.wrap (v1 + 1) < Int.ofNat v5.length) then bif decide ((IntKind.i64.wrap (v1 + 1)).toNat < v5.length) then L2 (v0,IntKind.i64.wrap (v1 + 1),v2,v3,v4,v5.set (IntKind.i64.wrap (v1 + 1)).toNat (IntKind.i64.wrap (v5.getD (IntKind.i64.wrap (v1 + 1)).toNat 0 - v4.getD v1.toNat 0)),v6) else none else none else none else none else none else none else L1 (v3,IntKind.i64.wrap (v2 + 1),v5,v6)
def Zt1 (k:Nat) (L1:Zfu):ZmC:=Zm (fun L2 => ZkC k L1 L2) k
noncomputable def Zio (k:Nat) (n1:Nat) (n:Nat) (v:Zt3):Option (((List Int × Int × Unit) × Int × Unit) × Unit) :=
 Zt (ZJ k) ZtZ [] [1,1,1,0,1,0,0,1,1,0,0,1,1,0,1,0] [n1] (Q4 Tryz.f109) (Q8 (ZJ k) Tryz.f109 Zr Q0 [] []) n (ZMm v)
def ZMn:Zae → St
 | (v0,v1,v2,v3,v4,v5) => St.mk (Zy [(48,Zp v0),(49,Zp v1),(47,WM v2),(8,AV.bx 8192 0),(2,AV.bx 8194 0)]) (Zx [(8192,Wh [AV.own 8193,Zp v3]),(8193,rsA v4 false),(8194,Wh [AV.val (PV.v (Value.slice none (0:Nat) (0:Nat))),Zp v5])])
def ZrQ (k:Nat) (L3:ZmD):ZmD
 | (v0,v1,v2,v3,v4,v5) => bif decide (v1 < v0) then bif decide (0 ≤ v1 ∧ v1 < Int.ofNat v2.length) then bif decide (v4.length + [IntKind.i64.wrap ((0:Int) - v2.getD v1.toNat 0)].length < 2147483648) then L3 (v0,IntKind.i64.wrap (v1 + 1),v2,v3,v4 ++ [IntKind.i64.wrap ((0:Int) - v2.getD v1.toNat 0)],v5) else none else none else some (((v4,v3,()),0,()),())
def Zt2 (k:Nat):ZmD:=Zm (fun L3 => ZrQ k L3) k
noncomputable def Zxn (k:Nat) (n:Nat) (v:Zae) :=
 Zt (ZJ k) ZtZ [] [1,1,1,1,1,0,1,0] [] (Q4 Tryz.f109) (Q8 (ZJ k) Tryz.f109 Zr Q0 [] []) n (ZMn v)
def ZMl:Wx → St
 | (v0,v1,v2,v3) => St.mk (Zy [(19,Zp v0),(20,Zp v1),(4,AV.own 8192),(2,AV.bx 8193 0)]) (Zx [(8192,rsA v2 false),(8193,Wh [AV.val (PV.v (Value.slice none (0:Nat) (0:Nat))),Zp v3])])
def ZrP (k:Nat) (L2:ZmC) (L3:ZmD) (L1:Zfu):Zfu
 | (v0,v1,v2,v3) => bif decide (v1 < v0) then bif decide ((0:Nat) + v2.length < 2147483648) then bif decide (([] ++ v2).length + (1:Nat) < (2147483648:Nat)) then L2 (Int.ofNat v2.length,(0:Int),v1,v0,v2,[] ++ v2 ++ [(0:Int)],v3) else none else none else bif decide ((0:Int) ≤ 1 ∧ (1:Int) ≤ Int.ofNat v2.length ∧ Int.ofNat v2.length ≤ Int.ofNat v2.length) then L3 (Int.ofNat (List.drop 1 (List.take (Int.ofNat v2.length).toNat v2)).length,(0:Int),List.drop 1 (List.take (Int.ofNat v2.length).toNat v2),(0:Int),[],v3) else none
def Zt0 (k:Nat):Zfu:=Zm (fun L1 => ZrP k (Zt1 k L1) (Zt2 k) L1) k
noncomputable def Zd4 (k:Nat) (n:Nat) (v:Wx) :=
 Zt (ZJ k) ZtZ [] [1,1,1,0,1,0] [] (Q4 Tryz.f109) (Q8 (ZJ k) Tryz.f109 Zr Q0 [] []) n (ZMl v)
def ZrO (k:Nat) (L1:Zfu):Int × Unit → Option (((List Int × Int × Unit) × Int × Unit) × Unit)
 | (a0,()) => bif decide (a0 < 0) then some ((([],(0:Int),()),1,()),()) else bif decide ((4:Int) < a0) then some ((([],(0:Int),()),1,()),()) else L1 (a0,(0:Int),[(1:Int)],(0:Int))
def Zd3 (k:Nat):=ZrO k (Zt0 k)
theorem ZEB (k:Nat) (n1:Nat):∀ n,Zio k n1 n = Zm (fun L2 => ZkC k (Zd4 k n1) L2) n :=
 Zk (fun v => by kernel_rfl) (fun n v => by
  show Zio k n1 (n + 1) v = ZkC k (Zd4 k n1) (Zio k n1 n) v
  obtain ⟨v0,v1,v2,v3,v4,v5,v6⟩:=v
  kernel_rfl)
theorem ZEC (k:Nat):∀ n,Zxn k n = Zm (fun L3 => ZrQ k L3) n :=
 Zk (fun v => by kernel_rfl) (fun n v => by
  obtain ⟨v0,v1,v2,v3,v4,v5⟩:=v
  kernel_rfl)
theorem ZEA (k:Nat):∀ n,Zd4 k n = Zm (fun L1 => ZrP k (Zt1 k L1) (Zt2 k) L1) n :=
 Zk (fun v => by kernel_rfl) (fun n v => by
  rw [show (Zt1 k (Zd4 k n)) = Zio k n k from (ZEB k n k).symm,show (Zt2 k) = Zxn k k from (ZEC k k).symm]
  obtain ⟨v0,v1,v2,v3⟩:=v
  kernel_rfl)
theorem ZMo (k:Nat) (x:Kd.dens Zr):ZF (ZJ k) ZtZ Tryz.f109 Zr Q0 x = Zd3 k x:=by
 show _ = ZrO k (Zt0 k) x
 rw [show Zt0 k = Zd4 k k from (ZEA k k).symm]
 obtain ⟨a0,⟨⟩⟩:=x
 kernel_rfl
theorem ZoE (k:Nat):Ctr Tryz.prog k 109 (mk Zr Q0 Zd3) :=
 ZG (fn:=Tryz.f109) (Zh Zc) (by kernel_rfl) (by kernel_rfl) (ZMo k)
noncomputable abbrev ZAy:Nat × Callee:=(109,mk Zr Q0 Zd3)
def Zf6 (k:Nat):Int × Unit → Option (Bool × Unit)
 | (a0,()) => bif decide (a0 ≤ -2147483648) then some (true,()) else some (decide (2147483648 ≤ a0),())
def ZhB (k:Nat):=Zf6 k
theorem ZNh (k:Nat) (x:Kd.dens Zr):ZF (ZJ k) nA Tryz.f150 Zr ZA x = ZhB k x:=by
 show _ = Zf6 k x
 obtain ⟨a0,⟨⟩⟩:=x
 kernel_rfl
theorem Zo3 (k:Nat):Ctr Tryz.prog k 150 (mk Zr ZA ZhB) :=
 ZG (fn:=Tryz.f150) (Zh Zc) (by kernel_rfl) (by kernel_rfl) (ZNh k)
noncomputable abbrev ZAX:Nat × Callee:=(150,mk Zr ZA ZhB)
abbrev XV:List Kd:=[.view (.sl (.int .i64)),.fn 150]
noncomputable def ZoV (k:Nat):=Wc k [ZAX]
abbrev Wj:=Int × Int × List Int
abbrev Wy:=Wj → Option (Int × Unit)
def ZFk:Wj → St
 | (v0,v1,v2) => St.mk (Zy [(7,Zp v0),(8,Zp v1),(1,AV.fn 150),(0,WM v2)]) (Zx [])
def KB (k:Nat) (L1:Wy):Wy
 | (v0,v1,v2) => bif decide (v1 < v0) then bif decide (0 ≤ v1 ∧ v1 < Int.ofNat v2.length) then (ZhB k (v2.getD v1.toNat 0,())).bind fun y => bif y.1 then some (v1,()) else L1 (v0,IntKind.i64.wrap (v1 + 1),v2) else none else some ((-1:Int),())
def ZkW (k:Nat):Wy:=Zm (fun L1 => KB k L1) k
noncomputable def ZoW (k:Nat) (n:Nat) (v:Wj) :=
 Zt (ZoV k) X8 [] [1,0,1,0] [] (Q4 Tryz.f146) (Q8 (ZoV k) Tryz.f146 XV Ze [] []) n (ZFk v)
def ZlZ (k:Nat) (L1:Wy):List Int × Unit × Unit → Option (Int × Unit)
 | (a0,(),()) => L1 (Int.ofNat a0.length,(0:Int),a0)
def Zec (k:Nat):=ZlZ k (ZkW k)
theorem ZxV (k:Nat):∀ n,ZoW k n = Zm (fun L1 => KB k L1) n :=
 Zk (fun v => by kernel_rfl) (fun n v => by
  obtain ⟨v0,v1,v2⟩:=v
  kernel_rfl)
theorem ZFl (k:Nat) (x:Kd.dens XV):ZF (ZoV k) X8 Tryz.f146 XV Ze x = Zec k x:=by
 show _ = ZlZ k (ZkW k) x
 rw [show ZkW k = ZoW k k from (ZxV k k).symm]
 obtain ⟨a0,⟨⟨⟩,⟨⟩⟩⟩:=x
 kernel_rfl
theorem ZAQ (k:Nat):Ctr Tryz.prog k 146 (mk XV Ze Zec) :=
 ZG (fn:=Tryz.f146) (Zh (Za (Zo3 k) Zc)) (by kernel_rfl) (by kernel_rfl) (ZFl k)
noncomputable abbrev ZIp:Nat × Callee:=(146,mk XV Ze Zec)
noncomputable def ZHt (k:Nat):=Wc k [ZIp]
def Za2 (k:Nat):List Int × Unit × Unit → Option (Bool × Unit)
 | (a0,(),()) => (Zec k (a0,(),())).bind fun y => some (decide ((0:Int) ≤ y.1),())
def Kv (k:Nat):=Za2 k
theorem ZEt (k:Nat) (x:Kd.dens XV):ZF (ZHt k) nA Tryz.f104 XV ZA x = Kv k x:=by
 show _ = Za2 k x
 obtain ⟨a0,⟨⟨⟩,⟨⟩⟩⟩:=x
 kernel_rfl
theorem Zhs (k:Nat):Ctr Tryz.prog k 104 (mk XV ZA Kv) :=
 ZG (fn:=Tryz.f104) (Zh (Za (ZAQ k) Zc)) (by kernel_rfl) (by kernel_rfl) (ZEt k)
noncomputable abbrev Zoz:Nat × Callee:=(104,mk XV ZA Kv)
def ZgE (k:Nat):Int × Unit → Option (Bool × Unit)
 | (a0,()) => bif decide (a0 < -2048) then some (true,()) else some (decide ((2047:Int) < a0),())
def Zps (k:Nat):=ZgE k
theorem ZOh (k:Nat) (x:Kd.dens Zr):ZF (ZJ k) nA Tryz.f192 Zr ZA x = Zps k x:=by
 show _ = ZgE k x
 obtain ⟨a0,⟨⟩⟩:=x
 kernel_rfl
theorem ZJt (k:Nat):Ctr Tryz.prog k 192 (mk Zr ZA Zps) :=
 ZG (fn:=Tryz.f192) (Zh Zc) (by kernel_rfl) (by kernel_rfl) (ZOh k)
noncomputable abbrev ZR0:Nat × Callee:=(192,mk Zr ZA Zps)
abbrev XX:List Kd:=[.view (.sl (.int .i64)),.fn 192]
noncomputable def ZoZ (k:Nat):=Wc k [ZR0]
def ZFo:Wj → St
 | (v0,v1,v2) => St.mk (Zy [(7,Zp v0),(8,Zp v1),(1,AV.fn 192),(0,WM v2)]) (Zx [])
def KD (k:Nat) (L1:Wy):Wy
 | (v0,v1,v2) => bif decide (v1 < v0) then bif decide (0 ≤ v1 ∧ v1 < Int.ofNat v2.length) then (Zps k (v2.getD v1.toNat 0,())).bind fun y => bif y.1 then some (v1,()) else L1 (v0,IntKind.i64.wrap (v1 + 1),v2) else none else some ((-1:Int),())
def ZkY (k:Nat):Wy:=Zm (fun L1 => KD k L1) k
noncomputable def Zo0 (k:Nat) (n:Nat) (v:Wj) :=
 Zt (ZoZ k) X8 [] [1,0,1,0] [] (Q4 Tryz.f146) (Q8 (ZoZ k) Tryz.f146 XX Ze [] []) n (ZFo v)
def Zl1 (k:Nat) (L1:Wy):List Int × Unit × Unit → Option (Int × Unit)
 | (a0,(),()) => L1 (Int.ofNat a0.length,(0:Int),a0)
def Zee (k:Nat):=Zl1 k (ZkY k)
theorem ZxX (k:Nat):∀ n,Zo0 k n = Zm (fun L1 => KD k L1) n :=
 Zk (fun v => by kernel_rfl) (fun n v => by
  obtain ⟨v0,v1,v2⟩:=v
  kernel_rfl)
theorem ZFp (k:Nat) (x:Kd.dens XX):ZF (ZoZ k) X8 Tryz.f146 XX Ze x = Zee k x:=by
 show _ = Zl1 k (ZkY k) x
 rw [show ZkY k = Zo0 k k from (ZxX k k).symm]
 obtain ⟨a0,⟨⟨⟩,⟨⟩⟩⟩:=x
 kernel_rfl
theorem ZAS (k:Nat):Ctr Tryz.prog k 146 (mk XX Ze Zee) :=
 ZG (fn:=Tryz.f146) (Zh (Za (ZJt k) Zc)) (by kernel_rfl) (by kernel_rfl) (ZFp k)
noncomputable abbrev ZIr:Nat × Callee:=(146,mk XX Ze Zee)
noncomputable def ZHw (k:Nat):=Wc k [ZIr]
def Za5 (k:Nat):List Int × Unit × Unit → Option (Bool × Unit)
 | (a0,(),()) => (Zee k (a0,(),())).bind fun y => some (decide ((0:Int) ≤ y.1),())
def Zd2 (k:Nat):=Za5 k
theorem ZEv (k:Nat) (x:Kd.dens XX):ZF (ZHw k) nA Tryz.f104 XX ZA x = Zd2 k x:=by
 show _ = Za5 k x
 obtain ⟨a0,⟨⟨⟩,⟨⟩⟩⟩:=x
 kernel_rfl
theorem ZAv (k:Nat):Ctr Tryz.prog k 104 (mk XX ZA Zd2) :=
 ZG (fn:=Tryz.f104) (Zh (Za (ZAS k) Zc)) (by kernel_rfl) (by kernel_rfl) (ZEv k)
noncomputable abbrev ZHx:Nat × Callee:=(104,mk XX ZA Zd2)
abbrev Zah:List Kd:=[.view Zdo]
noncomputable def ZRD (k:Nat):=Wc k [ZHx]
def Zgs (k:Nat):(List Int × Int × Unit) × Unit → Option (Int × Unit)
 | ((a0,a1,()),()) => bif decide ((8:Int) < Int.ofNat a0.length) then some (2,()) else bif decide (a1 < 0) then some (2,()) else bif decide ((15:Int) < a1) then some (2,()) else (Zd2 k (a0,(),())).bind fun y => bif y.1 then some (2,()) else some (0,())
def Zlb (k:Nat):=Zgs k
theorem ZNV (k:Nat) (x:Kd.dens Zah):ZF (ZRD k) nA Tryz.f172 Zah Ze x = Zlb k x:=by
 show _ = Zgs k x
 obtain ⟨⟨a0,⟨a1,⟨⟩⟩⟩,⟨⟩⟩:=x
 kernel_rfl
theorem Zyp (k:Nat):Ctr Tryz.prog k 172 (mk Zah Ze Zlb) :=
 ZG (fn:=Tryz.f172) (Zh (Za (ZAv k) Zc)) (by kernel_rfl) (by kernel_rfl) (ZNV k)
noncomputable abbrev ZI7:Nat × Callee:=(172,mk Zah Ze Zlb)
abbrev QG:List Kd:=[.view Zdo,.view (.sl (.int .i64))]
def ZI8:Nat → Ann:=fun id => bif Nat.beq id 3 then ⟨[10,11,9,5,1,2],[]⟩ else ⟨[],[]⟩
abbrev ZuK:=Int × Int × List Int × Int × List Int × List Int × Int
abbrev Znz:=ZuK → Option (Int × Unit)
def ZNW:ZuK → St
 | (v0,v1,v2,v3,v4,v5,v6) => St.mk (Zy [(10,Zp v0),(11,Zp v1),(9,WM v2),(5,Zp v3),(1,WM v4),(2,AV.bx 8192 0)]) (Zx [(8192,Wh [WM v5,Zp v6])])
def Zcm (k:Nat) (L1:Znz):Znz
 | (v0,v1,v2,v3,v4,v5,v6) => bif decide (v1 < v0) then bif decide (0 ≤ v1 ∧ v1 < Int.ofNat v2.length) then bif decide (0 ≤ IntKind.i64.wrap (IntKind.i64.wrap (Int.ofNat v4.length - (1:Int)) - v1) ∧ IntKind.i64.wrap (IntKind.i64.wrap (Int.ofNat v4.length - (1:Int)) - v1) < Int.ofNat v4.length) then L1 (v0,IntKind.i64.wrap (v1 + 1),v2,IntKind.i64.wrap (v3 + IntKind.i64.wrap (v2.getD v1.toNat 0 * v4.getD (IntKind.i64.wrap (IntKind.i64.wrap (Int.ofNat v4.length - (1:Int)) - v1)).toNat 0)),v4,v5,v6) else none else none else bif decide (0 ≤ v6) then some (v3.fdiv ((2:Int) ^ min v6.toNat 64),()) else none
def ZnA (k:Nat):Znz:=Zm (fun L1 => Zcm k L1) k
noncomputable def Zyq (k:Nat) (n:Nat) (v:ZuK) :=
 Zt (ZJ k) ZI8 [] [1,1,0,1,0] [] (Q4 Tryz.f173) (Q8 (ZJ k) Tryz.f173 QG Ze [] []) n (ZNW v)
def Zgt (k:Nat) (L1:Znz):(List Int × Int × Unit) × List Int × Unit → Option (Int × Unit)
 | ((a0,a1,()),a2,()) => L1 (Int.ofNat a0.length,(0:Int),a0,(0:Int),a2,a0,a1)
def Zlc (k:Nat):=Zgt k (ZnA k)
theorem ZFW (k:Nat):∀ n,Zyq k n = Zm (fun L1 => Zcm k L1) n :=
 Zk (fun v => by kernel_rfl) (fun n v => by
  obtain ⟨v0,v1,v2,v3,v4,v5,v6⟩:=v
  kernel_rfl)
theorem ZNX (k:Nat) (x:Kd.dens QG):ZF (ZJ k) ZI8 Tryz.f173 QG Ze x = Zlc k x:=by
 show _ = Zgt k (ZnA k) x
 rw [show ZnA k = Zyq k k from (ZFW k k).symm]
 obtain ⟨⟨a0,⟨a1,⟨⟩⟩⟩,⟨a2,⟨⟩⟩⟩:=x
 kernel_rfl
theorem Zyr (k:Nat):Ctr Tryz.prog k 173 (mk QG Ze Zlc) :=
 ZG (fn:=Tryz.f173) (Zh Zc) (by kernel_rfl) (by kernel_rfl) (ZNX k)
noncomputable abbrev ZI9:Nat × Callee:=(173,mk QG Ze Zlc)
abbrev QF:Kd:=.tup [.view (.sl (.int .i64)),.view (.int .i64)]
noncomputable def ZAU (k:Nat):=Wc k [Zoz,ZAX,ZI7,ZI9]
def ZIt:Nat → Ann:=fun id => bif Nat.beq id 9 then ⟨[7,1,2,6],[.slot 6 ((Ty.int IntKind.i64))]⟩ else ⟨[],[]⟩
abbrev Zus:=Int × List Int × List Int × Int × List Int
abbrev Znc:=Zus → Option ((List Int × Int × Unit) × Unit)
def ZNe:Zus → St
 | (v0,v1,v2,v3,v4) => St.mk (Zy [(7,Zp v0),(1,WM v1),(2,AV.bx 8192 0),(6,AV.own 8193)]) (Zx [(8192,Wh [WM v2,Zp v3]),(8193,rsA v4 false)])
def Zb9 (k:Nat) (L1:Znc):Znc
 | (v0,v1,v2,v3,v4) => bif decide (v0 < Int.ofNat v1.length) then bif decide (0 ≤ v0 ∧ v0 < Int.ofNat v1.length) then bif decide ((0:Int) ≤ 0 ∧ (0:Int) ≤ v0 ∧ v0 ≤ Int.ofNat v1.length) then (Zlc k ((v2,v3,()),List.drop 0 (List.take v0.toNat v1),())).bind fun y => (ZhB k (IntKind.i64.wrap (v1.getD v0.toNat 0 - y.1),())).bind fun y_1 => bif y_1.1 then some (([],12,()),()) else bif decide (v4.length + [IntKind.i64.wrap (v1.getD v0.toNat 0 - y.1)].length < 2147483648) then L1 (IntKind.i64.wrap (v0 + 1),v1,v2,v3,v4 ++ [IntKind.i64.wrap (v1.getD v0.toNat 0 - y.1)]) else none else none else none else some ((v4,0,()),())
def Znd (k:Nat):Znc:=Zm (fun L1 => Zb9 k L1) k
noncomputable def ZxY (k:Nat) (n:Nat) (v:Zus) :=
 Zt (ZAU k) ZIt [] [1,1,1,0,1,0] [] (Q4 Tryz.f148) (Q8 (ZAU k) Tryz.f148 QG QF [] []) n (ZNe v)
def Zf4 (k:Nat) (L1:Znc):(List Int × Int × Unit) × List Int × Unit → Option ((List Int × Int × Unit) × Unit)
 | ((a0,a1,()),a2,()) => (Zlb k ((a0,a1,()),())).bind fun y => bif y.1 != 0 then some (([],2,()),()) else bif decide (Int.ofNat a2.length < Int.ofNat a0.length) then some (([],1,()),()) else (Kv k (a2,(),())).bind fun y => bif y.1 then some (([],12,()),()) else L1 (Int.ofNat a0.length,a2,a0,a1,[])
def ZkZ (k:Nat):=Zf4 k (Znd k)
theorem ZFq (k:Nat):∀ n,ZxY k n = Zm (fun L1 => Zb9 k L1) n :=
 Zk (fun v => by kernel_rfl) (fun n v => by
  obtain ⟨v0,v1,v2,v3,v4⟩:=v
  kernel_rfl)
theorem ZNf (k:Nat) (x:Kd.dens QG):ZF (ZAU k) ZIt Tryz.f148 QG QF x = ZkZ k x:=by
 show _ = Zf4 k (Znd k) x
 rw [show Znd k = ZxY k k from (ZFq k k).symm]
 obtain ⟨⟨a0,⟨a1,⟨⟩⟩⟩,⟨a2,⟨⟩⟩⟩:=x
 kernel_rfl
theorem ZxZ (k:Nat):Ctr Tryz.prog k 148 (mk QG QF ZkZ) :=
 ZG (fn:=Tryz.f148) (Zh (Za (Zhs k) (Za (Zo3 k) (Za (Zyp k) (Za (Zyr k) Zc))))) (by kernel_rfl) (by kernel_rfl) (ZNf k)
noncomputable abbrev ZIu:Nat × Callee:=(148,mk QG QF ZkZ)
def Zf9 (k:Nat):Int × Unit → Option (Bool × Unit)
 | (a0,()) => bif decide (a0 ≤ -2147483648) then some (true,()) else some (decide (2147483648 ≤ a0),())
def Zo6 (k:Nat):=Zf9 k
theorem ZNn (k:Nat) (x:Kd.dens Zr):ZF (ZJ k) nA Tryz.f155 Zr ZA x = Zo6 k x:=by
 show _ = Zf9 k x
 obtain ⟨a0,⟨⟩⟩:=x
 kernel_rfl
theorem ZIF (k:Nat):Ctr Tryz.prog k 155 (mk Zr ZA Zo6) :=
 ZG (fn:=Tryz.f155) (Zh Zc) (by kernel_rfl) (by kernel_rfl) (ZNn k)
noncomputable abbrev ZRk:Nat × Callee:=(155,mk Zr ZA Zo6)
abbrev XW:List Kd:=[.view (.sl (.int .i64)),.fn 155]
noncomputable def ZoX (k:Nat):=Wc k [ZRk]
def ZFm:Wj → St
 | (v0,v1,v2) => St.mk (Zy [(7,Zp v0),(8,Zp v1),(1,AV.fn 155),(0,WM v2)]) (Zx [])
def KC (k:Nat) (L1:Wy):Wy
 | (v0,v1,v2) => bif decide (v1 < v0) then bif decide (0 ≤ v1 ∧ v1 < Int.ofNat v2.length) then (Zo6 k (v2.getD v1.toNat 0,())).bind fun y => bif y.1 then some (v1,()) else L1 (v0,IntKind.i64.wrap (v1 + 1),v2) else none else some ((-1:Int),())
def ZkX (k:Nat):Wy:=Zm (fun L1 => KC k L1) k
noncomputable def ZoY (k:Nat) (n:Nat) (v:Wj) :=
 Zt (ZoX k) X8 [] [1,0,1,0] [] (Q4 Tryz.f146) (Q8 (ZoX k) Tryz.f146 XW Ze [] []) n (ZFm v)
def Zl0 (k:Nat) (L1:Wy):List Int × Unit × Unit → Option (Int × Unit)
 | (a0,(),()) => L1 (Int.ofNat a0.length,(0:Int),a0)
def Zed (k:Nat):=Zl0 k (ZkX k)
theorem ZxW (k:Nat):∀ n,ZoY k n = Zm (fun L1 => KC k L1) n :=
 Zk (fun v => by kernel_rfl) (fun n v => by
  obtain ⟨v0,v1,v2⟩:=v
  kernel_rfl)
theorem ZFn (k:Nat) (x:Kd.dens XW):ZF (ZoX k) X8 Tryz.f146 XW Ze x = Zed k x:=by
 show _ = Zl0 k (ZkX k) x
 rw [show ZkX k = ZoY k k from (ZxW k k).symm]
 obtain ⟨a0,⟨⟨⟩,⟨⟩⟩⟩:=x
 kernel_rfl
theorem ZAR (k:Nat):Ctr Tryz.prog k 146 (mk XW Ze Zed) :=
 ZG (fn:=Tryz.f146) (Zh (Za (ZIF k) Zc)) (by kernel_rfl) (by kernel_rfl) (ZFn k)
noncomputable abbrev ZIq:Nat × Callee:=(146,mk XW Ze Zed)
noncomputable def ZHu (k:Nat):=Wc k [ZIq]
def Za4 (k:Nat):List Int × Unit × Unit → Option (Bool × Unit)
 | (a0,(),()) => (Zed k (a0,(),())).bind fun y => some (decide ((0:Int) ≤ y.1),())
def Zd1 (k:Nat):=Za4 k
theorem ZEu (k:Nat) (x:Kd.dens XW):ZF (ZHu k) nA Tryz.f104 XW ZA x = Zd1 k x:=by
 show _ = Za4 k x
 obtain ⟨a0,⟨⟨⟩,⟨⟩⟩⟩:=x
 kernel_rfl
theorem ZAu (k:Nat):Ctr Tryz.prog k 104 (mk XW ZA Zd1) :=
 ZG (fn:=Tryz.f104) (Zh (Za (ZAR k) Zc)) (by kernel_rfl) (by kernel_rfl) (ZEu k)
noncomputable abbrev ZHv:Nat × Callee:=(104,mk XW ZA Zd1)
def Zf8 (k:Nat):Int × Int × Unit → Option (Bool × Unit)
 | (a0,a1,()) => bif decide (1 ≤ a0) then bif decide (a0 ≤ 512) then bif decide (0 ≤ a1) then some (decide (a1 ≤ if a0 < 8 then a0 else (8:Int)),()) else some (false,()) else some (false,()) else some (false,())
def Zk4 (k:Nat):=Zf8 k
theorem ZNm (k:Nat) (x:Kd.dens Qf):ZF (ZJ k) nA Tryz.f154 Qf ZA x = Zk4 k x:=by
 show _ = Zf8 k x
 obtain ⟨a0,⟨a1,⟨⟩⟩⟩:=x
 kernel_rfl
theorem Zx7 (k:Nat):Ctr Tryz.prog k 154 (mk Qf ZA Zk4) :=
 ZG (fn:=Tryz.f154) (Zh Zc) (by kernel_rfl) (by kernel_rfl) (ZNm k)
noncomputable abbrev ZIE:Nat × Callee:=(154,mk Qf ZA Zk4)
noncomputable def ZQO (k:Nat):=Wc k [ZHv,ZIE]
def ZfA (k:Nat):List Int × Int × Unit → Option (Int × Unit)
 | (a0,a1,()) => bif decide (a1 < 0) then some (1,()) else bif decide ((8:Int) < a1) then some (1,()) else (Zk4 k (IntKind.i64.wrap (Int.ofNat a0.length + a1),a1,())).bind fun y => bif !y.1 then some (1,()) else (Zd1 k (a0,(),())).bind fun y => bif y.1 then some (12,()) else some (0,())
def ZkF (k:Nat):=ZfA k
theorem ZMw (k:Nat) (x:Kd.dens Zz):ZF (ZQO k) nA Tryz.f113 Zz Ze x = ZkF k x:=by
 show _ = ZfA k x
 obtain ⟨a0,⟨a1,⟨⟩⟩⟩:=x
 kernel_rfl
theorem Zxq (k:Nat):Ctr Tryz.prog k 113 (mk Zz Ze ZkF) :=
 ZG (fn:=Tryz.f113) (Zh (Za (ZAu k) (Za (Zx7 k) Zc))) (by kernel_rfl) (by kernel_rfl) (ZMw k)
noncomputable abbrev ZHJ:Nat × Callee:=(113,mk Zz Ze ZkF)
abbrev Kl:List Kd:=[.view (.sl (.int .i64)),.view (.int .i64),.view (.int .i64)]
abbrev ZmL:Kd:=.view (.sl (.sl (.int .i64)))
def ZHL:Nat → Ann:=fun id => bif Nat.beq id 4 then ⟨[8,2,9,7],[]⟩ else ⟨[],[]⟩
abbrev Zud:=Int × List Int × Int × List (List Int)
abbrev ZmJ:=Zud → Option (List (List Int) × Unit)
def ZMB:Zud → St
 | (v0,v1,v2,v3) => St.mk (Zy [(8,AV.own 8192),(2,Zp v0),(9,WM v1),(7,Zp v2)]) (Zx [(8192,RS.live (Res.arr (Ty.int IntKind.i64).sl v3 false))])
def ZbU (k:Nat) (L1:ZmJ):ZmJ
 | (v0,v1,v2,v3) => bif decide (0 ≤ v0) then bif decide (Int.ofNat v3.length < IntKind.i64.wrap ((1:Int) * (2:Int) ^ min v0.toNat 64)) then bif decide ((0:Int) ≤ 0 ∧ (0:Int) ≤ v2 ∧ v2 ≤ Int.ofNat v1.length) then bif decide (v3.length + [List.drop 0 (List.take v2.toNat v1)].length < 2147483648) then bif decide (0 ≤ v2 ∧ v2 ≤ Int.ofNat v1.length ∧ Int.ofNat v1.length ≤ Int.ofNat v1.length) then L1 (v0,List.drop v2.toNat (List.take (Int.ofNat v1.length).toNat v1),v2,v3 ++ [List.drop 0 (List.take v2.toNat v1)]) else none else none else none else some (v3,()) else none
def ZmK (k:Nat):ZmJ:=Zm (fun L1 => ZbU k L1) k
noncomputable def Zxs (k:Nat) (n:Nat) (v:Zud) :=
 Zt (ZJ k) ZHL [] [1,1,1,0,1,0] [] (Q4 Tryz.f115) (Q8 (ZJ k) Tryz.f115 Kl ZmL [] []) n (ZMB v)
def ZfE (k:Nat) (L1:ZmJ):List Int × Int × Int × Unit → Option (List (List Int) × Unit)
 | (a0,a1,a2,()) => bif decide (0 ≤ a2) then bif decide ((0:Int) ≤ 0 ∧ (0:Int) ≤ IntKind.i64.wrap ((IntKind.i64.wrap (Int.ofNat a0.length + a1)).fdiv ((2:Int) ^ min a2.toNat 64) - a1) ∧ IntKind.i64.wrap ((IntKind.i64.wrap (Int.ofNat a0.length + a1)).fdiv ((2:Int) ^ min a2.toNat 64) - a1) ≤ Int.ofNat a0.length) then bif decide (0 ≤ IntKind.i64.wrap ((IntKind.i64.wrap (Int.ofNat a0.length + a1)).fdiv ((2:Int) ^ min a2.toNat 64) - a1) ∧ IntKind.i64.wrap ((IntKind.i64.wrap (Int.ofNat a0.length + a1)).fdiv ((2:Int) ^ min a2.toNat 64) - a1) ≤ Int.ofNat a0.length ∧ Int.ofNat a0.length ≤ Int.ofNat a0.length) then L1 (a2,List.drop (IntKind.i64.wrap ((IntKind.i64.wrap (Int.ofNat a0.length + a1)).fdiv ((2:Int) ^ min a2.toNat 64) - a1)).toNat (List.take (Int.ofNat a0.length).toNat a0),(IntKind.i64.wrap (Int.ofNat a0.length + a1)).fdiv ((2:Int) ^ min a2.toNat 64),[List.drop 0 (List.take (IntKind.i64.wrap ((IntKind.i64.wrap (Int.ofNat a0.length + a1)).fdiv ((2:Int) ^ min a2.toNat 64) - a1)).toNat a0)]) else none else none else none
def ZkH (k:Nat):=ZfE k (ZmK k)
theorem ZEN (k:Nat):∀ n,Zxs k n = Zm (fun L1 => ZbU k L1) n :=
 Zk (fun v => by kernel_rfl) (fun n v => by
  obtain ⟨v0,v1,v2,v3⟩:=v
  kernel_rfl)
theorem ZMC (k:Nat) (x:Kd.dens Kl):ZF (ZJ k) ZHL Tryz.f115 Kl ZmL x = ZkH k x:=by
 show _ = ZfE k (ZmK k) x
 rw [show ZmK k = Zxs k k from (ZEN k k).symm]
 obtain ⟨a0,⟨a1,⟨a2,⟨⟩⟩⟩⟩:=x
 kernel_rfl
theorem Zxt (k:Nat):Ctr Tryz.prog k 115 (mk Kl ZmL ZkH) :=
 ZG (fn:=Tryz.f115) (Zh Zc) (by kernel_rfl) (by kernel_rfl) (ZMC k)
noncomputable abbrev ZHM:Nat × Callee:=(115,mk Kl ZmL ZkH)
def ZrW (k:Nat):Int × Unit → Option (Int × Unit)
 | (a0,()) => some (IntKind.i64.wrap ((4:Int) + a0),())
def ZaA (k:Nat):=ZrW k
theorem ZMD (k:Nat) (x:Kd.dens Zr):ZF (ZJ k) nA Tryz.f116 Zr Ze x = ZaA k x:=by
 show _ = ZrW k x
 obtain ⟨a0,⟨⟩⟩:=x
 kernel_rfl
theorem Zxu (k:Nat):Ctr Tryz.prog k 116 (mk Zr Ze ZaA) :=
 ZG (fn:=Tryz.f116) (Zh Zc) (by kernel_rfl) (by kernel_rfl) (ZMD k)
noncomputable abbrev ZQP:Nat × Callee:=(116,mk Zr Ze ZaA)
abbrev Zga:List Kd:=[.view (.int .i64),.view (.int .i64),.view (.int .i64)]
def Zgb (k:Nat):Int × Int × Int × Unit → Option (Bool × Unit)
 | (a0,a1,a2,()) => bif decide (0 ≤ a2) then bif IntKind.i64.wrap (Int.ofNat (BitVec.ofInt 64 a0 &&& BitVec.ofInt 64 (IntKind.i64.wrap (IntKind.i64.wrap ((1:Int) * (2:Int) ^ min a2.toNat 64) - (1:Int)))).toNat) == 0 then bif decide (0 ≤ a2) then some (decide (a1 ≤ a0.fdiv ((2:Int) ^ min a2.toNat 64)),()) else none else some (false,()) else none
def ZaD (k:Nat):=Zgb k
theorem ZNo (k:Nat) (x:Kd.dens Zga):ZF (ZJ k) nA Tryz.f156 Zga ZA x = ZaD k x:=by
 show _ = Zgb k x
 obtain ⟨a0,⟨a1,⟨a2,⟨⟩⟩⟩⟩:=x
 kernel_rfl
theorem Zx8 (k:Nat):Ctr Tryz.prog k 156 (mk Zga ZA ZaD) :=
 ZG (fn:=Tryz.f156) (Zh Zc) (by kernel_rfl) (by kernel_rfl) (ZNo k)
noncomputable abbrev ZRl:Nat × Callee:=(156,mk Zga ZA ZaD)
noncomputable def ZQQ (k:Nat):=Wc k [ZQP]
def ZrY (k:Nat):Int × Unit → Option (Int × Unit)
 | (a0,()) => (ZaA k (a0,())).bind fun y => bif decide ((0:Int) ≤ y.1) then some (IntKind.i64.wrap (IntKind.i64.wrap ((1:Int) * (2:Int) ^ min (Int.toNat y.1) (64:Nat)) - (1:Int)),()) else none
def ZaB (k:Nat):=ZrY k
theorem ZME (k:Nat) (x:Kd.dens Zr):ZF (ZQQ k) nA Tryz.f117 Zr Ze x = ZaB k x:=by
 show _ = ZrY k x
 obtain ⟨a0,⟨⟩⟩:=x
 kernel_rfl
theorem ZHN (k:Nat):Ctr Tryz.prog k 117 (mk Zr Ze ZaB) :=
 ZG (fn:=Tryz.f117) (Zh (Za (Zxu k) Zc)) (by kernel_rfl) (by kernel_rfl) (ZME k)
noncomputable abbrev ZVB:Nat × Callee:=(117,mk Zr Ze ZaB)
def ZfF (k:Nat):Int × Unit → Option ((Int × Int × Unit) × Unit)
 | (a0,()) => bif decide (a0 < -1099511627776) then some ((0,12,()),()) else bif decide ((1099511627776:Int) < a0) then some ((0,12,()),()) else some ((IntKind.i64.wrap (Int.ofNat (BitVec.ofInt 64 (IntKind.i64.wrap (a0 * (2:Int))) ^^^ BitVec.ofInt 64 (a0.fdiv (9223372036854775808:Int))).toNat),0,()),())
def ZbC (k:Nat):=ZfF k
theorem ZMF (k:Nat) (x:Kd.dens Zr):ZF (ZJ k) nA Tryz.f118 Zr ZZ x = ZbC k x:=by
 show _ = ZfF k x
 obtain ⟨a0,⟨⟩⟩:=x
 kernel_rfl
theorem ZHO (k:Nat):Ctr Tryz.prog k 118 (mk Zr ZZ ZbC) :=
 ZG (fn:=Tryz.f118) (Zh Zc) (by kernel_rfl) (by kernel_rfl) (ZMF k)
noncomputable abbrev ZVC:Nat × Callee:=(118,mk Zr ZZ ZbC)
def ZuU (k:Nat):Int × Unit → Option (Int × Unit):=fun x => ZLk x
def ZTL:Go.Shelf.Ren:=⟨fun n => match n with | 129 => 194 | _ => 0,fun n => match n with | 0 => 0 | 3 => 3 | 4 => 4 | 5 => 5 | 9 => 9 | 46 => 114 | 53 => 49 | _ => 0,fun n => n⟩
set_option maxRecDepth 100000 in
theorem ZPa:Go.Proofs.Lays.n129 Tryz.prog ZTL:=by
 constructor <;> first | kernel_rfl | (intro w; rfl)
set_option maxRecDepth 100000 in
theorem ZJv (k:Nat):Ctr Tryz.prog k 194 (mk Znb Ze ZuU):=ZGq ZPa (fn:=Tryz.f194) (by kernel_rfl) (by kernel_rfl) (by kernel_rfl) (by kernel_rfl)
noncomputable abbrev ZR1:Nat × Callee:=(194,mk Znb Ze ZuU)
noncomputable def ZRL (k:Nat):=Wc k [ZR1]
def Zgv (k:Nat):Int × Unit → Option (Int × Unit)
 | (a0,()) => (ZuU k (IntKind.u64.wrap (IntKind.i64.wrap (Int.ofNat (BitVec.ofInt 64 a0 ^^^ BitVec.ofInt 64 (a0.fdiv (9223372036854775808:Int))).toNat)),())).bind fun y => some (IntKind.i64.wrap (y.1 + 1),())
def Zpj (k:Nat):=Zgv k
theorem ZN3 (k:Nat) (x:Kd.dens Zr):ZF (ZRL k) nA Tryz.f182 Zr Ze x = Zpj k x:=by
 show _ = Zgv k x
 obtain ⟨a0,⟨⟩⟩:=x
 kernel_rfl
theorem ZJf (k:Nat):Ctr Tryz.prog k 182 (mk Zr Ze Zpj) :=
 ZG (fn:=Tryz.f182) (Zh (Za (ZJv k) Zc)) (by kernel_rfl) (by kernel_rfl) (ZN3 k)
noncomputable abbrev ZRM:Nat × Callee:=(182,mk Zr Ze Zpj)
noncomputable def KZ:(k:Nat) → Int × Unit → Option (Int × Unit):=Classical.choose (⟨ZaB,rfl⟩:∃ F:(k:Nat) → Int × Unit → Option (Int × Unit),F = ZaB)
theorem ZrX:KZ = ZaB:=Classical.choose_spec (⟨ZaB,rfl⟩:∃ F:(k:Nat) → Int × Unit → Option (Int × Unit),F = ZaB)
theorem ZkK (k:Nat):Ctr Tryz.prog k 117 (mk Zr Ze KZ):=by rw [ZrX]; exact ZHN k
noncomputable def Zhw:(k:Nat) → Int × Unit → Option ((Int × Int × Unit) × Unit):=Classical.choose (⟨ZbC,rfl⟩:∃ F:(k:Nat) → Int × Unit → Option ((Int × Int × Unit) × Unit),F = ZbC)
theorem ZrZ:Zhw = ZbC:=Classical.choose_spec (⟨ZbC,rfl⟩:∃ F:(k:Nat) → Int × Unit → Option ((Int × Int × Unit) × Unit),F = ZbC)
theorem Zr0 (k:Nat):Ctr Tryz.prog k 118 (mk Zr ZZ Zhw):=by rw [ZrZ]; exact ZHO k
abbrev Zge:Kd:=.tup [.view ZLF,.view .bool]
noncomputable def ZhC (k:Nat):=Wc k [(117,mk Zr Ze KZ),(118,mk Zr ZZ Zhw),ZRM]
noncomputable def Zuw:Nat → Ann:=fun id => bif Nat.beq id 16 then ⟨[55,56,54,13,12,14,7,6,46,45,0,8,9,1,4],[]⟩ else bif Nat.beq id 12 then ⟨[45,46,0,8,7,6,9,1,4],[]⟩ else bif Nat.beq id 5 then ⟨[23,24,22,8,9,1,0,7,6,4],[]⟩ else ⟨[],[]⟩
abbrev Zuz:=Int × Int × Int × Int × Bool × Bool × Int × Int × List Int × Int × Int × List Int × Int × Int × Int × Int × Int × Int
abbrev Zni:=Zuz → Option (((Int × Int × Int × Unit) × Bool × Unit) × Unit)
abbrev Zuy:=Int × Int × List Int × Bool × Int × Int × List Int × Int × Int × Int × Int × Int × Int
abbrev Zgc:=Zuy → Option (((Int × Int × Int × Unit) × Bool × Unit) × Unit)
abbrev Zux:=Int × Int × List Int × Int × Int × List Int × Bool × List Int × Int × Int × Int × Int × Int × Int
abbrev Znh:=Zux → Option (((Int × Int × Int × Unit) × Bool × Unit) × Unit)
noncomputable def ZNr:Zuz → St
 | (v0,v1,v2,v3,v4,v5,v6,v7,v8,v9,v10,v11,v12,v13,v14,v15,v16,v17) => St.mk (Zy [(55,Zp v0),(56,Zp v1),(54,AV.own 8192),(13,Zp v2),(12,Zp v3),(14,avB v4),(7,avB v5),(6,AV.bx 8193 0),(46,Zp v6),(45,Zp v7),(0,WM v8),(8,AV.own 8192),(9,Zp v9),(1,Zp v10),(4,AV.bx 8194 0)]) (Zx [(8192,rsA v11 false),(8193,Wh [Zp v12,Zp v13,Zp v14]),(8194,Wh [Zp v15,Zp v16,Zp v17])])
noncomputable def Zaq (k:Nat) (L2:Zgc) (L3:Zni):Zni
 | (v0,v1,v2,v3,v4,v5,v6,v7,v8,v9,v10,v11,v12,v13,v14,v15,v16,v17) => bif decide (v1 < v0) then bif decide (0 ≤ v1 ∧ v1 < Int.ofNat v11.length) then bif decide (v1.toNat < v11.length) then bif decide (0 ≤ v3) then bif v4 then L3 (v0,IntKind.i64.wrap (v1 + 1),IntKind.i64.wrap (v2 + Int.fdiv (v11.getD v1.toNat 0) ((2:Int) ^ min v3.toNat 64)),v3,true,v5,v6,v7,v8,v9,v10,v11,v12,v13,v14,v15,v16,v17) else bif decide (0 ≤ v3) then L3 (v0,IntKind.i64.wrap (v1 + 1),IntKind.i64.wrap (v2 + Int.fdiv (v11.getD v1.toNat 0) ((2:Int) ^ min v3.toNat 64)),v3,decide ((65536:Int) < Int.fdiv (v11.getD v1.toNat 0) ((2:Int) ^ min v3.toNat 64)),v5,v6,v7,v8,v9,v10,v11,v12,v13,v14,v15,v16,v17) else none else none else none else none else bif !v4 then bif !v5 then L2 (v7,IntKind.i64.wrap (v6 + 1),v8,true,v9,v10,v11,v3,(0:Int),v2,v15,v16,v17) else bif decide (v2 < v14) then L2 (v7,IntKind.i64.wrap (v6 + 1),v8,true,v9,v10,v11,v3,(0:Int),v2,v15,v16,v17) else L2 (v7,IntKind.i64.wrap (v6 + 1),v8,v5,v9,v10,v11,v12,v13,v14,v15,v16,v17) else L2 (v7,IntKind.i64.wrap (v6 + 1),v8,v5,v9,v10,v11,v12,v13,v14,v15,v16,v17)
noncomputable def ZiD (k:Nat) (L2:Zgc):Zni:=Zm (fun L3 => Zaq k L2 L3) k
noncomputable def ZiE (k:Nat) (n2:Nat) (n:Nat) (v:Zuz):Option (((Int × Int × Int × Unit) × Bool × Unit) × Unit) :=
 Zt (ZhC k) Zuw [] [1,1,1,1,1,0,1,0,0,1,1,0,0,1,1,0,1,0] [n2] (Q4 Tryz.f157) (Q8 (ZhC k) Tryz.f157 Zz Zge [] []) n (ZNr v)
noncomputable def ZNq:Zuy → St
 | (v0,v1,v2,v3,v4,v5,v6,v7,v8,v9,v10,v11,v12) => St.mk (Zy [(45,Zp v0),(46,Zp v1),(0,WM v2),(8,AV.own 8192),(7,avB v3),(6,AV.bx 8193 0),(9,Zp v4),(1,Zp v5),(4,AV.bx 8194 0)]) (Zx [(8192,rsA v6 false),(8193,Wh [Zp v7,Zp v8,Zp v9]),(8194,Wh [Zp v10,Zp v11,Zp v12])])
noncomputable def Zcd (k:Nat) (L3:Zni) (L2:Zgc):Zgc
 | (v0,v1,v2,v3,v4,v5,v6,v7,v8,v9,v10,v11,v12) => bif decide (v1 < v0) then L3 (Int.ofNat v6.length,(0:Int),IntKind.i64.wrap (IntKind.i64.wrap (v1 + 1) * Int.ofNat v2.length),v1,false,v3,v1,v0,v2,v4,v5,v6,v7,v8,v9,v10,v11,v12) else bif decide (v4 ≤ 31) then bif !v3 then (KZ k (v5,())).bind fun y => some (((y.1,v4,IntKind.i64.wrap ((5:Int) + IntKind.i64.wrap (v4 * Int.ofNat v2.length)),()),true,()),()) else bif decide (IntKind.i64.wrap ((5:Int) + IntKind.i64.wrap (v4 * Int.ofNat v2.length)) < v9) then (KZ k (v5,())).bind fun y => some (((y.1,v4,IntKind.i64.wrap ((5:Int) + IntKind.i64.wrap (v4 * Int.ofNat v2.length)),()),true,()),()) else some (((v7,v8,v9,()),v3,()),()) else some (((v7,v8,v9,()),v3,()),())
noncomputable def ZiC (k:Nat):Zgc:=Zm (fun L2 => Zcd k (ZiD k L2) L2) k
noncomputable def Zef (k:Nat) (n:Nat) (v:Zuy) :=
 Zt (ZhC k) Zuw [] [1,1,1,1,1,0,1,0] [] (Q4 Tryz.f157) (Q8 (ZhC k) Tryz.f157 Zz Zge [] []) n (ZNq v)
noncomputable def ZNp:Zux → St
 | (v0,v1,v2,v3,v4,v5,v6,v7,v8,v9,v10,v11,v12,v13) => St.mk (Zy [(23,Zp v0),(24,Zp v1),(22,WM v2),(8,AV.own 8192),(9,Zp v3),(1,Zp v4),(0,WM v5),(7,avB v6),(6,AV.bx 8193 0),(4,AV.bx 8194 0)]) (Zx [(8192,rsA v7 false),(8193,Wh [Zp v8,Zp v9,Zp v10]),(8194,Wh [Zp v11,Zp v12,Zp v13])])
noncomputable def Zcc (k:Nat) (L2:Zgc) (L1:Znh):Znh
 | (v0,v1,v2,v3,v4,v5,v6,v7,v8,v9,v10,v11,v12,v13) => bif decide (v1 < v0) then bif decide (0 ≤ v1 ∧ v1 < Int.ofNat v2.length) then (Zhw k (v2.getD v1.toNat 0,())).bind fun y => bif decide (0 ≤ v1 ∧ v1 < Int.ofNat v7.length) then bif decide (v1.toNat < v7.length) then bif v2.getD v1.toNat 0 != (0:Int) then (Zpj k (v2.getD v1.toNat 0,())).bind fun y_1 => L1 (v0,IntKind.i64.wrap (v1 + 1),v2,if v3 < y_1.1 then y_1.1 else v3,v4,v5,v6,v7.set v1.toNat y.1.1,v8,v9,v10,v11,v12,v13) else L1 (v0,IntKind.i64.wrap (v1 + 1),v2,v3,v4,v5,v6,v7.set v1.toNat y.1.1,v8,v9,v10,v11,v12,v13) else none else none else none else (KZ k (v4,())).bind fun y => L2 (y.1,(0:Int),v5,v6,v3,v4,v7,v8,v9,v10,v11,v12,v13)
noncomputable def Znj (k:Nat):Znh:=Zm (fun L1 => Zcc k (ZiC k) L1) k
noncomputable def Zx9 (k:Nat) (n:Nat) (v:Zux) :=
 Zt (ZhC k) Zuw [] [1,1,1,1,0,1,0] [] (Q4 Tryz.f157) (Q8 (ZhC k) Tryz.f157 Zz Zge [] []) n (ZNp v)
noncomputable def Zgd (k:Nat) (L1:Znh):List Int × Int × Unit → Option (((Int × Int × Int × Unit) × Bool × Unit) × Unit)
 | (a0,a1,()) => bif decide ((0:Int) ≤ Int.ofNat a0.length ∧ Int.ofNat a0.length ≤ Int.ofNat a0.length ∧ Int.ofNat a0.length < (4294967296:Int)) then L1 (Int.ofNat a0.length,(0:Int),a0,(0:Int),a1,a0,false,List.replicate (Int.ofNat a0.length).toNat (0:Int),(0:Int),(0:Int),(0:Int),(0:Int),(0:Int),(0:Int)) else none
noncomputable def Zo8 (k:Nat):=Zgd k (Znj k)
theorem ZFz (k:Nat) (n2:Nat):∀ n,ZiE k n2 n = Zm (fun L3 => Zaq k (Zef k n2) L3) n :=
 Zk (fun v => by kernel_rfl) (fun n v => by
  show ZiE k n2 (n + 1) v = Zaq k (Zef k n2) (ZiE k n2 n) v
  obtain ⟨v0,v1,v2,v3,v4,v5,v6,v7,v8,v9,v10,v11,v12,v13,v14,v15,v16,v17⟩:=v
  kernel_rfl)
theorem ZFy (k:Nat):∀ n,Zef k n = Zm (fun L2 => Zcd k (ZiD k L2) L2) n :=
 Zk (fun v => by kernel_rfl) (fun n v => by
  rw [show (ZiD k (Zef k n)) = ZiE k n k from (ZFz k n k).symm]
  obtain ⟨v0,v1,v2,v3,v4,v5,v6,v7,v8,v9,v10,v11,v12⟩:=v
  kernel_rfl)
theorem ZFx (k:Nat):∀ n,Zx9 k n = Zm (fun L1 => Zcc k (ZiC k) L1) n :=
 Zk (fun v => by kernel_rfl) (fun n v => by
  rw [show (ZiC k) = Zef k k from (ZFy k k).symm]
  obtain ⟨v0,v1,v2,v3,v4,v5,v6,v7,v8,v9,v10,v11,v12,v13⟩:=v
  kernel_rfl)
theorem ZNs (k:Nat) (x:Kd.dens Zz):ZF (ZhC k) Zuw Tryz.f157 Zz Zge x = Zo8 k x:=by
 show _ = Zgd k (Znj k) x
 rw [show Znj k = Zx9 k k from (ZFx k k).symm]
 obtain ⟨a0,⟨a1,⟨⟩⟩⟩:=x
 kernel_rfl
theorem ZIG (k:Nat):Ctr Tryz.prog k 157 (mk Zz Zge Zo8) :=
 ZG (fn:=Tryz.f157) (Zh (Za (ZkK k) (Za (Zr0 k) (Za (ZJf k) Zc)))) (by kernel_rfl) (by kernel_rfl) (ZNs k)
noncomputable abbrev ZRm:Nat × Callee:=(157,mk Zz Zge Zo8)
noncomputable def Zdf:(k:Nat) → Int × Unit → Option (Int × Unit):=Classical.choose (⟨ZaA,rfl⟩:∃ F:(k:Nat) → Int × Unit → Option (Int × Unit),F = ZaA)
theorem ZrV:Zdf = ZaA:=Classical.choose_spec (⟨ZaA,rfl⟩:∃ F:(k:Nat) → Int × Unit → Option (Int × Unit),F = ZaA)
theorem ZkI (k:Nat):Ctr Tryz.prog k 116 (mk Zr Ze Zdf):=by rw [ZrV]; exact Zxu k
noncomputable def Zo7:(k:Nat) → Int × Int × Int × Unit → Option (Bool × Unit):=Classical.choose (⟨ZaD,rfl⟩:∃ F:(k:Nat) → Int × Int × Int × Unit → Option (Bool × Unit),F = ZaD)
theorem Zsh:Zo7 = ZaD:=Classical.choose_spec (⟨ZaD,rfl⟩:∃ F:(k:Nat) → Int × Int × Int × Unit → Option (Bool × Unit),F = ZaD)
theorem ZFw (k:Nat):Ctr Tryz.prog k 156 (mk Zga ZA Zo7):=by rw [Zsh]; exact Zx8 k
abbrev ZfD:Kd:=.view ZTV
noncomputable def Zhv (k:Nat):=Wc k [ZHM,(116,mk Zr Ze Zdf),(156,mk Zga ZA Zo7),ZRm]
noncomputable def Zt9:Nat → Ann:=fun id => bif Nat.beq id 11 then ⟨[37,38,36,7,5,8,6,0,1,4,9],[.cell 8 2 (((Ty.int IntKind.i64).pair ((Ty.int IntKind.i64).pair ((Ty.int IntKind.i64).pair Ty.unit))))]⟩ else bif Nat.beq id 7 then ⟨[7,6,0,1,5,4],[.cell 5 2 (((Ty.int IntKind.i64).pair ((Ty.int IntKind.i64).pair ((Ty.int IntKind.i64).pair Ty.unit))))]⟩ else bif Nat.beq id 3 then ⟨[6,0,1,5,4],[.cell 5 2 (((Ty.int IntKind.i64).pair ((Ty.int IntKind.i64).pair ((Ty.int IntKind.i64).pair Ty.unit))))]⟩ else ⟨[],[]⟩
abbrev Zuc:=Int × Int × List (List Int) × Int × Int × List Int × Int × Bool × Int × Int × Int × List (Int × Int × Int × Unit) × Int × Int × Int × List (Int × Int × Int × Unit) × Int × Int × Int
abbrev ZmH:=Zuc → Option ((Int × Int × List (Int × Int × Int × Unit) × Int × Unit) × Unit)
abbrev Zub:=Int × Int × List Int × Int × Int × Int × Int × List (Int × Int × Int × Unit) × Int × Int × Int
abbrev ZfB:=Zub → Option ((Int × Int × List (Int × Int × Int × Unit) × Int × Unit) × Unit)
abbrev Zua:=Int × List Int × Int × Int × Int × Int × List (Int × Int × Int × Unit) × Int × Int × Int
abbrev Za7:=Zua → Option ((Int × Int × List (Int × Int × Int × Unit) × Int × Unit) × Unit)
noncomputable def ZMz:Zuc → St
 | (v0,v1,v2,v3,v4,v5,v6,v7,v8,v9,v10,v11,v12,v13,v14,v15,v16,v17,v18) => St.mk (Zy [(37,Zp v0),(38,Zp v1),(36,AV.val (PV.sl (Ty.int IntKind.i64).sl v2)),(7,Zp v3),(5,AV.bx 8192 0),(8,AV.bx 8194 0),(6,Zp v4),(0,WM v5),(1,Zp v6),(4,AV.bx 8196 0),(9,avB v7)]) (Zx [(8192,Wh [Zp v8,Zp v9,AV.own 8193,Zp v10]),(8193,RS.live (Res.arr ((Ty.int IntKind.i64).pair ((Ty.int IntKind.i64).pair ((Ty.int IntKind.i64).pair Ty.unit))) v11 false)),(8194,Wh [Zp v12,Zp v13,AV.own 8195,Zp v14]),(8195,RS.live (Res.arr ((Ty.int IntKind.i64).pair ((Ty.int IntKind.i64).pair ((Ty.int IntKind.i64).pair Ty.unit))) v15 false)),(8196,Wh [Zp v16,Zp v17,AV.val (PV.v (Value.slice none (0:Nat) (0:Nat))),Zp v18])])
noncomputable def Zao (k:Nat) (L1:Za7) (L2:ZfB) (L3:ZmH):ZmH
 | (v0,v1,v2,v3,v4,v5,v6,v7,v8,v9,v10,v11,v12,v13,v14,v15,v16,v17,v18) => bif decide (v1 < v0) then bif decide (0 ≤ v1 ∧ v1 < Int.ofNat v2.length) then (Zo8 k (v2.getD v1.toNat [],v3,())).bind fun y => bif !y.1.2.1 then bif y.1.2.1 then bif decide (v10 < 0) then L2 (IntKind.i64.wrap (v3 + 1),v4,v5,v6,v12,v13,v14,v15,v16,v17,v18) else bif decide (v14 < v10) then L2 (IntKind.i64.wrap (v3 + 1),v4,v5,v6,v12,v13,v14,v15,v16,v17,v18) else L2 (IntKind.i64.wrap (v3 + 1),v4,v5,v6,v8,v9,v10,v11,v16,v17,v18) else L2 (IntKind.i64.wrap (v3 + 1),v4,v5,v6,v8,v9,v10,v11,v16,v17,v18) else bif decide (v15.length + [(y.1.1.1,y.1.1.2.1,y.1.1.2.2.1,())].length < 2147483648) then (Zdf k (v3,())).bind fun y_1 => L3 (v0,IntKind.i64.wrap (v1 + 1),v2,v3,v4,v5,v6,y.1.2.1,v8,v9,v10,v11,v12,v13,IntKind.i64.wrap (v14 + IntKind.i64.wrap (y_1.1 + y.1.1.2.2.1)),v15 ++ [(y.1.1.1,y.1.1.2.1,y.1.1.2.2.1,())],v16,v17,v18) else none else none else bif v7 then bif decide (v10 < 0) then L2 (IntKind.i64.wrap (v3 + 1),v4,v5,v6,v12,v13,v14,v15,v16,v17,v18) else bif decide (v14 < v10) then L2 (IntKind.i64.wrap (v3 + 1),v4,v5,v6,v12,v13,v14,v15,v16,v17,v18) else L2 (IntKind.i64.wrap (v3 + 1),v4,v5,v6,v8,v9,v10,v11,v16,v17,v18) else L2 (IntKind.i64.wrap (v3 + 1),v4,v5,v6,v8,v9,v10,v11,v16,v17,v18)
noncomputable def Za8 (k:Nat) (L1:Za7) (L2:ZfB):ZmH:=Zm (fun L3 => Zao k L1 L2 L3) k
noncomputable def Zit (k:Nat) (n1 n2:Nat) (n:Nat) (v:Zuc):Option ((Int × Int × List (Int × Int × Int × Unit) × Int × Unit) × Unit) :=
 Zt (Zhv k) Zt9 [] [1,1,0,1,0,0,1,0,0,1,1,0,0,1,0,0,1,0,1,0] [n1,n2] (Q4 Tryz.f114) (Q8 (Zhv k) Tryz.f114 Zz ZfD [] []) n (ZMz v)
noncomputable def ZMy:Zub → St
 | (v0,v1,v2,v3,v4,v5,v6,v7,v8,v9,v10) => St.mk (Zy [(7,Zp v0),(6,Zp v1),(0,WM v2),(1,Zp v3),(5,AV.bx 8192 0),(4,AV.bx 8194 0)]) (Zx [(8192,Wh [Zp v4,Zp v5,AV.own 8193,Zp v6]),(8193,RS.live (Res.arr ((Ty.int IntKind.i64).pair ((Ty.int IntKind.i64).pair ((Ty.int IntKind.i64).pair Ty.unit))) v7 false)),(8194,Wh [Zp v8,Zp v9,AV.val (PV.v (Value.slice none (0:Nat) (0:Nat))),Zp v10])])
noncomputable def Yu (k:Nat) (L3:ZmH) (L1:Za7) (L2:ZfB):ZfB
 | (v0,v1,v2,v3,v4,v5,v6,v7,v8,v9,v10) => bif decide (v0 < 2) then (ZkH k (v2,v3,v1,())).bind fun y => L3 (Int.ofNat (List.length y.1),(0:Int),y.1,v0,v1,v2,v3,true,v4,v5,v6,v7,v0,v1,(6:Int),[],v8,v9,v10) else L1 (IntKind.i64.wrap (v1 + 1),v2,v3,v4,v5,v6,v7,v8,v9,v10)
noncomputable def Zis (k:Nat) (L1:Za7):ZfB:=Zm (fun L2 => Yu k (Za8 k L1 L2) L1 L2) k
noncomputable def Kx (k:Nat) (n1:Nat) (n:Nat) (v:Zub):Option ((Int × Int × List (Int × Int × Int × Unit) × Int × Unit) × Unit) :=
 Zt (Zhv k) Zt9 [] [1,1,0,1,0,0,1,0,0,1,1,0] [n1] (Q4 Tryz.f114) (Q8 (Zhv k) Tryz.f114 Zz ZfD [] []) n (ZMy v)
noncomputable def ZMx:Zua → St
 | (v0,v1,v2,v3,v4,v5,v6,v7,v8,v9) => St.mk (Zy [(6,Zp v0),(0,WM v1),(1,Zp v2),(5,AV.bx 8192 0),(4,AV.bx 8194 0)]) (Zx [(8192,Wh [Zp v3,Zp v4,AV.own 8193,Zp v5]),(8193,RS.live (Res.arr ((Ty.int IntKind.i64).pair ((Ty.int IntKind.i64).pair ((Ty.int IntKind.i64).pair Ty.unit))) v6 false)),(8194,Wh [Zp v7,Zp v8,AV.val (PV.v (Value.slice none (0:Nat) (0:Nat))),Zp v9])])
noncomputable def ZbT (k:Nat) (L2:ZfB) (L1:Za7):Za7
 | (v0,v1,v2,v3,v4,v5,v6,v7,v8,v9) => bif decide (v0 ≤ 4) then (Zo7 k (IntKind.i64.wrap (Int.ofNat v1.length + v2),v2,v0,())).bind fun y => bif !y.1 then L1 (IntKind.i64.wrap (v0 + 1),v1,v2,v3,v4,v5,v6,v7,v8,v9) else L2 (0,v0,v1,v2,v3,v4,v5,v6,v7,v8,v9) else some ((v3,v4,v6,v5,()),())
noncomputable def ZmI (k:Nat):Za7:=Zm (fun L1 => ZbT k (Zis k L1) L1) k
noncomputable def X7 (k:Nat) (n:Nat) (v:Zua) :=
 Zt (Zhv k) Zt9 [] [1,1,0,1,0] [] (Q4 Tryz.f114) (Q8 (Zhv k) Tryz.f114 Zz ZfD [] []) n (ZMx v)
noncomputable def ZfC (k:Nat) (L1:Za7):List Int × Int × Unit → Option ((Int × Int × List (Int × Int × Int × Unit) × Int × Unit) × Unit)
 | (a0,a1,()) => L1 (0,a0,a1,(0:Int),(0:Int),(-1:Int),[],(0:Int),(0:Int),(0:Int))
noncomputable def ZkG (k:Nat):=ZfC k (ZmI k)
theorem ZEM (k:Nat) (n1 n2:Nat):∀ n,Zit k n1 n2 n = Zm (fun L3 => Zao k (X7 k n1) (Kx k n1 n2) L3) n :=
 Zk (fun v => by kernel_rfl) (fun n v => by
  show Zit k n1 n2 (n + 1) v = Zao k (X7 k n1) (Kx k n1 n2) (Zit k n1 n2 n) v
  obtain ⟨v0,v1,v2,v3,v4,v5,v6,v7,v8,v9,v10,v11,v12,v13,v14,v15,v16,v17,v18⟩:=v
  kernel_rfl)
theorem ZEL (k:Nat) (n1:Nat):∀ n,Kx k n1 n = Zm (fun L2 => Yu k (Za8 k (X7 k n1) L2) (X7 k n1) L2) n :=
 Zk (fun v => by kernel_rfl) (fun n v => by
  show Kx k n1 (n + 1) v = Yu k (Za8 k (X7 k n1) (Kx k n1 n)) (X7 k n1) (Kx k n1 n) v
  rw [show (Za8 k (X7 k n1) (Kx k n1 n)) = Zit k n1 n k from (ZEM k n1 n k).symm]
  obtain ⟨v0,v1,v2,v3,v4,v5,v6,v7,v8,v9,v10⟩:=v
  kernel_rfl)
theorem ZEK (k:Nat):∀ n,X7 k n = Zm (fun L1 => ZbT k (Zis k L1) L1) n :=
 Zk (fun v => by kernel_rfl) (fun n v => by
  rw [show (Zis k (X7 k n)) = Kx k n k from (ZEL k n k).symm]
  obtain ⟨v0,v1,v2,v3,v4,v5,v6,v7,v8,v9⟩:=v
  kernel_rfl)
theorem ZMA (k:Nat) (x:Kd.dens Zz):ZF (Zhv k) Zt9 Tryz.f114 Zz ZfD x = ZkG k x:=by
 show _ = ZfC k (ZmI k) x
 rw [show ZmI k = X7 k k from (ZEK k k).symm]
 obtain ⟨a0,⟨a1,⟨⟩⟩⟩:=x
 kernel_rfl
theorem Zxr (k:Nat):Ctr Tryz.prog k 114 (mk Zz ZfD ZkG) :=
 ZG (fn:=Tryz.f114) (Zh (Za (Zxt k) (Za (ZkI k) (Za (ZFw k) (Za (ZIG k) Zc))))) (by kernel_rfl) (by kernel_rfl) (ZMA k)
noncomputable abbrev ZHK:Nat × Callee:=(114,mk Zz ZfD ZkG)
noncomputable def ZRd (k:Nat):=Wc k [ZHJ,ZHK]
noncomputable def Zf5 (k:Nat):List Int × Int × Unit → Option ((Int × Int × Unit) × Unit)
 | (a0,a1,()) => (ZkF k (a0,a1,())).bind fun y => bif y.1 != 0 then some ((0,y.1,()),()) else (ZkG k (a0,a1,())).bind fun y => some ((y.1.2.2.2.1,0,()),())
noncomputable def Zo1 (k:Nat):=Zf5 k
theorem ZNg (k:Nat) (x:Kd.dens Zz):ZF (ZRd k) nA Tryz.f149 Zz ZZ x = Zo1 k x:=by
 show _ = Zf5 k x
 obtain ⟨a0,⟨a1,⟨⟩⟩⟩:=x
 kernel_rfl
theorem ZIv (k:Nat):Ctr Tryz.prog k 149 (mk Zz ZZ Zo1) :=
 ZG (fn:=Tryz.f149) (Zh (Za (Zxq k) (Za (Zxr k) Zc))) (by kernel_rfl) (by kernel_rfl) (ZNg k)
noncomputable abbrev ZRe:Nat × Callee:=(149,mk Zz ZZ Zo1)
abbrev ZmE:List Kd:=[.view ZwD,.view (.int .i64),.view Zdo,.view (.int .i64)]
abbrev Zt4:Kd:=.tup [.view ZwD,.view .bool]
noncomputable def ZQL (k:Nat):=Wc k [ZIu,ZRe]
noncomputable def Zfv (k:Nat):(Int × Int × Int × List Int × (List Int × Int × Unit) × List Int × Int × Unit) × Int × (List Int × Int × Unit) × Int × Unit → Option (((Int × Int × Int × List Int × (List Int × Int × Unit) × List Int × Int × Unit) × Bool × Unit) × Unit)
 | ((a0,a1,a2,a3,(a4,a5,()),a6,a7,()),a8,(a9,a10,()),a11,()) => (ZkZ k ((a9,a10,()),a3,())).bind fun y => bif y.1.2.1 != 0 then some (((a0,a1,a2,a3,(a4,a5,()),a6,a7,()),false,()),()) else (Zo1 k (y.1.1,Int.ofNat a9.length,())).bind fun y_1 => bif y_1.1.2.1 != 0 then some (((a0,a1,a2,a3,(a4,a5,()),a6,a7,()),false,()),()) else some (((a8,a1,a2,a3,(a9,a10,()),y.1.1,IntKind.i64.wrap (IntKind.i64.wrap (a11 + IntKind.i64.wrap (Int.ofNat a9.length * a2)) + y_1.1.1),()),true,()),())
noncomputable def Zht (k:Nat):=Zfv k
theorem ZMq (k:Nat) (x:Kd.dens ZmE):ZF (ZQL k) nA Tryz.f110 ZmE Zt4 x = Zht k x:=by
 show _ = Zfv k x
 obtain ⟨⟨a0,⟨a1,⟨a2,⟨a3,⟨⟨a4,⟨a5,⟨⟩⟩⟩,⟨a6,⟨a7,⟨⟩⟩⟩⟩⟩⟩⟩⟩,⟨a8,⟨⟨a9,⟨a10,⟨⟩⟩⟩,⟨a11,⟨⟩⟩⟩⟩⟩:=x
 kernel_rfl
theorem ZHF (k:Nat):Ctr Tryz.prog k 110 (mk ZmE Zt4 Zht) :=
 ZG (fn:=Tryz.f110) (Zh (Za (ZxZ k) (Za (ZIv k) Zc))) (by kernel_rfl) (by kernel_rfl) (ZMq k)
noncomputable abbrev ZQM:Nat × Callee:=(110,mk ZmE Zt4 Zht)
abbrev Zbb:Kd:=.view Zdo
noncomputable def ZAY (k:Nat):=Wc k [ZAy]
def ZIz:Nat → Ann:=fun id => bif Nat.beq id 4 then ⟨[19,20,18,3,2],[]⟩ else ⟨[],[]⟩
abbrev Zne:=Zae → Option ((List Int × Int × Unit) × Unit)
def ZNi:Zae → St
 | (v0,v1,v2,v3,v4,v5) => St.mk (Zy [(19,Zp v0),(20,Zp v1),(18,WM v2),(3,AV.bx 8192 0),(2,AV.bx 8194 0)]) (Zx [(8192,Wh [AV.own 8193,Zp v3]),(8193,rsA v4 false),(8194,Wh [AV.val (PV.v (Value.slice none (0:Nat) (0:Nat))),Zp v5])])
def Zse (k:Nat) (L1:Zne):Zne
 | (v0,v1,v2,v3,v4,v5) => bif decide (v1 < v0) then bif decide (0 ≤ v1 ∧ v1 < Int.ofNat v2.length) then bif decide (0 ≤ v1 ∧ v1 < Int.ofNat v4.length) then bif decide (v1.toNat < v4.length) then L1 (v0,IntKind.i64.wrap (v1 + 1),v2,v3,v4.set v1.toNat (IntKind.i64.wrap (v2.getD v1.toNat 0 * (16:Int))),v5) else none else none else none else some ((v4,v3,()),())
def Zuv (k:Nat):Zne:=Zm (fun L1 => Zse k L1) k
noncomputable def Zx4 (k:Nat) (n:Nat) (v:Zae) :=
 Zt (ZAY k) ZIz [] [1,1,1,0,1,0] [] (Q4 Tryz.f151) (Q8 (ZAY k) Tryz.f151 Zr Zbb [] []) n (ZNi v)
def Zsd (k:Nat) (L1:Zne):Int × Unit → Option ((List Int × Int × Unit) × Unit)
 | (a0,()) => bif decide (0 ≤ a0 ∧ a0 ≤ a0 ∧ a0 < 4294967296) then (Zd3 k (if (4:Int) < a0 then (4:Int) else a0,())).bind fun y => L1 (Int.ofNat (List.length y.1.1.1),(0:Int),y.1.1.1,(4:Int),List.replicate a0.toNat (0:Int),(0:Int)) else none
def Zo4 (k:Nat):=Zsd k (Zuv k)
theorem ZFs (k:Nat):∀ n,Zx4 k n = Zm (fun L1 => Zse k L1) n :=
 Zk (fun v => by kernel_rfl) (fun n v => by
  obtain ⟨v0,v1,v2,v3,v4,v5⟩:=v
  kernel_rfl)
theorem ZNj (k:Nat) (x:Kd.dens Zr):ZF (ZAY k) ZIz Tryz.f151 Zr Zbb x = Zo4 k x:=by
 show _ = Zsd k (Zuv k) x
 rw [show Zuv k = Zx4 k k from (ZFs k k).symm]
 obtain ⟨a0,⟨⟩⟩:=x
 kernel_rfl
theorem ZIA (k:Nat):Ctr Tryz.prog k 151 (mk Zr Zbb Zo4) :=
 ZG (fn:=Tryz.f151) (Zh (Za (ZoE k) Zc)) (by kernel_rfl) (by kernel_rfl) (ZNj k)
noncomputable abbrev ZRi:Nat × Callee:=(151,mk Zr Zbb Zo4)
noncomputable def ZAZ (k:Nat):=Wc k [ZIu]
def ZIB:Nat → Ann:=fun id => bif Nat.beq id 4 then ⟨[18,19,17,8,7],[]⟩ else ⟨[],[]⟩
abbrev Znf:=ZaG → Option ((Int × Int × Unit) × Unit)
def ZNk:ZaG → St
 | (v0,v1,v2,v3,v4) => St.mk (Zy [(18,Zp v0),(19,Zp v1),(17,WM v2),(8,Zp v3),(7,Zp v4)]) (Zx [])
def Zcb (k:Nat) (L1:Znf):Znf
 | (v0,v1,v2,v3,v4) => bif decide (v1 < v0) then bif decide (0 ≤ v1 ∧ v1 < Int.ofNat v2.length) then L1 (v0,IntKind.i64.wrap (v1 + 1),v2,IntKind.i64.wrap (v3 + if v2.getD v1.toNat 0 < IntKind.i64.wrap ((0:Int) - v2.getD v1.toNat 0) then IntKind.i64.wrap ((0:Int) - v2.getD v1.toNat 0) else v2.getD v1.toNat 0),v4) else none else some ((v3,v4,()),())
def Zng (k:Nat):Znf:=Zm (fun L1 => Zcb k L1) k
noncomputable def Zx5 (k:Nat) (n:Nat) (v:ZaG) :=
 Zt (ZAZ k) ZIB [] [1,1,1,0,1,0] [] (Q4 Tryz.f152) (Q8 (ZAZ k) Tryz.f152 QG ZZ [] []) n (ZNk v)
def Zf7 (k:Nat) (L1:Znf):(List Int × Int × Unit) × List Int × Unit → Option ((Int × Int × Unit) × Unit)
 | ((a0,a1,()),a2,()) => (ZkZ k ((a0,a1,()),a2,())).bind fun y => L1 (Int.ofNat (List.length y.1.1),(0:Int),y.1.1,(0:Int),y.1.2.1)
def Zk2 (k:Nat):=Zf7 k (Zng k)
theorem ZFu (k:Nat):∀ n,Zx5 k n = Zm (fun L1 => Zcb k L1) n :=
 Zk (fun v => by kernel_rfl) (fun n v => by
  obtain ⟨v0,v1,v2,v3,v4⟩:=v
  kernel_rfl)
theorem ZNl (k:Nat) (x:Kd.dens QG):ZF (ZAZ k) ZIB Tryz.f152 QG ZZ x = Zk2 k x:=by
 show _ = Zf7 k (Zng k) x
 rw [show Zng k = Zx5 k k from (ZFu k k).symm]
 obtain ⟨⟨a0,⟨a1,⟨⟩⟩⟩,⟨a2,⟨⟩⟩⟩:=x
 kernel_rfl
theorem ZIC (k:Nat):Ctr Tryz.prog k 152 (mk QG ZZ Zk2) :=
 ZG (fn:=Tryz.f152) (Zh (Za (ZxZ k) Zc)) (by kernel_rfl) (by kernel_rfl) (ZNl k)
noncomputable abbrev ZRj:Nat × Callee:=(152,mk QG ZZ Zk2)
abbrev ZCA:Kd:=.own (.int .i64) false
def Zk3 (k:Nat):List Int × Unit → Option (List Int × Unit):=fun x => KY x
noncomputable def Zo5:Code:=ZG9 Tryz.f153
theorem Zx6 (k:Nat):Ctr Tryz.prog k 153 (mk Qy ZCA Zk3) :=
 ZrE (C:=ZP6 k) (A:=fun _ => ⟨[],[]⟩) (Zh Zc) ZhT (f:=153) (fn:=Tryz.f153) (o0:=Zlz (Zbo [0] Zo5) 0) (o1:=Zlz (Zbo [1,0,0] Zo5) 0) (o2:=Zlz (Zbo [1,0,0] Zo5) 1)
  (r0:=0) (r1:=1) (X:=Zbo [1,0,1,0] Zo5) (Y:=Zbo [1,1] Zo5) (T:=51) (E:=3) (U:=51) (t:=(.int .i64))
  (by kernel_rfl) (by kernel_rfl) (by kernel_rfl) (by kernel_rfl) (by kernel_rfl) (of_decide_eq_true (by kernel_rfl)) (by kernel_rfl) ⟨by kernel_rfl,by kernel_rfl,by kernel_rfl⟩ ⟨by kernel_rfl,by kernel_rfl,by kernel_rfl⟩ ⟨by kernel_rfl,by kernel_rfl,by kernel_rfl⟩ (fun xs => by kernel_rfl) (by kernel_rfl)
noncomputable abbrev ZID:Nat × Callee:=(153,mk Qy ZCA Zk3)
noncomputable def Zhu (k:Nat):=Wc k [Zoz,ZRi,ZRj,ZID]
def Zt5:Nat → Ann:=fun id => bif Nat.beq id 15 then ⟨[57,56,6,11,0,9,7,50,49,10,1,4],[.seen 6 0]⟩ else bif Nat.beq id 12 then ⟨[49,50,10,6,0,9,7,1,4],[]⟩ else bif Nat.beq id 9 then ⟨[10,1,6,0,9,7,4],[]⟩ else ⟨[],[]⟩
abbrev Zt8:=Int × Int × Int × Int × List Int × Bool × Int × Int × Int × Int × Int × List Int × Int × Int
abbrev ZmF:=Zt8 → Option (((List Int × Int × Unit) × Int × Unit) × Unit)
abbrev Zt7:=Int × Int × Int × List Int × Bool × Int × Int × List Int × Int × Int
abbrev Zfw:=Zt7 → Option (((List Int × Int × Unit) × Int × Unit) × Unit)
abbrev Zt6:=Int × Int × List Int × Bool × Int × List Int × Int × Int
abbrev Za6:=Zt6 → Option (((List Int × Int × Unit) × Int × Unit) × Unit)
def ZMt:Zt8 → St
 | (v0,v1,v2,v3,v4,v5,v6,v7,v8,v9,v10,v11,v12,v13) => St.mk (Zy [(57,Zp v0),(56,AV.agg [Zp v1,Zp v2]),(6,AV.bx 8192 0),(11,Zp v3),(0,WM v4),(9,avB v5),(7,Zp v6),(50,Zp v7),(49,Zp v8),(10,Zp v9),(1,Zp v10),(4,AV.bx 8193 0)]) (Zx [(8192,Wh [WM v11,Zp v12]),(8193,Wh [AV.val (PV.v (Value.slice none (0:Nat) (0:Nat))),Zp v13])])
def Y5 (k:Nat) (L1:Za6) (L2:Zfw) (L3:ZmF):ZmF
 | (v0,v1,v2,v3,v4,v5,v6,v7,v8,v9,v10,v11,v12,v13) => bif decide (v0 < 2) then bif decide (0 ≤ v0 ∧ v0 < 2) then (Zk3 k (v11,())).bind fun y => bif decide (0 ≤ v3 ∧ v3 < Int.ofNat (List.length y.1)) then bif decide (v3.toNat < List.length y.1) then bif decide (0 ≤ v3 ∧ v3 < Int.ofNat (List.length y.1)) then bif decide (v3.toNat < List.length y.1) then (Zk2 k ((List.set y.1 v3.toNat (IntKind.i64.wrap (List.getD y.1 v3.toNat 0 + [v1,v2].getD v0.toNat (0:Int))),v12,()),v4,())).bind fun y_1 => bif y_1.1.2.1 == 0 then bif !v5 then L3 (IntKind.i64.wrap (v0 + 1),v1,v2,v3,v4,true,y_1.1.1,v7,v8,v9,v10,List.set y.1 v3.toNat (IntKind.i64.wrap (List.getD y.1 v3.toNat 0 + [v1,v2].getD v0.toNat (0:Int))),v12,v13) else bif decide (y_1.1.1 < v6) then L3 (IntKind.i64.wrap (v0 + 1),v1,v2,v3,v4,true,y_1.1.1,v7,v8,v9,v10,List.set y.1 v3.toNat (IntKind.i64.wrap (List.getD y.1 v3.toNat 0 + [v1,v2].getD v0.toNat (0:Int))),v12,v13) else L3 (IntKind.i64.wrap (v0 + 1),v1,v2,v3,v4,v5,v6,v7,v8,v9,v10,v11,v12,v13) else L3 (IntKind.i64.wrap (v0 + 1),v1,v2,v3,v4,v5,v6,v7,v8,v9,v10,v11,v12,v13) else none else none else none else none else none else L2 (v8,IntKind.i64.wrap (v7 + 1),v9,v4,v5,v6,v10,v11,v12,v13)
def Zfx (k:Nat) (L1:Za6) (L2:Zfw):ZmF:=Zm (fun L3 => Y5 k L1 L2 L3) k
noncomputable def Zir (k:Nat) (n1 n2:Nat) (n:Nat) (v:Zt8):Option (((List Int × Int × Unit) × Int × Unit) × Unit) :=
 Zt (Zhu k) Zt5 [] [1,1,1,1,1,0,1,0,0,1,0,0,1,0,0,1,1,0,0,1,1,0] [n1,n2] (Q4 Tryz.f111) (Q8 (Zhu k) Tryz.f111 Zz Q0 [] []) n (ZMt v)
def ZMs:Zt7 → St
 | (v0,v1,v2,v3,v4,v5,v6,v7,v8,v9) => St.mk (Zy [(49,Zp v0),(50,Zp v1),(10,Zp v2),(6,AV.bx 8192 0),(0,WM v3),(9,avB v4),(7,Zp v5),(1,Zp v6),(4,AV.bx 8193 0)]) (Zx [(8192,Wh [WM v7,Zp v8]),(8193,Wh [AV.val (PV.v (Value.slice none (0:Nat) (0:Nat))),Zp v9])])
def Zan (k:Nat) (L3:ZmF) (L1:Za6) (L2:Zfw):Zfw
 | (v0,v1,v2,v3,v4,v5,v6,v7,v8,v9) => bif decide (v1 < v0) then L3 (0,v2,IntKind.i64.wrap ((0:Int) - v2),v1,v3,v4,v5,v1,v0,v2,v6,v7,v8,v9) else L1 (IntKind.i64.wrap (v2.tdiv (2:Int)),v6,v3,v4,v5,v7,v8,v9)
def Ziq (k:Nat) (L1:Za6):Zfw:=Zm (fun L2 => Zan k (Zfx k L1 L2) L1 L2) k
noncomputable def Kw (k:Nat) (n1:Nat) (n:Nat) (v:Zt7):Option (((List Int × Int × Unit) × Int × Unit) × Unit) :=
 Zt (Zhu k) Zt5 [] [1,1,1,1,1,0,1,0,0,1,0,0,1,0] [n1] (Q4 Tryz.f111) (Q8 (Zhu k) Tryz.f111 Zz Q0 [] []) n (ZMs v)
def ZMr:Zt6 → St
 | (v0,v1,v2,v3,v4,v5,v6,v7) => St.mk (Zy [(10,Zp v0),(1,Zp v1),(6,AV.bx 8192 0),(0,WM v2),(9,avB v3),(7,Zp v4),(4,AV.bx 8193 0)]) (Zx [(8192,Wh [WM v5,Zp v6]),(8193,Wh [AV.val (PV.v (Value.slice none (0:Nat) (0:Nat))),Zp v7])])
def Zam (k:Nat) (L2:Zfw) (L1:Za6):Za6
 | (v0,v1,v2,v3,v4,v5,v6,v7) => bif decide ((0:Int) < v0) then L2 (v1,(0:Int),v0,v2,v3,v4,v1,v5,v6,v7) else some (((v5,v6,()),0,()),())
def ZmG (k:Nat):Za6:=Zm (fun L1 => Zam k (Ziq k L1) L1) k
noncomputable def X6 (k:Nat) (n:Nat) (v:Zt6) :=
 Zt (Zhu k) Zt5 [] [1,1,1,1,1,0,1,0] [] (Q4 Tryz.f111) (Q8 (Zhu k) Tryz.f111 Zz Q0 [] []) n (ZMr v)
def Zfy (k:Nat) (L1:Za6):List Int × Int × Unit → Option (((List Int × Int × Unit) × Int × Unit) × Unit)
 | (a0,a1,()) => bif decide (a1 < 0) then some ((([],(0:Int),()),1,()),()) else bif decide ((8:Int) < a1) then some ((([],(0:Int),()),1,()),()) else bif decide (Int.ofNat a0.length < a1) then some ((([],(0:Int),()),1,()),()) else (Kv k (a0,(),())).bind fun y => bif y.1 then some ((([],(0:Int),()),12,()),()) else (Zo4 k (a1,())).bind fun y => (Zk2 k ((y.1.1,y.1.2.1,()),a0,())).bind fun y_1 => L1 (8,a1,a0,y_1.1.2.1 == 0,y_1.1.1,y.1.1,y.1.2.1,(0:Int))
def ZoF (k:Nat):=Zfy k (ZmG k)
theorem ZEH (k:Nat) (n1 n2:Nat):∀ n,Zir k n1 n2 n = Zm (fun L3 => Y5 k (X6 k n1) (Kw k n1 n2) L3) n :=
 Zk (fun v => by kernel_rfl) (fun n v => by
  show Zir k n1 n2 (n + 1) v = Y5 k (X6 k n1) (Kw k n1 n2) (Zir k n1 n2 n) v
  obtain ⟨v0,v1,v2,v3,v4,v5,v6,v7,v8,v9,v10,v11,v12,v13⟩:=v
  kernel_rfl)
theorem ZEG (k:Nat) (n1:Nat):∀ n,Kw k n1 n = Zm (fun L2 => Zan k (Zfx k (X6 k n1) L2) (X6 k n1) L2) n :=
 Zk (fun v => by kernel_rfl) (fun n v => by
  show Kw k n1 (n + 1) v = Zan k (Zfx k (X6 k n1) (Kw k n1 n)) (X6 k n1) (Kw k n1 n) v
  rw [show (Zfx k (X6 k n1) (Kw k n1 n)) = Zir k n1 n k from (ZEH k n1 n k).symm]
  obtain ⟨v0,v1,v2,v3,v4,v5,v6,v7,v8,v9⟩:=v
  kernel_rfl)
theorem ZEF (k:Nat):∀ n,X6 k n = Zm (fun L1 => Zam k (Ziq k L1) L1) n :=
 Zk (fun v => by kernel_rfl) (fun n v => by
  rw [show (Ziq k (X6 k n)) = Kw k n k from (ZEG k n k).symm]
  obtain ⟨v0,v1,v2,v3,v4,v5,v6,v7⟩:=v
  kernel_rfl)
theorem ZMu (k:Nat) (x:Kd.dens Zz):ZF (Zhu k) Zt5 Tryz.f111 Zz Q0 x = ZoF k x:=by
 show _ = Zfy k (ZmG k) x
 rw [show ZmG k = X6 k k from (ZEF k k).symm]
 obtain ⟨a0,⟨a1,⟨⟩⟩⟩:=x
 kernel_rfl
theorem ZHG (k:Nat):Ctr Tryz.prog k 111 (mk Zz Q0 ZoF) :=
 ZG (fn:=Tryz.f111) (Zh (Za (Zhs k) (Za (ZIA k) (Za (ZIC k) (Za (Zx6 k) Zc))))) (by kernel_rfl) (by kernel_rfl) (ZMu k)
noncomputable abbrev ZQN:Nat × Callee:=(111,mk Zz Q0 ZoF)
abbrev ZmA:List Kd:=[.view ZwD,.view .bool,.box [.view (.int .i64),.view (.int .i64),.view (.int .i64),.view (.sl (.int .i64)),.view (.sl (.int .i64)),.view (.int .i64),.view (.sl (.int .i64)),.view (.int .i64)]]
def ZrN (k:Nat):(Int × Int × Int × List Int × (List Int × Int × Unit) × List Int × Int × Unit) × Bool × (Int × Int × Int × List Int × List Int × Int × List Int × Int × Unit) × Unit → Option (Unit × (Int × Int × Int × List Int × List Int × Int × List Int × Int × Unit) × Unit)
 | ((a0,a1,a2,a3,(a4,a5,()),a6,a7,()),a8,(a9,a10,a11,a12,a13,a14,a15,a16,()),()) => bif a8 then bif decide (a16 < 0) then some ((),(a0,a1,a2,a3,a4,a5,a6,a7,()),()) else bif decide (a7 < a16) then some ((),(a0,a1,a2,a3,a4,a5,a6,a7,()),()) else some ((),(a9,a10,a11,a12,a13,a14,a15,a16,()),()) else some ((),(a9,a10,a11,a12,a13,a14,a15,a16,()),())
def ZbB (k:Nat):=ZrN k
theorem ZMj (k:Nat) (x:Kd.dens ZmA):ZF (ZJ k) nA Tryz.f107 ZmA QB x = ZbB k x:=by
 show _ = ZrN k x
 obtain ⟨⟨a0,⟨a1,⟨a2,⟨a3,⟨⟨a4,⟨a5,⟨⟩⟩⟩,⟨a6,⟨a7,⟨⟩⟩⟩⟩⟩⟩⟩⟩,⟨a8,⟨⟨a9,⟨a10,⟨a11,⟨a12,⟨a13,⟨a14,⟨a15,⟨a16,⟨⟩⟩⟩⟩⟩⟩⟩⟩⟩,⟨⟩⟩⟩⟩:=x
 kernel_rfl
theorem ZHC (k:Nat):Ctr Tryz.prog k 107 (mk ZmA QB ZbB) :=
 ZG (fn:=Tryz.f107) (Zh Zc) (by kernel_rfl) (by kernel_rfl) (ZMj k)
noncomputable abbrev ZQI:Nat × Callee:=(107,mk ZmA QB ZbB)
abbrev Zlk:Kd:=.view ZwD
noncomputable def Zp0 (k:Nat):=Wc k [ZHs,ZQH,ZAy,ZQM,ZQN,ZQI]
def ZDd:Nat → Ann:=fun id => bif Nat.beq id 21 then ⟨[82,81,11,6,10,12,9,4],[]⟩ else bif Nat.beq id 15 then ⟨[62,63,10,6,11,12,9,4],[]⟩ else bif Nat.beq id 4 then ⟨[28,29,27,6,5,4],[.cell 6 3 ((Ty.int IntKind.i64))]⟩ else ⟨[],[]⟩
abbrev ZBC:=Int × Int × Int × Int × Int × Int × Int × Int × List Int × List Int × Int × List Int × Int × Int × Int × Int × List Int × List Int × Int × List Int × Int × Int × Int × Int × Int × Int × List Int × Int × Int × Int × Int × Int
abbrev ZvK:=ZBC → Option ((Int × Int × Int × List Int × (List Int × Int × Unit) × List Int × Int × Unit) × Unit)
abbrev ZBB:=Int × Int × Int × Int × Int × Int × List Int × List Int × Int × List Int × Int × Int × Int × Int × List Int × List Int × Int × List Int × Int × Int × Int × Int × Int × Int × List Int × Int × Int × Int × Int × Int
abbrev ZvJ:=ZBB → Option ((Int × Int × Int × List Int × (List Int × Int × Unit) × List Int × Int × Unit) × Unit)
abbrev ZBA:=Int × Int × List Int × Int × Int × Int × Int × Int × Int × List Int × Int × Int × Int × Int × Int
abbrev ZvI:=ZBA → Option ((Int × Int × Int × List Int × (List Int × Int × Unit) × List Int × Int × Unit) × Unit)
def ZS6:ZBC → St
 | (v0,v1,v2,v3,v4,v5,v6,v7,v8,v9,v10,v11,v12,v13,v14,v15,v16,v17,v18,v19,v20,v21,v22,v23,v24,v25,v26,v27,v28,v29,v30,v31) => St.mk (Zy [(82,Zp v0),(81,AV.agg [Zp v1,Zp v2,Zp v3]),(11,Zp v4),(6,AV.bx 8192 0),(10,AV.clo 107 [AV.bx 8193 0]),(12,AV.bx 8194 0),(9,AV.bx 8193 0),(4,AV.bx 8196 0)]) (Zx [(8192,Wh [Zp v5,Zp v6,Zp v7,WM v8,WM v9,Zp v10,WM v11,Zp v12]),(8193,Wh [Zp v13,Zp v14,Zp v15,WM v16,WM v17,Zp v18,WM v19,Zp v20]),(8194,Wh [Zp v21,Zp v22,Zp v23,AV.own 8195,AV.val (PV.v (Value.slice none (0:Nat) (0:Nat))),Zp v24,AV.val (PV.v (Value.slice none (0:Nat) (0:Nat))),Zp v25]),(8195,rsA v26 true),(8196,Wh [Zp v27,Zp v28,Zp v29,AV.val (PV.v (Value.slice none (0:Nat) (0:Nat))),AV.val (PV.v (Value.slice none (0:Nat) (0:Nat))),Zp v30,AV.val (PV.v (Value.slice none (0:Nat) (0:Nat))),Zp v31])])
noncomputable def ZcC (k:Nat) (L3:ZvK):ZvK
 | (v0,v1,v2,v3,v4,v5,v6,v7,v8,v9,v10,v11,v12,v13,v14,v15,v16,v17,v18,v19,v20,v21,v22,v23,v24,v25,v26,v27,v28,v29,v30,v31) => bif decide (v0 < 3) then bif decide (0 ≤ v0 ∧ v0 < 3) then bif decide ([v1,v2,v3].getD v0.toNat (0:Int) < v4) then (ZoF k (v8,[v1,v2,v3].getD v0.toNat (0:Int),())).bind fun y => (Zht k ((v5,v6,v7,v8,(v9,v10,()),v11,v12,()),IntKind.i64.wrap ((31:Int) + [v1,v2,v3].getD v0.toNat (0:Int)),(y.1.1.1,y.1.1.2.1,()),IntKind.i64.wrap ((9:Int) + IntKind.i64.wrap ((12:Int) * [v1,v2,v3].getD v0.toNat (0:Int))),())).bind fun y => (ZbB k ((y.1.1.1,y.1.1.2.1,y.1.1.2.2.1,y.1.1.2.2.2.1,(y.1.1.2.2.2.2.1.1,y.1.1.2.2.2.2.1.2.1,()),y.1.1.2.2.2.2.2.1,y.1.1.2.2.2.2.2.2.1,()),y.1.2.1,(v13,v14,v15,v16,v17,v18,v19,v20,()),())).bind fun y => L3 (IntKind.i64.wrap (v0 + 1),v1,v2,v3,v4,v5,v6,v7,v8,v9,v10,v11,v12,y.2.1.1,y.2.1.2.1,y.2.1.2.2.1,y.2.1.2.2.2.1,y.2.1.2.2.2.2.1,y.2.1.2.2.2.2.2.1,y.2.1.2.2.2.2.2.2.1,y.2.1.2.2.2.2.2.2.2.1,v21,v22,v23,v24,v25,v26,v27,v28,v29,v30,v31) else L3 (IntKind.i64.wrap (v0 + 1),v1,v2,v3,v4,v5,v6,v7,v8,v9,v10,v11,v12,v13,v14,v15,v16,v17,v18,v19,v20,v21,v22,v23,v24,v25,v26,v27,v28,v29,v30,v31) else none else (ZbB k (((1:Int),v22,v23,v26,([],v24,()),[],IntKind.i64.wrap (v4 * v7),()),true,(v13,v14,v15,v16,v17,v18,v19,v20,()),())).bind fun y => some ((y.2.1.1,y.2.1.2.1,y.2.1.2.2.1,y.2.1.2.2.2.1,(y.2.1.2.2.2.2.1,y.2.1.2.2.2.2.2.1,()),y.2.1.2.2.2.2.2.2.1,y.2.1.2.2.2.2.2.2.2.1,()),())
noncomputable def Zlj (k:Nat):ZvK:=Zm (fun L3 => ZcC k L3) k
noncomputable def ZDg (k:Nat) (n:Nat) (v:ZBC) :=
 Zt (Zp0 k) ZDd [] [1,1,1,1,1,1,1,1,1,1,1,0,1,0] [] (Q4 Tryz.f68) (Q8 (Zp0 k) Tryz.f68 Zz Zlk [] []) n (ZS6 v)
def ZS5:ZBB → St
 | (v0,v1,v2,v3,v4,v5,v6,v7,v8,v9,v10,v11,v12,v13,v14,v15,v16,v17,v18,v19,v20,v21,v22,v23,v24,v25,v26,v27,v28,v29) => St.mk (Zy [(62,Zp v0),(63,Zp v1),(10,AV.clo 107 [AV.bx 8192 0]),(6,AV.bx 8193 0),(11,Zp v2),(12,AV.bx 8194 0),(9,AV.bx 8192 0),(4,AV.bx 8196 0)]) (Zx [(8192,Wh [Zp v3,Zp v4,Zp v5,WM v6,WM v7,Zp v8,WM v9,Zp v10]),(8193,Wh [Zp v11,Zp v12,Zp v13,WM v14,WM v15,Zp v16,WM v17,Zp v18]),(8194,Wh [Zp v19,Zp v20,Zp v21,AV.own 8195,AV.val (PV.v (Value.slice none (0:Nat) (0:Nat))),Zp v22,AV.val (PV.v (Value.slice none (0:Nat) (0:Nat))),Zp v23]),(8195,rsA v24 true),(8196,Wh [Zp v25,Zp v26,Zp v27,AV.val (PV.v (Value.slice none (0:Nat) (0:Nat))),AV.val (PV.v (Value.slice none (0:Nat) (0:Nat))),Zp v28,AV.val (PV.v (Value.slice none (0:Nat) (0:Nat))),Zp v29])])
noncomputable def ZeB (k:Nat) (L3:ZvK) (L2:ZvJ):ZvJ
 | (v0,v1,v2,v3,v4,v5,v6,v7,v8,v9,v10,v11,v12,v13,v14,v15,v16,v17,v18,v19,v20,v21,v22,v23,v24,v25,v26,v27,v28,v29) => bif decide (v1 < v0) then (Zd3 k (v1,())).bind fun y => (Zht k ((v11,v12,v13,v14,(v15,v16,()),v17,v18,()),IntKind.i64.wrap ((8:Int) + v1),(y.1.1.1,y.1.1.2.1,()),0,())).bind fun y => (ZbB k ((y.1.1.1,y.1.1.2.1,y.1.1.2.2.1,y.1.1.2.2.2.1,(y.1.1.2.2.2.2.1.1,y.1.1.2.2.2.2.1.2.1,()),y.1.1.2.2.2.2.2.1,y.1.1.2.2.2.2.2.2.1,()),y.1.2.1,(v3,v4,v5,v6,v7,v8,v9,v10,()),())).bind fun y => L2 (v0,IntKind.i64.wrap (v1 + 1),v2,y.2.1.1,y.2.1.2.1,y.2.1.2.2.1,y.2.1.2.2.2.1,y.2.1.2.2.2.2.1,y.2.1.2.2.2.2.2.1,y.2.1.2.2.2.2.2.2.1,y.2.1.2.2.2.2.2.2.2.1,v11,v12,v13,v14,v15,v16,v17,v18,v19,v20,v21,v22,v23,v24,v25,v26,v27,v28,v29) else L3 (0,(2:Int),(4:Int),(8:Int),v2,v11,v12,v13,v14,v15,v16,v17,v18,v3,v4,v5,v6,v7,v8,v9,v10,v19,v20,v21,v22,v23,v24,v25,v26,v27,v28,v29)
noncomputable def Zli (k:Nat):ZvJ:=Zm (fun L2 => ZeB k (Zlj k) L2) k
noncomputable def ZDf (k:Nat) (n:Nat) (v:ZBB) :=
 Zt (Zp0 k) ZDd [] [1,1,1,1,1,1,1,1,1,1,0,1,0] [] (Q4 Tryz.f68) (Q8 (Zp0 k) Tryz.f68 Zz Zlk [] []) n (ZS5 v)
def ZS4:ZBA → St
 | (v0,v1,v2,v3,v4,v5,v6,v7,v8,v9,v10,v11,v12,v13,v14) => St.mk (Zy [(28,Zp v0),(29,Zp v1),(27,WM v2),(6,AV.bx 8192 0),(5,Zp v3),(4,AV.bx 8194 0)]) (Zx [(8192,Wh [Zp v4,Zp v5,Zp v6,AV.own 8193,AV.val (PV.v (Value.slice none (0:Nat) (0:Nat))),Zp v7,AV.val (PV.v (Value.slice none (0:Nat) (0:Nat))),Zp v8]),(8193,rsA v9 false),(8194,Wh [Zp v10,Zp v11,Zp v12,AV.val (PV.v (Value.slice none (0:Nat) (0:Nat))),AV.val (PV.v (Value.slice none (0:Nat) (0:Nat))),Zp v13,AV.val (PV.v (Value.slice none (0:Nat) (0:Nat))),Zp v14])])
def KH (k:Nat) (L2:ZvJ) (L1:ZvI):ZvI
 | (v0,v1,v2,v3,v4,v5,v6,v7,v8,v9,v10,v11,v12,v13,v14) => bif decide (v1 < v0) then bif decide (0 ≤ v1 ∧ v1 < Int.ofNat v2.length) then bif decide (0 ≤ v3) then bif decide (v9.length + [Int.fdiv (v2.getD v1.toNat 0) ((2:Int) ^ min v3.toNat 64)].length < 2147483648) then L1 (v0,IntKind.i64.wrap (v1 + 1),v2,v3,v4,v5,v6,v7,v8,v9 ++ [Int.fdiv (v2.getD v1.toNat 0) ((2:Int) ^ min v3.toNat 64)],v10,v11,v12,v13,v14) else none else none else none else (Zd0 k (v9,((v4,v5,v6,v9,[],v7,[],v8,()),()),())).bind fun y => (ZbB k (((0:Int),v5,v6,v9,([],v7,()),[],v6,()),!y.1,(0,0,0,[],[],0,[],(-1:Int),()),())).bind fun y_1 => L2 (IntKind.i64.wrap ((if Int.ofNat v9.length < (4:Int) then Int.ofNat v9.length else (4:Int)) + (1:Int)),(0:Int),Int.ofNat v9.length,y_1.2.1.1,y_1.2.1.2.1,y_1.2.1.2.2.1,y_1.2.1.2.2.2.1,y_1.2.1.2.2.2.2.1,y_1.2.1.2.2.2.2.2.1,y_1.2.1.2.2.2.2.2.2.1,y_1.2.1.2.2.2.2.2.2.2.1,y.2.1.1,y.2.1.2.1,y.2.1.2.2.1,y.2.1.2.2.2.1,y.2.1.2.2.2.2.1,y.2.1.2.2.2.2.2.1,y.2.1.2.2.2.2.2.2.1,y.2.1.2.2.2.2.2.2.2.1,(0:Int),v5,v6,v7,v6,v9,v10,v11,v12,v13,v14)
noncomputable def ZvL (k:Nat):ZvI:=Zm (fun L1 => KH k (Zli k) L1) k
noncomputable def ZDe (k:Nat) (n:Nat) (v:ZBA) :=
 Zt (Zp0 k) ZDd [] [1,1,1,0,1,0] [] (Q4 Tryz.f68) (Q8 (Zp0 k) Tryz.f68 Zz Zlk [] []) n (ZS4 v)
def Zjq (k:Nat) (L1:ZvI):List Int × Int × Unit → Option ((Int × Int × Int × List Int × (List Int × Int × Unit) × List Int × Int × Unit) × Unit)
 | (a0,a1,()) => (ZoB k (a0,())).bind fun y => L1 (Int.ofNat a0.length,(0:Int),a0,y.1,(0:Int),y.1,IntKind.i64.wrap (a1 - y.1),(0:Int),(0:Int),[],(0:Int),(0:Int),(0:Int),(0:Int),(0:Int))
noncomputable def ZsJ (k:Nat):=Zjq k (ZvL k)
theorem ZKA (k:Nat):∀ n,ZDg k n = Zm (fun L3 => ZcC k L3) n :=
 Zk (fun v => by kernel_rfl) (fun n v => by
  obtain ⟨v0,v1,v2,v3,v4,v5,v6,v7,v8,v9,v10,v11,v12,v13,v14,v15,v16,v17,v18,v19,v20,v21,v22,v23,v24,v25,v26,v27,v28,v29,v30,v31⟩:=v
  kernel_rfl)
theorem ZKz (k:Nat):∀ n,ZDf k n = Zm (fun L2 => ZeB k (Zlj k) L2) n :=
 Zk (fun v => by kernel_rfl) (fun n v => by
  rw [show (Zlj k) = ZDg k k from (ZKA k k).symm]
  obtain ⟨v0,v1,v2,v3,v4,v5,v6,v7,v8,v9,v10,v11,v12,v13,v14,v15,v16,v17,v18,v19,v20,v21,v22,v23,v24,v25,v26,v27,v28,v29⟩:=v
  kernel_rfl)
theorem ZKy (k:Nat):∀ n,ZDe k n = Zm (fun L1 => KH k (Zli k) L1) n :=
 Zk (fun v => by kernel_rfl) (fun n v => by
  rw [show (Zli k) = ZDf k k from (ZKz k k).symm]
  obtain ⟨v0,v1,v2,v3,v4,v5,v6,v7,v8,v9,v10,v11,v12,v13,v14⟩:=v
  kernel_rfl)
theorem ZS7 (k:Nat) (x:Kd.dens Zz):ZF (Zp0 k) ZDd Tryz.f68 Zz Zlk x = ZsJ k x:=by
 show _ = Zjq k (ZvL k) x
 rw [show ZvL k = ZDe k k from (ZKy k k).symm]
 obtain ⟨a0,⟨a1,⟨⟩⟩⟩:=x
 kernel_rfl
theorem ZOJ (k:Nat):Ctr Tryz.prog k 68 (mk Zz Zlk ZsJ) :=
 ZG (fn:=Tryz.f68) (Zh (Za (ZAt k) (Za (ZHB k) (Za (ZoE k) (Za (ZHF k) (Za (ZHG k) (Za (ZHC k) Zc))))))) (by kernel_rfl) (by kernel_rfl) (ZS7 k)
noncomputable abbrev ZUV:Nat × Callee:=(68,mk Zz Zlk ZsJ)
def ZP8:Nat → Ann:=fun id => bif Nat.beq id 4 then ⟨[15,16,0],[]⟩ else ⟨[],[]⟩
abbrev ZvM:=Zdi → Option (Int × (List Int × Int × Unit) × Unit)
def ZS8:Zdi → St
 | (v0,v1,v2,v3) => St.mk (Zy [(15,Zp v0),(16,Zp v1),(0,AV.bx 0 0)]) (Zx [(0,Wh [AV.own 8192,Zp v2]),(8192,RS.live (Res.arr (Ty.int IntKind.u8) v3 false))])
def ZeC (k:Nat) (L1:ZvM):ZvM
 | (v0,v1,v2,v3) => bif decide (v1 < v0) then (Zhr k ((v3,v2,()),0,())).bind fun y => L1 (v0,IntKind.i64.wrap (v1 + 1),y.2.1.2.1,y.2.1.1) else (Zhr k ((v3,v2,()),1,())).bind fun y => some (0,(y.2.1.1,y.2.1.2.1,()),())
def ZvN (k:Nat):ZvM:=Zm (fun L1 => ZeC k L1) k
noncomputable def ZDh (k:Nat) (n:Nat) (v:Zdi) :=
 Zt (ZsF k) ZP8 [0] [1,1,0,1,0] [] (Q4 Tryz.f69) (Q8 (ZsF k) Tryz.f69 Zad Ze [AV.bx (nat_lit 0) (nat_lit 0)] [[]]) n (ZS8 v)
def Zjr (k:Nat) (L1:ZvM):(List Int × Int × Unit) × Int × Unit → Option (Int × (List Int × Int × Unit) × Unit)
 | ((a0,a1,()),a2,()) => bif decide (a2 < 0) then some (1,(a0,a1,()),()) else bif decide ((65536:Int) < a2) then some (1,(a0,a1,()),()) else L1 (a2,(0:Int),a1,a0)
def Zl3 (k:Nat):=Zjr k (ZvN k)
theorem ZKC (k:Nat):∀ n,ZDh k n = Zm (fun L1 => ZeC k L1) n :=
 Zk (fun v => by kernel_rfl) (fun n v => by
  obtain ⟨v0,v1,v2,v3⟩:=v
  kernel_rfl)
theorem ZS9 (k:Nat) (x:Kd.dens Zad):ZF (ZsF k) ZP8 Tryz.f69 Zad Ze x = Zl3 k x:=by
 show _ = Zjr k (ZvN k) x
 rw [show ZvN k = ZDh k k from (ZKC k k).symm]
 obtain ⟨⟨a0,⟨a1,⟨⟩⟩⟩,⟨a2,⟨⟩⟩⟩:=x
 kernel_rfl
theorem ZDi (k:Nat):Ctr Tryz.prog k 69 (mk Zad Ze Zl3) :=
 ZG (fn:=Tryz.f69) (Zh (Za (Zxh k) Zc)) (by kernel_rfl) (by kernel_rfl) (ZS9 k)
noncomputable abbrev ZP9:Nat × Callee:=(69,mk Zad Ze Zl3)
def Zfz (k:Nat):(List Int × Int × Unit) × Int × Int × Unit → Option (Int × (List Int × Int × Unit) × Unit)
 | ((a0,a1,()),a2,a3,()) => (ZpV k (a3,())).bind fun y => bif y.1 then some (1,(a0,a1,()),()) else bif a3 == 0 then bif a2 != 0 then some (12,(a0,a1,()),()) else bif decide ((0:Int) < a3) then bif decide (0 ≤ IntKind.i64.wrap (a3 - 1)) then bif a2.fdiv ((2:Int) ^ min (IntKind.i64.wrap (a3 - 1)).toNat 64) != (0:Int) then bif decide (0 ≤ IntKind.i64.wrap (a3 - 1)) then bif a2.fdiv ((2:Int) ^ min (IntKind.i64.wrap (a3 - 1)).toNat 64) != (-1:Int) then some (12,(a0,a1,()),()) else (ZdE k ((a0,a1,()),IntKind.u64.wrap a2,a3,())).bind fun y => some (0,(y.2.1.1,y.2.1.2.1,()),()) else none else (ZdE k ((a0,a1,()),IntKind.u64.wrap a2,a3,())).bind fun y => some (0,(y.2.1.1,y.2.1.2.1,()),()) else none else (ZdE k ((a0,a1,()),IntKind.u64.wrap a2,a3,())).bind fun y => some (0,(y.2.1.1,y.2.1.2.1,()),()) else bif decide ((0:Int) < a3) then bif decide (0 ≤ IntKind.i64.wrap (a3 - 1)) then bif a2.fdiv ((2:Int) ^ min (IntKind.i64.wrap (a3 - 1)).toNat 64) != (0:Int) then bif decide (0 ≤ IntKind.i64.wrap (a3 - 1)) then bif a2.fdiv ((2:Int) ^ min (IntKind.i64.wrap (a3 - 1)).toNat 64) != (-1:Int) then some (12,(a0,a1,()),()) else (ZdE k ((a0,a1,()),IntKind.u64.wrap a2,a3,())).bind fun y => some (0,(y.2.1.1,y.2.1.2.1,()),()) else none else (ZdE k ((a0,a1,()),IntKind.u64.wrap a2,a3,())).bind fun y => some (0,(y.2.1.1,y.2.1.2.1,()),()) else none else (ZdE k ((a0,a1,()),IntKind.u64.wrap a2,a3,())).bind fun y => some (0,(y.2.1.1,y.2.1.2.1,()),())
def ZkE (k:Nat):=Zfz k
theorem ZMv (k:Nat) (x:Kd.dens Zem):ZF (ZPK k) nA Tryz.f112 Zem Ze x = ZkE k x:=by
 show _ = Zfz k x
 obtain ⟨⟨a0,⟨a1,⟨⟩⟩⟩,⟨a2,⟨a3,⟨⟩⟩⟩⟩:=x
 kernel_rfl
theorem Zxp (k:Nat):Ctr Tryz.prog k 112 (mk Zem Ze ZkE) :=
 ZG (fn:=Tryz.f112) (Zh (Za (ZvC k) (Za (ZC9 k) Zc))) (by kernel_rfl) (by kernel_rfl) (ZMv k)
noncomputable abbrev ZHI:Nat × Callee:=(112,mk Zem Ze ZkE)
abbrev Yj:List Kd:=[.box [.own (.int .u8) false,.view (.int .i64)],.view (.sl (.int .i64)),.view (.int .i64)]
noncomputable def ZKD (k:Nat):=Wc k [ZHI]
def ZQa:Nat → Ann:=fun id => bif Nat.beq id 1 then ⟨[9,10,8,0,2],[]⟩ else ⟨[],[]⟩
abbrev ZeD:=Int × Int × List Int × Int × Int × List Int
abbrev ZvO:=ZeD → Option (Unit × (List Int × Int × Unit) × Unit)
def ZTa:ZeD → St
 | (v0,v1,v2,v3,v4,v5) => St.mk (Zy [(9,Zp v0),(10,Zp v1),(8,WM v2),(0,AV.bx 0 0),(2,Zp v3)]) (Zx [(0,Wh [AV.own 8192,Zp v4]),(8192,RS.live (Res.arr (Ty.int IntKind.u8) v5 false))])
def ZeE (k:Nat) (L1:ZvO):ZvO
 | (v0,v1,v2,v3,v4,v5) => bif decide (v1 < v0) then bif decide (0 ≤ v1 ∧ v1 < Int.ofNat v2.length) then (ZkE k ((v5,v4,()),v2.getD v1.toNat 0,v3,())).bind fun y => L1 (v0,IntKind.i64.wrap (v1 + 1),v2,v3,y.2.1.2.1,y.2.1.1) else none else some ((),(v5,v4,()),())
def ZvP (k:Nat):ZvO:=Zm (fun L1 => ZeE k L1) k
noncomputable def ZDj (k:Nat) (n:Nat) (v:ZeD) :=
 Zt (ZKD k) ZQa [0] [1,0] [] (Q4 Tryz.f70) (Q8 (ZKD k) Tryz.f70 Yj QB [AV.bx (nat_lit 0) (nat_lit 0)] [[]]) n (ZTa v)
def Zjs (k:Nat) (L1:ZvO):(List Int × Int × Unit) × List Int × Int × Unit → Option (Unit × (List Int × Int × Unit) × Unit)
 | ((a0,a1,()),a2,a3,()) => L1 (Int.ofNat a2.length,(0:Int),a2,a3,a1,a0)
def K5 (k:Nat):=Zjs k (ZvP k)
theorem ZKE (k:Nat):∀ n,ZDj k n = Zm (fun L1 => ZeE k L1) n :=
 Zk (fun v => by kernel_rfl) (fun n v => by
  obtain ⟨v0,v1,v2,v3,v4,v5⟩:=v
  kernel_rfl)
theorem ZTb (k:Nat) (x:Kd.dens Yj):ZF (ZKD k) ZQa Tryz.f70 Yj QB x = K5 k x:=by
 show _ = Zjs k (ZvP k) x
 rw [show ZvP k = ZDj k k from (ZKE k k).symm]
 obtain ⟨⟨a0,⟨a1,⟨⟩⟩⟩,⟨a2,⟨a3,⟨⟩⟩⟩⟩:=x
 kernel_rfl
theorem ZOM (k:Nat):Ctr Tryz.prog k 70 (mk Yj QB K5) :=
 ZG (fn:=Tryz.f70) (Zh (Za (Zxp k) Zc)) (by kernel_rfl) (by kernel_rfl) (ZTb k)
noncomputable abbrev ZUW:Nat × Callee:=(70,mk Yj QB K5)
noncomputable def Zy2 (k:Nat):=Wc k [ZJD,ZP9,ZHJ,ZHK,ZHM,(116,mk Zr Ze Zdf),(117,mk Zr Ze KZ),(118,mk Zr ZZ Zhw),ZHI]
noncomputable def ZKF:Nat → Ann:=fun id => bif Nat.beq id 17 then ⟨[69,70,68,11,8,0,41,40,39],[]⟩ else bif Nat.beq id 10 then ⟨[40,41,39,8,0],[]⟩ else ⟨[],[]⟩
abbrev ZBE:=Int × Int × List Int × Int × Int × List (List Int) × Int × List Int × Int × Int × Int × Int × Int × List (Int × Int × Int × Unit) × Int
abbrev ZvQ:=ZBE → Option (Int × (List Int × Int × Unit) × Unit)
abbrev ZBD:=Int × Int × List (List Int) × Int × List Int × Int × Int × List (Int × Int × Int × Unit) × Int
abbrev Zll:=ZBD → Option (Int × (List Int × Int × Unit) × Unit)
noncomputable def ZTd:ZBE → St
 | (v0,v1,v2,v3,v4,v5,v6,v7,v8,v9,v10,v11,v12,v13,v14) => St.mk (Zy [(69,Zp v0),(70,Zp v1),(68,WM v2),(11,AV.bx 8193 0),(8,AV.bx 8194 0),(0,AV.bx 0 0),(41,Zp v3),(40,Zp v4),(39,AV.val (PV.sl (Ty.int IntKind.i64).sl v5))]) (Zx [(0,Wh [AV.own 8192,Zp v6]),(8192,RS.live (Res.arr (Ty.int IntKind.u8) v7 false)),(8193,Wh [Zp v8,Zp v9,Zp v10]),(8194,Wh [Zp v11,Zp v12,AV.val (PV.sl ((Ty.int IntKind.i64).pair ((Ty.int IntKind.i64).pair ((Ty.int IntKind.i64).pair Ty.unit))) v13),Zp v14])])
noncomputable def KI (k:Nat) (L1:Zll) (L2:ZvQ):ZvQ
 | (v0,v1,v2,v3,v4,v5,v6,v7,v8,v9,v10,v11,v12,v13,v14) => bif decide (v1 < v0) then bif decide (0 ≤ v1 ∧ v1 < Int.ofNat v2.length) then (KZ k (v11,())).bind fun y => bif v8 == y.1 then (ZkE k ((v7,v6,()),v2.getD v1.toNat 0,v9,())).bind fun y => L2 (v0,IntKind.i64.wrap (v1 + 1),v2,v3,v4,v5,y.2.1.2.1,y.2.1.1,v8,v9,v10,v11,v12,v13,v14) else (Zhw k (v2.getD v1.toNat 0,())).bind fun y => bif decide (0 ≤ v8) then (Zl3 k ((v7,v6,()),Int.fdiv y.1.1 ((2:Int) ^ min v8.toNat 64),())).bind fun y_1 => bif decide (0 ≤ v8) then (QQ k ((y_1.2.1.1,y_1.2.1.2.1,()),IntKind.i64.wrap (Int.ofNat (BitVec.ofInt 64 y.1.1 &&& BitVec.ofInt 64 (IntKind.i64.wrap (IntKind.i64.wrap ((1:Int) * (2:Int) ^ min v8.toNat 64) - (1:Int)))).toNat),v8,())).bind fun y => L2 (v0,IntKind.i64.wrap (v1 + 1),v2,v3,v4,v5,y.2.1.2.1,y.2.1.1,v8,v9,v10,v11,v12,v13,v14) else none else none else none else L1 (v4,IntKind.i64.wrap (v3 + 1),v5,v6,v7,v11,v12,v13,v14)
noncomputable def Zlm (k:Nat) (L1:Zll):ZvQ:=Zm (fun L2 => KI k L1 L2) k
noncomputable def ZnM (k:Nat) (n1:Nat) (n:Nat) (v:ZBE):Option (Int × (List Int × Int × Unit) × Unit) :=
 Zt (Zy2 k) ZKF [0] [1,1,1,1,1,1,0,1,0,0,1,1,0,0,1,1,1,1,1,0] [n1] (Q4 Tryz.f71) (Q8 (Zy2 k) Tryz.f71 Yj Ze [AV.bx (nat_lit 0) (nat_lit 0)] [[]]) n (ZTd v)
noncomputable def ZTc:ZBD → St
 | (v0,v1,v2,v3,v4,v5,v6,v7,v8) => St.mk (Zy [(40,Zp v0),(41,Zp v1),(39,AV.val (PV.sl (Ty.int IntKind.i64).sl v2)),(8,AV.bx 8193 0),(0,AV.bx 0 0)]) (Zx [(0,Wh [AV.own 8192,Zp v3]),(8192,RS.live (Res.arr (Ty.int IntKind.u8) v4 false)),(8193,Wh [Zp v5,Zp v6,AV.val (PV.sl ((Ty.int IntKind.i64).pair ((Ty.int IntKind.i64).pair ((Ty.int IntKind.i64).pair Ty.unit))) v7),Zp v8])])
noncomputable def ZeG (k:Nat) (L2:ZvQ) (L1:Zll):Zll
 | (v0,v1,v2,v3,v4,v5,v6,v7,v8) => bif decide (v1 < v0) then bif decide (0 ≤ v1 ∧ v1 < Int.ofNat v2.length) then bif decide (0 ≤ v1 ∧ v1 < Int.ofNat v7.length) then (Zdf k (v5,())).bind fun y => (QQ k ((v4,v3,()),(v7.getD v1.toNat (0,0,0,())).1,y.1,())).bind fun y => (KZ k (v5,())).bind fun y_1 => bif (v7.getD v1.toNat (0,0,0,())).1 == y_1.1 then (QQ k ((y.2.1.1,y.2.1.2.1,()),(v7.getD v1.toNat (0,0,0,())).2.1,5,())).bind fun y => L2 (Int.ofNat (List.length (v2.getD v1.toNat [])),(0:Int),v2.getD v1.toNat [],v1,v0,v2,y.2.1.2.1,y.2.1.1,(v7.getD v1.toNat (0,0,0,())).1,(v7.getD v1.toNat (0,0,0,())).2.1,(v7.getD v1.toNat (0,0,0,())).2.2.1,v5,v6,v7,v8) else L2 (Int.ofNat (List.length (v2.getD v1.toNat [])),(0:Int),v2.getD v1.toNat [],v1,v0,v2,y.2.1.2.1,y.2.1.1,(v7.getD v1.toNat (0,0,0,())).1,(v7.getD v1.toNat (0,0,0,())).2.1,(v7.getD v1.toNat (0,0,0,())).2.2.1,v5,v6,v7,v8) else none else none else some (0,(v4,v3,()),())
noncomputable def ZvR (k:Nat):Zll:=Zm (fun L1 => ZeG k (Zlm k L1) L1) k
noncomputable def Zjt (k:Nat) (n:Nat) (v:ZBD) :=
 Zt (Zy2 k) ZKF [0] [1,1,1,1,1,1,0,1,0] [] (Q4 Tryz.f71) (Q8 (Zy2 k) Tryz.f71 Yj Ze [AV.bx (nat_lit 0) (nat_lit 0)] [[]]) n (ZTc v)
noncomputable def Zju (k:Nat) (L1:Zll):(List Int × Int × Unit) × List Int × Int × Unit → Option (Int × (List Int × Int × Unit) × Unit)
 | ((a0,a1,()),a2,a3,()) => (ZkF k (a2,a3,())).bind fun y => bif y.1 != 0 then some (y.1,(a0,a1,()),()) else (ZkG k (a2,a3,())).bind fun y => (QQ k ((a0,a1,()),y.1.1,2,())).bind fun y_1 => (QQ k ((y_1.2.1.1,y_1.2.1.2.1,()),y.1.2.1,4,())).bind fun y_2 => (ZkH k (a2,a3,y.1.2.1,())).bind fun y_3 => L1 (Int.ofNat (List.length y_3.1),(0:Int),y_3.1,y_2.2.1.2.1,y_2.2.1.1,y.1.1,y.1.2.1,y.1.2.2.1,y.1.2.2.2.1)
noncomputable def ZgZ (k:Nat):=Zju k (ZvR k)
theorem ZKH (k:Nat) (n1:Nat):∀ n,ZnM k n1 n = Zm (fun L2 => KI k (Zjt k n1) L2) n :=
 Zk (fun v => by kernel_rfl) (fun n v => by
  show ZnM k n1 (n + 1) v = KI k (Zjt k n1) (ZnM k n1 n) v
  obtain ⟨v0,v1,v2,v3,v4,v5,v6,v7,v8,v9,v10,v11,v12,v13,v14⟩:=v
  kernel_rfl)
theorem ZKG (k:Nat):∀ n,Zjt k n = Zm (fun L1 => ZeG k (Zlm k L1) L1) n :=
 Zk (fun v => by kernel_rfl) (fun n v => by
  rw [show (Zlm k (Zjt k n)) = ZnM k n k from (ZKH k n k).symm]
  obtain ⟨v0,v1,v2,v3,v4,v5,v6,v7,v8⟩:=v
  kernel_rfl)
theorem ZTe (k:Nat) (x:Kd.dens Yj):ZF (Zy2 k) ZKF Tryz.f71 Yj Ze x = ZgZ k x:=by
 show _ = Zju k (ZvR k) x
 rw [show ZvR k = Zjt k k from (ZKG k k).symm]
 obtain ⟨⟨a0,⟨a1,⟨⟩⟩⟩,⟨a2,⟨a3,⟨⟩⟩⟩⟩:=x
 kernel_rfl
theorem ZON (k:Nat):Ctr Tryz.prog k 71 (mk Yj Ze ZgZ) :=
 ZG (fn:=Tryz.f71) (Zh (Za (ZuY k) (Za (ZDi k) (Za (Zxq k) (Za (Zxr k) (Za (Zxt k) (Za (ZkI k) (Za (ZkK k) (Za (Zr0 k) (Za (Zxp k) Zc)))))))))) (by kernel_rfl) (by kernel_rfl) (ZTe k)
noncomputable abbrev ZUX:Nat × Callee:=(71,mk Yj Ze ZgZ)
noncomputable def ZUu (k:Nat):=Wc k [ZJD,ZUU,ZUV,ZP9,ZUW,ZUX]
noncomputable def ZyE (k:Nat):(List Int × Int × Unit) × List Int × Int × Unit → Option (Int × (List Int × Int × Unit) × Unit)
 | ((a0,a1,()),a2,a3,()) => (ZsI k (a2,a3,())).bind fun y => bif y.1 != 0 then some (y.1,(a0,a1,()),()) else (ZsJ k (a2,a3,())).bind fun y => (QQ k ((a0,a1,()),y.1.1,7,())).bind fun y_1 => bif decide ((0:Int) < y.1.2.1) then (QQ k ((y_1.2.1.1,y_1.2.1.2.1,()),1,1,())).bind fun y_2 => (Zl3 k ((y_2.2.1.1,y_2.2.1.2.1,()),IntKind.i64.wrap (y.1.2.1 - 1),())).bind fun y_3 => bif y.1.1 == 0 then bif decide ((0:Int) ≤ 0 ∧ (0:Int) ≤ 1 ∧ (1:Int) ≤ Int.ofNat (List.length y.1.2.2.2.1)) then (K5 k ((y_3.2.1.1,y_3.2.1.2.1,()),List.drop 0 (List.take 1 y.1.2.2.2.1),y.1.2.2.1,())).bind fun y => some (0,(y.2.1.1,y.2.1.2.1,()),()) else none else bif y.1.1 == 1 then (K5 k ((y_3.2.1.1,y_3.2.1.2.1,()),y.1.2.2.2.1,y.1.2.2.1,())).bind fun y => some (0,(y.2.1.1,y.2.1.2.1,()),()) else bif decide ((0:Int) ≤ 0 ∧ (0:Int) ≤ Int.ofNat (List.length y.1.2.2.2.2.1.1) ∧ Int.ofNat (List.length y.1.2.2.2.2.1.1) ≤ Int.ofNat (List.length y.1.2.2.2.1)) then (K5 k ((y_3.2.1.1,y_3.2.1.2.1,()),List.drop 0 (List.take (Int.ofNat (List.length y.1.2.2.2.2.1.1)).toNat y.1.2.2.2.1),y.1.2.2.1,())).bind fun y_4 => bif decide ((31:Int) < y.1.1) then (QQ k ((y_4.2.1.1,y_4.2.1.2.1,()),11,4,())).bind fun y_5 => (QQ k ((y_5.2.1.1,y_5.2.1.2.1,()),y.1.2.2.2.2.1.2.1,5,())).bind fun y_6 => (K5 k ((y_6.2.1.1,y_6.2.1.2.1,()),y.1.2.2.2.2.1.1,12,())).bind fun y_7 => (ZgZ k ((y_7.2.1.1,y_7.2.1.2.1,()),y.1.2.2.2.2.2.1,Int.ofNat (List.length y.1.2.2.2.2.1.1),())).bind fun y => some (y.1,(y.2.1.1,y.2.1.2.1,()),()) else (ZgZ k ((y_4.2.1.1,y_4.2.1.2.1,()),y.1.2.2.2.2.2.1,Int.ofNat (List.length y.1.2.2.2.2.1.1),())).bind fun y => some (y.1,(y.2.1.1,y.2.1.2.1,()),()) else none else (QQ k ((y_1.2.1.1,y_1.2.1.2.1,()),0,1,())).bind fun y_2 => bif y.1.1 == 0 then bif decide ((0:Int) ≤ 0 ∧ (0:Int) ≤ 1 ∧ (1:Int) ≤ Int.ofNat (List.length y.1.2.2.2.1)) then (K5 k ((y_2.2.1.1,y_2.2.1.2.1,()),List.drop 0 (List.take 1 y.1.2.2.2.1),y.1.2.2.1,())).bind fun y => some (0,(y.2.1.1,y.2.1.2.1,()),()) else none else bif y.1.1 == 1 then (K5 k ((y_2.2.1.1,y_2.2.1.2.1,()),y.1.2.2.2.1,y.1.2.2.1,())).bind fun y => some (0,(y.2.1.1,y.2.1.2.1,()),()) else bif decide ((0:Int) ≤ 0 ∧ (0:Int) ≤ Int.ofNat (List.length y.1.2.2.2.2.1.1) ∧ Int.ofNat (List.length y.1.2.2.2.2.1.1) ≤ Int.ofNat (List.length y.1.2.2.2.1)) then (K5 k ((y_2.2.1.1,y_2.2.1.2.1,()),List.drop 0 (List.take (Int.ofNat (List.length y.1.2.2.2.2.1.1)).toNat y.1.2.2.2.1),y.1.2.2.1,())).bind fun y_3 => bif decide ((31:Int) < y.1.1) then (QQ k ((y_3.2.1.1,y_3.2.1.2.1,()),11,4,())).bind fun y_4 => (QQ k ((y_4.2.1.1,y_4.2.1.2.1,()),y.1.2.2.2.2.1.2.1,5,())).bind fun y_5 => (K5 k ((y_5.2.1.1,y_5.2.1.2.1,()),y.1.2.2.2.2.1.1,12,())).bind fun y_6 => (ZgZ k ((y_6.2.1.1,y_6.2.1.2.1,()),y.1.2.2.2.2.2.1,Int.ofNat (List.length y.1.2.2.2.2.1.1),())).bind fun y => some (y.1,(y.2.1.1,y.2.1.2.1,()),()) else (ZgZ k ((y_3.2.1.1,y_3.2.1.2.1,()),y.1.2.2.2.2.2.1,Int.ofNat (List.length y.1.2.2.2.2.1.1),())).bind fun y => some (y.1,(y.2.1.1,y.2.1.2.1,()),()) else none
noncomputable def ZsB (k:Nat):=ZyE k
theorem ZSh (k:Nat) (x:Kd.dens Yj):ZF (ZUu k) nA Tryz.f31 Yj Ze x = ZsB k x:=by
 show _ = ZyE k x
 obtain ⟨⟨a0,⟨a1,⟨⟩⟩⟩,⟨a2,⟨a3,⟨⟩⟩⟩⟩:=x
 kernel_rfl
theorem ZOo (k:Nat):Ctr Tryz.prog k 31 (mk Yj Ze ZsB) :=
 ZG (fn:=Tryz.f31) (Zh (Za (ZuY k) (Za (ZOI k) (Za (ZOJ k) (Za (ZDi k) (Za (ZOM k) (Za (ZON k) Zc))))))) (by kernel_rfl) (by kernel_rfl) (ZSh k)
noncomputable abbrev ZUv:Nat × Callee:=(31,mk Yj Ze ZsB)
def ZiY (k:Nat):(List Int × Int × Unit) × Unit → Option (Int × (List Int × Int × Unit) × Unit)
 | ((a0,a1,()),()) => some (IntKind.i64.wrap (Int.ofNat (BitVec.ofInt 64 (IntKind.i64.wrap ((0:Int) - a1)) &&& BitVec.ofInt 64 (7:Int)).toNat),(a0,IntKind.i64.wrap (a1 + IntKind.i64.wrap (Int.ofNat (BitVec.ofInt 64 (IntKind.i64.wrap ((0:Int) - a1)) &&& BitVec.ofInt 64 (7:Int)).toNat)),()),())
def ZyF (k:Nat):=ZiY k
theorem ZSi (k:Nat) (x:Kd.dens Zep):ZF (ZJ k) nA Tryz.f32 Zep Ze x = ZyF k x:=by
 show _ = ZiY k x
 obtain ⟨⟨a0,⟨a1,⟨⟩⟩⟩,⟨⟩⟩:=x
 kernel_rfl
theorem ZOp (k:Nat):Ctr Tryz.prog k 32 (mk Zep Ze ZyF) :=
 ZG (fn:=Tryz.f32) (Zh Zc) (by kernel_rfl) (by kernel_rfl) (ZSi k)
noncomputable abbrev ZUw:Nat × Callee:=(32,mk Zep Ze ZyF)
def ZiZ (k:Nat):List Int × Unit → Option (Int × Unit)
 | (a0,()) => (ZgY k (a0,16,32773,())).bind fun y => some (y.1,())
def ZsC (k:Nat):=ZiZ k
theorem ZSj (k:Nat) (x:Kd.dens Wg):ZF (ZPL k) nA Tryz.f33 Wg Ze x = ZsC k x:=by
 show _ = ZiZ k x
 obtain ⟨a0,⟨⟩⟩:=x
 kernel_rfl
theorem ZCM (k:Nat):Ctr Tryz.prog k 33 (mk Wg Ze ZsC) :=
 ZG (fn:=Tryz.f33) (Zh (Za (ZDb k) Zc)) (by kernel_rfl) (by kernel_rfl) (ZSj k)
noncomputable abbrev ZPO:Nat × Callee:=(33,mk Wg Ze ZsC)
abbrev Zo2:Kd:=.tup [.own (.int .u8) false,.view (.int .i64)]
noncomputable def Zx0 (k:Nat):=Wc k [ZPJ,ZUo,ZUp,ZJD,ZUq,ZPM,ZUs,ZPN,ZUv,ZUw,ZPO]
def ZIw:Nat → Ann:=fun id => bif Nat.beq id 27 then ⟨[87,88,86,12,7],[]⟩ else bif Nat.beq id 20 then ⟨[61,62,60,12,10,11,2,8,7],[]⟩ else ⟨[],[]⟩
abbrev ZAW:=Int × Int × List Int × List (List Int) × Int × List Int
abbrev Zuu:=ZAW → Option ((List Int × Int × Unit) × Unit)
abbrev ZAV:=Int × Int × List Int × Int × Int × Int × List (List Int) × Int × List Int × Int × Int × Int
abbrev Zut:=ZAV → Option ((List Int × Int × Unit) × Unit)
def ZRg:ZAW → St
 | (v0,v1,v2,v3,v4,v5) => St.mk (Zy [(87,Zp v0),(88,Zp v1),(86,WM v2),(12,AV.bx 8192 0),(7,AV.val (PV.sl (Ty.int IntKind.i64).sl v3))]) (Zx [(8192,Wh [AV.own 8193,Zp v4]),(8193,RS.live (Res.arr (Ty.int IntKind.u8) v5 false))])
noncomputable def Zca (k:Nat) (L2:Zuu):Zuu
 | (v0,v1,v2,v3,v4,v5) => bif decide (v1 < v0) then bif decide (0 ≤ v1 ∧ v1 < Int.ofNat v2.length) then bif decide (0 ≤ v1 ∧ v1 < Int.ofNat v3.length) then (ZsB k ((v5,v4,()),v3.getD v1.toNat [],v2.getD v1.toNat 0,())).bind fun y => bif y.1 != 0 then some (([],y.1,()),()) else L2 (v0,IntKind.i64.wrap (v1 + 1),v2,v3,y.2.1.2.1,y.2.1.1) else none else none else (ZyF k ((v5,v4,()),())).bind fun y => (ZpD k ((y.2.1.1,y.2.1.2.1,()),())).bind fun y => (ZsC k (y.1,())).bind fun y_1 => (QQ k ((y.2.1.1,y.2.1.2.1,()),y_1.1,16,())).bind fun y => (ZpD k ((y.2.1.1,y.2.1.2.1,()),())).bind fun y => some ((y.1,0,()),())
noncomputable def ZhA (k:Nat):Zuu:=Zm (fun L2 => Zca k L2) k
noncomputable def ZCy (k:Nat) (n:Nat) (v:ZAW) :=
 Zt (Zx0 k) ZIw [] [1,1,1,1,1,1,1,1,1,1,1,1,1,1,1,1,1,0,1,0] [] (Q4 Tryz.f14) (Q8 (Zx0 k) Tryz.f14 QY Zo2 [] []) n (ZRg v)
def ZRf:ZAV → St
 | (v0,v1,v2,v3,v4,v5,v6,v7,v8,v9,v10,v11) => St.mk (Zy [(61,Zp v0),(62,Zp v1),(60,AV.val (PV.sl (Ty.int IntKind.u8) v2)),(12,AV.bx 8192 0),(10,Zp v3),(11,Zp v4),(2,AV.bx 8194 0),(8,Zp v5),(7,AV.val (PV.sl (Ty.int IntKind.i64).sl v6))]) (Zx [(8192,Wh [AV.own 8193,Zp v7]),(8193,RS.live (Res.arr (Ty.int IntKind.u8) v8 false)),(8194,Wh [Zp v9,Zp v10,Zp v11])])
def KE (k:Nat) (L2:Zuu) (L1:Zut):Zut
 | (v0,v1,v2,v3,v4,v5,v6,v7,v8,v9,v10,v11) => bif decide (v1 < v0) then bif decide (0 ≤ v1 ∧ v1 < Int.ofNat v2.length) then (QQ k ((v8,v7,()),IntKind.i64.wrap (v2.getD v1.toNat 0),8,())).bind fun y => L1 (v0,IntKind.i64.wrap (v1 + 1),v2,v3,v4,v5,v6,y.2.1.2.1,y.2.1.1,v9,v10,v11) else none else (QQ k ((v8,v7,()),IntKind.i64.wrap (v3 - 1),IntKind.i64.wrap ((8:Int) * IntKind.i64.wrap (IntKind.i64.wrap (v4 - 6) + (1:Int))),())).bind fun y => (ZpD k ((y.2.1.1,y.2.1.2.1,()),())).bind fun y => (Zsz k (y.1,())).bind fun y_1 => (QQ k ((y.2.1.1,y.2.1.2.1,()),y_1.1,8,())).bind fun y => (ZsA k ((v9,v10,v11,()),v5,())).bind fun y_2 => L2 (Int.ofNat (List.length y_2.1),(0:Int),y_2.1,v6,y.2.1.2.1,y.2.1.1)
noncomputable def Zk0 (k:Nat):Zut:=Zm (fun L1 => KE k (ZhA k) L1) k
noncomputable def ZCx (k:Nat) (n:Nat) (v:ZAV) :=
 Zt (Zx0 k) ZIw [] [1,1,1,1,1,1,1,1,1,1,1,1,1,1,0,1,0] [] (Q4 Tryz.f14) (Q8 (Zx0 k) Tryz.f14 QY Zo2 [] []) n (ZRf v)
def ZiB (k:Nat) (L1:Zut):(Int × Int × Int × Unit) × (Int × List (List Int) × Unit) × Unit → Option ((List Int × Int × Unit) × Unit)
 | ((a0,a1,a2,()),(a3,a4,()),()) => (ZgV k ((a0,a1,a2,()),(a3,a4,()),())).bind fun y => bif y.1 != 0 then some (([],y.1,()),()) else (Zyy k ((a3,a4,()),())).bind fun y => bif y.1.2.2.1 != 0 then some (([],y.1.2.2.1,()),()) else bif decide ((0:Int) ≤ 0 ∧ (0:Int) < Int.ofNat (List.length y.1.1)) then bif decide ((256:Int) < Int.ofNat (List.length (List.getD y.1.1 (0:Nat) []))) then (Zpz k ()).bind fun y_1 => (QQ k ((y_1.1.1,y_1.1.2.1,()),16382,14,())).bind fun y_2 => (QQ k ((y_2.2.1.1,y_2.2.1.2.1,()),7,6,())).bind fun y_3 => (QQ k ((y_3.2.1.1,y_3.2.1.2.1,()),y.1.2.1,8,())).bind fun y_4 => (QQ k ((y_4.2.1.1,y_4.2.1.2.1,()),0,4,())).bind fun y_5 => (ZpA k (a3,())).bind fun y_6 => bif y_6.1.2.1 != 0 then some (([],y_6.1.2.1,()),()) else L1 (Int.ofNat (List.length y_6.1.1),(0:Int),y_6.1.1,Int.ofNat (List.length (List.getD y.1.1 (0:Nat) [])),(7:Int),y.1.2.1,y.1.1,y_5.2.1.2.1,y_5.2.1.1,a0,a1,a2) else (Zpz k ()).bind fun y_1 => (QQ k ((y_1.1.1,y_1.1.2.1,()),16382,14,())).bind fun y_2 => (QQ k ((y_2.2.1.1,y_2.2.1.2.1,()),6,6,())).bind fun y_3 => (QQ k ((y_3.2.1.1,y_3.2.1.2.1,()),y.1.2.1,8,())).bind fun y_4 => (QQ k ((y_4.2.1.1,y_4.2.1.2.1,()),0,4,())).bind fun y_5 => (ZpA k (a3,())).bind fun y_6 => bif y_6.1.2.1 != 0 then some (([],y_6.1.2.1,()),()) else L1 (Int.ofNat (List.length y_6.1.1),(0:Int),y_6.1.1,Int.ofNat (List.length (List.getD y.1.1 (0:Nat) [])),(6:Int),y.1.2.1,y.1.1,y_5.2.1.2.1,y_5.2.1.1,a0,a1,a2) else none
noncomputable def Zsc (k:Nat):=ZiB k (Zk0 k)
theorem ZIy (k:Nat):∀ n,ZCy k n = Zm (fun L2 => Zca k L2) n :=
 Zk (fun v => by kernel_rfl) (fun n v => by
  obtain ⟨v0,v1,v2,v3,v4,v5⟩:=v
  kernel_rfl)
theorem ZIx (k:Nat):∀ n,ZCx k n = Zm (fun L1 => KE k (ZhA k) L1) n :=
 Zk (fun v => by kernel_rfl) (fun n v => by
  rw [show (ZhA k) = ZCy k k from (ZIy k k).symm]
  obtain ⟨v0,v1,v2,v3,v4,v5,v6,v7,v8,v9,v10,v11⟩:=v
  kernel_rfl)
theorem ZRh (k:Nat) (x:Kd.dens QY):ZF (Zx0 k) ZIw Tryz.f14 QY Zo2 x = Zsc k x:=by
 show _ = ZiB k (Zk0 k) x
 rw [show Zk0 k = ZCx k k from (ZIx k k).symm]
 obtain ⟨⟨a0,⟨a1,⟨a2,⟨⟩⟩⟩⟩,⟨⟨a3,⟨a4,⟨⟩⟩⟩,⟨⟩⟩⟩:=x
 kernel_rfl
theorem ZCz (k:Nat):Ctr Tryz.prog k 14 (mk QY Zo2 Zsc) :=
 ZG (fn:=Tryz.f14) (Zh (Za (ZCH k) (Za (ZOk k) (Za (ZOl k) (Za (ZuY k) (Za (ZOm k) (Za (ZCK k) (Za (ZOn k) (Za (ZCL k) (Za (ZOo k) (Za (ZOp k) (Za (ZCM k) Zc)))))))))))) (by kernel_rfl) (by kernel_rfl) (ZRh k)
noncomputable abbrev ZPF:Nat × Callee:=(14,mk QY Zo2 Zsc)
abbrev ZBr:Kd:=.box [.view (.sl (.int .u8)),.view (.int .i64)]
noncomputable def ZUF (k:Nat):=Wc k [ZP7]
def Zjc (k:Nat):List Int × Unit → Option ((List Int × Int × Unit) × Unit)
 | (a0,()) => (ZsH k (a0,())).bind fun y => some ((y.1,0,()),())
def ZyO (k:Nat):=Zjc k
theorem ZSF (k:Nat) (x:Kd.dens Wg):ZF (ZUF k) nA Tryz.f44 Wg ZBr x = ZyO k x:=by
 show _ = Zjc k x
 obtain ⟨a0,⟨⟩⟩:=x
 kernel_rfl
theorem ZOz (k:Nat):Ctr Tryz.prog k 44 (mk Wg ZBr ZyO) :=
 ZG (fn:=Tryz.f44) (Zh (Za (ZDc k) Zc)) (by kernel_rfl) (by kernel_rfl) (ZSF k)
noncomputable abbrev ZUG:Nat × Callee:=(44,mk Wg ZBr ZyO)
abbrev Xo:List Kd:=[.box [.view (.sl (.int .u8)),.view (.int .i64)]]
def ZyV (k:Nat):(List Int × Int × Unit) × Unit → Option (Int × (List Int × Int × Unit) × Unit)
 | ((a0,a1,()),()) => some (a1,(a0,a1,()),())
def ZaE (k:Nat):=ZyV k
theorem ZSP (k:Nat) (x:Kd.dens Xo):ZF (ZJ k) nA Tryz.f51 Xo Ze x = ZaE k x:=by
 show _ = ZyV k x
 obtain ⟨⟨a0,⟨a1,⟨⟩⟩⟩,⟨⟩⟩:=x
 kernel_rfl
theorem ZnK (k:Nat):Ctr Tryz.prog k 51 (mk Xo Ze ZaE) :=
 ZG (fn:=Tryz.f51) (Zh Zc) (by kernel_rfl) (by kernel_rfl) (ZSP k)
noncomputable abbrev ZC3:Nat × Callee:=(51,mk Xo Ze ZaE)
abbrev Zv3:List Kd:=[.box [.view (.sl (.int .u8)),.ref [.view (.sl (.int .u8)),.view (.int .i64)],.view (.int .i64)],.view .bool,.view (.int .i64)]
def ZjE (k:Nat):(List Int × (List Int × Int × Unit) × Int × Unit) × Bool × Int × Unit → Option (Unit × (List Int × (List Int × Int × Unit) × Int × Unit) × Unit)
 | ((a0,(a1,a2,()),a3,()),a4,a5,()) => bif a3 == 0 then bif !a4 then some ((),(a0,(a1,a2,()),a5,()),()) else some ((),(a0,(a1,a2,()),a3,()),()) else some ((),(a0,(a1,a2,()),a3,()),())
def Wd (k:Nat):=ZjE k
theorem ZTy (k:Nat) (x:Kd.dens Zv3):ZF (ZJ k) nA Tryz.f82 Zv3 QB x = Wd k x:=by
 show _ = ZjE k x
 obtain ⟨⟨a0,⟨⟨a1,⟨a2,⟨⟩⟩⟩,⟨a3,⟨⟩⟩⟩⟩,⟨a4,⟨a5,⟨⟩⟩⟩⟩:=x
 kernel_rfl
theorem ZnP (k:Nat):Ctr Tryz.prog k 82 (mk Zv3 QB Wd) :=
 ZG (fn:=Tryz.f82) (Zh Zc) (by kernel_rfl) (by kernel_rfl) (ZTy k)
noncomputable abbrev ZDt:Nat × Callee:=(82,mk Zv3 QB Wd)
abbrev XG:List Kd:=[.box [.view (.sl (.int .u8)),.view (.int .i64)],.view (.int .i64)]
def ZjN (k:Nat):(List Int × Int × Unit) × Int × Unit → Option (Int × (List Int × Int × Unit) × Unit)
 | ((a0,a1,()),a2,()) => bif decide (0 ≤ IntKind.i64.wrap (a2.tdiv (8:Int)) ∧ IntKind.i64.wrap (a2.tdiv (8:Int)) < Int.ofNat a0.length) then bif decide (0 ≤ IntKind.i64.wrap ((7:Int) - a2.tmod (8:Int))) then some (IntKind.i64.wrap (Int.ofNat (BitVec.ofInt 64 (IntKind.i64.wrap (Int.fdiv (a0.getD (IntKind.i64.wrap (a2.tdiv (8:Int))).toNat 0) ((2:Int) ^ min (IntKind.i64.wrap ((7:Int) - a2.tmod (8:Int))).toNat 8))) &&& BitVec.ofInt 64 (1:Int)).toNat),(a0,a1,()),()) else none else none
def Zp9 (k:Nat):=ZjN k
theorem ZTH (k:Nat) (x:Kd.dens XG):ZF (ZJ k) nA Tryz.f90 XG Ze x = Zp9 k x:=by
 show _ = ZjN k x
 obtain ⟨⟨a0,⟨a1,⟨⟩⟩⟩,⟨a2,⟨⟩⟩⟩:=x
 kernel_rfl
theorem Zv8 (k:Nat):Ctr Tryz.prog k 90 (mk XG Ze Zp9) :=
 ZG (fn:=Tryz.f90) (Zh Zc) (by kernel_rfl) (by kernel_rfl) (ZTH k)
noncomputable abbrev ZQi:Nat × Callee:=(90,mk XG Ze Zp9)
def Zgp (k:Nat):(List Int × Int × Unit) × Unit → Option (Int × (List Int × Int × Unit) × Unit)
 | ((a0,a1,()),()) => some (IntKind.i64.wrap (IntKind.i64.wrap ((8:Int) * Int.ofNat a0.length) - a1),(a0,a1,()),())
def Zpe (k:Nat):=Zgp k
theorem ZNM (k:Nat) (x:Kd.dens Xo):ZF (ZJ k) nA Tryz.f167 Xo Ze x = Zpe k x:=by
 show _ = Zgp k x
 obtain ⟨⟨a0,⟨a1,⟨⟩⟩⟩,⟨⟩⟩:=x
 kernel_rfl
theorem ZIZ (k:Nat):Ctr Tryz.prog k 167 (mk Xo Ze Zpe) :=
 ZG (fn:=Tryz.f167) (Zh Zc) (by kernel_rfl) (by kernel_rfl) (ZNM k)
noncomputable abbrev ZRu:Nat × Callee:=(167,mk Xo Ze Zpe)
noncomputable def ZAF (k:Nat):=Wc k [ZP3,ZQi,ZRu]
def ZH1:Nat → Ann:=fun id => bif Nat.beq id 7 then ⟨[19,20,6,0],[]⟩ else ⟨[],[]⟩
abbrev Zuk:=Int × Int × Int × List Int × Int
abbrev ZmV:=Zuk → Option ((Int × Int × Unit) × (List Int × Int × Unit) × Unit)
def ZMT:Zuk → St
 | (v0,v1,v2,v3,v4) => St.mk (Zy [(19,Zp v0),(20,Zp v1),(6,Zp v2),(0,AV.bx 0 0)]) (Zx [(0,Wh [AV.val (PV.sl (Ty.int IntKind.u8) v3),Zp v4])])
def Zb1 (k:Nat) (L1:ZmV):ZmV
 | (v0,v1,v2,v3,v4) => bif decide (v1 < v0) then (Zp9 k ((v3,v4,()),v4,())).bind fun y => L1 (v0,IntKind.i64.wrap (v1 + 1),IntKind.i64.wrap (Int.ofNat (BitVec.ofInt 64 (IntKind.i64.wrap (v2 * (2:Int))) ||| BitVec.ofInt 64 y.1).toNat),y.2.1.1,IntKind.i64.wrap (y.2.1.2.1 + 1)) else some ((v2,0,()),(v3,v4,()),())
def ZmW (k:Nat):ZmV:=Zm (fun L1 => Zb1 k L1) k
noncomputable def ZxC (k:Nat) (n:Nat) (v:Zuk) :=
 Zt (ZAF k) ZH1 [0] [1,1,1,0,1,0] [] (Q4 Tryz.f126) (Q8 (ZAF k) Tryz.f126 XG ZZ [AV.bx (nat_lit 0) (nat_lit 0)] [[]]) n (ZMT v)
def ZfO (k:Nat) (L1:ZmV):(List Int × Int × Unit) × Int × Unit → Option ((Int × Int × Unit) × (List Int × Int × Unit) × Unit)
 | ((a0,a1,()),a2,()) => (ZpV k (a2,())).bind fun y => bif y.1 then some ((0,1,()),(a0,a1,()),()) else (Zpe k ((a0,a1,()),())).bind fun y => bif decide (y.1 < a2) then some ((0,10,()),(y.2.1.1,y.2.1.2.1,()),()) else L1 (a2,(0:Int),(0:Int),y.2.1.1,y.2.1.2.1)
def YG (k:Nat):=ZfO k (ZmW k)
theorem ZEZ (k:Nat):∀ n,ZxC k n = Zm (fun L1 => Zb1 k L1) n :=
 Zk (fun v => by kernel_rfl) (fun n v => by
  obtain ⟨v0,v1,v2,v3,v4⟩:=v
  kernel_rfl)
theorem ZMU (k:Nat) (x:Kd.dens XG):ZF (ZAF k) ZH1 Tryz.f126 XG ZZ x = YG k x:=by
 show _ = ZfO k (ZmW k) x
 rw [show ZmW k = ZxC k k from (ZEZ k k).symm]
 obtain ⟨⟨a0,⟨a1,⟨⟩⟩⟩,⟨a2,⟨⟩⟩⟩:=x
 kernel_rfl
theorem Zb0 (k:Nat):Ctr Tryz.prog k 126 (mk XG ZZ YG) :=
 ZG (fn:=Tryz.f126) (Zh (Za (ZvC k) (Za (Zv8 k) (Za (ZIZ k) Zc)))) (by kernel_rfl) (by kernel_rfl) (ZMU k)
noncomputable abbrev Zul:Nat × Callee:=(126,mk XG ZZ YG)
abbrev Zv4:List Kd:=[.box [.view (.sl (.int .u8)),.ref [.view (.sl (.int .u8)),.view (.int .i64)],.view (.int .i64)],.view (.int .i64)]
noncomputable def ZK1 (k:Nat):=Wc k [Zul]
def ZjF (k:Nat):(List Int × (List Int × Int × Unit) × Int × Unit) × Int × Unit → Option (Int × (List Int × (List Int × Int × Unit) × Int × Unit) × Unit)
 | ((a0,(a1,a2,()),a3,()),a4,()) => bif a3 == 0 then (YG k ((a1,a2,()),a4,())).bind fun y => some (y.1.1,(a0,(y.2.1.1,y.2.1.2.1,()),y.1.2.1,()),()) else some (0,(a0,(a1,a2,()),a3,()),())
def WE (k:Nat):=ZjF k
theorem ZTz (k:Nat) (x:Kd.dens Zv4):ZF (ZK1 k) nA Tryz.f83 Zv4 Ze x = WE k x:=by
 show _ = ZjF k x
 obtain ⟨⟨a0,⟨⟨a1,⟨a2,⟨⟩⟩⟩,⟨a3,⟨⟩⟩⟩⟩,⟨a4,⟨⟩⟩⟩:=x
 kernel_rfl
theorem ZnQ (k:Nat):Ctr Tryz.prog k 83 (mk Zv4 Ze WE) :=
 ZG (fn:=Tryz.f83) (Zh (Za (Zb0 k) Zc)) (by kernel_rfl) (by kernel_rfl) (ZTz k)
noncomputable abbrev ZDu:Nat × Callee:=(83,mk Zv4 Ze WE)
abbrev Zvu:List Kd:=[.box [.view (.sl (.int .u8)),.ref [.view (.sl (.int .u8)),.view (.int .i64)],.view (.int .i64)],.view (.int .i64),.fn 28]
noncomputable def ZUL (k:Nat):=Wc k [ZC3,ZDt,ZDu,ZPM]
def Zjf (k:Nat):(List Int × (List Int × Int × Unit) × Int × Unit) × Int × Unit × Unit → Option (Unit × (List Int × (List Int × Int × Unit) × Int × Unit) × Unit)
 | ((a0,(a1,a2,()),a3,()),a4,(),()) => (ZaE k ((a1,a2,()),())).bind fun y => (WE k ((a0,(y.2.1.1,y.2.1.2.1,()),a3,()),a4,())).bind fun y_1 => bif y_1.2.1.2.2.1 != 0 then (Wd k ((y_1.2.1.1,(y_1.2.1.2.1.1,y_1.2.1.2.1.2.1,()),y_1.2.1.2.2.1,()),true,16,())).bind fun y => some ((),(y.2.1.1,(y.2.1.2.1.1,y.2.1.2.1.2.1,()),y.2.1.2.2.1,()),()) else bif decide ((0:Int) ≤ 0 ∧ (0:Int) ≤ IntKind.i64.wrap (Int.tdiv y.1 (8:Int)) ∧ IntKind.i64.wrap (Int.tdiv y.1 (8:Int)) ≤ Int.ofNat (List.length y_1.2.1.1)) then (Zsz k (List.drop 0 (List.take (IntKind.i64.wrap (Int.tdiv y.1 (8:Int))).toNat y_1.2.1.1),())).bind fun y => (Wd k ((y_1.2.1.1,(y_1.2.1.2.1.1,y_1.2.1.2.1.2.1,()),y_1.2.1.2.2.1,()),y_1.1 == y.1,16,())).bind fun y => some ((),(y.2.1.1,(y.2.1.2.1.1,y.2.1.2.1.2.1,()),y.2.1.2.2.1,()),()) else none
def ZgX (k:Nat):=Zjf k
theorem ZSL (k:Nat) (x:Kd.dens Zvu):ZF (ZUL k) nA Tryz.f48 Zvu QB x = ZgX k x:=by
 show _ = Zjf k x
 obtain ⟨⟨a0,⟨⟨a1,⟨a2,⟨⟩⟩⟩,⟨a3,⟨⟩⟩⟩⟩,⟨a4,⟨⟨⟩,⟨⟩⟩⟩⟩:=x
 kernel_rfl
theorem ZOD (k:Nat):Ctr Tryz.prog k 48 (mk Zvu QB ZgX) :=
 ZG (fn:=Tryz.f48) (Zh (Za (ZnK k) (Za (ZnP k) (Za (ZnQ k) (Za (ZCK k) Zc))))) (by kernel_rfl) (by kernel_rfl) (ZSL k)
noncomputable abbrev ZUM:Nat × Callee:=(48,mk Zvu QB ZgX)
def ZjG (k:Nat):(Int × Int × Int × Unit) × Int × Unit → Option (Bool × Unit)
 | ((a0,a1,a2,()),a3,()) => bif a0 == 1 then some (a3 == 0,()) else bif a3 == 1 then some (true,()) else bif decide (8 ≤ a3) then some (decide (a3 ≤ 10),()) else some (false,())
def Zp7 (k:Nat):=ZjG k
theorem ZTA (k:Nat) (x:Kd.dens Zeq):ZF (ZJ k) nA Tryz.f84 Zeq ZA x = Zp7 k x:=by
 show _ = ZjG k x
 obtain ⟨⟨a0,⟨a1,⟨a2,⟨⟩⟩⟩⟩,⟨a3,⟨⟩⟩⟩:=x
 kernel_rfl
theorem ZOW (k:Nat):Ctr Tryz.prog k 84 (mk Zeq ZA Zp7) :=
 ZG (fn:=Tryz.f84) (Zh Zc) (by kernel_rfl) (by kernel_rfl) (ZTA k)
noncomputable abbrev ZU8:Nat × Callee:=(84,mk Zeq ZA Zp7)
abbrev Zbe:List Kd:=[.view (.int .u8)]
def Zsw (k:Nat):Int × Unit → Option (Int × Unit)
 | (a0,()) => bif decide (0 ≤ a0 ∧ a0 < 256) then some (IntKind.i64.wrap (Int.ofNat ((ByteArray.mk (([0,1,2,2,3,3,3,3,4,4,4,4,4,4,4,4,5,5,5,5,5,5,5,5,5,5,5,5,5,5,5,5,6,6,6,6,6,6,6,6,6,6,6,6,6,6,6,6,6,6,6,6,6,6,6,6,6,6,6,6,6,6,6,6].append [7,7,7,7,7,7,7,7,7,7,7,7,7,7,7,7,7,7,7,7,7,7,7,7,7,7,7,7,7,7,7,7,7,7,7,7,7,7,7,7,7,7,7,7,7,7,7,7,7,7,7,7,7,7,7,7,7,7,7,7,7,7,7,7]).append ([8,8,8,8,8,8,8,8,8,8,8,8,8,8,8,8,8,8,8,8,8,8,8,8,8,8,8,8,8,8,8,8,8,8,8,8,8,8,8,8,8,8,8,8,8,8,8,8,8,8,8,8,8,8,8,8,8,8,8,8,8,8,8,8].append [8,8,8,8,8,8,8,8,8,8,8,8,8,8,8,8,8,8,8,8,8,8,8,8,8,8,8,8,8,8,8,8,8,8,8,8,8,8,8,8,8,8,8,8,8,8,8,8,8,8,8,8,8,8,8,8,8,8,8,8,8,8,8,8])).toArray).data.toList.getD a0.toNat 0).toNat),()) else none
def ZuO (k:Nat):=Zsw k
theorem ZOa (k:Nat) (x:Kd.dens Zbe):ZF (ZJ k) nA Tryz.f186 Zbe Ze x = ZuO k x:=by
 show _ = Zsw k x
 obtain ⟨a0,⟨⟩⟩:=x
 kernel_rfl
theorem ZJj (k:Nat):Ctr Tryz.prog k 186 (mk Zbe Ze ZuO) :=
 ZG (fn:=Tryz.f186) (Zh Zc) (by kernel_rfl) (by kernel_rfl) (ZOa k)
noncomputable abbrev ZRQ:Nat × Callee:=(186,mk Zbe Ze ZuO)
noncomputable def ZRv (k:Nat):=Wc k [ZRQ]
def Zsn (k:Nat):Int × Unit → Option (Int × Unit)
 | (a0,()) => (ZuO k (a0,())).bind fun y => some (IntKind.i64.wrap ((8:Int) - y.1),())
def Zk9 (k:Nat):=Zsn k
theorem ZNN (k:Nat) (x:Kd.dens Zbe):ZF (ZRv k) nA Tryz.f168 Zbe Ze x = Zk9 k x:=by
 show _ = Zsn k x
 obtain ⟨a0,⟨⟩⟩:=x
 kernel_rfl
theorem ZI0 (k:Nat):Ctr Tryz.prog k 168 (mk Zbe Ze Zk9) :=
 ZG (fn:=Tryz.f168) (Zh (Za (ZJj k) Zc)) (by kernel_rfl) (by kernel_rfl) (ZNN k)
noncomputable abbrev ZRw:Nat × Callee:=(168,mk Zbe Ze Zk9)
abbrev WC:Kd:=.tup [.view (.int .i64),.view (.int .i64),.view (.int .i64)]
noncomputable def ZAG (k:Nat):=Wc k [ZP5,ZRw]
def ZH2:Nat → Ann:=fun id => bif Nat.beq id 10 then ⟨[8,5,0,6,7],[]⟩ else ⟨[],[]⟩
abbrev Za9:=ZaG → Option ((Int × Int × Int × Unit) × Unit)
def ZMV:ZaG → St
 | (v0,v1,v2,v3,v4) => St.mk (Zy [(8,Zp v0),(5,Zp v1),(0,AV.val (PV.sl (Ty.int IntKind.u8) v2)),(6,Zp v3),(7,Zp v4)]) (Zx [])
def Zb2 (k:Nat) (L1:Za9):Za9
 | (v0,v1,v2,v3,v4) => bif decide (v0 < v1) then bif decide (v0 < Int.ofNat v2.length) then bif decide (0 ≤ v0 ∧ v0 < Int.ofNat v2.length) then bif Int.fdiv (v2.getD v0.toNat 0) (64:Int) != 2 then some ((0,0,2,()),()) else bif decide (0 ≤ v0 ∧ v0 < Int.ofNat v2.length) then L1 (IntKind.i64.wrap (v0 + 1),v1,v2,IntKind.i64.wrap (Int.ofNat (BitVec.ofInt 64 (IntKind.i64.wrap (v3 * (64:Int))) ||| BitVec.ofInt 64 (IntKind.i64.wrap (Int.ofNat (BitVec.ofInt 64 (IntKind.i64.wrap (v2.getD v0.toNat 0)) &&& BitVec.ofInt 64 (63:Int)).toNat))).toNat),IntKind.i64.wrap (Int.ofNat (BitVec.ofInt 64 (IntKind.i64.wrap (v4 * (64:Int))) ||| BitVec.ofInt 64 (IntKind.i64.wrap (Int.ofNat (BitVec.ofInt 64 (IntKind.i64.wrap (v2.getD v0.toNat 0)) &&& BitVec.ofInt 64 (63:Int)).toNat))).toNat)) else none else none else L1 (IntKind.i64.wrap (v0 + 1),v1,v2,IntKind.i64.wrap (Int.ofNat (BitVec.ofInt 64 (IntKind.i64.wrap (v3 * (64:Int))) ||| BitVec.ofInt 64 (0:Int)).toNat),IntKind.i64.wrap (Int.ofNat (BitVec.ofInt 64 (IntKind.i64.wrap (v4 * (64:Int))) ||| BitVec.ofInt 64 (63:Int)).toNat)) else (ZsG k (IntKind.i64.wrap (v1 - 1),())).bind fun y => bif decide ((0:Int) ≤ y.1) then bif decide (v4 < IntKind.i64.wrap ((1:Int) * (2:Int) ^ min (Int.toNat y.1) (64:Nat))) then some ((0,0,2,()),()) else bif decide (Int.ofNat v2.length < v1) then some ((0,0,10,()),()) else some ((v3,v1,0,()),()) else none
def ZmX (k:Nat):Za9:=Zm (fun L1 => Zb2 k L1) k
noncomputable def ZxD (k:Nat) (n:Nat) (v:ZaG) :=
 Zt (ZAG k) ZH2 [] [1,1,1,1,1,0,1,0] [] (Q4 Tryz.f127) (Q8 (ZAG k) Tryz.f127 Wg WC [] []) n (ZMV v)
def ZfP (k:Nat) (L1:Za9):List Int × Unit → Option ((Int × Int × Int × Unit) × Unit)
 | (a0,()) => bif Int.ofNat a0.length == (0:Int) then some ((0,0,10,()),()) else bif decide ((0:Int) ≤ 0 ∧ (0:Int) < Int.ofNat a0.length) then (Zk9 k (IntKind.u8.wrap (Int.ofNat (BitVec.ofInt 8 (255:Int) ^^^ BitVec.ofInt 8 (a0.getD 0 0)).toNat),())).bind fun y => bif y.1 == 0 then bif decide ((0:Int) ≤ 0 ∧ (0:Int) < Int.ofNat a0.length) then some ((IntKind.i64.wrap (a0.getD 0 0),1,0,()),()) else none else bif y.1 == 1 then some ((0,0,2,()),()) else bif decide ((7:Int) < y.1) then some ((0,0,2,()),()) else bif decide ((0:Int) ≤ 0 ∧ (0:Int) < Int.ofNat a0.length) then bif decide ((0:Int) ≤ y.1) then bif decide ((0:Int) ≤ 0 ∧ (0:Int) < Int.ofNat a0.length) then bif decide ((0:Int) ≤ y.1) then L1 (1,y.1,a0,IntKind.i64.wrap (Int.ofNat (BitVec.ofInt 64 (IntKind.i64.wrap (a0.getD 0 0)) &&& BitVec.ofInt 64 (Int.fdiv (127:Int) ((2:Int) ^ min (Int.toNat y.1) (64:Nat)))).toNat),IntKind.i64.wrap (Int.ofNat (BitVec.ofInt 64 (IntKind.i64.wrap (a0.getD 0 0)) &&& BitVec.ofInt 64 (Int.fdiv (127:Int) ((2:Int) ^ min (Int.toNat y.1) (64:Nat)))).toNat)) else none else none else none else none else none
def ZoK (k:Nat):=ZfP k (ZmX k)
theorem ZE1 (k:Nat):∀ n,ZxD k n = Zm (fun L1 => Zb2 k L1) n :=
 Zk (fun v => by kernel_rfl) (fun n v => by
  obtain ⟨v0,v1,v2,v3,v4⟩:=v
  kernel_rfl)
theorem ZMW (k:Nat) (x:Kd.dens Wg):ZF (ZAG k) ZH2 Tryz.f127 Wg WC x = ZoK k x:=by
 show _ = ZfP k (ZmX k) x
 rw [show ZmX k = ZxD k k from (ZE1 k k).symm]
 obtain ⟨a0,⟨⟩⟩:=x
 kernel_rfl
theorem ZH3 (k:Nat):Ctr Tryz.prog k 127 (mk Wg WC ZoK) :=
 ZG (fn:=Tryz.f127) (Zh (Za (ZDa k) (Za (ZI0 k) Zc))) (by kernel_rfl) (by kernel_rfl) (ZMW k)
noncomputable abbrev ZQY:Nat × Callee:=(127,mk Wg WC ZoK)
abbrev Zp8:List Kd:=[.box [.view (.sl (.int .u8)),.ref [.view (.sl (.int .u8)),.view (.int .i64)],.view (.int .i64)]]
noncomputable def ZK3 (k:Nat):=Wc k [ZC3,ZDt,ZDu,ZQY]
def ZQe:Nat → Ann:=fun id => bif Nat.beq id 6 then ⟨[31,32,0,3],[]⟩ else ⟨[],[]⟩
abbrev ZBN:=Int × Int × Int × List Int × Int × List Int × Int
abbrev Zv5:=ZBN → Option (Int × (List Int × (List Int × Int × Unit) × Int × Unit) × Unit)
def ZTB:ZBN → St
 | (v0,v1,v2,v3,v4,v5,v6) => St.mk (Zy [(31,Zp v0),(32,Zp v1),(0,AV.bx 0 0),(3,Zp v2)]) (Zx [(0,Wh [AV.val (PV.sl (Ty.int IntKind.u8) v3),AV.bx 1 0,Zp v4]),(1,Wh [AV.val (PV.sl (Ty.int IntKind.u8) v5),Zp v6])])
def ZeO (k:Nat) (L1:Zv5):Zv5
 | (v0,v1,v2,v3,v4,v5,v6) => bif decide (v1 < v0) then (WE k ((v3,(v5,v6,()),v4,()),8,())).bind fun y => L1 (v0,IntKind.i64.wrap (v1 + 1),v2,y.2.1.1,y.2.1.2.2.1,y.2.1.2.1.1,y.2.1.2.1.2.1) else (Wd k ((v3,(v5,v6,()),v4,()),decide (v2 ≤ 2147483647),2,())).bind fun y => some (v2,(y.2.1.1,(y.2.1.2.1.1,y.2.1.2.1.2.1,()),y.2.1.2.2.1,()),())
def Zv6 (k:Nat):Zv5:=Zm (fun L1 => ZeO k L1) k
noncomputable def ZDv (k:Nat) (n:Nat) (v:ZBN) :=
 Zt (ZK3 k) ZQe [0,1] [1,1,1,1,0,1,0] [] (Q4 Tryz.f85) (Q8 (ZK3 k) Tryz.f85 Zp8 Ze [AV.bx (nat_lit 0) (nat_lit 0)] [[1]]) n (ZTB v)
def ZjI (k:Nat) (L1:Zv5):(List Int × (List Int × Int × Unit) × Int × Unit) × Unit → Option (Int × (List Int × (List Int × Int × Unit) × Int × Unit) × Unit)
 | ((a0,(a1,a2,()),a3,()),()) => bif a3 != 0 then some (0,(a0,(a1,a2,()),a3,()),()) else (ZaE k ((a1,a2,()),())).bind fun y => bif decide (0 ≤ IntKind.i64.wrap (Int.tdiv y.1 (8:Int)) ∧ IntKind.i64.wrap (Int.tdiv y.1 (8:Int)) ≤ Int.ofNat a0.length ∧ Int.ofNat a0.length ≤ Int.ofNat a0.length) then (ZoK k (List.drop (IntKind.i64.wrap (Int.tdiv y.1 (8:Int))).toNat (List.take (Int.ofNat a0.length).toNat a0),())).bind fun y_1 => L1 (y_1.1.2.1,(0:Int),y_1.1.1,a0,y_1.1.2.2.1,y.2.1.1,y.2.1.2.1) else none
def ZjH (k:Nat):=ZjI k (Zv6 k)
theorem ZK4 (k:Nat):∀ n,ZDv k n = Zm (fun L1 => ZeO k L1) n :=
 Zk (fun v => by kernel_rfl) (fun n v => by
  obtain ⟨v0,v1,v2,v3,v4,v5,v6⟩:=v
  kernel_rfl)
theorem ZTC (k:Nat) (x:Kd.dens Zp8):ZF (ZK3 k) ZQe Tryz.f85 Zp8 Ze x = ZjH k x:=by
 show _ = ZjI k (Zv6 k) x
 rw [show Zv6 k = ZDv k k from (ZK4 k k).symm]
 obtain ⟨⟨a0,⟨⟨a1,⟨a2,⟨⟩⟩⟩,⟨a3,⟨⟩⟩⟩⟩,⟨⟩⟩:=x
 kernel_rfl
theorem ZOX (k:Nat):Ctr Tryz.prog k 85 (mk Zp8 Ze ZjH) :=
 ZG (fn:=Tryz.f85) (Zh (Za (ZnK k) (Za (ZnP k) (Za (ZnQ k) (Za (ZH3 k) Zc))))) (by kernel_rfl) (by kernel_rfl) (ZTC k)
noncomputable abbrev ZU9:Nat × Callee:=(85,mk Zp8 Ze ZjH)
abbrev Zvn:List Kd:=[.box [.view (.sl (.int .u8)),.ref [.view (.sl (.int .u8)),.view (.int .i64)],.view (.int .i64)],.view shapeT]
noncomputable def ZUH (k:Nat):=Wc k [ZUM,ZDt,ZDu,ZU8,ZU9]
def ZyP (k:Nat):(List Int × (List Int × Int × Unit) × Int × Unit) × (Int × Int × Int × Unit) × Unit → Option ((Int × Int × Int × Unit) × (List Int × (List Int × Int × Unit) × Int × Unit) × Unit)
 | ((a0,(a1,a2,()),a3,()),(a4,a5,a6,()),()) => (WE k ((a0,(a1,a2,()),a3,()),15,())).bind fun y => (Wd k ((y.2.1.1,(y.2.1.2.1.1,y.2.1.2.1.2.1,()),y.2.1.2.2.1,()),y.1 == 32764,11,())).bind fun y => (WE k ((y.2.1.1,(y.2.1.2.1.1,y.2.1.2.1.2.1,()),y.2.1.2.2.1,()),1,())).bind fun y => (Wd k ((y.2.1.1,(y.2.1.2.1.1,y.2.1.2.1.2.1,()),y.2.1.2.2.1,()),y.1 == 0,2,())).bind fun y => (WE k ((y.2.1.1,(y.2.1.2.1.1,y.2.1.2.1.2.1,()),y.2.1.2.2.1,()),4,())).bind fun y => bif y.1 == 6 then (Wd k ((y.2.1.1,(y.2.1.2.1.1,y.2.1.2.1.2.1,()),y.2.1.2.2.1,()),true,2,())).bind fun y_1 => (WE k ((y_1.2.1.1,(y_1.2.1.2.1.1,y_1.2.1.2.1.2.1,()),y_1.2.1.2.2.1,()),4,())).bind fun y_2 => (Wd k ((y_2.2.1.1,(y_2.2.1.2.1.1,y_2.2.1.2.1.2.1,()),y_2.2.1.2.2.1,()),y_2.1 == 0,2,())).bind fun y_3 => (WE k ((y_3.2.1.1,(y_3.2.1.2.1.1,y_3.2.1.2.1.2.1,()),y_3.2.1.2.2.1,()),4,())).bind fun y_4 => (Zp7 k ((a4,a5,a6,()),y_4.1,())).bind fun y_5 => (Wd k ((y_4.2.1.1,(y_4.2.1.2.1.1,y_4.2.1.2.1.2.1,()),y_4.2.1.2.2.1,()),y_5.1,2,())).bind fun y_6 => (WE k ((y_6.2.1.1,(y_6.2.1.2.1.1,y_6.2.1.2.1.2.1,()),y_6.2.1.2.2.1,()),4,())).bind fun y_7 => (Wd k ((y_7.2.1.1,(y_7.2.1.2.1.1,y_7.2.1.2.1.2.1,()),y_7.2.1.2.2.1,()),y_7.1 == 0,2,())).bind fun y_8 => (ZjH k ((y_8.2.1.1,(y_8.2.1.2.1.1,y_8.2.1.2.1.2.1,()),y_8.2.1.2.2.1,()),())).bind fun y_9 => bif y_9.2.1.2.2.1 == 0 then (WE k ((y_9.2.1.1,(y_9.2.1.2.1.1,y_9.2.1.2.1.2.1,()),y_9.2.1.2.2.1,()),IntKind.i64.wrap ((8:Int) * IntKind.i64.wrap (IntKind.i64.wrap (y.1 - 6) + (1:Int))),())).bind fun y => (Wd k ((y.2.1.1,(y.2.1.2.1.1,y.2.1.2.1.2.1,()),y.2.1.2.2.1,()),decide (IntKind.i64.wrap (y.1 + 1) ≤ (512:Int)),1,())).bind fun y_10 => (ZgX k ((y_10.2.1.1,(y_10.2.1.2.1.1,y_10.2.1.2.1.2.1,()),y_10.2.1.2.2.1,()),8,(),())).bind fun y_11 => some ((y_4.1,y_9.1,IntKind.i64.wrap (y.1 + 1),()),(y_11.2.1.1,(y_11.2.1.2.1.1,y_11.2.1.2.1.2.1,()),y_11.2.1.2.2.1,()),()) else (Wd k ((y_9.2.1.1,(y_9.2.1.2.1.1,y_9.2.1.2.1.2.1,()),y_9.2.1.2.2.1,()),decide ((0:Int) ≤ 512),1,())).bind fun y => (ZgX k ((y.2.1.1,(y.2.1.2.1.1,y.2.1.2.1.2.1,()),y.2.1.2.2.1,()),8,(),())).bind fun y => some ((y_4.1,y_9.1,0,()),(y.2.1.1,(y.2.1.2.1.1,y.2.1.2.1.2.1,()),y.2.1.2.2.1,()),()) else (Wd k ((y.2.1.1,(y.2.1.2.1.1,y.2.1.2.1.2.1,()),y.2.1.2.2.1,()),y.1 == 7,2,())).bind fun y_1 => (WE k ((y_1.2.1.1,(y_1.2.1.2.1.1,y_1.2.1.2.1.2.1,()),y_1.2.1.2.2.1,()),4,())).bind fun y_2 => (Wd k ((y_2.2.1.1,(y_2.2.1.2.1.1,y_2.2.1.2.1.2.1,()),y_2.2.1.2.2.1,()),y_2.1 == 0,2,())).bind fun y_3 => (WE k ((y_3.2.1.1,(y_3.2.1.2.1.1,y_3.2.1.2.1.2.1,()),y_3.2.1.2.2.1,()),4,())).bind fun y_4 => (Zp7 k ((a4,a5,a6,()),y_4.1,())).bind fun y_5 => (Wd k ((y_4.2.1.1,(y_4.2.1.2.1.1,y_4.2.1.2.1.2.1,()),y_4.2.1.2.2.1,()),y_5.1,2,())).bind fun y_6 => (WE k ((y_6.2.1.1,(y_6.2.1.2.1.1,y_6.2.1.2.1.2.1,()),y_6.2.1.2.2.1,()),4,())).bind fun y_7 => (Wd k ((y_7.2.1.1,(y_7.2.1.2.1.1,y_7.2.1.2.1.2.1,()),y_7.2.1.2.2.1,()),y_7.1 == 0,2,())).bind fun y_8 => (ZjH k ((y_8.2.1.1,(y_8.2.1.2.1.1,y_8.2.1.2.1.2.1,()),y_8.2.1.2.2.1,()),())).bind fun y_9 => bif y_9.2.1.2.2.1 == 0 then (WE k ((y_9.2.1.1,(y_9.2.1.2.1.1,y_9.2.1.2.1.2.1,()),y_9.2.1.2.2.1,()),IntKind.i64.wrap ((8:Int) * IntKind.i64.wrap (IntKind.i64.wrap (y.1 - 6) + (1:Int))),())).bind fun y => (Wd k ((y.2.1.1,(y.2.1.2.1.1,y.2.1.2.1.2.1,()),y.2.1.2.2.1,()),decide (IntKind.i64.wrap (y.1 + 1) ≤ (512:Int)),1,())).bind fun y_10 => (ZgX k ((y_10.2.1.1,(y_10.2.1.2.1.1,y_10.2.1.2.1.2.1,()),y_10.2.1.2.2.1,()),8,(),())).bind fun y_11 => some ((y_4.1,y_9.1,IntKind.i64.wrap (y.1 + 1),()),(y_11.2.1.1,(y_11.2.1.2.1.1,y_11.2.1.2.1.2.1,()),y_11.2.1.2.2.1,()),()) else (Wd k ((y_9.2.1.1,(y_9.2.1.2.1.1,y_9.2.1.2.1.2.1,()),y_9.2.1.2.2.1,()),decide ((0:Int) ≤ 512),1,())).bind fun y => (ZgX k ((y.2.1.1,(y.2.1.2.1.1,y.2.1.2.1.2.1,()),y.2.1.2.2.1,()),8,(),())).bind fun y => some ((y_4.1,y_9.1,0,()),(y.2.1.1,(y.2.1.2.1.1,y.2.1.2.1.2.1,()),y.2.1.2.2.1,()),())
def ZsE (k:Nat):=ZyP k
theorem ZSG (k:Nat) (x:Kd.dens Zvn):ZF (ZUH k) nA Tryz.f45 Zvn WC x = ZsE k x:=by
 show _ = ZyP k x
 obtain ⟨⟨a0,⟨⟨a1,⟨a2,⟨⟩⟩⟩,⟨a3,⟨⟩⟩⟩⟩,⟨⟨a4,⟨a5,⟨a6,⟨⟩⟩⟩⟩,⟨⟩⟩⟩:=x
 kernel_rfl
theorem ZOA (k:Nat):Ctr Tryz.prog k 45 (mk Zvn WC ZsE) :=
 ZG (fn:=Tryz.f45) (Zh (Za (ZOD k) (Za (ZnP k) (Za (ZnQ k) (Za (ZOW k) (Za (ZOX k) Zc)))))) (by kernel_rfl) (by kernel_rfl) (ZSG k)
noncomputable abbrev ZUI:Nat × Callee:=(45,mk Zvn WC ZsE)
abbrev ZmY:List Kd:=[.box [.ref [.view (.sl (.int .u8)),.view (.int .i64)],.view (.int .i64)],.view .bool]
def ZfQ (k:Nat):((List Int × Int × Unit) × Int × Unit) × Bool × Unit → Option (Unit × ((List Int × Int × Unit) × Int × Unit) × Unit)
 | (((a0,a1,()),a2,()),a3,()) => bif a2 == 0 then bif !a3 then some ((),((a0,a1,()),2,()),()) else some ((),((a0,a1,()),a2,()),()) else some ((),((a0,a1,()),a2,()),())
def W8 (k:Nat):=ZfQ k
theorem ZMX (k:Nat) (x:Kd.dens ZmY):ZF (ZJ k) nA Tryz.f128 ZmY QB x = W8 k x:=by
 show _ = ZfQ k x
 obtain ⟨⟨⟨a0,⟨a1,⟨⟩⟩⟩,⟨a2,⟨⟩⟩⟩,⟨a3,⟨⟩⟩⟩:=x
 kernel_rfl
theorem ZxE (k:Nat):Ctr Tryz.prog k 128 (mk ZmY QB W8) :=
 ZG (fn:=Tryz.f128) (Zh Zc) (by kernel_rfl) (by kernel_rfl) (ZMX k)
noncomputable abbrev ZH4:Nat × Callee:=(128,mk ZmY QB W8)
abbrev Zba:List Kd:=[.box [.ref [.view (.sl (.int .u8)),.view (.int .i64)],.view (.int .i64)],.view (.int .i64)]
def ZfR (k:Nat):((List Int × Int × Unit) × Int × Unit) × Int × Unit → Option (Int × ((List Int × Int × Unit) × Int × Unit) × Unit)
 | (((a0,a1,()),a2,()),a3,()) => bif a2 == 0 then (YG k ((a0,a1,()),a3,())).bind fun y => some (y.1.1,((y.2.1.1,y.2.1.2.1,()),y.1.2.1,()),()) else some (0,((a0,a1,()),a2,()),())
def YH (k:Nat):=ZfR k
theorem ZMY (k:Nat) (x:Kd.dens Zba):ZF (ZK1 k) nA Tryz.f129 Zba Ze x = YH k x:=by
 show _ = ZfR k x
 obtain ⟨⟨⟨a0,⟨a1,⟨⟩⟩⟩,⟨a2,⟨⟩⟩⟩,⟨a3,⟨⟩⟩⟩:=x
 kernel_rfl
theorem ZxF (k:Nat):Ctr Tryz.prog k 129 (mk Zba Ze YH) :=
 ZG (fn:=Tryz.f129) (Zh (Za (Zb0 k) Zc)) (by kernel_rfl) (by kernel_rfl) (ZMY k)
noncomputable abbrev ZH5:Nat × Callee:=(129,mk Zba Ze YH)
def ZfS (k:Nat):Int × Unit → Option (Bool × Unit)
 | (a0,()) => bif a0 == 0 then some (true,()) else bif a0 == 1 then some (true,()) else bif decide (8 ≤ a0) then bif decide (a0 ≤ 12) then some (true,()) else bif decide ((31:Int) < a0) then some (decide (a0 ≤ 39),()) else some (false,()) else bif decide ((31:Int) < a0) then some (decide (a0 ≤ 39),()) else some (false,())
def ZoL (k:Nat):=ZfS k
theorem ZMZ (k:Nat) (x:Kd.dens Zr):ZF (ZJ k) nA Tryz.f130 Zr ZA x = ZoL k x:=by
 show _ = ZfS k x
 obtain ⟨a0,⟨⟩⟩:=x
 kernel_rfl
theorem ZH6 (k:Nat):Ctr Tryz.prog k 130 (mk Zr ZA ZoL) :=
 ZG (fn:=Tryz.f130) (Zh Zc) (by kernel_rfl) (by kernel_rfl) (ZMZ k)
noncomputable abbrev ZQ0:Nat × Callee:=(130,mk Zr ZA ZoL)
noncomputable def ZkQ (k:Nat):=Wc k [ZQi]
def ZH7:Nat → Ann:=fun id => bif Nat.beq id 4 then ⟨[4,0],[]⟩ else ⟨[],[]⟩
abbrev YI:=Int × List Int × Int
abbrev ZmZ:=YI → Option ((Int × Int × Unit) × (List Int × Int × Unit) × Unit)
def ZM0:YI → St
 | (v0,v1,v2) => St.mk (Zy [(4,Zp v0),(0,AV.bx 0 0)]) (Zx [(0,Wh [AV.val (PV.sl (Ty.int IntKind.u8) v1),Zp v2])])
def Zb4 (k:Nat) (L1:ZmZ):ZmZ
 | (v0,v1,v2) => bif decide (v0 < IntKind.i64.wrap ((8:Int) * Int.ofNat v1.length)) then (Zp9 k ((v1,v2,()),v0,())).bind fun y => bif y.1 == 1 then some ((IntKind.i64.wrap (v0 - y.2.1.2.1),0,()),(y.2.1.1,IntKind.i64.wrap (v0 + 1),()),()) else L1 (IntKind.i64.wrap (v0 + 1),y.2.1.1,y.2.1.2.1) else some ((0,10,()),(v1,v2,()),())
def Zm0 (k:Nat):ZmZ:=Zm (fun L1 => Zb4 k L1) k
noncomputable def ZxH (k:Nat) (n:Nat) (v:YI) :=
 Zt (ZkQ k) ZH7 [0] [1,1,0,1,0] [] (Q4 Tryz.f131) (Q8 (ZkQ k) Tryz.f131 Xo ZZ [AV.bx (nat_lit 0) (nat_lit 0)] [[]]) n (ZM0 v)
def ZfT (k:Nat) (L1:ZmZ):(List Int × Int × Unit) × Unit → Option ((Int × Int × Unit) × (List Int × Int × Unit) × Unit)
 | ((a0,a1,()),()) => L1 (a1,a0,a1)
def Zhz (k:Nat):=ZfT k (Zm0 k)
theorem ZE5 (k:Nat):∀ n,ZxH k n = Zm (fun L1 => Zb4 k L1) n :=
 Zk (fun v => by kernel_rfl) (fun n v => by
  obtain ⟨v0,v1,v2⟩:=v
  kernel_rfl)
theorem ZM1 (k:Nat) (x:Kd.dens Xo):ZF (ZkQ k) ZH7 Tryz.f131 Xo ZZ x = Zhz k x:=by
 show _ = ZfT k (Zm0 k) x
 rw [show Zm0 k = ZxH k k from (ZE5 k k).symm]
 obtain ⟨⟨a0,⟨a1,⟨⟩⟩⟩,⟨⟩⟩:=x
 kernel_rfl
theorem ZxI (k:Nat):Ctr Tryz.prog k 131 (mk Xo ZZ Zhz) :=
 ZG (fn:=Tryz.f131) (Zh (Za (Zv8 k) Zc)) (by kernel_rfl) (by kernel_rfl) (ZM1 k)
noncomputable abbrev ZH8:Nat × Callee:=(131,mk Xo ZZ Zhz)
noncomputable def ZVa (k:Nat):=Wc k [ZH4,ZH5,ZQ0,ZH8]
def ZjK (k:Nat):((List Int × Int × Unit) × Int × Unit) × Int × Unit → Option ((Int × Int × Unit) × ((List Int × Int × Unit) × Int × Unit) × Unit)
 | (((a0,a1,()),a2,()),a3,()) => (YH k (((a0,a1,()),a2,()),1,())).bind fun y => (W8 k (((y.2.1.1.1,y.2.1.1.2.1,()),y.2.1.2.1,()),y.1 == 0,())).bind fun y => (YH k (((y.2.1.1.1,y.2.1.1.2.1,()),y.2.1.2.1,()),6,())).bind fun y => (ZoL k (y.1,())).bind fun y_1 => (W8 k (((y.2.1.1.1,y.2.1.1.2.1,()),y.2.1.2.1,()),y_1.1,())).bind fun y_2 => (YH k (((y_2.2.1.1.1,y_2.2.1.1.2.1,()),y_2.2.1.2.1,()),1,())).bind fun y_3 => bif y_3.1 == 1 then bif y_3.2.1.2.1 == 0 then (Zhz k ((y_3.2.1.1.1,y_3.2.1.1.2.1,()),())).bind fun y_4 => (W8 k (((y_4.2.1.1,y_4.2.1.2.1,()),y_4.1.2.1,()),decide (IntKind.i64.wrap (y_4.1.1 + 1) < a3),())).bind fun y_5 => some ((y.1,IntKind.i64.wrap (y_4.1.1 + 1),()),((y_5.2.1.1.1,y_5.2.1.1.2.1,()),y_5.2.1.2.1,()),()) else (W8 k (((y_3.2.1.1.1,y_3.2.1.1.2.1,()),y_3.2.1.2.1,()),decide ((0:Int) < a3),())).bind fun y_4 => some ((y.1,0,()),((y_4.2.1.1.1,y_4.2.1.1.2.1,()),y_4.2.1.2.1,()),()) else (W8 k (((y_3.2.1.1.1,y_3.2.1.1.2.1,()),y_3.2.1.2.1,()),decide ((0:Int) < a3),())).bind fun y_4 => some ((y.1,0,()),((y_4.2.1.1.1,y_4.2.1.1.2.1,()),y_4.2.1.2.1,()),())
def Zzd (k:Nat):=ZjK k
theorem ZTE (k:Nat) (x:Kd.dens Zba):ZF (ZVa k) nA Tryz.f87 Zba ZZ x = Zzd k x:=by
 show _ = ZjK k x
 obtain ⟨⟨⟨a0,⟨a1,⟨⟩⟩⟩,⟨a2,⟨⟩⟩⟩,⟨a3,⟨⟩⟩⟩:=x
 kernel_rfl
theorem ZOY (k:Nat):Ctr Tryz.prog k 87 (mk Zba ZZ Zzd) :=
 ZG (fn:=Tryz.f87) (Zh (Za (ZxE k) (Za (ZxF k) (Za (ZH6 k) (Za (ZxI k) Zc))))) (by kernel_rfl) (by kernel_rfl) (ZTE k)
noncomputable abbrev ZVb:Nat × Callee:=(87,mk Zba ZZ Zzd)
abbrev ZnF:List Kd:=[.view (.int .u32),.view (.int .u32)]
abbrev ZuP:Kd:=.tup [.view (.int .u32),.view (.int .u32)]
def Zsx (k:Nat):Int × Int × Unit → Option ((Int × Int × Unit) × Unit)
 | (a0,a1,()) => some ((IntKind.u32.wrap ((IntKind.u64.wrap (IntKind.u64.wrap a0 * IntKind.u64.wrap a1)).fdiv (4294967296:Int)),IntKind.u32.wrap (IntKind.u64.wrap (IntKind.u64.wrap a0 * IntKind.u64.wrap a1)),()),())
def ZBb (k:Nat):=Zsx k
theorem ZOb (k:Nat) (x:Kd.dens ZnF):ZF (ZJ k) nA Tryz.f187 ZnF ZuP x = ZBb k x:=by
 show _ = Zsx k x
 obtain ⟨a0,⟨a1,⟨⟩⟩⟩:=x
 kernel_rfl
theorem ZJk (k:Nat):Ctr Tryz.prog k 187 (mk ZnF ZuP ZBb) :=
 ZG (fn:=Tryz.f187) (Zh Zc) (by kernel_rfl) (by kernel_rfl) (ZOb k)
noncomputable abbrev ZRR:Nat × Callee:=(187,mk ZnF ZuP ZBb)
abbrev Zbf:List Kd:=[.view (.int .u64),.view (.int .u64)]
abbrev ZgA:Kd:=.tup [.view (.int .u64),.view (.int .u64)]
def Zgz (k:Nat):Int × Int × Unit → Option ((Int × Int × Unit) × Unit)
 | (a0,a1,()) => some ((IntKind.u64.wrap (IntKind.u64.wrap (IntKind.u64.wrap (a0.fdiv (4294967296:Int) * a1.fdiv (4294967296:Int)) + (IntKind.u64.wrap (IntKind.u64.wrap (a0.fdiv (4294967296:Int) * IntKind.u64.wrap (Int.ofNat (BitVec.ofInt 64 a1 &&& BitVec.ofInt 64 (4294967295:Int)).toNat)) + (IntKind.u64.wrap (IntKind.u64.wrap (Int.ofNat (BitVec.ofInt 64 a0 &&& BitVec.ofInt 64 (4294967295:Int)).toNat) * IntKind.u64.wrap (Int.ofNat (BitVec.ofInt 64 a1 &&& BitVec.ofInt 64 (4294967295:Int)).toNat))).fdiv (4294967296:Int))).fdiv (4294967296:Int)) + (IntKind.u64.wrap (IntKind.u64.wrap (Int.ofNat (BitVec.ofInt 64 (IntKind.u64.wrap (IntKind.u64.wrap (a0.fdiv (4294967296:Int) * IntKind.u64.wrap (Int.ofNat (BitVec.ofInt 64 a1 &&& BitVec.ofInt 64 (4294967295:Int)).toNat)) + (IntKind.u64.wrap (IntKind.u64.wrap (Int.ofNat (BitVec.ofInt 64 a0 &&& BitVec.ofInt 64 (4294967295:Int)).toNat) * IntKind.u64.wrap (Int.ofNat (BitVec.ofInt 64 a1 &&& BitVec.ofInt 64 (4294967295:Int)).toNat))).fdiv (4294967296:Int))) &&& BitVec.ofInt 64 (4294967295:Int)).toNat) + IntKind.u64.wrap (IntKind.u64.wrap (Int.ofNat (BitVec.ofInt 64 a0 &&& BitVec.ofInt 64 (4294967295:Int)).toNat) * a1.fdiv (4294967296:Int)))).fdiv (4294967296:Int)),IntKind.u64.wrap (a0 * a1),()),())
def ZuQ (k:Nat):=Zgz k
theorem ZOc (k:Nat) (x:Kd.dens Zbf):ZF (ZJ k) nA Tryz.f188 Zbf ZgA x = ZuQ k x:=by
 show _ = Zgz k x
 obtain ⟨a0,⟨a1,⟨⟩⟩⟩:=x
 kernel_rfl
theorem ZJl (k:Nat):Ctr Tryz.prog k 188 (mk Zbf ZgA ZuQ) :=
 ZG (fn:=Tryz.f188) (Zh Zc) (by kernel_rfl) (by kernel_rfl) (ZOc k)
noncomputable abbrev ZRS:Nat × Callee:=(188,mk Zbf ZgA ZuQ)
noncomputable def ZRx (k:Nat):=Wc k [ZRR,ZRS]
def Zso (k:Nat):Int × Int × Unit → Option ((Int × Int × Unit) × Unit)
 | (a0,a1,()) => (ZuQ k (a0,a1,())).bind fun y => some ((y.1.1,y.1.2.1,()),())
def Zpf (k:Nat):=Zso k
theorem ZNO (k:Nat) (x:Kd.dens Zbf):ZF (ZRx k) nA Tryz.f169 Zbf ZgA x = Zpf k x:=by
 show _ = Zso k x
 obtain ⟨a0,⟨a1,⟨⟩⟩⟩:=x
 kernel_rfl
theorem ZI1 (k:Nat):Ctr Tryz.prog k 169 (mk Zbf ZgA Zpf) :=
 ZG (fn:=Tryz.f169) (Zh (Za (ZJk k) (Za (ZJl k) Zc))) (by kernel_rfl) (by kernel_rfl) (ZNO k)
noncomputable abbrev ZRy:Nat × Callee:=(169,mk Zbf ZgA Zpf)
noncomputable def ZAH (k:Nat):=Wc k [ZRy] (fun r => bif Nat.beq r 999999 then [1] else [])
def ZH9:Nat → Ann:=fun id => bif Nat.beq id 8 then ⟨[8,7],[]⟩ else ⟨[],[]⟩
abbrev Zaf:=Int × List Int
abbrev Zm1:=Zaf → Option (List Int × Unit)
def ZM2:Zaf → St
 | (v0,v1) => St.mk (Zy [(8,Zp v0),(7,AV.own 8192)]) (Zx [(8192,rsA v1 false)])
def ZfV (k:Nat) (L1:Zm1):Zm1
 | (v0,v1) => bif decide (v0 < Int.ofNat v1.length) then bif decide (0 ≤ v0 ∧ v0 ≤ Int.ofNat v1.length ∧ Int.ofNat v1.length ≤ Int.ofNat v1.length) then bif decide ((0:Int) ≤ 0 ∧ (0:Int) ≤ v0 ∧ v0 ≤ Int.ofNat v1.length) then bif decide (v0.toNat ≤ (Int.ofNat v1.length).toNat ∧ (Int.ofNat v1.length).toNat ≤ v1.length) then bif decide ((0:Nat) ≤ v0.toNat ∧ v0.toNat ≤ v1.length) then L1 (IntKind.i64.wrap (v0 + Int.ofNat (min (List.drop 0 (List.take v0.toNat v1)).length ((Int.ofNat v1.length).toNat - v0.toNat))),List.take v0.toNat v1 ++ List.take ((Int.ofNat v1.length).toNat - v0.toNat) (List.drop 0 (List.take v0.toNat v1)) ++ List.drop (v0.toNat + min (List.drop 0 (List.take v0.toNat v1)).length ((Int.ofNat v1.length).toNat - v0.toNat)) v1) else none else none else none else none else some (v1,())
def Zm2 (k:Nat):Zm1:=Zm (fun L1 => ZfV k L1) k
noncomputable def ZxJ (k:Nat) (n:Nat) (v:Zaf) :=
 Zt (ZAH k) ZH9 [] [1,1,1,1,1,1,0,0] [] (Q4 Tryz.f132) (Q8 (ZAH k) Tryz.f132 Zz YK [] []) n (ZM2 v)
def ZfU (k:Nat) (L1:Zm1):List Int × Int × Unit → Option (List Int × Unit)
 | (a0,a1,()) => bif decide (a1 < 0) then none else (Zpf k (IntKind.u64.wrap (Int.ofNat a0.length),IntKind.u64.wrap a1,())).bind fun y => bif decide ((0:Int) < y.1.1) then none else bif decide ((9223372036854775807:Int) < y.1.2.1) then none else bif decide (0 ≤ IntKind.i64.wrap y.1.2.1 ∧ IntKind.i64.wrap y.1.2.1 ≤ IntKind.i64.wrap y.1.2.1 ∧ IntKind.i64.wrap y.1.2.1 < 4294967296) then L1 (Int.ofNat (min a0.length ((List.replicate (IntKind.i64.wrap y.1.2.1).toNat (0:Int)).length - (0:Nat))),List.take 0 (List.replicate (IntKind.i64.wrap y.1.2.1).toNat (0:Int)) ++ List.take ((List.replicate (IntKind.i64.wrap y.1.2.1).toNat (0:Int)).length - (0:Nat)) a0 ++ List.drop ((0:Nat) + min a0.length ((List.replicate (IntKind.i64.wrap y.1.2.1).toNat (0:Int)).length - (0:Nat))) (List.replicate (IntKind.i64.wrap y.1.2.1).toNat (0:Int))) else none
def ZoM (k:Nat):=ZfU k (Zm2 k)
theorem ZE7 (k:Nat):∀ n,ZxJ k n = Zm (fun L1 => ZfV k L1) n :=
 Zk (fun v => by kernel_rfl) (fun n v => by
  obtain ⟨v0,v1⟩:=v
  kernel_rfl)
theorem ZM3 (k:Nat) (x:Kd.dens Zz):ZF (ZAH k) ZH9 Tryz.f132 Zz YK x = ZoM k x:=by
 show _ = ZfU k (Zm2 k) x
 rw [show Zm2 k = ZxJ k k from (ZE7 k k).symm]
 obtain ⟨a0,⟨a1,⟨⟩⟩⟩:=x
 kernel_rfl
theorem ZIa (k:Nat):Ctr Tryz.prog k 132 (mk Zz YK ZoM) :=
 ZG (fn:=Tryz.f132) (Zh (Za (ZI1 k) Zc)) (by kernel_rfl) (by kernel_rfl) (ZM3 k)
noncomputable abbrev ZQ1:Nat × Callee:=(132,mk Zz YK ZoM)
def Zgq (k:Nat):(List Int × Int × Unit) × Int × Unit → Option ((Int × Int × Unit) × (List Int × Int × Unit) × Unit)
 | ((a0,a1,()),a2,()) => (YG k ((a0,a1,()),a2,())).bind fun y => bif y.1.2.1 == 0 then bif decide ((0:Int) < a2) then bif decide (0 ≤ IntKind.i64.wrap (a2 - 1)) then bif Int.fdiv y.1.1 ((2:Int) ^ min (IntKind.i64.wrap (a2 - 1)).toNat 64) == (1:Int) then bif decide (0 ≤ a2) then some ((IntKind.i64.wrap (y.1.1 - IntKind.i64.wrap ((1:Int) * (2:Int) ^ min a2.toNat 64)),y.1.2.1,()),(y.2.1.1,y.2.1.2.1,()),()) else none else some ((y.1.1,y.1.2.1,()),(y.2.1.1,y.2.1.2.1,()),()) else none else some ((y.1.1,y.1.2.1,()),(y.2.1.1,y.2.1.2.1,()),()) else some ((y.1.1,y.1.2.1,()),(y.2.1.1,y.2.1.2.1,()),())
def Zla (k:Nat):=Zgq k
theorem ZNQ (k:Nat) (x:Kd.dens XG):ZF (ZK1 k) nA Tryz.f170 XG ZZ x = Zla k x:=by
 show _ = Zgq k x
 obtain ⟨⟨a0,⟨a1,⟨⟩⟩⟩,⟨a2,⟨⟩⟩⟩:=x
 kernel_rfl
theorem Zym (k:Nat):Ctr Tryz.prog k 170 (mk XG ZZ Zla) :=
 ZG (fn:=Tryz.f170) (Zh (Za (Zb0 k) Zc)) (by kernel_rfl) (by kernel_rfl) (ZNQ k)
noncomputable abbrev ZRB:Nat × Callee:=(170,mk XG ZZ Zla)
abbrev Zix:List Kd:=[.box [.ref [.view (.sl (.int .u8)),.view (.int .i64)],.view (.int .i64)],.view (.int .i64),.view (.int .i64)]
noncomputable def Zum (k:Nat):=Wc k [ZRB]
def ZIb:Nat → Ann:=fun id => bif Nat.beq id 3 then ⟨[9,10,0,2,7],[.slot 7 ((Ty.int IntKind.i64))]⟩ else ⟨[],[]⟩
abbrev Zun:=Int × Int × Int × Int × List Int × Int × List Int
abbrev Zm3:=Zun → Option (List Int × ((List Int × Int × Unit) × Int × Unit) × Unit)
def ZM4:Zun → St
 | (v0,v1,v2,v3,v4,v5,v6) => St.mk (Zy [(9,Zp v0),(10,Zp v1),(0,AV.bx 0 0),(2,Zp v2),(7,AV.own 8192)]) (Zx [(0,Wh [AV.bx 1 0,Zp v3]),(1,Wh [AV.val (PV.sl (Ty.int IntKind.u8) v4),Zp v5]),(8192,rsA v6 false)])
def Zb5 (k:Nat) (L1:Zm3):Zm3
 | (v0,v1,v2,v3,v4,v5,v6) => bif decide (v1 < v0) then bif v3 == 0 then (Zla k ((v4,v5,()),v2,())).bind fun y => bif decide (v6.length + [y.1.1].length < 2147483648) then L1 (v0,IntKind.i64.wrap (v1 + 1),v2,y.1.2.1,y.2.1.1,y.2.1.2.1,v6 ++ [y.1.1]) else none else bif decide (v6.length + (1:Nat) < (2147483648:Nat)) then L1 (v0,IntKind.i64.wrap (v1 + 1),v2,v3,v4,v5,v6 ++ [(0:Int)]) else none else some (v6,((v4,v5,()),v3,()),())
def Zm4 (k:Nat):Zm3:=Zm (fun L1 => Zb5 k L1) k
noncomputable def ZxK (k:Nat) (n:Nat) (v:Zun) :=
 Zt (Zum k) ZIb [0,1] [1,1,0,1,0] [] (Q4 Tryz.f133) (Q8 (Zum k) Tryz.f133 Zix YK [AV.bx (nat_lit 0) (nat_lit 0)] [[1]]) n (ZM4 v)
def ZfW (k:Nat) (L1:Zm3):((List Int × Int × Unit) × Int × Unit) × Int × Int × Unit → Option (List Int × ((List Int × Int × Unit) × Int × Unit) × Unit)
 | (((a0,a1,()),a2,()),a3,a4,()) => L1 (a3,(0:Int),a4,a2,a0,a1,[])
def ZaC (k:Nat):=ZfW k (Zm4 k)
theorem ZFa (k:Nat):∀ n,ZxK k n = Zm (fun L1 => Zb5 k L1) n :=
 Zk (fun v => by kernel_rfl) (fun n v => by
  obtain ⟨v0,v1,v2,v3,v4,v5,v6⟩:=v
  kernel_rfl)
theorem ZM5 (k:Nat) (x:Kd.dens Zix):ZF (Zum k) ZIb Tryz.f133 Zix YK x = ZaC k x:=by
 show _ = ZfW k (Zm4 k) x
 rw [show Zm4 k = ZxK k k from (ZFa k k).symm]
 obtain ⟨⟨⟨a0,⟨a1,⟨⟩⟩⟩,⟨a2,⟨⟩⟩⟩,⟨a3,⟨a4,⟨⟩⟩⟩⟩:=x
 kernel_rfl
theorem ZIc (k:Nat):Ctr Tryz.prog k 133 (mk Zix YK ZaC) :=
 ZG (fn:=Tryz.f133) (Zh (Za (Zym k) Zc)) (by kernel_rfl) (by kernel_rfl) (ZM5 k)
noncomputable abbrev ZQ2:Nat × Callee:=(133,mk Zix YK ZaC)
def ZgF (k:Nat):Int × Unit → Option ((Int × Int × Unit) × Unit)
 | (a0,()) => bif decide (a0 < 0) then some ((0,12,()),()) else bif decide ((2199023255552:Int) < a0) then some ((0,12,()),()) else some ((IntKind.i64.wrap (Int.ofNat (BitVec.ofInt 64 (a0.fdiv (2:Int)) ^^^ BitVec.ofInt 64 (IntKind.i64.wrap ((0:Int) - IntKind.i64.wrap (Int.ofNat (BitVec.ofInt 64 a0 &&& BitVec.ofInt 64 (1:Int)).toNat)))).toNat),0,()),())
def Zpu (k:Nat):=ZgF k
theorem ZOj (k:Nat) (x:Kd.dens Zr):ZF (ZJ k) nA Tryz.f195 Zr ZZ x = Zpu k x:=by
 show _ = ZgF k x
 obtain ⟨a0,⟨⟩⟩:=x
 kernel_rfl
theorem ZJw (k:Nat):Ctr Tryz.prog k 195 (mk Zr ZZ Zpu) :=
 ZG (fn:=Tryz.f195) (Zh Zc) (by kernel_rfl) (by kernel_rfl) (ZOj k)
noncomputable abbrev ZR2:Nat × Callee:=(195,mk Zr ZZ Zpu)
noncomputable def ZRX (k:Nat):=Wc k [Zul,ZH8,ZR2]
def ZgC (k:Nat):(List Int × Int × Unit) × Int × Unit → Option ((Int × Int × Unit) × (List Int × Int × Unit) × Unit)
 | ((a0,a1,()),a2,()) => (Zhz k ((a0,a1,()),())).bind fun y => bif y.1.2.1 != 0 then some ((0,y.1.2.1,()),(y.2.1.1,y.2.1.2.1,()),()) else (YG k ((y.2.1.1,y.2.1.2.1,()),a2,())).bind fun y_1 => bif y_1.1.2.1 != 0 then some ((0,y_1.1.2.1,()),(y_1.2.1.1,y_1.2.1.2.1,()),()) else bif decide (0 ≤ a2) then bif decide (4294967295 ≤ IntKind.i64.wrap (Int.ofNat (BitVec.ofInt 64 (IntKind.i64.wrap (y.1.1 * (2:Int) ^ min a2.toNat 64)) ||| BitVec.ofInt 64 y_1.1.1).toNat)) then some ((0,12,()),(y_1.2.1.1,y_1.2.1.2.1,()),()) else (Zpu k (IntKind.i64.wrap (Int.ofNat (BitVec.ofInt 64 (IntKind.i64.wrap (y.1.1 * (2:Int) ^ min a2.toNat 64)) ||| BitVec.ofInt 64 y_1.1.1).toNat),())).bind fun y => some ((y.1.1,y.1.2.1,()),(y_1.2.1.1,y_1.2.1.2.1,()),()) else none
def Zpq (k:Nat):=ZgC k
theorem ZOf (k:Nat) (x:Kd.dens XG):ZF (ZRX k) nA Tryz.f190 XG ZZ x = Zpq k x:=by
 show _ = ZgC k x
 obtain ⟨⟨a0,⟨a1,⟨⟩⟩⟩,⟨a2,⟨⟩⟩⟩:=x
 kernel_rfl
theorem ZJr (k:Nat):Ctr Tryz.prog k 190 (mk XG ZZ Zpq) :=
 ZG (fn:=Tryz.f190) (Zh (Za (Zb0 k) (Za (ZxI k) (Za (ZJw k) Zc)))) (by kernel_rfl) (by kernel_rfl) (ZOf k)
noncomputable abbrev ZRY:Nat × Callee:=(190,mk XG ZZ Zpq)
abbrev Zbg:List Kd:=[.box [.ref [.view (.sl (.int .u8)),.view (.int .i64)]],.box [.view (.int .i64)]]
noncomputable def ZRT (k:Nat):=Wc k [ZRY]
def ZgB (k:Nat):((List Int × Int × Unit) × Unit) × (Int × Unit) × Unit → Option ((Int × Int × Unit) × ((List Int × Int × Unit) × Unit) × (Int × Unit) × Unit)
 | (((a0,a1,()),()),(a2,()),()) => (Zpq k ((a0,a1,()),a2,())).bind fun y => some ((y.1.1,y.1.2.1,()),((y.2.1.1,y.2.1.2.1,()),()),(a2,()),())
def Zpo (k:Nat):=ZgB k
theorem ZOd (k:Nat) (x:Kd.dens Zbg):ZF (ZRT k) nA Tryz.f189 Zbg ZZ x = Zpo k x:=by
 show _ = ZgB k x
 obtain ⟨⟨⟨a0,⟨a1,⟨⟩⟩⟩,⟨⟩⟩,⟨⟨a2,⟨⟩⟩,⟨⟩⟩⟩:=x
 kernel_rfl
theorem ZJm (k:Nat):Ctr Tryz.prog k 189 (mk Zbg ZZ Zpo) :=
 ZG (fn:=Tryz.f189) (Zh (Za (ZJr k) Zc)) (by kernel_rfl) (by kernel_rfl) (ZOd k)
noncomputable abbrev ZRU:Nat × Callee:=(189,mk Zbg ZZ Zpo)
def ZgD (k:Nat):((List Int × Int × Unit) × Unit) × (Int × Unit) × Unit → Option ((Int × Int × Unit) × ((List Int × Int × Unit) × Unit) × (Int × Unit) × Unit)
 | (((a0,a1,()),()),(a2,()),()) => (Zla k ((a0,a1,()),a2,())).bind fun y => some ((y.1.1,y.1.2.1,()),((y.2.1.1,y.2.1.2.1,()),()),(a2,()),())
def Zpr (k:Nat):=ZgD k
theorem ZOg (k:Nat) (x:Kd.dens Zbg):ZF (Zum k) nA Tryz.f191 Zbg ZZ x = Zpr k x:=by
 show _ = ZgD k x
 obtain ⟨⟨⟨a0,⟨a1,⟨⟩⟩⟩,⟨⟩⟩,⟨⟨a2,⟨⟩⟩,⟨⟩⟩⟩:=x
 kernel_rfl
theorem ZJs (k:Nat):Ctr Tryz.prog k 191 (mk Zbg ZZ Zpr) :=
 ZG (fn:=Tryz.f191) (Zh (Za (Zym k) Zc)) (by kernel_rfl) (by kernel_rfl) (ZOg k)
noncomputable abbrev ZRZ:Nat × Callee:=(191,mk Zbg ZZ Zpr)
abbrev WY:List Kd:=[.box [.view (.sl (.int .u8)),.view (.int .i64)],.view (.int .i64),.view (.int .i64)]
noncomputable def Zpg (k:Nat):=Wc k [(116,mk Zr Ze Zdf),(117,mk Zr Ze KZ),Zul,ZRU,ZRZ]
noncomputable def ZA7:Nat → Ann:=fun id => bif Nat.beq id 12 then ⟨[40,41,10,13],[.slot 13 ((Ty.int IntKind.i64))]⟩ else ⟨[],[]⟩
abbrev Zbd:=ZeD → Option ((List Int × Int × Unit) × (List Int × Int × Unit) × Unit)
noncomputable def ZNR:ZeD → St
 | (v0,v1,v2,v3,v4,v5) => St.mk (Zy [(40,Zp v0),(41,Zp v1),(10,AV.clo 191 [AV.bx 8192 0,AV.bx 8193 0]),(13,AV.own 8194)]) (Zx [(0,Wh [AV.val (PV.sl (Ty.int IntKind.u8) v2),Zp v3]),(8192,Wh [AV.bx 0 0]),(8193,Wh [Zp v4]),(8194,rsA v5 false)])
noncomputable def Zck (k:Nat) (L1:Zbd):Zbd
 | (v0,v1,v2,v3,v4,v5) => bif decide (v1 < v0) then (Zpr k (((v2,v3,()),()),(v4,()),())).bind fun y => bif y.1.2.1 != 0 then some (([],y.1.2.1,()),(y.2.1.1.1,y.2.1.1.2.1,()),()) else bif decide (v5.length + [y.1.1].length < 2147483648) then L1 (v0,IntKind.i64.wrap (v1 + 1),y.2.1.1.1,y.2.1.1.2.1,y.2.2.1.1,v5 ++ [y.1.1]) else none else some ((v5,0,()),(v2,v3,()),())
noncomputable def Zny (k:Nat):Zbd:=Zm (fun L1 => Zck k L1) k
noncomputable def Zyn (k:Nat) (n:Nat) (v:ZeD) :=
 Zt (Zpg k) ZA7 [0] [1,1,1,1,1,1,0,1,0] [] (Q4 Tryz.f171) (Q8 (Zpg k) Tryz.f171 WY QF [AV.bx (nat_lit 0) (nat_lit 0)] [[]]) n (ZNR v)
noncomputable def ZNS:ZeD → St
 | (v0,v1,v2,v3,v4,v5) => St.mk (Zy [(40,Zp v0),(41,Zp v1),(10,AV.clo 189 [AV.bx 8192 0,AV.bx 8193 0]),(13,AV.own 8194)]) (Zx [(0,Wh [AV.val (PV.sl (Ty.int IntKind.u8) v2),Zp v3]),(8192,Wh [AV.bx 0 0]),(8193,Wh [Zp v4]),(8194,rsA v5 false)])
noncomputable def Zcl (k:Nat) (L2:Zbd):Zbd
 | (v0,v1,v2,v3,v4,v5) => bif decide (v1 < v0) then (Zpo k (((v2,v3,()),()),(v4,()),())).bind fun y => bif y.1.2.1 != 0 then some (([],y.1.2.1,()),(y.2.1.1.1,y.2.1.1.2.1,()),()) else bif decide (v5.length + [y.1.1].length < 2147483648) then L2 (v0,IntKind.i64.wrap (v1 + 1),y.2.1.1.1,y.2.1.1.2.1,y.2.2.1.1,v5 ++ [y.1.1]) else none else some ((v5,0,()),(v2,v3,()),())
noncomputable def ZiK (k:Nat):Zbd:=Zm (fun L2 => Zcl k L2) k
noncomputable def Zyo (k:Nat) (n:Nat) (v:ZeD) :=
 Zt (Zpg k) ZA7 [0] [1,1,1,1,1,1,0,1,0] [] (Q4 Tryz.f171) (Q8 (Zpg k) Tryz.f171 WY QF [AV.bx (nat_lit 0) (nat_lit 0)] [[]]) n (ZNS v)
noncomputable def Zgr (k:Nat) (L1:Zbd) (L2:Zbd):(List Int × Int × Unit) × Int × Int × Unit → Option ((List Int × Int × Unit) × (List Int × Int × Unit) × Unit)
 | ((a0,a1,()),a2,a3,()) => (Zdf k (a2,())).bind fun y => (YG k ((a0,a1,()),y.1,())).bind fun y => bif y.1.2.1 != 0 then some (([],y.1.2.1,()),(y.2.1.1,y.2.1.2.1,()),()) else (KZ k (a2,())).bind fun y_1 => bif y.1.1 == y_1.1 then (YG k ((y.2.1.1,y.2.1.2.1,()),5,())).bind fun y => bif y.1.2.1 != 0 then some (([],y.1.2.1,()),(y.2.1.1,y.2.1.2.1,()),()) else L1 (a3,(0:Int),y.2.1.1,y.2.1.2.1,y.1.1,[]) else L2 (a3,(0:Int),y.2.1.1,y.2.1.2.1,y.1.1,[])
noncomputable def ZhE (k:Nat):=Zgr k (Zny k) (ZiK k)
theorem ZFT (k:Nat):∀ n,Zyn k n = Zm (fun L1 => Zck k L1) n :=
 Zk (fun v => by kernel_rfl) (fun n v => by
  obtain ⟨v0,v1,v2,v3,v4,v5⟩:=v
  kernel_rfl)
theorem ZFU (k:Nat):∀ n,Zyo k n = Zm (fun L2 => Zcl k L2) n :=
 Zk (fun v => by kernel_rfl) (fun n v => by
  obtain ⟨v0,v1,v2,v3,v4,v5⟩:=v
  kernel_rfl)
theorem ZNT (k:Nat) (x:Kd.dens WY):ZF (Zpg k) ZA7 Tryz.f171 WY QF x = ZhE k x:=by
 show _ = Zgr k (Zny k) (ZiK k) x
 rw [show Zny k = Zyn k k from (ZFT k k).symm,show ZiK k = Zyo k k from (ZFU k k).symm]
 obtain ⟨⟨a0,⟨a1,⟨⟩⟩⟩,⟨a2,⟨a3,⟨⟩⟩⟩⟩:=x
 kernel_rfl
theorem ZI5 (k:Nat):Ctr Tryz.prog k 171 (mk WY QF ZhE) :=
 ZG (fn:=Tryz.f171) (Zh (Za (ZkI k) (Za (ZkK k) (Za (Zb0 k) (Za (ZJm k) (Za (ZJs k) Zc)))))) (by kernel_rfl) (by kernel_rfl) (ZNT k)
noncomputable abbrev ZRC:Nat × Callee:=(171,mk WY QF ZhE)
noncomputable def ZAI (k:Nat):=Wc k [Zul,ZIE,ZRl,ZRC]
def ZId:Nat → Ann:=fun id => bif Nat.beq id 15 then ⟨[52,53,1,10,2,0,8,11],[.slot 11 ((Ty.int IntKind.i64))]⟩ else ⟨[],[]⟩
abbrev Zuo:=Int × Int × Int × Int × Int × Int × List Int × Int × List Int
abbrev Zm5:=Zuo → Option ((List Int × Int × Unit) × (List Int × Int × Unit) × Unit)
def ZM6:Zuo → St
 | (v0,v1,v2,v3,v4,v5,v6,v7,v8) => St.mk (Zy [(52,Zp v0),(53,Zp v1),(1,Zp v2),(10,Zp v3),(2,Zp v4),(0,AV.bx 0 0),(8,Zp v5),(11,AV.own 8192)]) (Zx [(0,Wh [AV.val (PV.sl (Ty.int IntKind.u8) v6),Zp v7]),(8192,rsA v8 false)])
noncomputable def Zap (k:Nat) (L1:Zm5):Zm5
 | (v0,v1,v2,v3,v4,v5,v6,v7,v8) => bif decide (v1 < v0) then bif decide (0 ≤ v3) then bif v1 == 0 then (ZhE k ((v6,v7,()),v5,IntKind.i64.wrap (v2.fdiv ((2:Int) ^ min v3.toNat 64) - v4),())).bind fun y => bif y.1.2.1 != 0 then some (([],y.1.2.1,()),(y.2.1.1,y.2.1.2.1,()),()) else bif decide (v8.length + List.length y.1.1 < 2147483648) then L1 (v0,IntKind.i64.wrap (v1 + 1),v2,v3,v4,v5,y.2.1.1,y.2.1.2.1,v8 ++ y.1.1) else none else (ZhE k ((v6,v7,()),v5,v2.fdiv ((2:Int) ^ min v3.toNat 64),())).bind fun y => bif y.1.2.1 != 0 then some (([],y.1.2.1,()),(y.2.1.1,y.2.1.2.1,()),()) else bif decide (v8.length + List.length y.1.1 < 2147483648) then L1 (v0,IntKind.i64.wrap (v1 + 1),v2,v3,v4,v5,y.2.1.1,y.2.1.2.1,v8 ++ y.1.1) else none else none else some ((v8,0,()),(v6,v7,()),())
noncomputable def Zm6 (k:Nat):Zm5:=Zm (fun L1 => Zap k L1) k
noncomputable def ZxL (k:Nat) (n:Nat) (v:Zuo) :=
 Zt (ZAI k) ZId [0] [1,1,1,1,1,1,1,0,1,0] [] (Q4 Tryz.f134) (Q8 (ZAI k) Tryz.f134 WY QF [AV.bx (nat_lit 0) (nat_lit 0)] [[]]) n (ZM6 v)
def ZfX (k:Nat) (L1:Zm5):(List Int × Int × Unit) × Int × Int × Unit → Option ((List Int × Int × Unit) × (List Int × Int × Unit) × Unit)
 | ((a0,a1,()),a2,a3,()) => (Zk4 k (a2,a3,())).bind fun y => bif !y.1 then some (([],1,()),(a0,a1,()),()) else (YG k ((a0,a1,()),2,())).bind fun y => bif y.1.2.1 != 0 then some (([],y.1.2.1,()),(y.2.1.1,y.2.1.2.1,()),()) else bif decide ((1:Int) < y.1.1) then some (([],2,()),(y.2.1.1,y.2.1.2.1,()),()) else (YG k ((y.2.1.1,y.2.1.2.1,()),4,())).bind fun y_1 => bif y_1.1.2.1 != 0 then some (([],y_1.1.2.1,()),(y_1.2.1.1,y_1.2.1.2.1,()),()) else (ZaD k (a2,a3,y_1.1.1,())).bind fun y_2 => bif !y_2.1 then some (([],2,()),(y_1.2.1.1,y_1.2.1.2.1,()),()) else bif decide ((0:Int) ≤ y_1.1.1) then L1 (IntKind.i64.wrap ((1:Int) * (2:Int) ^ min (Int.toNat y_1.1.1) (64:Nat)),(0:Int),a2,y_1.1.1,a3,y.1.1,y_1.2.1.1,y_1.2.1.2.1,[]) else none
noncomputable def ZbD (k:Nat):=ZfX k (Zm6 k)
theorem ZFb (k:Nat):∀ n,ZxL k n = Zm (fun L1 => Zap k L1) n :=
 Zk (fun v => by kernel_rfl) (fun n v => by
  obtain ⟨v0,v1,v2,v3,v4,v5,v6,v7,v8⟩:=v
  kernel_rfl)
theorem ZM7 (k:Nat) (x:Kd.dens WY):ZF (ZAI k) ZId Tryz.f134 WY QF x = ZbD k x:=by
 show _ = ZfX k (Zm6 k) x
 rw [show Zm6 k = ZxL k k from (ZFb k k).symm]
 obtain ⟨⟨a0,⟨a1,⟨⟩⟩⟩,⟨a2,⟨a3,⟨⟩⟩⟩⟩:=x
 kernel_rfl
theorem ZIe (k:Nat):Ctr Tryz.prog k 134 (mk WY QF ZbD) :=
 ZG (fn:=Tryz.f134) (Zh (Za (Zb0 k) (Za (Zx7 k) (Za (Zx8 k) (Za (ZI5 k) Zc))))) (by kernel_rfl) (by kernel_rfl) (ZM7 k)
noncomputable abbrev ZQ3:Nat × Callee:=(134,mk WY QF ZbD)
abbrev Ziy:List Kd:=[.view Zdo,.view (.sl (.int .i64)),.view (.sl (.int .i64))]
noncomputable def ZAJ (k:Nat):=Wc k [Zoz,ZAX,ZID,ZI7,ZI9]
def ZIf:Nat → Ann:=fun id => bif Nat.beq id 9 then ⟨[32,33,31,3,8],[.«show» 8]⟩ else ⟨[],[]⟩
abbrev Zup:=Int × Int × List Int × List Int × Int × List Int
abbrev Zm7:=Zup → Option ((List Int × Int × Unit) × Unit)
def ZM8:Zup → St
 | (v0,v1,v2,v3,v4,v5) => St.mk (Zy [(32,Zp v0),(33,Zp v1),(31,WM v2),(3,AV.bx 8192 0),(8,AV.own 8193)]) (Zx [(8192,Wh [WM v3,Zp v4]),(8193,rsA v5 true)])
def Zb7 (k:Nat) (L1:Zm7):Zm7
 | (v0,v1,v2,v3,v4,v5) => bif decide (v1 < v0) then bif decide (0 ≤ v1 ∧ v1 < Int.ofNat v2.length) then (Zlc k ((v3,v4,()),v5,())).bind fun y => (ZhB k (IntKind.i64.wrap (v2.getD v1.toNat 0 + y.1),())).bind fun y_1 => bif y_1.1 then some (([],12,()),()) else bif decide (v5.length + [IntKind.i64.wrap (v2.getD v1.toNat 0 + y.1)].length < 2147483648) then L1 (v0,IntKind.i64.wrap (v1 + 1),v2,v3,v4,v5 ++ [IntKind.i64.wrap (v2.getD v1.toNat 0 + y.1)]) else none else none else some ((v5,0,()),())
def Zm8 (k:Nat):Zm7:=Zm (fun L1 => Zb7 k L1) k
noncomputable def ZxM (k:Nat) (n:Nat) (v:Zup) :=
 Zt (ZAJ k) ZIf [] [1,1,1,0,1,0] [] (Q4 Tryz.f135) (Q8 (ZAJ k) Tryz.f135 Ziy QF [] []) n (ZM8 v)
def ZfY (k:Nat) (L1:Zm7):(List Int × Int × Unit) × List Int × List Int × Unit → Option ((List Int × Int × Unit) × Unit)
 | ((a0,a1,()),a2,a3,()) => (Zlb k ((a0,a1,()),())).bind fun y => bif y.1 != 0 then some (([],2,()),()) else bif Int.ofNat a2.length != Int.ofNat a0.length then some (([],1,()),()) else (Kv k (a2,(),())).bind fun y => bif y.1 then some (([],12,()),()) else (Kv k (a3,(),())).bind fun y => bif y.1 then some (([],12,()),()) else (Zk3 k (a2,())).bind fun y => L1 (Int.ofNat a3.length,(0:Int),a3,a0,a1,y.1)
def ZbE (k:Nat):=ZfY k (Zm8 k)
theorem ZFe (k:Nat):∀ n,ZxM k n = Zm (fun L1 => Zb7 k L1) n :=
 Zk (fun v => by kernel_rfl) (fun n v => by
  obtain ⟨v0,v1,v2,v3,v4,v5⟩:=v
  kernel_rfl)
theorem ZM9 (k:Nat) (x:Kd.dens Ziy):ZF (ZAJ k) ZIf Tryz.f135 Ziy QF x = ZbE k x:=by
 show _ = ZfY k (Zm8 k) x
 rw [show Zm8 k = ZxM k k from (ZFe k k).symm]
 obtain ⟨⟨a0,⟨a1,⟨⟩⟩⟩,⟨a2,⟨a3,⟨⟩⟩⟩⟩:=x
 kernel_rfl
theorem ZIg (k:Nat):Ctr Tryz.prog k 135 (mk Ziy QF ZbE) :=
 ZG (fn:=Tryz.f135) (Zh (Za (Zhs k) (Za (Zo3 k) (Za (Zx6 k) (Za (Zyp k) (Za (Zyr k) Zc)))))) (by kernel_rfl) (by kernel_rfl) (ZM9 k)
noncomputable abbrev ZQ4:Nat × Callee:=(135,mk Ziy QF ZbE)
abbrev Zv7:List Kd:=[.box [.ref [.view (.sl (.int .u8)),.view (.int .i64)],.view (.int .i64)],.view (.int .i64),.view (.int .i64),.view (.int .i64)]
noncomputable def ZVc (k:Nat):=Wc k [ZAy,ZH4,ZH5,ZQ1,ZQ2,ZQ3,ZQ4]
noncomputable def ZjL (k:Nat):((List Int × Int × Unit) × Int × Unit) × Int × Int × Int × Unit → Option (List Int × ((List Int × Int × Unit) × Int × Unit) × Unit)
 | (((a0,a1,()),a2,()),a3,a4,a5,()) => bif a3 == 0 then (ZaC k (((a0,a1,()),a2,()),1,a5,())).bind fun y => (ZoM k (y.1,a4,())).bind fun y_1 => some (y_1.1,((y.2.1.1.1,y.2.1.1.2.1,()),y.2.1.2.1,()),()) else bif a3 == 1 then (ZaC k (((a0,a1,()),a2,()),a4,a5,())).bind fun y => some (y.1,((y.2.1.1.1,y.2.1.1.2.1,()),y.2.1.2.1,()),()) else bif decide ((31:Int) < a3) then (W8 k (((a0,a1,()),a2,()),decide (IntKind.i64.wrap (a3 - 31) ≤ a4),())).bind fun y => bif y.2.1.2.1 != 0 then some ([],((y.2.1.1.1,y.2.1.1.2.1,()),y.2.1.2.1,()),()) else (ZaC k (((y.2.1.1.1,y.2.1.1.2.1,()),y.2.1.2.1,()),IntKind.i64.wrap (a3 - 31),a5,())).bind fun y => (Zd3 k (if (4:Int) < IntKind.i64.wrap (a3 - 31) then (4:Int) else IntKind.i64.wrap (a3 - 31),())).bind fun y_1 => bif decide ((31:Int) < a3) then (YH k (((y.2.1.1.1,y.2.1.1.2.1,()),y.2.1.2.1,()),4,())).bind fun y_2 => (W8 k (((y_2.2.1.1.1,y_2.2.1.1.2.1,()),y_2.2.1.2.1,()),y_2.1 == 11,())).bind fun y_3 => (YH k (((y_3.2.1.1.1,y_3.2.1.1.2.1,()),y_3.2.1.2.1,()),5,())).bind fun y_4 => (W8 k (((y_4.2.1.1.1,y_4.2.1.1.2.1,()),y_4.2.1.2.1,()),decide (y_4.1 ≤ 15),())).bind fun y_5 => (ZaC k (((y_5.2.1.1.1,y_5.2.1.1.2.1,()),y_5.2.1.2.1,()),IntKind.i64.wrap (a3 - 31),12,())).bind fun y_6 => bif y_6.2.1.2.1 != 0 then some ([],((y_6.2.1.1.1,y_6.2.1.1.2.1,()),y_6.2.1.2.1,()),()) else (ZbD k ((y_6.2.1.1.1,y_6.2.1.1.2.1,()),a4,IntKind.i64.wrap (a3 - 31),())).bind fun y_7 => bif y_7.1.2.1 != 0 then some ([],((y_7.2.1.1,y_7.2.1.2.1,()),y_7.1.2.1,()),()) else (ZbE k ((y_6.1,y_4.1,()),y.1,y_7.1.1,())).bind fun y => some (y.1.1,((y_7.2.1.1,y_7.2.1.2.1,()),y.1.2.1,()),()) else bif y.2.1.2.1 != 0 then some ([],((y.2.1.1.1,y.2.1.1.2.1,()),y.2.1.2.1,()),()) else (ZbD k ((y.2.1.1.1,y.2.1.1.2.1,()),a4,IntKind.i64.wrap (a3 - 31),())).bind fun y_2 => bif y_2.1.2.1 != 0 then some ([],((y_2.2.1.1,y_2.2.1.2.1,()),y_2.1.2.1,()),()) else (ZbE k ((y_1.1.1.1,y_1.1.1.2.1,()),y.1,y_2.1.1,())).bind fun y => some (y.1.1,((y_2.2.1.1,y_2.2.1.2.1,()),y.1.2.1,()),()) else (W8 k (((a0,a1,()),a2,()),decide (IntKind.i64.wrap (a3 - 8) ≤ a4),())).bind fun y => bif y.2.1.2.1 != 0 then some ([],((y.2.1.1.1,y.2.1.1.2.1,()),y.2.1.2.1,()),()) else (ZaC k (((y.2.1.1.1,y.2.1.1.2.1,()),y.2.1.2.1,()),IntKind.i64.wrap (a3 - 8),a5,())).bind fun y => (Zd3 k (if (4:Int) < IntKind.i64.wrap (a3 - 8) then (4:Int) else IntKind.i64.wrap (a3 - 8),())).bind fun y_1 => bif decide ((31:Int) < a3) then (YH k (((y.2.1.1.1,y.2.1.1.2.1,()),y.2.1.2.1,()),4,())).bind fun y_2 => (W8 k (((y_2.2.1.1.1,y_2.2.1.1.2.1,()),y_2.2.1.2.1,()),y_2.1 == 11,())).bind fun y_3 => (YH k (((y_3.2.1.1.1,y_3.2.1.1.2.1,()),y_3.2.1.2.1,()),5,())).bind fun y_4 => (W8 k (((y_4.2.1.1.1,y_4.2.1.1.2.1,()),y_4.2.1.2.1,()),decide (y_4.1 ≤ 15),())).bind fun y_5 => (ZaC k (((y_5.2.1.1.1,y_5.2.1.1.2.1,()),y_5.2.1.2.1,()),IntKind.i64.wrap (a3 - 8),12,())).bind fun y_6 => bif y_6.2.1.2.1 != 0 then some ([],((y_6.2.1.1.1,y_6.2.1.1.2.1,()),y_6.2.1.2.1,()),()) else (ZbD k ((y_6.2.1.1.1,y_6.2.1.1.2.1,()),a4,IntKind.i64.wrap (a3 - 8),())).bind fun y_7 => bif y_7.1.2.1 != 0 then some ([],((y_7.2.1.1,y_7.2.1.2.1,()),y_7.1.2.1,()),()) else (ZbE k ((y_6.1,y_4.1,()),y.1,y_7.1.1,())).bind fun y => some (y.1.1,((y_7.2.1.1,y_7.2.1.2.1,()),y.1.2.1,()),()) else bif y.2.1.2.1 != 0 then some ([],((y.2.1.1.1,y.2.1.1.2.1,()),y.2.1.2.1,()),()) else (ZbD k ((y.2.1.1.1,y.2.1.1.2.1,()),a4,IntKind.i64.wrap (a3 - 8),())).bind fun y_2 => bif y_2.1.2.1 != 0 then some ([],((y_2.2.1.1,y_2.2.1.2.1,()),y_2.1.2.1,()),()) else (ZbE k ((y_1.1.1.1,y_1.1.1.2.1,()),y.1,y_2.1.1,())).bind fun y => some (y.1.1,((y_2.2.1.1,y_2.2.1.2.1,()),y.1.2.1,()),())
noncomputable def Zze (k:Nat):=ZjL k
theorem ZTF (k:Nat) (x:Kd.dens Zv7):ZF (ZVc k) nA Tryz.f88 Zv7 YK x = Zze k x:=by
 show _ = ZjL k x
 obtain ⟨⟨⟨a0,⟨a1,⟨⟩⟩⟩,⟨a2,⟨⟩⟩⟩,⟨a3,⟨a4,⟨a5,⟨⟩⟩⟩⟩⟩:=x
 kernel_rfl
theorem ZOZ (k:Nat):Ctr Tryz.prog k 88 (mk Zv7 YK Zze) :=
 ZG (fn:=Tryz.f88) (Zh (Za (ZoE k) (Za (ZxE k) (Za (ZxF k) (Za (ZIa k) (Za (ZIc k) (Za (ZIe k) (Za (ZIg k) Zc)))))))) (by kernel_rfl) (by kernel_rfl) (ZTF k)
noncomputable abbrev ZVd:Nat × Callee:=(88,mk Zv7 YK Zze)
noncomputable def ZKb (k:Nat):=Wc k [ZQf,ZVb,ZVd,ZQh]
def ZPW:Nat → Ann:=fun id => bif Nat.beq id 12 then ⟨[58,59,57,2,10,12],[.slot 12 ((Ty.int IntKind.i64))]⟩ else ⟨[],[]⟩
abbrev ZBs:=Int × Int × List Int × Int × Int × List Int × Int × List Int
abbrev Zvq:=ZBs → Option ((List Int × Int × Unit) × (List Int × Int × Unit) × Unit)
def ZSH:ZBs → St
 | (v0,v1,v2,v3,v4,v5,v6,v7) => St.mk (Zy [(58,Zp v0),(59,Zp v1),(57,WM v2),(2,Zp v3),(10,Zp v4),(12,AV.own 8192)]) (Zx [(0,Wh [AV.val (PV.sl (Ty.int IntKind.u8) v5),Zp v6]),(8192,rsA v7 false)])
def Zev (k:Nat) (L1:Zvq):Zvq
 | (v0,v1,v2,v3,v4,v5,v6,v7) => bif decide (v1 < v0) then bif decide (0 ≤ v1 ∧ v1 < Int.ofNat v2.length) then (ZsP k (v2.getD v1.toNat 0,IntKind.i64.wrap (v3 - v4),())).bind fun y => bif !y.1 then some (([],12,()),(v5,v6,()),()) else bif decide (0 ≤ v4) then bif decide (v7.length + [IntKind.i64.wrap (v2.getD v1.toNat 0 * (2:Int) ^ min v4.toNat 64)].length < 2147483648) then L1 (v0,IntKind.i64.wrap (v1 + 1),v2,v3,v4,v5,v6,v7 ++ [IntKind.i64.wrap (v2.getD v1.toNat 0 * (2:Int) ^ min v4.toNat 64)]) else none else none else none else some ((v7,0,()),(v5,v6,()),())
def Zvr (k:Nat):Zvq:=Zm (fun L1 => Zev k L1) k
noncomputable def ZC0 (k:Nat) (n:Nat) (v:ZBs) :=
 Zt (ZKb k) ZPW [0] [1,1,1,1,1,1,1,1,0,1,0] [] (Q4 Tryz.f46) (Q8 (ZKb k) Tryz.f46 WY QF [AV.bx (nat_lit 0) (nat_lit 0)] [[]]) n (ZSH v)
noncomputable def Zjd (k:Nat) (L1:Zvq):(List Int × Int × Unit) × Int × Int × Unit → Option ((List Int × Int × Unit) × (List Int × Int × Unit) × Unit)
 | ((a0,a1,()),a2,a3,()) => (ZsO k (a2,a3,())).bind fun y => bif !y.1 then some (([],1,()),(a0,a1,()),()) else (Zzd k (((a0,a1,()),0,()),a3,())).bind fun y => bif y.2.1.2.1 != 0 then some (([],y.2.1.2.1,()),(y.2.1.1.1,y.2.1.1.2.1,()),()) else (Zze k (((y.2.1.1.1,y.2.1.1.2.1,()),y.2.1.2.1,()),y.1.1,a2,IntKind.i64.wrap (a3 - y.1.2.1),())).bind fun y_1 => bif y_1.2.1.2.1 != 0 then some (([],y_1.2.1.2.1,()),(y_1.2.1.1.1,y_1.2.1.1.2.1,()),()) else L1 (Int.ofNat (List.length y_1.1),(0:Int),y_1.1,a3,y.1.2.1,y_1.2.1.1.1,y_1.2.1.1.2.1,[])
noncomputable def ZyS (k:Nat):=Zjd k (Zvr k)
theorem ZKc (k:Nat):∀ n,ZC0 k n = Zm (fun L1 => Zev k L1) n :=
 Zk (fun v => by kernel_rfl) (fun n v => by
  obtain ⟨v0,v1,v2,v3,v4,v5,v6,v7⟩:=v
  kernel_rfl)
theorem ZSI (k:Nat) (x:Kd.dens WY):ZF (ZKb k) ZPW Tryz.f46 WY QF x = ZyS k x:=by
 show _ = Zjd k (Zvr k) x
 rw [show Zvr k = ZC0 k k from (ZKc k k).symm]
 obtain ⟨⟨a0,⟨a1,⟨⟩⟩⟩,⟨a2,⟨a3,⟨⟩⟩⟩⟩:=x
 kernel_rfl
theorem ZOB (k:Nat):Ctr Tryz.prog k 46 (mk WY QF ZyS) :=
 ZG (fn:=Tryz.f46) (Zh (Za (ZDw k) (Za (ZOY k) (Za (ZOZ k) (Za (ZDx k) Zc))))) (by kernel_rfl) (by kernel_rfl) (ZSI k)
noncomputable abbrev ZUJ:Nat × Callee:=(46,mk WY QF ZyS)
def ZPX:Nat → Ann:=fun id => bif Nat.beq id 5 then ⟨[4,3,0],[]⟩ else ⟨[],[]⟩
abbrev Zvs:=Wx → Option (Int × (List Int × Int × Unit) × Unit)
def ZSJ:Wx → St
 | (v0,v1,v2,v3) => St.mk (Zy [(4,Zp v0),(3,Zp v1),(0,AV.bx 0 0)]) (Zx [(0,Wh [AV.val (PV.sl (Ty.int IntKind.u8) v2),Zp v3])])
def Zew (k:Nat) (L1:Zvs):Zvs
 | (v0,v1,v2,v3) => bif decide (v0 < v1) then (Zp9 k ((v2,v3,()),v0,())).bind fun y => bif y.1 == 1 then some (2,(y.2.1.1,y.2.1.2.1,()),()) else L1 (IntKind.i64.wrap (v0 + 1),v1,y.2.1.1,y.2.1.2.1) else some (0,(v2,v1,()),())
def Zvt (k:Nat):Zvs:=Zm (fun L1 => Zew k L1) k
noncomputable def ZC1 (k:Nat) (n:Nat) (v:Wx) :=
 Zt (ZkQ k) ZPX [0] [1,1,1,0,1,0] [] (Q4 Tryz.f47) (Q8 (ZkQ k) Tryz.f47 Xo Ze [AV.bx (nat_lit 0) (nat_lit 0)] [[]]) n (ZSJ v)
def Zje (k:Nat) (L1:Zvs):(List Int × Int × Unit) × Unit → Option (Int × (List Int × Int × Unit) × Unit)
 | ((a0,a1,()),()) => L1 (a1,IntKind.i64.wrap (Int.ofNat (BitVec.ofInt 64 (IntKind.i64.wrap (a1 + 7)) &&& ~~~BitVec.ofInt 64 (7:Int)).toNat),a0,a1)
def ZyT (k:Nat):=Zje k (Zvt k)
theorem ZKe (k:Nat):∀ n,ZC1 k n = Zm (fun L1 => Zew k L1) n :=
 Zk (fun v => by kernel_rfl) (fun n v => by
  obtain ⟨v0,v1,v2,v3⟩:=v
  kernel_rfl)
theorem ZSK (k:Nat) (x:Kd.dens Xo):ZF (ZkQ k) ZPX Tryz.f47 Xo Ze x = ZyT k x:=by
 show _ = Zje k (Zvt k) x
 rw [show Zvt k = ZC1 k k from (ZKe k k).symm]
 obtain ⟨⟨a0,⟨a1,⟨⟩⟩⟩,⟨⟩⟩:=x
 kernel_rfl
theorem ZOC (k:Nat):Ctr Tryz.prog k 47 (mk Xo Ze ZyT) :=
 ZG (fn:=Tryz.f47) (Zh (Za (Zv8 k) Zc)) (by kernel_rfl) (by kernel_rfl) (ZSK k)
noncomputable abbrev ZUK:Nat × Callee:=(47,mk Xo Ze ZyT)
abbrev Zin:List Kd:=[.box [.view (.sl (.int .u8)),.ref [.view (.sl (.int .u8)),.view (.int .i64)],.view (.int .i64)],.view (.int .i64),.fn 33]
noncomputable def ZMe (k:Nat):=Wc k [ZC3,ZDt,ZDu,ZPO]
def Zde (k:Nat):(List Int × (List Int × Int × Unit) × Int × Unit) × Int × Unit × Unit → Option (Unit × (List Int × (List Int × Int × Unit) × Int × Unit) × Unit)
 | ((a0,(a1,a2,()),a3,()),a4,(),()) => (ZaE k ((a1,a2,()),())).bind fun y => (WE k ((a0,(y.2.1.1,y.2.1.2.1,()),a3,()),a4,())).bind fun y_1 => bif y_1.2.1.2.2.1 != 0 then (Wd k ((y_1.2.1.1,(y_1.2.1.2.1.1,y_1.2.1.2.1.2.1,()),y_1.2.1.2.2.1,()),true,16,())).bind fun y => some ((),(y.2.1.1,(y.2.1.2.1.1,y.2.1.2.1.2.1,()),y.2.1.2.2.1,()),()) else bif decide ((0:Int) ≤ 0 ∧ (0:Int) ≤ IntKind.i64.wrap (Int.tdiv y.1 (8:Int)) ∧ IntKind.i64.wrap (Int.tdiv y.1 (8:Int)) ≤ Int.ofNat (List.length y_1.2.1.1)) then (ZsC k (List.drop 0 (List.take (IntKind.i64.wrap (Int.tdiv y.1 (8:Int))).toNat y_1.2.1.1),())).bind fun y => (Wd k ((y_1.2.1.1,(y_1.2.1.2.1.1,y_1.2.1.2.1.2.1,()),y_1.2.1.2.2.1,()),y_1.1 == y.1,16,())).bind fun y => some ((),(y.2.1.1,(y.2.1.2.1.1,y.2.1.2.1.2.1,()),y.2.1.2.2.1,()),()) else none
def Zim (k:Nat):=Zde k
theorem ZHy (k:Nat) (x:Kd.dens Zin):ZF (ZMe k) nA Tryz.f48 Zin QB x = Zim k x:=by
 show _ = Zde k x
 obtain ⟨⟨a0,⟨⟨a1,⟨a2,⟨⟩⟩⟩,⟨a3,⟨⟩⟩⟩⟩,⟨a4,⟨⟨⟩,⟨⟩⟩⟩⟩:=x
 kernel_rfl
theorem ZEw (k:Nat):Ctr Tryz.prog k 48 (mk Zin QB Zim) :=
 ZG (fn:=Tryz.f48) (Zh (Za (ZnK k) (Za (ZnP k) (Za (ZnQ k) (Za (ZCM k) Zc))))) (by kernel_rfl) (by kernel_rfl) (ZHy k)
noncomputable abbrev ZMf:Nat × Callee:=(48,mk Zin QB Zim)
abbrev ZpN:List Kd:=[.view (.sl (.int .i64)),.view (.sl (.int .i64)),.view (.int .i64)]
noncomputable def ZKh (k:Nat):=Wc k [ZP0,ZQj]
def ZPY:Nat → Ann:=fun id => bif Nat.beq id 7 then ⟨[36,37,35,1,2,8,9],[]⟩ else ⟨[],[]⟩
abbrev ZBt:=Int × Int × List Int × List Int × Int × List Int × List Int
abbrev Zvv:=ZBt → Option ((List (Nat × Nat) × Int × Unit) × Unit)
def ZSM:ZBt → St
 | (v0,v1,v2,v3,v4,v5,v6) => St.mk (Zy [(36,Zp v0),(37,Zp v1),(35,WM v2),(1,WM v3),(2,Zp v4),(8,AV.own 8192),(9,AV.own 8193)]) (Zx [(8192,rsA v5 false),(8193,rsA v6 false)])
def Zcy (k:Nat) (L1:Zvv):Zvv
 | (v0,v1,v2,v3,v4,v5,v6) => bif decide (v1 < v0) then bif decide (0 ≤ v1 ∧ v1 < Int.ofNat v2.length) then bif decide (0 ≤ v1 ∧ v1 < Int.ofNat v3.length) then bif decide ((if v3.getD v1.toNat 0 < v2.getD v1.toNat 0 then v3.getD v1.toNat 0 else v2.getD v1.toNat 0) < -67108864) then some (([],12,()),()) else bif decide ((67108864:Int) < if v2.getD v1.toNat 0 < v3.getD v1.toNat 0 then v3.getD v1.toNat 0 else v2.getD v1.toNat 0) then some (([],12,()),()) else bif v4 == 0 then bif decide (0 ≤ v1 ∧ v1 < Int.ofNat v5.length) then bif decide (v1.toNat < v5.length) then bif decide (0 ≤ v1 ∧ v1 < Int.ofNat v6.length) then bif decide (v1.toNat < v6.length) then L1 (v0,IntKind.i64.wrap (v1 + 1),v2,v3,v4,v5.set v1.toNat (v2.getD v1.toNat 0),v6.set v1.toNat (v3.getD v1.toNat 0)) else none else none else none else none else bif v4 == 8 then bif decide (0 ≤ v1 ∧ v1 < Int.ofNat v5.length) then bif decide (v1.toNat < v5.length) then bif decide (0 ≤ v1 ∧ v1 < Int.ofNat v6.length) then bif decide (v1.toNat < v6.length) then L1 (v0,IntKind.i64.wrap (v1 + 1),v2,v3,v4,v5.set v1.toNat (v2.getD v1.toNat 0),v6.set v1.toNat (IntKind.i64.wrap (v2.getD v1.toNat 0 - v3.getD v1.toNat 0))) else none else none else none else none else bif v4 == 9 then bif decide (0 ≤ v1 ∧ v1 < Int.ofNat v5.length) then bif decide (v1.toNat < v5.length) then bif decide (0 ≤ v1 ∧ v1 < Int.ofNat v6.length) then bif decide (v1.toNat < v6.length) then L1 (v0,IntKind.i64.wrap (v1 + 1),v2,v3,v4,v5.set v1.toNat (IntKind.i64.wrap (v2.getD v1.toNat 0 + v3.getD v1.toNat 0)),v6.set v1.toNat (v3.getD v1.toNat 0)) else none else none else none else none else bif v4 == 10 then bif decide (0 ≤ v1 ∧ v1 < Int.ofNat v5.length) then bif decide (v1.toNat < v5.length) then bif decide (0 ≤ v1 ∧ v1 < Int.ofNat v6.length) then bif decide (v1.toNat < v6.length) then L1 (v0,IntKind.i64.wrap (v1 + 1),v2,v3,v4,v5.set v1.toNat ((IntKind.i64.wrap (IntKind.i64.wrap (Int.ofNat (BitVec.ofInt 64 (IntKind.i64.wrap (v2.getD v1.toNat 0 * (2:Int))) ||| BitVec.ofInt 64 (IntKind.i64.wrap (Int.ofNat (BitVec.ofInt 64 (v3.getD v1.toNat 0) &&& BitVec.ofInt 64 (1:Int)).toNat))).toNat) + v3.getD v1.toNat 0)).fdiv (2:Int)),v6.set v1.toNat ((IntKind.i64.wrap (IntKind.i64.wrap (Int.ofNat (BitVec.ofInt 64 (IntKind.i64.wrap (v2.getD v1.toNat 0 * (2:Int))) ||| BitVec.ofInt 64 (IntKind.i64.wrap (Int.ofNat (BitVec.ofInt 64 (v3.getD v1.toNat 0) &&& BitVec.ofInt 64 (1:Int)).toNat))).toNat) - v3.getD v1.toNat 0)).fdiv (2:Int))) else none else none else none else none else L1 (v0,IntKind.i64.wrap (v1 + 1),v2,v3,v4,v5,v6) else none else none else (ZpP k (v5,v6,())).bind fun y => some ((y.1.1,y.1.2.1,()),())
def Zvw (k:Nat):Zvv:=Zm (fun L1 => Zcy k L1) k
noncomputable def ZC2 (k:Nat) (n:Nat) (v:ZBt) :=
 Zt (ZKh k) ZPY [] [1,1,1,0,1,0] [] (Q4 Tryz.f49) (Q8 (ZKh k) Tryz.f49 ZpN Zex [] []) n (ZSM v)
def Zjg (k:Nat) (L1:Zvv):List Int × List Int × Int × Unit → Option ((List (Nat × Nat) × Int × Unit) × Unit)
 | (a0,a1,a2,()) => (ZsQ k (a2,())).bind fun y => bif !y.1 then some (([],1,()),()) else bif Int.ofNat a0.length != Int.ofNat a1.length then some (([],1,()),()) else bif decide ((8192:Int) < Int.ofNat a0.length) then some (([],14,()),()) else bif decide ((0:Int) ≤ Int.ofNat a0.length ∧ Int.ofNat a0.length ≤ Int.ofNat a0.length ∧ Int.ofNat a0.length < (4294967296:Int)) then bif decide ((0:Int) ≤ Int.ofNat a0.length ∧ Int.ofNat a0.length ≤ Int.ofNat a0.length ∧ Int.ofNat a0.length < (4294967296:Int)) then L1 (Int.ofNat a0.length,(0:Int),a0,a1,a2,List.replicate (Int.ofNat a0.length).toNat (0:Int),List.replicate (Int.ofNat a0.length).toNat (0:Int)) else none else none
def ZpM (k:Nat):=Zjg k (Zvw k)
theorem ZKi (k:Nat):∀ n,ZC2 k n = Zm (fun L1 => Zcy k L1) n :=
 Zk (fun v => by kernel_rfl) (fun n v => by
  obtain ⟨v0,v1,v2,v3,v4,v5,v6⟩:=v
  kernel_rfl)
theorem ZSN (k:Nat) (x:Kd.dens ZpN):ZF (ZKh k) ZPY Tryz.f49 ZpN Zex x = ZpM k x:=by
 show _ = Zjg k (Zvw k) x
 rw [show Zvw k = ZC2 k k from (ZKi k k).symm]
 obtain ⟨a0,⟨a1,⟨a2,⟨⟩⟩⟩⟩:=x
 kernel_rfl
theorem ZOE (k:Nat):Ctr Tryz.prog k 49 (mk ZpN Zex ZpM) :=
 ZG (fn:=Tryz.f49) (Zh (Za (ZC5 k) (Za (ZDy k) Zc))) (by kernel_rfl) (by kernel_rfl) (ZSN k)
noncomputable abbrev ZUN:Nat × Callee:=(49,mk ZpN Zex ZpM)
noncomputable def ZUO (k:Nat):=Wc k [ZKs]
def Zjh (k:Nat):List (Nat × Nat) × Unit → Option ((List Int × List Int × Int × Unit) × Unit)
 | (a0,()) => (ZpS k (a0,0,())).bind fun y => some ((y.1.1,y.1.2.1,y.1.2.2.1,()),())
def ZpO (k:Nat):=Zjh k
theorem ZSO (k:Nat) (x:Kd.dens WX):ZF (ZUO k) nA Tryz.f50 WX ZhG x = ZpO k x:=by
 show _ = Zjh k x
 obtain ⟨a0,⟨⟩⟩:=x
 kernel_rfl
theorem ZOF (k:Nat):Ctr Tryz.prog k 50 (mk WX ZhG ZpO) :=
 ZG (fn:=Tryz.f50) (Zh (Za (ZvB k) Zc)) (by kernel_rfl) (by kernel_rfl) (ZSO k)
noncomputable abbrev ZUP:Nat × Callee:=(50,mk WX ZhG ZpO)
abbrev Zpp:List Kd:=[.view shapeT,.view (.sl (.int .u8))]
abbrev ZuT:Kd:=.tup [.view frameT,.view (.int .i64),.view (.int .i64)]
noncomputable def ZJn (k:Nat):=Wc k [ZHQ,ZPJ,ZPN,ZUG,ZUI,ZUJ,ZUK,ZMf,ZUN,ZUP,ZC3]
def ZPI:Nat → Ann:=fun id => bif Nat.beq id 10 then ⟨[55,56,54,8,11,4,12,2,9],[.cell 12 1 ((Ty.int IntKind.i64).sl)]⟩ else ⟨[],[]⟩
abbrev ZBc:=Int × Int × List Int × Int × Int × List Int × Int × List Int × Int × Int × Int × List (List Int) × Int × Int × Int
abbrev ZuR:=ZBc → Option (((Int × List (List Int) × Unit) × Int × Int × Unit) × Unit)
def ZRV:ZBc → St
 | (v0,v1,v2,v3,v4,v5,v6,v7,v8,v9,v10,v11,v12,v13,v14) => St.mk (Zy [(55,Zp v0),(56,Zp v1),(54,WM v2),(8,AV.bx 8192 0),(11,Zp v3),(4,AV.bx 8194 0),(12,AV.bx 8195 0),(2,AV.bx 8197 0),(9,Zp v4)]) (Zx [(8192,Wh [AV.val (PV.sl (Ty.int IntKind.u8) v5),AV.bx 8193 0,Zp v6]),(8193,Wh [AV.val (PV.sl (Ty.int IntKind.u8) v7),Zp v8]),(8194,Wh [Zp v9,AV.val (PV.v (Value.slice none (0:Nat) (0:Nat)))]),(8195,Wh [Zp v10,AV.own 8196]),(8196,RS.live (Res.arr (Ty.int IntKind.i64).sl v11 false)),(8197,Wh [Zp v12,Zp v13,Zp v14])])
noncomputable def Zej (k:Nat) (L1:ZuR):ZuR
 | (v0,v1,v2,v3,v4,v5,v6,v7,v8,v9,v10,v11,v12,v13,v14) => bif decide (v1 < v0) then bif decide (0 ≤ v1 ∧ v1 < Int.ofNat v2.length) then (ZyS k ((v7,v8,()),v3,v2.getD v1.toNat 0,())).bind fun y => bif y.1.2.1 != 0 then some ((((0:Int),[],()),0,y.1.2.1,()),()) else bif decide (v11.length + [y.1.1].length < 2147483648) then L1 (v0,IntKind.i64.wrap (v1 + 1),v2,v3,v4,v5,v6,y.2.1.1,y.2.1.2.1,v9,v10,v11 ++ [y.1.1],v12,v13,v14) else none else none else (ZyT k ((v7,v8,()),())).bind fun y => (Zim k ((v5,(y.2.1.1,y.2.1.2.1,()),y.1,()),16,(),())).bind fun y => bif y.2.1.2.2.1 != 0 then some ((((0:Int),[],()),0,y.2.1.2.2.1,()),()) else bif decide ((1:Int) < v12) then bif v4 == 1 then bif decide ((0:Int) ≤ 0 ∧ (0:Int) < Int.ofNat v11.length) then bif decide ((0:Nat) < v11.length) then bif decide ((0:Int) ≤ 1 ∧ (1:Int) < Int.ofNat v11.length) then bif decide ((1:Nat) < v11.length) then (ZpM k (v11.getD 0 [],v11.getD 1 [],0,())).bind fun y_1 => bif y_1.1.2.1 != 0 then some ((((0:Int),[],()),0,y_1.1.2.1,()),()) else (ZpO k (y_1.1.1,())).bind fun y_2 => bif y_2.1.2.2.1 != 0 then some ((((0:Int),[],()),0,y_2.1.2.2.1,()),()) else (ZgV k ((v12,v13,v14,()),(v10,[y_2.1.1,y_2.1.2.1],()),())).bind fun y_3 => bif y_3.1 != 0 then some ((((0:Int),[],()),0,y_3.1,()),()) else (ZaE k ((y.2.1.2.1.1,y.2.1.2.1.2.1,()),())).bind fun y => some (((v10,[y_2.1.1,y_2.1.2.1],()),IntKind.i64.wrap (Int.tdiv y.1 (8:Int)),0,()),()) else none else none else none else none else bif decide ((0:Int) ≤ 0 ∧ (0:Int) < Int.ofNat v11.length) then bif decide ((0:Nat) < v11.length) then bif decide ((0:Int) ≤ 1 ∧ (1:Int) < Int.ofNat v11.length) then bif decide ((1:Nat) < v11.length) then (ZpM k (v11.getD 0 [],v11.getD 1 [],v4,())).bind fun y_1 => bif y_1.1.2.1 != 0 then some ((((0:Int),[],()),0,y_1.1.2.1,()),()) else (ZpO k (y_1.1.1,())).bind fun y_2 => bif y_2.1.2.2.1 != 0 then some ((((0:Int),[],()),0,y_2.1.2.2.1,()),()) else (ZgV k ((v12,v13,v14,()),(v10,[y_2.1.1,y_2.1.2.1],()),())).bind fun y_3 => bif y_3.1 != 0 then some ((((0:Int),[],()),0,y_3.1,()),()) else (ZaE k ((y.2.1.2.1.1,y.2.1.2.1.2.1,()),())).bind fun y => some (((v10,[y_2.1.1,y_2.1.2.1],()),IntKind.i64.wrap (Int.tdiv y.1 (8:Int)),0,()),()) else none else none else none else none else (ZgV k ((v12,v13,v14,()),(v10,v11,()),())).bind fun y_1 => bif y_1.1 != 0 then some ((((0:Int),[],()),0,y_1.1,()),()) else (ZaE k ((y.2.1.2.1.1,y.2.1.2.1.2.1,()),())).bind fun y => some (((v10,v11,()),IntKind.i64.wrap (Int.tdiv y.1 (8:Int)),0,()),())
noncomputable def ZuS (k:Nat):ZuR:=Zm (fun L1 => Zej k L1) k
noncomputable def ZCD (k:Nat) (n:Nat) (v:ZBc) :=
 Zt (ZJn k) ZPI [] [1,1,1,1,1,1,0,1,0] [] (Q4 Tryz.f18) (Q8 (ZJn k) Tryz.f18 Zpp ZuT [] []) n (ZRV v)
def ZiM (k:Nat) (L1:ZuR):(Int × Int × Int × Unit) × List Int × Unit → Option (((Int × List (List Int) × Unit) × Int × Int × Unit) × Unit)
 | ((a0,a1,a2,()),a3,()) => (ZoG k ((a0,a1,a2,()),())).bind fun y => bif y.1 != 0 then some ((((0:Int),[],()),0,y.1,()),()) else (ZyO k (a3,())).bind fun y => (ZsE k ((a3,(y.1.1,y.1.2.1,()),0,()),(a0,a1,a2,()),())).bind fun y => bif y.2.1.2.2.1 != 0 then some ((((0:Int),[],()),0,y.2.1.2.2.1,()),()) else (ZsA k ((a0,a1,a2,()),y.1.1,())).bind fun y_1 => L1 (Int.ofNat (List.length y_1.1),(0:Int),y_1.1,y.1.2.2.1,y.1.1,y.2.1.1,y.2.1.2.2.1,y.2.1.2.1.1,y.2.1.2.1.2.1,(0:Int),y.1.2.1,[],a0,a1,a2)
noncomputable def Zyu (k:Nat):=ZiM k (ZuS k)
theorem ZJo (k:Nat):∀ n,ZCD k n = Zm (fun L1 => Zej k L1) n :=
 Zk (fun v => by kernel_rfl) (fun n v => by
  obtain ⟨v0,v1,v2,v3,v4,v5,v6,v7,v8,v9,v10,v11,v12,v13,v14⟩:=v
  kernel_rfl)
theorem ZRW (k:Nat) (x:Kd.dens Zpp):ZF (ZJn k) ZPI Tryz.f18 Zpp ZuT x = Zyu k x:=by
 show _ = ZiM k (ZuS k) x
 rw [show ZuS k = ZCD k k from (ZJo k k).symm]
 obtain ⟨⟨a0,⟨a1,⟨a2,⟨⟩⟩⟩⟩,⟨a3,⟨⟩⟩⟩:=x
 kernel_rfl
theorem ZOe (k:Nat):Ctr Tryz.prog k 18 (mk Zpp ZuT Zyu) :=
 ZG (fn:=Tryz.f18) (Zh (Za (Zue k) (Za (ZCH k) (Za (ZCL k) (Za (ZOz k) (Za (ZOA k) (Za (ZOB k) (Za (ZOC k) (Za (ZEw k) (Za (ZOE k) (Za (ZOF k) (Za (ZnK k) Zc)))))))))))) (by kernel_rfl) (by kernel_rfl) (ZRW k)
noncomputable abbrev ZUm:Nat × Callee:=(18,mk Zpp ZuT Zyu)
noncomputable def ZUg (k:Nat):=Wc k [ZPF,ZUm]
noncomputable def Zip (k:Nat):Unit → Option (Bool × Unit)
 | () => (Zsc k (((1:Int),(8:Int),(44100:Int),()),((0:Int),[[(5:Int),(5:Int),(5:Int)]],()),())).bind fun y => bif y.1.2.1 != 0 then some (false,()) else bif Int.ofNat (List.length y.1.1) != 11 then some (false,()) else bif decide ((0:Int) ≤ 0 ∧ (0:Int) ≤ 6 ∧ (6:Int) ≤ Int.ofNat (List.length y.1.1)) then bif !(ByteArray.mk (List.map (fun n => UInt8.ofNat n.toNat) (List.drop 0 (List.take 6 y.1.1))).toArray).toList == (ByteArray.mk #[255,248,96,0,0,2]).toList then some (false,()) else (Zyu k (((1:Int),(8:Int),(44100:Int),()),y.1.1,())).bind fun y => bif y.1.2.2.1 == 0 then bif y.1.2.1 == 11 then bif Int.ofNat (List.length y.1.1.2.1) == 1 then bif decide ((0:Int) ≤ 0 ∧ (0:Int) < Int.ofNat (List.length y.1.1.2.1)) then bif Int.ofNat (List.length (List.getD y.1.1.2.1 (0:Nat) [])) == (3:Int) then bif decide ((0:Int) ≤ 0 ∧ (0:Int) < Int.ofNat (List.length y.1.1.2.1)) then bif decide ((0:Int) ≤ 2 ∧ (2:Int) < Int.ofNat (List.length (List.getD y.1.1.2.1 (0:Nat) []))) then some (List.getD (List.getD y.1.1.2.1 (0:Nat) []) (2:Nat) 0 == (5:Int),()) else none else none else some (false,()) else none else some (false,()) else some (false,()) else some (false,()) else none
noncomputable def Zxo (k:Nat):=Zip k
theorem ZQK (k:Nat) (x:Kd.dens Zel):ZF (ZUg k) nA Tryz.f10 Zel ZA x = Zxo k x:=by
 show _ = Zip k x
 obtain ⟨⟩:=x
 kernel_rfl
theorem ZMp (k:Nat):Ctr Tryz.prog k 10 (mk Zel ZA Zxo) :=
 ZG (fn:=Tryz.f10) (Zh (Za (ZCz k) (Za (ZOe k) Zc))) (by kernel_rfl) (by kernel_rfl) (ZQK k)
noncomputable abbrev ZUh:Nat × Callee:=(10,mk Zel ZA Zxo)
def Ziw (k:Nat):(Int × Int × Int × Unit) × Unit → Option (Bool × Unit)
 | ((a0,a1,a2,()),()) => bif a0 == 1 then bif decide (4 ≤ a1) then bif decide (a1 ≤ 24) then bif decide (1 ≤ a2) then some (decide (a2 ≤ 655350),()) else some (false,()) else some (false,()) else some (false,()) else bif a0 == 2 then bif decide (4 ≤ a1) then bif decide (a1 ≤ 24) then bif decide (1 ≤ a2) then some (decide (a2 ≤ 655350),()) else some (false,()) else some (false,()) else some (false,()) else some (false,())
def Zr8 (k:Nat):=Ziw k
theorem ZQZ (k:Nat) (x:Kd.dens Zd5):ZF (ZJ k) nA Tryz.f12 Zd5 ZA x = Zr8 k x:=by
 show _ = Ziw k x
 obtain ⟨⟨a0,⟨a1,⟨a2,⟨⟩⟩⟩⟩,⟨⟩⟩:=x
 kernel_rfl
theorem ZCv (k:Nat):Ctr Tryz.prog k 12 (mk Zd5 ZA Zr8) :=
 ZG (fn:=Tryz.f12) (Zh Zc) (by kernel_rfl) (by kernel_rfl) (ZQZ k)
noncomputable abbrev ZPD:Nat × Callee:=(12,mk Zd5 ZA Zr8)
def ZiN (k:Nat):Int × Int × Unit → Option (Bool × Unit)
 | (a0,a1,()) => bif a1 == 0 then some (a0 == 0,()) else bif decide (0 ≤ IntKind.i64.wrap (a1 - 1)) then bif decide (IntKind.i64.wrap ((0:Int) - IntKind.i64.wrap ((1:Int) * (2:Int) ^ min (IntKind.i64.wrap (a1 - 1)).toNat 64)) ≤ a0) then bif decide (0 ≤ IntKind.i64.wrap (a1 - 1)) then some (decide (a0 < IntKind.i64.wrap ((1:Int) * (2:Int) ^ min (IntKind.i64.wrap (a1 - 1)).toNat 64)),()) else none else some (false,()) else none
def Zpv (k:Nat):=ZiN k
theorem ZR3 (k:Nat) (x:Kd.dens Qf):ZF (ZJ k) nA Tryz.f22 Qf ZA x = Zpv k x:=by
 show _ = ZiN k x
 obtain ⟨a0,⟨a1,⟨⟩⟩⟩:=x
 kernel_rfl
theorem ZuV (k:Nat):Ctr Tryz.prog k 22 (mk Qf ZA Zpv) :=
 ZG (fn:=Tryz.f22) (Zh Zc) (by kernel_rfl) (by kernel_rfl) (ZR3 k)
noncomputable abbrev ZJx:Nat × Callee:=(22,mk Qf ZA Zpv)
noncomputable def ZxN (k:Nat):=Wc k [ZPD,ZJx]
def ZIh:Nat → Ann:=fun id => bif Nat.beq id 12 then ⟨[7,5,3,6,2],[]⟩ else bif Nat.beq id 9 then ⟨[6,2,5,3],[]⟩ else ⟨[],[]⟩
abbrev ZAL:=Int × Int × Int × Int × List (List Int) × Int × Int × Int
abbrev Zuq:=ZAL → Option (Int × Unit)
abbrev ZAK:=Int × Int × Int × Int × Int × Int × List (List Int)
abbrev ZkR:=ZAK → Option (Int × Unit)
def ZQ6:ZAL → St
 | (v0,v1,v2,v3,v4,v5,v6,v7) => St.mk (Zy [(7,Zp v0),(5,Zp v1),(3,AV.bx 8192 0),(6,Zp v2),(2,AV.bx 8193 0)]) (Zx [(8192,Wh [Zp v3,AV.val (PV.sl (Ty.int IntKind.i64).sl v4)]),(8193,Wh [Zp v5,Zp v6,Zp v7])])
def Zb8 (k:Nat) (L1:ZkR) (L2:Zuq):Zuq
 | (v0,v1,v2,v3,v4,v5,v6,v7) => bif decide (v0 < v1) then bif decide (0 ≤ v2 ∧ v2 < Int.ofNat v4.length) then bif decide (0 ≤ v0 ∧ v0 < Int.ofNat (List.length (v4.getD v2.toNat []))) then (Zpv k (List.getD (v4.getD v2.toNat []) v0.toNat 0,v6,())).bind fun y => bif !y.1 then some (12,()) else L2 (IntKind.i64.wrap (v0 + 1),v1,v2,v3,v4,v5,v6,v7) else none else none else L1 (IntKind.i64.wrap (v2 + 1),v1,v5,v6,v7,v3,v4)
def ZoO (k:Nat) (L1:ZkR):Zuq:=Zm (fun L2 => Zb8 k L1 L2) k
noncomputable def Zm9 (k:Nat) (n1:Nat) (n:Nat) (v:ZAL):Option (Int × Unit) :=
 Zt (ZxN k) ZIh [] [1,1,1,1,1,0,1,0,0,1,0,0,1,0] [n1] (Q4 Tryz.f13) (Q8 (ZxN k) Tryz.f13 QY Ze [] []) n (ZQ6 v)
def ZQ5:ZAK → St
 | (v0,v1,v2,v3,v4,v5,v6) => St.mk (Zy [(6,Zp v0),(2,AV.bx 8192 0),(5,Zp v1),(3,AV.bx 8193 0)]) (Zx [(8192,Wh [Zp v2,Zp v3,Zp v4]),(8193,Wh [Zp v5,AV.val (PV.sl (Ty.int IntKind.i64).sl v6)])])
def Zd7 (k:Nat) (L2:Zuq) (L1:ZkR):ZkR
 | (v0,v1,v2,v3,v4,v5,v6) => bif decide (v0 < v2) then L2 (0,v1,v0,v5,v6,v2,v3,v4) else some (0,())
def Zur (k:Nat):ZkR:=Zm (fun L1 => Zd7 k (ZoO k L1) L1) k
noncomputable def Ziz (k:Nat) (n:Nat) (v:ZAK) :=
 Zt (ZxN k) ZIh [] [1,1,1,1,1,0,1,0] [] (Q4 Tryz.f13) (Q8 (ZxN k) Tryz.f13 QY Ze [] []) n (ZQ5 v)
def ZiA (k:Nat) (L1:ZkR):(Int × Int × Int × Unit) × (Int × List (List Int) × Unit) × Unit → Option (Int × Unit)
 | ((a0,a1,a2,()),(a3,a4,()),()) => (Zr8 k ((a0,a1,a2,()),())).bind fun y => bif !y.1 then some (2,()) else bif decide (a3 < 0) then some (1,()) else bif decide ((2147483647:Int) < a3) then some (1,()) else bif Int.ofNat a4.length != a0 then some (1,()) else bif decide ((0:Int) ≤ 0 ∧ (0:Int) < Int.ofNat a4.length) then bif decide (Int.ofNat (List.length (a4.getD 0 [])) < (1:Int)) then some (1,()) else bif decide ((512:Int) < Int.ofNat (List.length (a4.getD 0 []))) then some (1,()) else bif decide (0 ≤ IntKind.i64.wrap (a0 - 1) ∧ IntKind.i64.wrap (a0 - 1) < Int.ofNat a4.length) then bif Int.ofNat (List.length (a4.getD (IntKind.i64.wrap (a0 - 1)).toNat [])) != Int.ofNat (List.length (a4.getD 0 [])) then some (1,()) else L1 (0,Int.ofNat (List.length (a4.getD 0 [])),a0,a1,a2,a3,a4) else none else none
def ZoN (k:Nat):=ZiA k (Zur k)
theorem ZIj (k:Nat) (n1:Nat):∀ n,Zm9 k n1 n = Zm (fun L2 => Zb8 k (Ziz k n1) L2) n :=
 Zk (fun v => by kernel_rfl) (fun n v => by
  show Zm9 k n1 (n + 1) v = Zb8 k (Ziz k n1) (Zm9 k n1 n) v
  obtain ⟨v0,v1,v2,v3,v4,v5,v6,v7⟩:=v
  kernel_rfl)
theorem ZIi (k:Nat):∀ n,Ziz k n = Zm (fun L1 => Zd7 k (ZoO k L1) L1) n :=
 Zk (fun v => by kernel_rfl) (fun n v => by
  rw [show (ZoO k (Ziz k n)) = Zm9 k n k from (ZIj k n k).symm]
  obtain ⟨v0,v1,v2,v3,v4,v5,v6⟩:=v
  kernel_rfl)
theorem ZQ7 (k:Nat) (x:Kd.dens QY):ZF (ZxN k) ZIh Tryz.f13 QY Ze x = ZoN k x:=by
 show _ = ZiA k (Zur k) x
 rw [show Zur k = Ziz k k from (ZIi k k).symm]
 obtain ⟨⟨a0,⟨a1,⟨a2,⟨⟩⟩⟩⟩,⟨⟨a3,⟨a4,⟨⟩⟩⟩,⟨⟩⟩⟩:=x
 kernel_rfl
theorem ZCw (k:Nat):Ctr Tryz.prog k 13 (mk QY Ze ZoN) :=
 ZG (fn:=Tryz.f13) (Zh (Za (ZCv k) (Za (ZuV k) Zc))) (by kernel_rfl) (by kernel_rfl) (ZQ7 k)
noncomputable abbrev ZPE:Nat × Callee:=(13,mk QY Ze ZoN)
abbrev ZuC:Kd:=.view frameT
def ZPG:Nat → Ann:=fun id => bif Nat.beq id 3 then ⟨[4,1,3,2],[.cell 3 1 ((Ty.int IntKind.i64).sl)]⟩ else ⟨[],[]⟩
abbrev ZA1:=Int × Int × List (List Int) × Int × List (List Int) × Int
abbrev ZuA:=ZA1 → Option ((Int × List (List Int) × Unit) × Unit)
def ZRo:ZA1 → St
 | (v0,v1,v2,v3,v4,v5) => St.mk (Zy [(4,Zp v0),(1,AV.bx 8192 0),(3,AV.bx 8193 0),(2,AV.bx 8195 0)]) (Zx [(8192,Wh [Zp v1,AV.val (PV.sl (Ty.int IntKind.i64).sl v2)]),(8193,Wh [Zp v3,AV.own 8194]),(8194,RS.live (Res.arr (Ty.int IntKind.i64).sl v4 false)),(8195,Wh [Zp v5,AV.val (PV.v (Value.slice none (0:Nat) (0:Nat)))])])
def Zeg (k:Nat) (L1:ZuA):ZuA
 | (v0,v1,v2,v3,v4,v5) => bif decide (v0 < Int.ofNat v2.length) then bif decide (0 ≤ v0 ∧ v0 < Int.ofNat v2.length) then bif decide ((0:Int) ≤ 0 ∧ (0:Int) ≤ IntKind.i64.wrap (Int.ofNat (List.length (v2.getD v0.toNat [])) + (2:Int)) ∧ IntKind.i64.wrap (Int.ofNat (List.length (v2.getD v0.toNat [])) + (2:Int)) < (4294967296:Int)) then bif decide (0 ≤ v0 ∧ v0 < Int.ofNat v2.length) then bif decide ((0:Nat) + List.length (v2.getD v0.toNat []) < 2147483648) then bif decide (v4.length + [List.replicate (0:Nat) (0:Int) ++ v2.getD v0.toNat []].length < 2147483648) then L1 (IntKind.i64.wrap (v0 + 1),v1,v2,v3,v4 ++ [List.replicate (0:Nat) (0:Int) ++ v2.getD v0.toNat []],v5) else none else none else none else none else none else some ((v3,v4,()),())
def ZuB (k:Nat):ZuA:=Zm (fun L1 => Zeg k L1) k
noncomputable def ZCB (k:Nat) (n:Nat) (v:ZA1) :=
 Zt (ZJ k) ZPG [] [1,1,0,1,0] [] (Q4 Tryz.f15) (Q8 (ZJ k) Tryz.f15 YJ ZuC [] []) n (ZRo v)
def ZiF (k:Nat) (L1:ZuA):(Int × List (List Int) × Unit) × Unit → Option ((Int × List (List Int) × Unit) × Unit)
 | ((a0,a1,()),()) => L1 (0,a0,a1,a0,[],(0:Int))
def Zyd (k:Nat):=ZiF k (ZuB k)
theorem ZIM (k:Nat):∀ n,ZCB k n = Zm (fun L1 => Zeg k L1) n :=
 Zk (fun v => by kernel_rfl) (fun n v => by
  obtain ⟨v0,v1,v2,v3,v4,v5⟩:=v
  kernel_rfl)
theorem ZRp (k:Nat) (x:Kd.dens YJ):ZF (ZJ k) ZPG Tryz.f15 YJ ZuC x = Zyd k x:=by
 show _ = ZiF k (ZuB k) x
 rw [show ZuB k = ZCB k k from (ZIM k k).symm]
 obtain ⟨⟨a0,⟨a1,⟨⟩⟩⟩,⟨⟩⟩:=x
 kernel_rfl
theorem ZNx (k:Nat):Ctr Tryz.prog k 15 (mk YJ ZuC Zyd) :=
 ZG (fn:=Tryz.f15) (Zh Zc) (by kernel_rfl) (by kernel_rfl) (ZRp k)
noncomputable abbrev ZUi:Nat × Callee:=(15,mk YJ ZuC Zyd)
def ZPH:Nat → Ann:=fun id => bif Nat.beq id 2 then ⟨[3,1],[]⟩ else ⟨[],[]⟩
abbrev ZA6:=Int × Int × List (List Int)
abbrev ZuI:=ZA6 → Option (Bool × Unit)
def ZRz:ZA6 → St
 | (v0,v1,v2) => St.mk (Zy [(3,Zp v0),(1,AV.bx 8192 0)]) (Zx [(8192,Wh [Zp v1,AV.val (PV.sl (Ty.int IntKind.i64).sl v2)])])
def Zeh (k:Nat) (L1:ZuI):ZuI
 | (v0,v1,v2) => bif decide (v0 < Int.ofNat v2.length) then bif decide (0 ≤ v0 ∧ v0 < Int.ofNat v2.length) then bif decide ((300:Int) < Int.ofNat (List.length (v2.getD v0.toNat []))) then some (false,()) else L1 (IntKind.i64.wrap (v0 + 1),v1,v2) else none else some (true,())
def ZuJ (k:Nat):ZuI:=Zm (fun L1 => Zeh k L1) k
noncomputable def ZCC (k:Nat) (n:Nat) (v:ZA6) :=
 Zt (ZJ k) ZPH [] [1,0,1,0] [] (Q4 Tryz.f16) (Q8 (ZJ k) Tryz.f16 YJ ZA [] []) n (ZRz v)
def ZiJ (k:Nat) (L1:ZuI):(Int × List (List Int) × Unit) × Unit → Option (Bool × Unit)
 | ((a0,a1,()),()) => L1 (0,a0,a1)
def Zyl (k:Nat):=ZiJ k (ZuJ k)
theorem ZI3 (k:Nat):∀ n,ZCC k n = Zm (fun L1 => Zeh k L1) n :=
 Zk (fun v => by kernel_rfl) (fun n v => by
  obtain ⟨v0,v1,v2⟩:=v
  kernel_rfl)
theorem ZRA (k:Nat) (x:Kd.dens YJ):ZF (ZJ k) ZPH Tryz.f16 YJ ZA x = Zyl k x:=by
 show _ = ZiJ k (ZuJ k) x
 rw [show ZuJ k = ZCC k k from (ZI3 k k).symm]
 obtain ⟨⟨a0,⟨a1,⟨⟩⟩⟩,⟨⟩⟩:=x
 kernel_rfl
theorem ZNP (k:Nat):Ctr Tryz.prog k 16 (mk YJ ZA Zyl) :=
 ZG (fn:=Tryz.f16) (Zh Zc) (by kernel_rfl) (by kernel_rfl) (ZRA k)
noncomputable abbrev ZUj:Nat × Callee:=(16,mk YJ ZA Zyl)
def ZjD (k:Nat):Int × Unit → Option (Int × Unit)
 | (a0,()) => some (IntKind.i64.wrap ((IntKind.i64.wrap (a0 - (IntKind.i64.wrap (a0.tmod (2:Int) + 2)).tmod (2:Int))).tdiv (2:Int)),())
def Zzb (k:Nat):=ZjD k
theorem ZTx (k:Nat) (x:Kd.dens Zr):ZF (ZJ k) nA Tryz.f81 Zr Ze x = Zzb k x:=by
 show _ = ZjD k x
 obtain ⟨a0,⟨⟩⟩:=x
 kernel_rfl
theorem ZOV (k:Nat):Ctr Tryz.prog k 81 (mk Zr Ze Zzb) :=
 ZG (fn:=Tryz.f81) (Zh Zc) (by kernel_rfl) (by kernel_rfl) (ZTx k)
noncomputable abbrev ZU7:Nat × Callee:=(81,mk Zr Ze Zzb)
abbrev ZpL:List Kd:=[.view ZQo,.view (.int .i64)]
abbrev Zvm:Kd:=.tup [.view (.sl (.int .i64)),.view (.sl (.int .i64))]
noncomputable def ZJ6 (k:Nat):=Wc k [ZU7]
def ZPU:Nat → Ann:=fun id => bif Nat.beq id 3 then ⟨[8,2,1,6,7],[.slot 6 ((Ty.int IntKind.i64)),.slot 7 ((Ty.int IntKind.i64))]⟩ else ⟨[],[]⟩
abbrev ZBq:=Int × Int × List Int × List Int × List Int × List Int
abbrev Zvk:=ZBq → Option ((List Int × List Int × Unit) × Unit)
def ZSB:ZBq → St
 | (v0,v1,v2,v3,v4,v5) => St.mk (Zy [(8,Zp v0),(2,AV.bx 8192 0),(1,Zp v1),(6,AV.own 8193),(7,AV.own 8194)]) (Zx [(8192,Wh [WM v2,WM v3]),(8193,rsA v4 false),(8194,rsA v5 false)])
def Zcx (k:Nat) (L1:Zvk):Zvk
 | (v0,v1,v2,v3,v4,v5) => bif decide (v0 < Int.ofNat v2.length) then bif decide (0 ≤ v0 ∧ v0 < Int.ofNat v2.length) then bif decide (0 ≤ v0 ∧ v0 < Int.ofNat v3.length) then bif v1 == 8 then bif decide (v4.length + [v2.getD v0.toNat 0].length < 2147483648) then bif decide (v5.length + [IntKind.i64.wrap (v2.getD v0.toNat 0 - v3.getD v0.toNat 0)].length < 2147483648) then L1 (IntKind.i64.wrap (v0 + 1),v1,v2,v3,v4 ++ [v2.getD v0.toNat 0],v5 ++ [IntKind.i64.wrap (v2.getD v0.toNat 0 - v3.getD v0.toNat 0)]) else none else none else bif v1 == 9 then bif decide (v4.length + [IntKind.i64.wrap (v2.getD v0.toNat 0 - v3.getD v0.toNat 0)].length < 2147483648) then bif decide (v5.length + [v3.getD v0.toNat 0].length < 2147483648) then L1 (IntKind.i64.wrap (v0 + 1),v1,v2,v3,v4 ++ [IntKind.i64.wrap (v2.getD v0.toNat 0 - v3.getD v0.toNat 0)],v5 ++ [v3.getD v0.toNat 0]) else none else none else bif v1 == 10 then (Zzb k (IntKind.i64.wrap (v2.getD v0.toNat 0 + v3.getD v0.toNat 0),())).bind fun y => bif decide (v4.length + [y.1].length < 2147483648) then bif decide (v5.length + [IntKind.i64.wrap (v2.getD v0.toNat 0 - v3.getD v0.toNat 0)].length < 2147483648) then L1 (IntKind.i64.wrap (v0 + 1),v1,v2,v3,v4 ++ [y.1],v5 ++ [IntKind.i64.wrap (v2.getD v0.toNat 0 - v3.getD v0.toNat 0)]) else none else none else bif decide (v4.length + [v2.getD v0.toNat 0].length < 2147483648) then bif decide (v5.length + [v3.getD v0.toNat 0].length < 2147483648) then L1 (IntKind.i64.wrap (v0 + 1),v1,v2,v3,v4 ++ [v2.getD v0.toNat 0],v5 ++ [v3.getD v0.toNat 0]) else none else none else none else none else some ((v4,v5,()),())
def Zvl (k:Nat):Zvk:=Zm (fun L1 => Zcx k L1) k
noncomputable def ZCY (k:Nat) (n:Nat) (v:ZBq) :=
 Zt (ZJ6 k) ZPU [] [1,1,0,1,0] [] (Q4 Tryz.f41) (Q8 (ZJ6 k) Tryz.f41 ZpL Zvm [] []) n (ZSB v)
def Zi9 (k:Nat) (L1:Zvk):(List Int × List Int × Unit) × Int × Unit → Option ((List Int × List Int × Unit) × Unit)
 | ((a0,a1,()),a2,()) => L1 (0,a2,a0,a1,[],[])
def ZsD (k:Nat):=Zi9 k (Zvl k)
theorem ZJ7 (k:Nat):∀ n,ZCY k n = Zm (fun L1 => Zcx k L1) n :=
 Zk (fun v => by kernel_rfl) (fun n v => by
  obtain ⟨v0,v1,v2,v3,v4,v5⟩:=v
  kernel_rfl)
theorem ZSC (k:Nat) (x:Kd.dens ZpL):ZF (ZJ6 k) ZPU Tryz.f41 ZpL Zvm x = ZsD k x:=by
 show _ = Zi9 k (Zvl k) x
 rw [show Zvl k = ZCY k k from (ZJ7 k k).symm]
 obtain ⟨⟨a0,⟨a1,⟨⟩⟩⟩,⟨a2,⟨⟩⟩⟩:=x
 kernel_rfl
theorem ZCZ (k:Nat):Ctr Tryz.prog k 41 (mk ZpL Zvm ZsD) :=
 ZG (fn:=Tryz.f41) (Zh (Za (ZOV k) Zc)) (by kernel_rfl) (by kernel_rfl) (ZSC k)
noncomputable abbrev ZPV:Nat × Callee:=(41,mk ZpL Zvm ZsD)
def ZQb:Nat → Ann:=fun id => bif Nat.beq id 3 then ⟨[5,0,3,4],[]⟩ else ⟨[],[]⟩
abbrev ZeI:=Int × List Int × Int × Int
abbrev ZeH:=ZeI → Option (Int × Unit)
def ZTf:ZeI → St
 | (v0,v1,v2,v3) => St.mk (Zy [(5,Zp v0),(0,WM v1),(3,Zp v2),(4,Zp v3)]) (Zx [])
def ZeJ (k:Nat) (L1:ZeH):ZeH
 | (v0,v1,v2,v3) => bif decide (v0 < Int.ofNat v1.length) then bif decide (0 ≤ v0 ∧ v0 < Int.ofNat v1.length) then bif decide (0 ≤ v0 ∧ v0 < Int.ofNat v1.length) then bif decide (0 ≤ v0 ∧ v0 < Int.ofNat v1.length) then L1 (IntKind.i64.wrap (v0 + 1),v1,IntKind.i64.wrap (v2 + if IntKind.i64.wrap (v1.getD v0.toNat 0 - v3) < IntKind.i64.wrap (v3 - v1.getD v0.toNat 0) then IntKind.i64.wrap (v3 - v1.getD v0.toNat 0) else IntKind.i64.wrap (v1.getD v0.toNat 0 - v3)),v1.getD v0.toNat 0) else none else none else none else some (v2,())
def ZvS (k:Nat):ZeH:=Zm (fun L1 => ZeJ k L1) k
noncomputable def ZDk (k:Nat) (n:Nat) (v:ZeI) :=
 Zt (ZJ k) ZQb [] [1,1,0,1,0] [] (Q4 Tryz.f72) (Q8 (ZJ k) Tryz.f72 Qy Ze [] []) n (ZTf v)
def Zjv (k:Nat) (L1:ZeH):List Int × Unit → Option (Int × Unit)
 | (a0,()) => L1 (0,a0,(0:Int),(0:Int))
def ZsK (k:Nat):=Zjv k (ZvS k)
theorem ZKI (k:Nat):∀ n,ZDk k n = Zm (fun L1 => ZeJ k L1) n :=
 Zk (fun v => by kernel_rfl) (fun n v => by
  obtain ⟨v0,v1,v2,v3⟩:=v
  kernel_rfl)
theorem ZTg (k:Nat) (x:Kd.dens Qy):ZF (ZJ k) ZQb Tryz.f72 Qy Ze x = ZsK k x:=by
 show _ = Zjv k (ZvS k) x
 rw [show ZvS k = ZDk k k from (ZKI k k).symm]
 obtain ⟨a0,⟨⟩⟩:=x
 kernel_rfl
theorem ZOO (k:Nat):Ctr Tryz.prog k 72 (mk Qy Ze ZsK) :=
 ZG (fn:=Tryz.f72) (Zh Zc) (by kernel_rfl) (by kernel_rfl) (ZTg k)
noncomputable abbrev ZUY:Nat × Callee:=(72,mk Qy Ze ZsK)
abbrev ZpF:List Kd:=[.view ZQo]
noncomputable def ZJK (k:Nat):=Wc k [ZPV,ZUY]
def ZPP:Nat → Ann:=fun id => bif Nat.beq id 4 then ⟨[6,1,3,5,4],[]⟩ else ⟨[],[]⟩
abbrev ZBi:=Int × Int × Int × List Int × List Int × List Int
abbrev Zu2:=ZBi → Option (Int × Unit)
def ZSk:ZBi → St
 | (v0,v1,v2,v3,v4,v5) => St.mk (Zy [(6,Zp v0),(1,AV.bx 8192 0),(3,AV.own 8193),(5,Zp v1),(4,Zp v2)]) (Zx [(8192,Wh [WM v3,WM v4]),(8193,rsA v5 false)])
def Zcs (k:Nat) (L1:Zu2):Zu2
 | (v0,v1,v2,v3,v4,v5) => bif decide (v0 < 4) then bif decide (0 ≤ v0 ∧ v0 < Int.ofNat v5.length) then bif decide (v0.toNat < v5.length) then (ZsD k ((v3,v4,()),v5.getD v0.toNat 0,())).bind fun y => (ZsK k (y.1.1,())).bind fun y_1 => (ZsK k (y.1.2.1,())).bind fun y => bif v0 == 0 then bif decide (0 ≤ v0 ∧ v0 < Int.ofNat v5.length) then bif decide (v0.toNat < v5.length) then L1 (IntKind.i64.wrap (v0 + 1),IntKind.i64.wrap (y_1.1 + y.1),v5.getD v0.toNat 0,v3,v4,v5) else none else none else bif decide (IntKind.i64.wrap (y_1.1 + y.1) < v1) then bif decide (0 ≤ v0 ∧ v0 < Int.ofNat v5.length) then bif decide (v0.toNat < v5.length) then L1 (IntKind.i64.wrap (v0 + 1),IntKind.i64.wrap (y_1.1 + y.1),v5.getD v0.toNat 0,v3,v4,v5) else none else none else L1 (IntKind.i64.wrap (v0 + 1),v1,v2,v3,v4,v5) else none else none else some (v2,())
def Zu3 (k:Nat):Zu2:=Zm (fun L1 => Zcs k L1) k
noncomputable def ZCN (k:Nat) (n:Nat) (v:ZBi) :=
 Zt (ZJK k) ZPP [] [1,1,1,0,1,0] [] (Q4 Tryz.f34) (Q8 (ZJK k) Tryz.f34 ZpF Ze [] []) n (ZSk v)
def Zi1 (k:Nat) (L1:Zu2):(List Int × List Int × Unit) × Unit → Option (Int × Unit)
 | ((a0,a1,()),()) => L1 (0,(0:Int),(0:Int),a0,a1,[(0:Int),(8:Int),(9:Int),(10:Int)])
def Zi0 (k:Nat):=Zi1 k (Zu3 k)
theorem ZJL (k:Nat):∀ n,ZCN k n = Zm (fun L1 => Zcs k L1) n :=
 Zk (fun v => by kernel_rfl) (fun n v => by
  obtain ⟨v0,v1,v2,v3,v4,v5⟩:=v
  kernel_rfl)
theorem ZSl (k:Nat) (x:Kd.dens ZpF):ZF (ZJK k) ZPP Tryz.f34 ZpF Ze x = Zi0 k x:=by
 show _ = Zi1 k (Zu3 k) x
 rw [show Zu3 k = ZCN k k from (ZJL k k).symm]
 obtain ⟨⟨a0,⟨a1,⟨⟩⟩⟩,⟨⟩⟩:=x
 kernel_rfl
theorem ZOq (k:Nat):Ctr Tryz.prog k 34 (mk ZpF Ze Zi0) :=
 ZG (fn:=Tryz.f34) (Zh (Za (ZCZ k) (Za (ZOO k) Zc))) (by kernel_rfl) (by kernel_rfl) (ZSl k)
noncomputable abbrev ZUx:Nat × Callee:=(34,mk ZpF Ze Zi0)
abbrev Yi:Kd:=.view .str
def ZPQ:Nat → Ann:=fun id => bif Nat.beq id 3 then ⟨[6,5,0],[]⟩ else ⟨[],[]⟩
abbrev Zu4:=Wj → Option (ByteArray × Unit)
def ZSm:Wj → St
 | (v0,v1,v2) => St.mk (Zy [(6,Zp v0),(5,AV.own 8192),(0,Zp v1)]) (Zx [(8192,RS.live (Res.arr (Ty.int IntKind.u8) v2 false))])
def Zer (k:Nat) (L1:Zu4):Zu4
 | (v0,v1,v2) => bif decide (0 ≤ v0) then bif decide (0 ≤ v1.tmod (2:Int) ∧ v1.tmod (2:Int) < 2) then bif decide (0 ≤ v0 ∧ v0 < Int.ofNat v2.length) then bif decide (v0.toNat < v2.length) then L1 (IntKind.i64.wrap (v0 - 1),IntKind.i64.wrap (v1.tdiv (2:Int)),v2.set v0.toNat (Int.ofNat ((ByteArray.mk #[48,49]).data.toList.getD (v1.tmod (2:Int)).toNat 0).toNat)) else none else none else none else some (ByteArray.mk (List.map (fun n => UInt8.ofNat n.toNat) v2).toArray,())
def Zu5 (k:Nat):Zu4:=Zm (fun L1 => Zer k L1) k
noncomputable def ZCO (k:Nat) (n:Nat) (v:Wj) :=
 Zt (ZJ k) ZPQ [] [1,1,0,1,0] [] (Q4 Tryz.f35) (Q8 (ZJ k) Tryz.f35 Qf Yi [] []) n (ZSm v)
def Zi2 (k:Nat) (L1:Zu4):Int × Int × Unit → Option (ByteArray × Unit)
 | (a0,a1,()) => bif decide (0 ≤ a1 ∧ a1 ≤ a1 ∧ a1 < 4294967296) then L1 (IntKind.i64.wrap (a1 - 1),a0,List.replicate a1.toNat (0:Int)) else none
def Xh (k:Nat):=Zi2 k (Zu5 k)
theorem ZJN (k:Nat):∀ n,ZCO k n = Zm (fun L1 => Zer k L1) n :=
 Zk (fun v => by kernel_rfl) (fun n v => by
  obtain ⟨v0,v1,v2⟩:=v
  kernel_rfl)
theorem ZSn (k:Nat) (x:Kd.dens Qf):ZF (ZJ k) ZPQ Tryz.f35 Qf Yi x = Xh k x:=by
 show _ = Zi2 k (Zu5 k) x
 rw [show Zu5 k = ZCO k k from (ZJN k k).symm]
 obtain ⟨a0,⟨a1,⟨⟩⟩⟩:=x
 kernel_rfl
theorem Zdh (k:Nat):Ctr Tryz.prog k 35 (mk Qf Yi Xh) :=
 ZG (fn:=Tryz.f35) (Zh Zc) (by kernel_rfl) (by kernel_rfl) (ZSn k)
noncomputable abbrev ZpG:Nat × Callee:=(35,mk Qf Yi Xh)
noncomputable def ZJP (k:Nat):=Wc k [ZpG]
def ZPR:Nat → Ann:=fun id => bif Nat.beq id 3 then ⟨[4,0,3],[]⟩ else ⟨[],[]⟩
abbrev ZBj:=Int × List Int × List Int
abbrev Zu6:=ZBj → Option (ByteArray × Unit)
def ZSo:ZBj → St
 | (v0,v1,v2) => St.mk (Zy [(4,Zp v0),(0,AV.val (PV.sl (Ty.int IntKind.u8) v1)),(3,AV.own 8192)]) (Zx [(8192,RS.live (Res.arr (Ty.int IntKind.u8) v2 false))])
def Zes (k:Nat) (L1:Zu6):Zu6
 | (v0,v1,v2) => bif decide (v0 < Int.ofNat v1.length) then bif decide (0 ≤ v0 ∧ v0 < Int.ofNat v1.length) then (Xh k (IntKind.i64.wrap (v1.getD v0.toNat 0),8,())).bind fun y => bif decide (v2.length + (List.map (fun b => Int.ofNat b.toNat) y.1.data.toList).length < 2147483648) then L1 (IntKind.i64.wrap (v0 + 1),v1,v2 ++ List.map (fun b => Int.ofNat b.toNat) y.1.data.toList) else none else none else some (ByteArray.mk (List.map (fun n => UInt8.ofNat n.toNat) v2).toArray,())
def Zu7 (k:Nat):Zu6:=Zm (fun L1 => Zes k L1) k
noncomputable def ZCP (k:Nat) (n:Nat) (v:ZBj) :=
 Zt (ZJP k) ZPR [] [1,1,0,1,0] [] (Q4 Tryz.f36) (Q8 (ZJP k) Tryz.f36 Wg Yi [] []) n (ZSo v)
def Zi3 (k:Nat) (L1:Zu6):List Int × Unit → Option (ByteArray × Unit)
 | (a0,()) => bif decide ((0:Int) ≤ 0 ∧ (0:Int) ≤ IntKind.i64.wrap ((8:Int) * Int.ofNat a0.length) ∧ IntKind.i64.wrap ((8:Int) * Int.ofNat a0.length) < 4294967296) then L1 (0,a0,List.replicate (0:Nat) (0:Int)) else none
def ZyH (k:Nat):=Zi3 k (Zu7 k)
theorem ZJQ (k:Nat):∀ n,ZCP k n = Zm (fun L1 => Zes k L1) n :=
 Zk (fun v => by kernel_rfl) (fun n v => by
  obtain ⟨v0,v1,v2⟩:=v
  kernel_rfl)
theorem ZSp (k:Nat) (x:Kd.dens Wg):ZF (ZJP k) ZPR Tryz.f36 Wg Yi x = ZyH k x:=by
 show _ = Zi3 k (Zu7 k) x
 rw [show Zu7 k = ZCP k k from (ZJQ k k).symm]
 obtain ⟨a0,⟨⟩⟩:=x
 kernel_rfl
theorem ZOr (k:Nat):Ctr Tryz.prog k 36 (mk Wg Yi ZyH) :=
 ZG (fn:=Tryz.f36) (Zh (Za (Zdh k) Zc)) (by kernel_rfl) (by kernel_rfl) (ZSp k)
noncomputable abbrev ZUy:Nat × Callee:=(36,mk Wg Yi ZyH)
abbrev YM:List Kd:=[.view .str]
abbrev ZbF:Kd:=.view (.sl (.int .u8))
def ZJY:Nat → Ann:=fun id => bif Nat.beq id 7 then ⟨[6,4,5,0,3],[]⟩ else bif Nat.beq id 3 then ⟨[4,0,3],[.slot 3 ((Ty.int IntKind.u8))]⟩ else ⟨[],[]⟩
abbrev ZBm:=Int × Int × Int × ByteArray × List Int
abbrev Zvb:=ZBm → Option (List Int × Unit)
abbrev ZBl:=Int × ByteArray × List Int
abbrev Zle:=ZBl → Option (List Int × Unit)
def ZSv:ZBm → St
 | (v0,v1,v2,v3,v4) => St.mk (Zy [(6,Zp v0),(4,Zp v1),(5,Zp v2),(0,AV.val (PV.v (Value.string v3))),(3,AV.own 8192)]) (Zx [(8192,RS.live (Res.arr (Ty.int IntKind.u8) v4 false))])
def Zcu (k:Nat) (L1:Zle) (L2:Zvb):Zvb
 | (v0,v1,v2,v3,v4) => bif decide (v0 < IntKind.i64.wrap (v1 + 8)) then bif decide (v0 < Int.ofNat v3.size) then bif decide (0 ≤ v0 ∧ v0 < Int.ofNat v3.size) then L2 (IntKind.i64.wrap (v0 + 1),v1,IntKind.i64.wrap (IntKind.i64.wrap ((2:Int) * v2) + IntKind.i64.wrap (IntKind.u8.wrap (Int.ofNat (v3.data.toList.getD v0.toNat 0).toNat - (48:Int)))),v3,v4) else none else L2 (IntKind.i64.wrap (v0 + 1),v1,IntKind.i64.wrap ((2:Int) * v2),v3,v4) else bif decide (v4.length + [IntKind.u8.wrap v2].length < 2147483648) then L1 (IntKind.i64.wrap (v1 + 8),v3,v4 ++ [IntKind.u8.wrap v2]) else none
def ZpI (k:Nat) (L1:Zle):Zvb:=Zm (fun L2 => Zcu k L1 L2) k
noncomputable def ZnI (k:Nat) (n1:Nat) (n:Nat) (v:ZBm):Option (List Int × Unit) :=
 Zt (ZJ k) ZJY [] [1,1,0,1,0,0,1,0,0,1,0,1,0] [n1] (Q4 Tryz.f39) (Q8 (ZJ k) Tryz.f39 YM ZbF [] []) n (ZSv v)
def ZSu:ZBl → St
 | (v0,v1,v2) => St.mk (Zy [(4,Zp v0),(0,AV.val (PV.v (Value.string v1))),(3,AV.own 8192)]) (Zx [(8192,RS.live (Res.arr (Ty.int IntKind.u8) v2 false))])
def Zct (k:Nat) (L2:Zvb) (L1:Zle):Zle
 | (v0,v1,v2) => bif decide (v0 < Int.ofNat v1.size) then L2 (v0,v0,(0:Int),v1,v2) else some (v2,())
def Zvc (k:Nat):Zle:=Zm (fun L1 => Zct k (ZpI k L1) L1) k
noncomputable def Zi6 (k:Nat) (n:Nat) (v:ZBl) :=
 Zt (ZJ k) ZJY [] [1,1,0,1,0] [] (Q4 Tryz.f39) (Q8 (ZJ k) Tryz.f39 YM ZbF [] []) n (ZSu v)
def Zi7 (k:Nat) (L1:Zle):ByteArray × Unit → Option (List Int × Unit)
 | (a0,()) => L1 (0,a0,[])
def ZpH (k:Nat):=Zi7 k (Zvc k)
theorem ZJ0 (k:Nat) (n1:Nat):∀ n,ZnI k n1 n = Zm (fun L2 => Zcu k (Zi6 k n1) L2) n :=
 Zk (fun v => by kernel_rfl) (fun n v => by
  show ZnI k n1 (n + 1) v = Zcu k (Zi6 k n1) (ZnI k n1 n) v
  obtain ⟨v0,v1,v2,v3,v4⟩:=v
  kernel_rfl)
theorem ZJZ (k:Nat):∀ n,Zi6 k n = Zm (fun L1 => Zct k (ZpI k L1) L1) n :=
 Zk (fun v => by kernel_rfl) (fun n v => by
  rw [show (ZpI k (Zi6 k n)) = ZnI k n k from (ZJ0 k n k).symm]
  obtain ⟨v0,v1,v2⟩:=v
  kernel_rfl)
theorem ZSw (k:Nat) (x:Kd.dens YM):ZF (ZJ k) ZJY Tryz.f39 YM ZbF x = ZpH k x:=by
 show _ = Zi7 k (Zvc k) x
 rw [show Zvc k = Zi6 k k from (ZJZ k k).symm]
 obtain ⟨a0,⟨⟩⟩:=x
 kernel_rfl
theorem ZCS (k:Nat):Ctr Tryz.prog k 39 (mk YM ZbF ZpH) :=
 ZG (fn:=Tryz.f39) (Zh Zc) (by kernel_rfl) (by kernel_rfl) (ZSw k)
noncomputable abbrev ZPT:Nat × Callee:=(39,mk YM ZbF ZpH)
def Zjw (k:Nat):Int × Unit → Option (Int × Unit)
 | (a0,()) => bif a0 == 1 then some (7,()) else some (IntKind.i64.wrap (IntKind.i64.wrap ((5:Int) * a0) + 1),())
def ZsL (k:Nat):=Zjw k
theorem ZTh (k:Nat) (x:Kd.dens Zr):ZF (ZJ k) nA Tryz.f73 Zr Ze x = ZsL k x:=by
 show _ = Zjw k x
 obtain ⟨a0,⟨⟩⟩:=x
 kernel_rfl
theorem ZOP (k:Nat):Ctr Tryz.prog k 73 (mk Zr Ze ZsL) :=
 ZG (fn:=Tryz.f73) (Zh Zc) (by kernel_rfl) (by kernel_rfl) (ZTh k)
noncomputable abbrev ZUZ:Nat × Callee:=(73,mk Zr Ze ZsL)
noncomputable def ZyI (k:Nat):=Wc k [ZpG,ZPT,ZUZ]
def ZJS:Nat → Ann:=fun id => bif Nat.beq id 10 then ⟨[7,4,6],[]⟩ else bif Nat.beq id 2 then ⟨[0,3],[]⟩ else ⟨[],[]⟩
abbrev ZBk:=Int × ByteArray × ByteArray
abbrev Zu9:=ZBk → Option (List Int × Unit)
abbrev Zu8:=Zdg → Option (List Int × Unit)
def ZSr:ZBk → St
 | (v0,v1,v2) => St.mk (Zy [(7,Zp v0),(4,AV.val (PV.v (Value.string v1))),(6,AV.val (PV.v (Value.string v2)))]) (Zx [])
def Zet (k:Nat) (L2:Zu9):Zu9
 | (v0,v1,v2) => bif decide (v0 < Int.ofNat v1.size) then bif decide (v2.size + (2:Nat) < (1099511627776:Nat)) then bif decide (0 ≤ v0 ∧ v0 ≤ IntKind.i64.wrap (v0 + 6) ∧ IntKind.i64.wrap (v0 + 6) ≤ Int.ofNat v1.size) then bif decide ((v2 ++ ByteArray.mk #[49,48]).size + (v1.extract v0.toNat (IntKind.i64.wrap (v0 + 6)).toNat).size < 1099511627776) then L2 (IntKind.i64.wrap (v0 + 6),v1,v2 ++ ByteArray.mk #[49,48] ++ v1.extract v0.toNat (IntKind.i64.wrap (v0 + 6)).toNat) else none else none else none else (ZpH k (v2,())).bind fun y => some (y.1,())
def ZhF (k:Nat):Zu9:=Zm (fun L2 => Zet k L2) k
noncomputable def ZCR (k:Nat) (n:Nat) (v:ZBk) :=
 Zt (ZyI k) ZJS [] [1,1,1,1,1,1,1,0,1,0] [] (Q4 Tryz.f37) (Q8 (ZyI k) Tryz.f37 Zr ZbF [] []) n (ZSr v)
def ZSq:Zdg → St
 | (v0,v1) => St.mk (Zy [(0,Zp v0),(3,Zp v1)]) (Zx [])
def YL (k:Nat) (L2:Zu9) (L1:Zu8):Zu8
 | (v0,v1) => (ZsL k (v1,())).bind fun y => bif decide ((0:Int) ≤ y.1) then bif decide (IntKind.i64.wrap ((1:Int) * (2:Int) ^ min (Int.toNat y.1) (64:Nat)) ≤ v0) then L1 (v0,IntKind.i64.wrap (v1 + 1)) else bif v1 == 1 then some ([IntKind.u8.wrap v0],()) else (ZsL k (v1,())).bind fun y => (Xh k (v0,y.1,())).bind fun y => bif decide ((0:Int) ≤ 0 ∧ (0:Int) ≤ v1 ∧ v1 ≤ 8) then bif decide (((ByteArray.mk #[49,49,49,49,49,49,49,49]).extract (0:Nat) v1.toNat).size + (1:Nat) < (1099511627776:Nat)) then bif decide ((0:Int) ≤ 0 ∧ (0:Int) ≤ IntKind.i64.wrap ((8:Int) - Int.ofNat ((ByteArray.mk #[49,49,49,49,49,49,49,49]).extract (0:Nat) v1.toNat ++ ByteArray.mk #[48]).size) ∧ IntKind.i64.wrap ((8:Int) - Int.ofNat ((ByteArray.mk #[49,49,49,49,49,49,49,49]).extract (0:Nat) v1.toNat ++ ByteArray.mk #[48]).size) ≤ Int.ofNat (ByteArray.size y.1)) then bif decide (((ByteArray.mk #[49,49,49,49,49,49,49,49]).extract (0:Nat) v1.toNat ++ ByteArray.mk #[48]).size + (ByteArray.extract y.1 (0:Nat) (IntKind.i64.wrap ((8:Int) - Int.ofNat ((ByteArray.mk #[49,49,49,49,49,49,49,49]).extract (0:Nat) v1.toNat ++ ByteArray.mk #[48]).size)).toNat).size < 1099511627776) then L2 (IntKind.i64.wrap ((8:Int) - Int.ofNat ((ByteArray.mk #[49,49,49,49,49,49,49,49]).extract (0:Nat) v1.toNat ++ ByteArray.mk #[48]).size),y.1,(ByteArray.mk #[49,49,49,49,49,49,49,49]).extract (0:Nat) v1.toNat ++ ByteArray.mk #[48] ++ ByteArray.extract y.1 (0:Nat) (IntKind.i64.wrap ((8:Int) - Int.ofNat ((ByteArray.mk #[49,49,49,49,49,49,49,49]).extract (0:Nat) v1.toNat ++ ByteArray.mk #[48]).size)).toNat) else none else none else none else none else none
def Zva (k:Nat):Zu8:=Zm (fun L1 => YL k (ZhF k) L1) k
noncomputable def ZCQ (k:Nat) (n:Nat) (v:Zdg) :=
 Zt (ZyI k) ZJS [] [1,1,0,0] [] (Q4 Tryz.f37) (Q8 (ZyI k) Tryz.f37 Zr ZbF [] []) n (ZSq v)
def Zi4 (k:Nat) (L1:Zu8):Int × Unit → Option (List Int × Unit)
 | (a0,()) => L1 (a0,(1:Int))
def ZyJ (k:Nat):=Zi4 k (Zva k)
theorem ZJU (k:Nat):∀ n,ZCR k n = Zm (fun L2 => Zet k L2) n :=
 Zk (fun v => by kernel_rfl) (fun n v => by
  obtain ⟨v0,v1,v2⟩:=v
  kernel_rfl)
theorem ZJT (k:Nat):∀ n,ZCQ k n = Zm (fun L1 => YL k (ZhF k) L1) n :=
 Zk (fun v => by kernel_rfl) (fun n v => by
  rw [show (ZhF k) = ZCR k k from (ZJU k k).symm]
  obtain ⟨v0,v1⟩:=v
  kernel_rfl)
theorem ZSs (k:Nat) (x:Kd.dens Zr):ZF (ZyI k) ZJS Tryz.f37 Zr ZbF x = ZyJ k x:=by
 show _ = Zi4 k (Zva k) x
 rw [show Zva k = ZCQ k k from (ZJT k k).symm]
 obtain ⟨a0,⟨⟩⟩:=x
 kernel_rfl
theorem ZOs (k:Nat):Ctr Tryz.prog k 37 (mk Zr ZbF ZyJ) :=
 ZG (fn:=Tryz.f37) (Zh (Za (Zdh k) (Za (ZCS k) (Za (ZOP k) Zc)))) (by kernel_rfl) (by kernel_rfl) (ZSs k)
noncomputable abbrev ZUz:Nat × Callee:=(37,mk Zr ZbF ZyJ)
abbrev Zlo:List Kd:=[.view .str,.view (.int .i64),.view (.int .i64)]
def ZKJ:Nat → Ann:=fun id => bif Nat.beq id 6 then ⟨[9,7,1,0,8,2],[]⟩ else bif Nat.beq id 3 then ⟨[8,0,7,1,2],[]⟩ else ⟨[],[]⟩
abbrev ZBG:=Int × Int × Int × ByteArray × Int × Int
abbrev ZvT:=ZBG → Option (Int × Unit)
abbrev ZBF:=Int × ByteArray × Int × Int × Int
abbrev Zln:=ZBF → Option (Int × Unit)
def ZTj:ZBG → St
 | (v0,v1,v2,v3,v4,v5) => St.mk (Zy [(9,Zp v0),(7,Zp v1),(1,Zp v2),(0,AV.val (PV.v (Value.string v3))),(8,Zp v4),(2,Zp v5)]) (Zx [])
def ZcD (k:Nat) (L1:Zln) (L2:ZvT):ZvT
 | (v0,v1,v2,v3,v4,v5) => bif decide (0 ≤ v0) then bif decide (0 ≤ IntKind.i64.wrap (v2 - 1)) then bif decide (0 ≤ v4 ∧ v4 < Int.ofNat v3.size) then bif decide (0 ≤ v0) then bif decide (0 ≤ v2) then bif decide ¬IntKind.i64.wrap ((1:Int) * (2:Int) ^ min v2.toNat 64) = (0:Int) then bif IntKind.i64.wrap (Int.ofNat (BitVec.ofInt 64 (IntKind.i64.wrap (Int.ofNat (BitVec.ofInt 64 (v1.fdiv ((2:Int) ^ min (IntKind.i64.wrap (v2 - 1)).toNat 64)) &&& BitVec.ofInt 64 (1:Int)).toNat)) ^^^ BitVec.ofInt 64 (IntKind.i64.wrap (Int.ofNat (BitVec.ofInt 64 ((IntKind.i64.wrap (Int.ofNat (v3.data.toList.getD v4.toNat 0).toNat)).fdiv ((2:Int) ^ min v0.toNat 64)) &&& BitVec.ofInt 64 (1:Int)).toNat))).toNat) == 1 then L2 (IntKind.i64.wrap (v0 - 1),IntKind.i64.wrap (Int.ofNat (BitVec.ofInt 64 ((IntKind.i64.wrap ((2:Int) * v1)).tmod (IntKind.i64.wrap ((1:Int) * (2:Int) ^ min v2.toNat 64))) ^^^ BitVec.ofInt 64 v5).toNat),v2,v3,v4,v5) else L2 (IntKind.i64.wrap (v0 - 1),(IntKind.i64.wrap ((2:Int) * v1)).tmod (IntKind.i64.wrap ((1:Int) * (2:Int) ^ min v2.toNat 64)),v2,v3,v4,v5) else none else none else none else none else none else L1 (IntKind.i64.wrap (v4 + 1),v3,v1,v2,v5)
def ZvV (k:Nat) (L1:Zln):ZvT:=Zm (fun L2 => ZcD k L1 L2) k
noncomputable def ZnN (k:Nat) (n1:Nat) (n:Nat) (v:ZBG):Option (Int × Unit) :=
 Zt (ZJ k) ZKJ [] [1,1,0,1,0,0,1,0,0,1,0] [n1] (Q4 Tryz.f74) (Q8 (ZJ k) Tryz.f74 Zlo Ze [] []) n (ZTj v)
def ZTi:ZBF → St
 | (v0,v1,v2,v3,v4) => St.mk (Zy [(8,Zp v0),(0,AV.val (PV.v (Value.string v1))),(7,Zp v2),(1,Zp v3),(2,Zp v4)]) (Zx [])
def ZeK (k:Nat) (L2:ZvT) (L1:Zln):Zln
 | (v0,v1,v2,v3,v4) => bif decide (v0 < Int.ofNat v1.size) then L2 (7,v2,v3,v1,v0,v4) else some (v2,())
def ZvU (k:Nat):Zln:=Zm (fun L1 => ZeK k (ZvV k L1) L1) k
noncomputable def Zjx (k:Nat) (n:Nat) (v:ZBF) :=
 Zt (ZJ k) ZKJ [] [1,1,0,1,0] [] (Q4 Tryz.f74) (Q8 (ZJ k) Tryz.f74 Zlo Ze [] []) n (ZTi v)
def Zjy (k:Nat) (L1:Zln):ByteArray × Int × Int × Unit → Option (Int × Unit)
 | (a0,a1,a2,()) => L1 (0,a0,(0:Int),a1,a2)
def ZsM (k:Nat):=Zjy k (ZvU k)
theorem ZKL (k:Nat) (n1:Nat):∀ n,ZnN k n1 n = Zm (fun L2 => ZcD k (Zjx k n1) L2) n :=
 Zk (fun v => by kernel_rfl) (fun n v => by
  show ZnN k n1 (n + 1) v = ZcD k (Zjx k n1) (ZnN k n1 n) v
  obtain ⟨v0,v1,v2,v3,v4,v5⟩:=v
  kernel_rfl)
theorem ZKK (k:Nat):∀ n,Zjx k n = Zm (fun L1 => ZeK k (ZvV k L1) L1) n :=
 Zk (fun v => by kernel_rfl) (fun n v => by
  rw [show (ZvV k (Zjx k n)) = ZnN k n k from (ZKL k n k).symm]
  obtain ⟨v0,v1,v2,v3,v4⟩:=v
  kernel_rfl)
theorem ZTk (k:Nat) (x:Kd.dens Zlo):ZF (ZJ k) ZKJ Tryz.f74 Zlo Ze x = ZsM k x:=by
 show _ = Zjy k (ZvU k) x
 rw [show ZvU k = Zjx k k from (ZKK k k).symm]
 obtain ⟨a0,⟨a1,⟨a2,⟨⟩⟩⟩⟩:=x
 kernel_rfl
theorem ZDl (k:Nat):Ctr Tryz.prog k 74 (mk Zlo Ze ZsM) :=
 ZG (fn:=Tryz.f74) (Zh Zc) (by kernel_rfl) (by kernel_rfl) (ZTk k)
noncomputable abbrev ZU0:Nat × Callee:=(74,mk Zlo Ze ZsM)
noncomputable def ZPS (k:Nat):=Wc k [ZU0]
def Zi5 (k:Nat):ByteArray × Unit → Option (Int × Unit)
 | (a0,()) => (ZsM k (a0,8,7,())).bind fun y => some (y.1,())
def ZyK (k:Nat):=Zi5 k
theorem ZSt (k:Nat) (x:Kd.dens YM):ZF (ZPS k) nA Tryz.f38 YM Ze x = ZyK k x:=by
 show _ = Zi5 k x
 obtain ⟨a0,⟨⟩⟩:=x
 kernel_rfl
theorem ZOt (k:Nat):Ctr Tryz.prog k 38 (mk YM Ze ZyK) :=
 ZG (fn:=Tryz.f38) (Zh (Za (ZDl k) Zc)) (by kernel_rfl) (by kernel_rfl) (ZSt k)
noncomputable abbrev ZUA:Nat × Callee:=(38,mk YM Ze ZyK)
def ZKM:Nat → Ann:=fun id => bif Nat.beq id 7 then ⟨[3,5],[]⟩ else bif Nat.beq id 3 then ⟨[4,0,3],[]⟩ else ⟨[],[]⟩
abbrev ZvW:=Zdg → Option (Int × Unit)
abbrev ZbG:=YI → Option (Int × Unit)
def ZTm:Zdg → St
 | (v0,v1) => St.mk (Zy [(3,Zp v0),(5,Zp v1)]) (Zx [])
def ZcE (k:Nat) (L2:ZvW):ZvW
 | (v0,v1) => bif v0 != 0 then bif v0.tmod (2:Int) == 0 then L2 (IntKind.i64.wrap (v0.tdiv (2:Int)),IntKind.i64.wrap (v1 + 1)) else some (v1,()) else some (v1,())
def Zp2 (k:Nat):ZvW:=Zm (fun L2 => ZcE k L2) k
noncomputable def ZDn (k:Nat) (n:Nat) (v:Zdg) :=
 Zt (ZJ k) ZKM [] [1,1,1,1,0,0] [] (Q4 Tryz.f75) (Q8 (ZJ k) Tryz.f75 Qy Ze [] []) n (ZTm v)
def ZTl:YI → St
 | (v0,v1,v2) => St.mk (Zy [(4,Zp v0),(0,WM v1),(3,Zp v2)]) (Zx [])
def ZeL (k:Nat) (L2:ZvW) (L1:ZbG):ZbG
 | (v0,v1,v2) => bif decide (v0 < Int.ofNat v1.length) then bif decide (0 ≤ v0 ∧ v0 < Int.ofNat v1.length) then L1 (IntKind.i64.wrap (v0 + 1),v1,IntKind.i64.wrap (Int.ofNat (BitVec.ofInt 64 v2 ||| BitVec.ofInt 64 (v1.getD v0.toNat 0)).toNat)) else none else L2 (v2,(0:Int))
def ZvX (k:Nat):ZbG:=Zm (fun L1 => ZeL k (Zp2 k) L1) k
noncomputable def ZDm (k:Nat) (n:Nat) (v:YI) :=
 Zt (ZJ k) ZKM [] [1,1,0,1,0] [] (Q4 Tryz.f75) (Q8 (ZJ k) Tryz.f75 Qy Ze [] []) n (ZTl v)
def Zjz (k:Nat) (L1:ZbG):List Int × Unit → Option (Int × Unit)
 | (a0,()) => L1 (0,a0,(0:Int))
end Go.Sh
