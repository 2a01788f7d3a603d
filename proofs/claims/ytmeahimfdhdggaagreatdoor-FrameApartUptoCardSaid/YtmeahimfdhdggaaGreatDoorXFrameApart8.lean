/-
  What the row needs, part 8.
-/
import Derived.Test.YtmeahimfdhdggaaGreatDoorXFrameApart7
import Derived.Shelf.Spec.TrailingZeros
import Derived.Shelf.Strconv.Itoa0
set_option linter.unusedSimpArgs false
set_option linter.unusedVariables false
set_option linter.unusedSectionVars false
open Bool renaming and_eq_true→Jh
open Option renaming bind_eq_some_iff→Uy,some→VF
namespace Go.Sh
open Go
variable [Gl]
variable {P:Program} {ρ:Shelf.Ren} {w:World} {lim:Nat → Nat}
def tzF (x:Int × Unit):Option (Int × Unit):=bif decide (0 ≤ x.1) && decide (x.1 < 18446744073709551616) then some (((Lib.ctz 64 x.1.toNat:Nat):Int),()) else none
theorem ZIF (L:Proofs.Lays7.n29 P ρ) {k f:Nat} {fn:Func} (htab:(Gl.tab (ρ.g 1)) = (.u8,Lib.deBruijn64tab.map fun (n:Nat) => (n:Int))) (hf:ρ.f 29 = f) (hfn:P.funcs[f]? = some fn) (hname:(fn.name == "runtime.NumGoroutine") = false) (hbody:fn.body.isNone = false) :
  Ctr P k f (mk [.view (.int .u64)] (.view (.int .i64)) fun _ x => tzF x) where
 enters:=⟨fn,hfn,hname,hbody⟩
 calls:=by
  intro rvs x hx w lim vs bs hlz hgl hT0 hnd hbs
  simp only [mk] at hx
  obtain ⟨y,hy1,hy2⟩:=Uy.1 hx
  have hrv:=QU [.view (.int .u64)] rvs y hy1
  obtain ⟨n,u⟩:=y
  change Int at n
  change Unit at u
  subst hrv
  simp only [tzF] at hy2
  cases hc:(decide (0 ≤ n) && decide (n < 18446744073709551616)) with
  | false => rw [hc] at hy2; simp at hy2
  | true =>
   rw [hc] at hy2
   simp only [Jh,decide_eq_true_eq] at hc
   obtain rfl:=(VF.inj hy2).symm
   show Calls P f vs.toArray w (Zw9 w lim vs bs [.view (.int .u64)] (.view (.int .i64) _,[]))
   simp only [WO,enc] at hT0
   match vs,hT0 with
   | [v1],hT0 =>
    simp only [TTs] at hT0
    obtain ⟨b1,b2,rfl,h1,rfl⟩:=hT0
    obtain ⟨rfl,rfl⟩:=Zs4 h1
    subst hf
    obtain ⟨m,rfl⟩:=Int.eq_ofNat_of_zero_le hc.1
    refine (Proofs.Any7.bits_TrailingZeros64 L m (by omega) w (fun _ j hj => ?_)).mono ?_
    ·have:=(hgl (ρ.g 1) j ((Lib.deBruijn64tab.getD j 0:Nat):Int) (by
      rw [htab]; simp only [List.getElem?_map]
      rw [List.getD_eq_getElem?_getD,List.getElem?_eq_getElem hj]; rfl)).1
     rw [htab] at this
     exact this
    ·rintro e w' ⟨rfl,rfl⟩
     exact ZlM hlz (RowKit.Below.refl _ _) (Zsm _ _) (by simp [TL,ZI,WT]) (by simp) (by simp)
def ZDm (x:Int × Unit):Option (Int × Unit):=bif decide (0 ≤ x.1) && decide (x.1 < 18446744073709551616) then some (((Lib.bitLen x.1.toNat:Nat):Int),()) else none
theorem Zy9 (L:Proofs.Lays.n129 P ρ) {k f:Nat} {fn:Func} (hf:ρ.f 129 = f) (hfn:P.funcs[f]? = some fn) (hname:(fn.name == "runtime.NumGoroutine") = false) (hbody:fn.body.isNone = false) :
  Ctr P k f (mk [.view (.int .u64)] (.view (.int .i64)) fun _ x => ZDm x) where
 enters:=⟨fn,hfn,hname,hbody⟩
 calls:=by
  intro rvs x hx w lim vs bs hlz hgl hT0 hnd hbs
  simp only [mk] at hx
  obtain ⟨y,hy1,hy2⟩:=Uy.1 hx
  have hrv:=QU [.view (.int .u64)] rvs y hy1
  obtain ⟨n,u⟩:=y
  change Int at n
  change Unit at u
  subst hrv
  simp only [ZDm] at hy2
  cases hc:(decide (0 ≤ n) && decide (n < 18446744073709551616)) with
  | false => rw [hc] at hy2; simp at hy2
  | true =>
   rw [hc] at hy2
   simp only [Jh,decide_eq_true_eq] at hc
   obtain rfl:=(VF.inj hy2).symm
   show Calls P f vs.toArray w (Zw9 w lim vs bs [.view (.int .u64)] (.view (.int .i64) _,[]))
   simp only [WO,enc] at hT0
   match vs,hT0 with
   | [v1],hT0 =>
    simp only [TTs] at hT0
    obtain ⟨b1,b2,rfl,h1,rfl⟩:=hT0
    obtain ⟨rfl,rfl⟩:=Zs4 h1
    subst hf
    refine (Proofs.Any.bits_Len64 L n w hc.1 (by omega)).mono ?_
    rintro e w' ⟨rfl,rfl⟩
    exact ZlM hlz (RowKit.Below.refl _ _) (Zsm _ _) (by simp [TL,ZI,WT]) (by simp) (by simp)
end Go.Sh
