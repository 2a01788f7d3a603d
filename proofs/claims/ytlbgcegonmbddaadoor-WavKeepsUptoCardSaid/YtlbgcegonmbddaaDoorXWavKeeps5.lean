/-
  What the row needs, part 5.
-/
import Derived.Test.YtlbgcegonmbddaaDoorXWavKeeps4
import Derived.Lib.SliceRun
import Derived.Shelf.Strings.Builder1
set_option linter.unusedSimpArgs false
set_option linter.unusedVariables false
set_option linter.unusedSectionVars false
namespace Go.Sh
open Go
variable [Gl]
variable {C:Ctx} {G:Glob} {σ:QM} {w:World} {lim:Nat → Nat} {st:St} {a:Act}
theorem WH.forget {n:Nat} (h:WH G n st a w) {e:Nat → AV} (he:∀ s,e s = .dead ∨ e s = st.env s):WH G n ⟨e,st.tbl⟩ a w:=by
 obtain ⟨σ,lim,h,h2⟩:=h
 refine ⟨σ,lim,⟨{ h.1 with env:=fun s => ?_,known:=fun s => ?_ },⟨fun s r hr => ?_,h.2.box,h.2.pins⟩⟩,h2⟩
 ·rcases he s with e1 | e1
  ·simp only [e1,RA]
  ·simp only [e1]; exact h.1.env s
 ·rcases he s with e1 | e1
  ·simp [e1,Za,Ze]
  ·simp only [e1]; exact h.1.known s
 ·rcases he s with e1 | e1
  ·simp [e1,Za] at hr
  ·simp only [e1] at hr; exact h.2.env s r hr
theorem QC.quiet (h:QC G σ lim st a.tmps w) {v:AV} {x:Value} (hv:RA σ w lim v x) (hk:Za v = []) (d:Option Nat) (hd:∀ x,d = some x → x < a.tmps.size):QC G σ lim ⟨Q9 st.env d v,st.tbl⟩ (a.put d x).tmps w:=by
 have:=RelW.step h.1 (Upd.quiet (v:=v) (x:=x) h.1 hv (by rw [hk]; exact Zh)) d hd
 simp only [ZS] at this
 exact ⟨this,h.2.set (by rw [hk]; simp)⟩
end Go.Sh
