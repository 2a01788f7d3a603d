/-
  What the row needs, part 7.
-/
import Derived.Test.YtgbhjfacjekhcaaGreatDoorXStreamApart6
import Derived.Test.YtgbhjfacjekhcaaGreatDoorProg
import Derived.KernelRfl
set_option linter.unusedSimpArgs false
set_option linter.unusedVariables false
set_option linter.unusedSectionVars false
open Array renaming getElem?_eq_some_iff→UF
open Go.IntKind renaming i64→Jx
open Nat renaming zero_le→UH
open Go.Value renaming pointer→UI
namespace Go.Sh
open Go Go.Proofs
section
variable [Gl]
noncomputable def s8:Code:=Tryz.f8.body.getD .skip
noncomputable def s8P (n:Nat):Code:=match n with
 | 0 => (cr (cr (cr (cr (cr (cr (cr (cr (cr s8)))))))))
 | 1 => (cr (cr (cr (cr (cr (cr (cr (cr (cr (cr s8))))))))))
 | _ => (cr (cr (cr (cr (cr (cr (cr (cr (cr (cr (cr s8)))))))))))
noncomputable def ZUk:Code:=cr (cl (s8P 0))
noncomputable def ZUP:Code:=cr (cb (cl (cr (cb (cb ZUk)))))
noncomputable def ZUQ:Code:=cr (cl (s8P 1))
def ZRb (w1 w2:World) (A:Option Addr) (len:Nat):Prop:=len < 4294967296 ∧ ∀ k,k < len → ∃ b o m,A = some ⟨b,o,none⟩ ∧ w2.cell? ⟨b,o + k,none⟩ = some (.int .i64 m) ∧ w1.heap.size ≤ b ∧ b < w2.heap.size ∧ w2.frozen? ⟨b,o + k,none⟩ = false
def ZRc (w1 w2:World) (A:Option Addr) (len:Nat):Prop:=len < 4294967296 ∧ ∀ k,k < len → ∃ b o s,A = some ⟨b,o,none⟩ ∧ w2.cell? ⟨b,o + k,none⟩ = some (.string s) ∧ w1.heap.size ≤ b ∧ b < w2.heap.size ∧ w2.frozen? ⟨b,o + k,none⟩ = false
def ZIi (w1 w2:World) (A:Option Addr) (n:Nat):Prop:=n < 4294967296 ∧ ∀ i,i < n → ∃ bo oo A' len cap,A = some ⟨bo,oo,none⟩ ∧ w2.cell? ⟨bo,oo + i,none⟩ = some (.slice A' len cap) ∧ ZRb w1 w2 A' len
structure LW (w1 w2 w:World) (b7:Nat) (cs7:Array Value) (T:TypeId):Prop where
 lo:Loose w1 w2 w
 box:w.heap[b7]? = some (.cells cs7 T (0,0))
 new:w2.heap.size ≤ b7
theorem LW.next {w1 w2 w w':World} {b7:Nat} {cs7:Array Value} {T:TypeId} (h:LW w1 w2 w b7 cs7 T) (k:Keep w w'):LW w1 w2 w' b7 cs7 T :=
 ⟨h.lo.next k,(k.old b7 (QS h.box)).trans h.box,h.new⟩
theorem LW.set {w1 w2 w:World} {b7:Nat} {cs7:Array Value} {T:TypeId} (h:LW w1 w2 w b7 cs7 T) {b off:Nat} {cur:Array Value} {U:TypeId} {fz:Nat × Nat} (hb:w.heap[b]? = some (.cells cur U fz)) (hb1:w1.heap.size ≤ b) (hb2:b < w2.heap.size) {x:Value}
  (hx:(∃ k m m',cur[off]? = some (.int k m) ∧ x = .int k m') ∨ (∃ s s',cur[off]? = some (.string s) ∧ x = .string s')):LW w1 w2 (w.setRow b (cur.setIfInBounds off x)) b7 cs7 T :=
 ⟨h.lo.set hb hb1 hx,by rw [setRow_other w b b7 _ (by have:=h.new; omega)]; exact h.box,h.new⟩
noncomputable def ZPw:Array Field:=(match Tryz.prog.underlying 34 with | some (.struct fs) => fs | _ => #[])
theorem ZME:Tryz.prog.underlying 34 = some (.struct ZPw):=by kernel_rfl
noncomputable def ZHn (n:Nat):Field:=(ZPw[n]?).getD default
theorem hf1:ZPw[1]? = some (ZHn 1):=by kernel_rfl
theorem hf2:ZPw[2]? = some (ZHn 2):=by kernel_rfl
theorem ho1:3 = 0 + (ZHn 1).offset:=by kernel_rfl
theorem ho2:4 = 0 + (ZHn 2).offset:=by kernel_rfl
theorem hz1:Nat.beq (Tryz.prog.cellsOf (ZHn 1).type) 0 = false:=by kernel_rfl
theorem hz2:Nat.beq (Tryz.prog.cellsOf (ZHn 2).type) 0 = false:=by kernel_rfl
theorem ZS5 {w1 w2:World} {Q:Exit → En → World → Prop} {Fe:List (Nat × Value)} (hFe:∀ p ∈ Fe,p.1 < 9) {b7:Nat} {cs7:Array Value} (h7:(7,UI (some ⟨b7,0,none⟩)) ∈ Fe) {bo oo n cap:Nat} (hc7:cs7.toList[4]? = some (.slice (some ⟨bo,oo,none⟩) n cap))
  {i:Nat} (hi:i < n) {A':Option Addr} {len cap':Nat} (hO:w2.cell? ⟨bo,oo + i,none⟩ = some (.slice A' len cap')) (hR:ZRb w1 w2 A' len) {e:En} {w:World} (hat:At Fe e) (h9:e 9 = .int .i64 (i:Int)) (h10:e 10 = .int .i64 0) (hW:LW w1 w2 w b7 cs7 34)
  (hQ:∀ e' w',At Fe e' → e' 9 = .int .i64 (i:Int) → LW w1 w2 w' b7 cs7 34 → Q .normal e' w'):T Tryz.prog 112 ZUP Q e w:=by
 refine T.block (T.loop (fun e w => ∃ k:Nat,At Fe e ∧ e 9 = .int .i64 (i:Int) ∧ e 10 = .int .i64 (k:Int) ∧ k ≤ len ∧ LW w1 w2 w b7 cs7 34) (fun e _ => len - iv (e 10)) ⟨0,hat,h9,h10,UH _,hW⟩ ?_)
 rintro e w ⟨k,g1,g2,g3,g4,g5⟩
 refine T.seq (T.seq (T.region (L.val 60 (Z7 (x:=.tmp 10) (.inl rfl) g3) (L.val 61 (KR (x:=.tmp 7) (f:=2) (b:=b7) (off:=0) (off':=4) rfl (by exact g1 _ h7) ZME hf2 hz2 ho2)
  (L.val 62 (ZjH (x:=.tmp 61) (v:=.slice (some ⟨bo,oo,none⟩) n cap) rfl rfl g5.box (dd:=.slice 61) (by kernel_rfl) rfl hc7) (L.val 63 (Z7 (x:=.tmp 9) (.inl rfl) g2)
  (L.val 64 (ZbI (x:=.tmp 62) (y:=.tmp 63) (e':=61) (t:=.sl (.int .i64)) (b:=bo) (off:=oo) (len:=n) (cap:=cap) (i:=(i:Int)) rfl (by kernel_rfl) rfl rfl (by omega) (by omega) (off':=oo + i) (by simp [Ty.size]))
  (L.val 65 (ZE9 (x:=.tmp 64) (v:=.slice A' len cap') rfl rfl (g5.lo.sl _ _ _ _ _ hO) (dd:=.slice 3) (by kernel_rfl) rfl)
  (L.val 66 (ZM8 (x:=.tmp 65) (A:=A') (len:=len) (cap:=cap') rfl rfl (el:=3) (by kernel_rfl))
  (L.val 67 (ZgM (x:=.tmp 60) (y:=.tmp 66) rfl rfl rfl rfl (v:=.bool (decide ((k:Int) < (len:Int)))) rfl) (L.nil ?_)))))))))))
 by_cases hk:k < len
 ·refine T.condT (by show Value.bool _ = _; simp; exact hk) (T.skip ?_)
  obtain ⟨b,o,m,rfl,hc,hb1,hb2,hf⟩:=hR.2 k hk
  obtain ⟨m',hc'⟩:=g5.lo.int _ _ _ _ hc
  obtain ⟨cur,U,fz,hcur,hat'⟩:=ZfC hc'
  have hlt:=hR.1
  refine T.seq (T.block (T.region (L.val 70 (KR (x:=.tmp 7) (f:=2) (b:=b7) (off:=0) (off':=4) rfl (by exact g1 _ h7) ZME hf2 hz2 ho2)
   (L.val 71 (ZjH (x:=.tmp 70) (v:=.slice (some ⟨bo,oo,none⟩) n cap) rfl rfl g5.box (dd:=.slice 61) (by kernel_rfl) rfl hc7) (L.val 72 (Z7 (x:=.tmp 9) (.inl rfl) g2)
   (L.val 73 (ZbI (x:=.tmp 71) (y:=.tmp 72) (e':=61) (t:=.sl (.int .i64)) (b:=bo) (off:=oo) (len:=n) (cap:=cap) (i:=(i:Int)) rfl (by kernel_rfl) rfl rfl (by omega) (by omega) (off':=oo + i) (by simp [Ty.size]))
   (L.val 74 (ZE9 (x:=.tmp 73) (v:=.slice (some ⟨b,o,none⟩) len cap') rfl rfl (g5.lo.sl _ _ _ _ _ hO) (dd:=.slice 3) (by kernel_rfl) rfl)
   (L.val 75 (Z7 (x:=.tmp 10) (.inl rfl) g3)
   (L.val 76 (ZbI (x:=.tmp 74) (y:=.tmp 75) (e':=3) (t:=.int .i64) (b:=b) (off:=o) (len:=len) (cap:=cap') (i:=(k:Int)) rfl (by kernel_rfl) rfl rfl (by omega) (by omega) (off':=o + k) (by simp [Ty.size]))
   (L.unit (Zzj (x:=.tmp 76) (y:=.const (.int .i64 77)) (b:=b) (off:=o + k) rfl rfl rfl rfl hcur (UF.1 hat').1 ((g5.lo.frz _ _ hb2).trans hf) (dd:=.int .i64) (by kernel_rfl) (by kernel_rfl)) (L.nil ?_)))))))))))
  have W2:=g5.set (x:=.int .i64 77) hcur hb1 hb2 (.inl ⟨_,_,_,hat',rfl⟩)
  refine T.region (L.val 68 (Z7 (x:=.tmp 10) (.inl rfl) g3) (L.val 69 (ZgM (x:=.tmp 68) rfl rfl rfl rfl (v:=.int .i64 (Jx.wrap ((k:Int) + 1))) rfl) (L.val 10 (Z7 (x:=.tmp 69) (.inr rfl) rfl) (L.nil ?_))))
  have hw:=ZlR (k:=k) (by omega)
  refine ⟨⟨k + 1,?_,g2,by rw [hw]; rfl,by omega,W2⟩,?_⟩
  ·exact g1.same hFe (fun s hs => by
    simp only [upd]
    rw [ZA (show s ≠ 10 by omega),ZA (show s ≠ 69 by omega),ZA (show s ≠ 68 by omega),ZA (show s ≠ 76 by omega),ZA (show s ≠ 75 by omega),ZA (show s ≠ 74 by omega),ZA (show s ≠ 73 by omega),ZA (show s ≠ 72 by omega),ZA (show s ≠ 71 by omega),ZA (show s ≠ 70 by omega),ZA (show s ≠ 67 by omega),ZA (show s ≠ 66 by omega),
     ZA (show s ≠ 65 by omega),ZA (show s ≠ 64 by omega),ZA (show s ≠ 63 by omega),ZA (show s ≠ 62 by omega),ZA (show s ≠ 61 by omega),ZA (show s ≠ 60 by omega)]
    rfl)
  ·rw [g3]
   show len - (Jx.wrap ((k:Int) + 1)).toNat < len - ((k:Int)).toNat
   rw [hw]; simp; omega
 ·refine T.condF (by show Value.bool _ = _; simp; omega) (T.exit ?_)
  simp only [nx,bk,if_true]
  exact hQ _ _ (g1.same hFe (fun s hs => by
    simp only [upd]
    rw [ZA (show s ≠ 67 by omega),ZA (show s ≠ 66 by omega),ZA (show s ≠ 65 by omega),ZA (show s ≠ 64 by omega),ZA (show s ≠ 63 by omega),ZA (show s ≠ 62 by omega),ZA (show s ≠ 61 by omega),ZA (show s ≠ 60 by omega)]
    rfl)) g2 g5
theorem ZS6 {w1 w2:World} {Q:Exit → En → World → Prop} {Fe:List (Nat × Value)} (hFe:∀ p ∈ Fe,p.1 < 9) {b7:Nat} {cs7:Array Value} (h7:(7,UI (some ⟨b7,0,none⟩)) ∈ Fe) {A:Option Addr} {n cap:Nat} (hc7:cs7.toList[4]? = some (.slice A n cap)) (hR:ZIi w1 w2 A n)
  {e:En} {w:World} (hat:At Fe e) (h9:e 9 = .int .i64 0) (hW:LW w1 w2 w b7 cs7 34) (hQ:∀ e' w',At Fe e' → LW w1 w2 w' b7 cs7 34 → Q .normal e' w'):T Tryz.prog 112 ZUk Q e w:=by
 refine T.block (T.loop (fun e w => ∃ i:Nat,At Fe e ∧ e 9 = .int .i64 (i:Int) ∧ i ≤ n ∧ LW w1 w2 w b7 cs7 34) (fun e _ => n - iv (e 9)) ⟨0,hat,h9,UH _,hW⟩ ?_)
 rintro e w ⟨i,g1,g2,g3,g5⟩
 refine T.seq (T.seq (T.region (L.val 53 (Z7 (x:=.tmp 9) (.inl rfl) g2) (L.val 54 (KR (x:=.tmp 7) (f:=2) (b:=b7) (off:=0) (off':=4) rfl (by exact g1 _ h7) ZME hf2 hz2 ho2)
  (L.val 55 (ZjH (x:=.tmp 54) (v:=.slice A n cap) rfl rfl g5.box (dd:=.slice 61) (by kernel_rfl) rfl hc7) (L.val 56 (ZM8 (x:=.tmp 55) (A:=A) (len:=n) (cap:=cap) rfl rfl (el:=61) (by kernel_rfl))
  (L.val 57 (ZgM (x:=.tmp 53) (y:=.tmp 56) rfl rfl rfl rfl (v:=.bool (decide ((i:Int) < (n:Int)))) rfl) (L.nil ?_))))))))
 have hlt:=hR.1
 by_cases hk:i < n
 ·refine T.condT (by show Value.bool _ = _; simp; exact hk) (T.skip ?_)
  obtain ⟨bo,oo,A',len,cap',rfl,hc,hRi⟩:=hR.2 i hk
  refine T.seq (T.block (T.seq (T.region (L.val 10 (Z7 (x:=.const (.int .i64 0)) (.inr rfl) rfl) (L.nil ?_)))))
  refine ZS5 hFe h7 hc7 hk hc hRi (g1.same hFe (fun s hs => by
    simp only [upd]
    rw [ZA (show s ≠ 10 by omega),ZA (show s ≠ 57 by omega),ZA (show s ≠ 56 by omega),ZA (show s ≠ 55 by omega),ZA (show s ≠ 54 by omega),ZA (show s ≠ 53 by omega)]
    rfl)) g2 rfl g5 ?_
  intro e' w' p1 p2 p3
  refine T.region (L.val 58 (Z7 (x:=.tmp 9) (.inl rfl) p2) (L.val 59 (ZgM (x:=.tmp 58) rfl rfl rfl rfl (v:=.int .i64 (Jx.wrap ((i:Int) + 1))) rfl) (L.val 9 (Z7 (x:=.tmp 59) (.inr rfl) rfl) (L.nil ?_))))
  have hw:=ZlR (k:=i) (by omega)
  refine ⟨⟨i + 1,?_,by rw [hw]; rfl,by omega,p3⟩,?_⟩
  ·exact p1.same hFe (fun s hs => by simp only [upd]; rw [ZA (show s ≠ 9 by omega),ZA (show s ≠ 59 by omega),ZA (show s ≠ 58 by omega)]; rfl)
  ·rw [g2]
   show n - (Jx.wrap ((i:Int) + 1)).toNat < n - ((i:Int)).toNat
   rw [hw]; simp; omega
 ·refine T.condF (by show Value.bool _ = _; simp; omega) (T.exit ?_)
  simp only [nx,bk,if_true]
  exact hQ _ _ (g1.same hFe (fun s hs => by
    simp only [upd]
    rw [ZA (show s ≠ 57 by omega),ZA (show s ≠ 56 by omega),ZA (show s ≠ 55 by omega),ZA (show s ≠ 54 by omega),ZA (show s ≠ 53 by omega)]
    rfl)) g5
theorem ZUm {w1 w2:World} {Q:Exit → En → World → Prop} {Fe:List (Nat × Value)} (hFe:∀ p ∈ Fe,p.1 < 9) {b7:Nat} {cs7:Array Value} (h7:(7,UI (some ⟨b7,0,none⟩)) ∈ Fe) {A:Option Addr} {n cap:Nat} (hc7:cs7.toList[3]? = some (.slice A n cap)) (hR:ZRc w1 w2 A n)
  {e:En} {w:World} (hat:At Fe e) (h11:e 11 = .int .i64 0) (hW:LW w1 w2 w b7 cs7 34) (hQ:∀ e' w',At Fe e' → LW w1 w2 w' b7 cs7 34 → Q .normal e' w'):T Tryz.prog 112 ZUQ Q e w:=by
 refine T.block (T.loop (fun e w => ∃ i:Nat,At Fe e ∧ e 11 = .int .i64 (i:Int) ∧ i ≤ n ∧ LW w1 w2 w b7 cs7 34) (fun e _ => n - iv (e 11)) ⟨0,hat,h11,UH _,hW⟩ ?_)
 rintro e w ⟨i,g1,g2,g3,g5⟩
 refine T.seq (T.seq (T.region (L.val 77 (Z7 (x:=.tmp 11) (.inl rfl) g2) (L.val 78 (KR (x:=.tmp 7) (f:=1) (b:=b7) (off:=0) (off':=3) rfl (by exact g1 _ h7) ZME hf1 hz1 ho1)
  (L.val 79 (ZjH (x:=.tmp 78) (v:=.slice A n cap) rfl rfl g5.box (dd:=.slice 9) (by kernel_rfl) rfl hc7) (L.val 80 (ZM8 (x:=.tmp 79) (A:=A) (len:=n) (cap:=cap) rfl rfl (el:=9) (by kernel_rfl))
  (L.val 81 (ZgM (x:=.tmp 77) (y:=.tmp 80) rfl rfl rfl rfl (v:=.bool (decide ((i:Int) < (n:Int)))) rfl) (L.nil ?_))))))))
 have hlt:=hR.1
 by_cases hk:i < n
 ·refine T.condT (by show Value.bool _ = _; simp; exact hk) (T.skip ?_)
  obtain ⟨b,o,m,rfl,hc,hb1,hb2,hf⟩:=hR.2 i hk
  obtain ⟨m',hc'⟩:=g5.lo.str _ _ _ hc
  obtain ⟨cur,U,fz,hcur,hat'⟩:=ZfC hc'
  refine T.seq (T.block (T.region (L.val 84 (KR (x:=.tmp 7) (f:=1) (b:=b7) (off:=0) (off':=3) rfl (by exact g1 _ h7) ZME hf1 hz1 ho1)
   (L.val 85 (ZjH (x:=.tmp 84) (v:=.slice (some ⟨b,o,none⟩) n cap) rfl rfl g5.box (dd:=.slice 9) (by kernel_rfl) rfl hc7) (L.val 86 (Z7 (x:=.tmp 11) (.inl rfl) g2)
   (L.val 87 (ZbI (x:=.tmp 85) (y:=.tmp 86) (e':=9) (t:=.str) (b:=b) (off:=o) (len:=n) (cap:=cap) (i:=(i:Int)) rfl (by kernel_rfl) rfl rfl (by omega) (by omega) (off':=o + i) (by simp [Ty.size]))
   (L.unit (Zzj (x:=.tmp 87) (y:=.const (.string ⟨#[33]⟩)) (b:=b) (off:=o + i) rfl rfl rfl rfl hcur (UF.1 hat').1 ((g5.lo.frz _ _ hb2).trans hf) (dd:=.string) (by kernel_rfl) (by kernel_rfl)) (L.nil ?_))))))))
  have W2:=g5.set (x:=.string ⟨#[33]⟩) hcur hb1 hb2 (.inr ⟨_,_,hat',rfl⟩)
  refine T.region (L.val 82 (Z7 (x:=.tmp 11) (.inl rfl) g2) (L.val 83 (ZgM (x:=.tmp 82) rfl rfl rfl rfl (v:=.int .i64 (Jx.wrap ((i:Int) + 1))) rfl) (L.val 11 (Z7 (x:=.tmp 83) (.inr rfl) rfl) (L.nil ?_))))
  have hw:=ZlR (k:=i) (by omega)
  refine ⟨⟨i + 1,?_,by rw [hw]; rfl,by omega,W2⟩,?_⟩
  ·exact g1.same hFe (fun s hs => by
    simp only [upd]
    rw [ZA (show s ≠ 11 by omega),ZA (show s ≠ 83 by omega),ZA (show s ≠ 82 by omega),ZA (show s ≠ 87 by omega),ZA (show s ≠ 86 by omega),ZA (show s ≠ 85 by omega),ZA (show s ≠ 84 by omega),ZA (show s ≠ 81 by omega),ZA (show s ≠ 80 by omega),ZA (show s ≠ 79 by omega),ZA (show s ≠ 78 by omega),ZA (show s ≠ 77 by omega)]
    rfl)
  ·rw [g2]
   show n - (Jx.wrap ((i:Int) + 1)).toNat < n - ((i:Int)).toNat
   rw [hw]; simp; omega
 ·refine T.condF (by show Value.bool _ = _; simp; omega) (T.exit ?_)
  simp only [nx,bk,if_true]
  exact hQ _ _ (g1.same hFe (fun s hs => by
    simp only [upd]
    rw [ZA (show s ≠ 81 by omega),ZA (show s ≠ 80 by omega),ZA (show s ≠ 79 by omega),ZA (show s ≠ 78 by omega),ZA (show s ≠ 77 by omega)]
    rfl)) g5
end
end Go.Sh
