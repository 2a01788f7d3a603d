import Derived.Test.YtfljgkbgnfbhlaaDoorDP9
set_option linter.unusedSimpArgs false
namespace Go.Sh
open Go Go.Proofs

theorem bytesOf_size (l : List Int) : (bytesOf l).size = l.length := by
  show (List.map (fun n : Int => UInt8.ofNat n.toNat) l).toArray.size = l.length
  simp
theorem page_len {n : Nd} (h : nodeSz n ≤ 256) : (bytesOf (pageInts n)).size = 256 := by
  rw [bytesOf_size, pageInts, List.length_append, body_len, List.length_replicate]; omega

end Go.Sh
