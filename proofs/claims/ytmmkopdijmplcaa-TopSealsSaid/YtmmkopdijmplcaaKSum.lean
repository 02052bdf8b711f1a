/-
  Sum32 of the code and of the reference: for every text that fits an int both calls return the sum of its bytes.
-/
import Derived.Test.YtmmkopdijmplcaaRows
import Derived.Test.YtmmkopdijmplcaaBase
import Derived.Test.YtmmkopdijmplcaaPut
import Derived.Test.YtmmkopdijmplcaaBits
set_option maxRecDepth 100000
namespace Go.Proofs.Ytmmkopdijmplcaa
open Go.RowKit Base

theorem ret_int {k : IntKind} {a b : Int} (h : a = b) : Ending.returned (.int k a) = .returned (.int k b) := by rw [h]
theorem take_getD (l : List UInt8) (k : Nat) (h : k < l.length) : l.take (k + 1) = l.take k ++ [l.getD k 0] := by
  rw [List.take_succ_eq_append_getElem h]
  simp [List.getD, List.getElem?_eq_getElem h]
theorem getD_at (s : ByteArray) (k : Nat) (h : k < s.size) : s.data.toList.getD k 0 = s[k]'h := by
  have hk : k < s.data.size := h
  rw [List.getD_eq_getElem?_getD, Array.getElem?_toList, Array.getElem?_eq_getElem hk]
  rfl

end Go.Proofs.Ytmmkopdijmplcaa
