/-
  Sum, Mac of the document's hash, as the laws of the hash ask for them.
-/
import Derived.Test.YtcllcajkmimgbaaRPad
import Derived.Test.YtcllcajkmimgbaaHArgs
set_option linter.unusedVariables false
namespace Go.Proofs.Ytcllcajkmimgbaa.RH
open Go.RowKit Base HH
theorem rSum_v {s t : ByteArray} {w : World} (hs : s.size ≤ 140737488360000) (ht : Hid (str (Sha.sha s.data.toList) = t)) :
    Calls Try.prog 13 #[.string s] w fun e w' => e = .returned (.string t) ∧ Below w.heap.size w w' := by
  go_enter Try.func13, Try.ntmps13
  go_wp2_with fail
  refine (keys_any _).mono ?_
  rintro e w1 ⟨g, cap, rfl, hK, hb1⟩
  go_wp2_with fail
  refine (rsum_any hs hK ht).mono ?_
  rintro e w2 ⟨rfl, hb2'⟩
  have hb2 := hb1.trans (hb2'.mono hb1.size)
  go_wp2_with fail
  go_ret
  exact ⟨rfl, hb2⟩
theorem rMac_v {s r t : ByteArray} {w : World} (hs : s.size ≤ 140737488355328) (hr : r.size ≤ 140737488355328) (ht : Hid (str (Sha.mac s.data.toList r.data.toList) = t)) :
    Calls Try.prog 15 #[.string s, .string r] w fun e w' => e = .returned (.string t) ∧ Below w.heap.size w w' := by
  rw [← ht.out]
  exact rMac_any s r w hs hr
end Go.Proofs.Ytcllcajkmimgbaa.RH
