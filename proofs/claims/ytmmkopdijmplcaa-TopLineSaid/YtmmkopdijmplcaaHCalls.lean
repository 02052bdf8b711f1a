/-
  hash.Sum: for all texts of no more than 2^60 bytes the call returns the sum.
-/
import Derived.Test.YtmmkopdijmplcaaHSumm
namespace Go.Proofs.Ytmmkopdijmplcaa.HH
open Go.RowKit Base
set_option maxHeartbeats 1000000 in
theorem sum_any (s : ByteArray) (w : World) (hs : s.size ≤ 1152921504606846975) : Calls Try.prog 48 #[.string s] w fun e w' => e = .returned (.string (str (Sha.sha s.data.toList))) ∧ Below w.heap.size w w' := by
  go_enter Try.func48, Try.ntmps48
  go_wp2_with fail
  refine (new_hash w).mono ?_
  rintro e w1 ⟨rfl, hh1, hb1, hz1⟩
  go_wp2_with fail
  refine (write_any hh1 s (by simp; omega)).mono ?_
  rintro e w2 ⟨rfl, hh2, hg2⟩
  rw [List.nil_append] at hh2
  have hb2 : Below w.heap.size w w2 := hb1.grown hg2 hb1.size (fun k e => by injection e with e; omega)
  clear hh1 hg2 hb1 hz1
  go_wp2_with fail
  refine (summ_any hh2 hs).mono ?_
  rintro e w3 ⟨rfl, hb3⟩
  have hb4 := hb2.trans (hb3.mono hb2.size)
  clear hh2 hb3 hb2
  go_wp2_with fail
  go_ret
  exact ⟨rfl, hb4⟩
end Go.Proofs.Ytmmkopdijmplcaa.HH
