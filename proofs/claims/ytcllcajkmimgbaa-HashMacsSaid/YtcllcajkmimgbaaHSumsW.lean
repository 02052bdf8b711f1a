/-
  The walks of HashSums and HashMacs: for all texts within the reach the calls return true.
-/
import Derived.Test.YtcllcajkmimgbaaRTop
set_option linter.unusedVariables false
namespace Go.Proofs.Ytcllcajkmimgbaa.hsums
open Go.RowKit Base HH RH
set_option maxRecDepth 8000 in
theorem walk (W : World) {s : ByteArray} (hs : s.size ≤ 140737488355327) :
    Calls Try.prog 3 #[.string s] W fun e w' => e = .returned (.bool true) ∧ Below W.heap.size W w' := by
  obtain ⟨t, ht⟩ : ∃ t, str (Sha.sha s.data.toList) = t := ⟨_, rfl⟩
  replace ht := Lib.hid ht
  have q1 : (t.toList == t.toList) = true := beq_self_eq_true _
  go_enter Try.func3, Try.ntmps3
  go_wp2_with fail
  refine (fixed_any W).mono ?_
  rintro e w1 ⟨rfl, hb1⟩
  go_wp2_with fail
  (with_reducible refine (sum_v (by omega) ht).mono ?_)
  rintro e w2 ⟨rfl, hb2'⟩
  have hb2 := hb1.trans (hb2'.mono hb1.size)
  clear hb1 hb2'
  go_wp2_with fail
  (with_reducible refine (rSum_v (by omega) ht).mono ?_)
  rintro e w3 ⟨rfl, hb3'⟩
  have hb3 := hb2.trans (hb3'.mono hb2.size)
  clear hb2 hb3'
  go_wp2_with fail
  go_ret
  exact ⟨rfl, hb3⟩
end Go.Proofs.Ytcllcajkmimgbaa.hsums
namespace Go.Proofs.Ytcllcajkmimgbaa.hmacs
open Go.RowKit Base HH RH
set_option maxRecDepth 8000 in
theorem walk (W : World) {s r : ByteArray} (hs : s.size ≤ 140737488355327) (hr : r.size ≤ 140737488355327) :
    Calls Try.prog 4 #[.string s, .string r] W fun e w' => e = .returned (.bool true) ∧ Below W.heap.size W w' := by
  obtain ⟨t, ht⟩ : ∃ t, str (Sha.mac s.data.toList r.data.toList) = t := ⟨_, rfl⟩
  replace ht := Lib.hid ht
  have q1 : (t.toList == t.toList) = true := beq_self_eq_true _
  have h1 : short s := by unfold short; omega
  have h2 : short r := by unfold short; omega
  go_enter Try.func4, Try.ntmps4
  go_wp2_with fail
  refine (fixed_any W).mono ?_
  rintro e w1 ⟨rfl, hb1⟩
  go_wp2_with fail
  (with_reducible refine (mac_v h1 h2 ht).mono ?_)
  rintro e w2 ⟨rfl, hb2'⟩
  have hb2 := hb1.trans (hb2'.mono hb1.size)
  clear hb1 hb2'
  go_wp2_with fail
  (with_reducible refine (rMac_v (by omega) (by omega) ht).mono ?_)
  rintro e w3 ⟨rfl, hb3'⟩
  have hb3 := hb2.trans (hb3'.mono hb2.size)
  clear hb2 hb3'
  go_wp2_with fail
  go_ret
  exact ⟨rfl, hb3⟩
end Go.Proofs.Ytcllcajkmimgbaa.hmacs
