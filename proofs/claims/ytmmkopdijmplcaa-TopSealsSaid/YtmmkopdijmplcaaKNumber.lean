/-
  number of the code and of the reference: for every text that fits an int both return its bytes as a number.
-/
import Derived.Test.YtmmkopdijmplcaaRows
import Derived.Test.YtmmkopdijmplcaaBase
import Derived.Test.YtmmkopdijmplcaaPut
import Derived.Test.YtmmkopdijmplcaaBits
import Derived.Test.YtmmkopdijmplcaaNum
import Derived.Test.YtmmkopdijmplcaaKSum
set_option maxRecDepth 100000
namespace Go.Proofs.Ytmmkopdijmplcaa
open Go.RowKit Base
set_option maxHeartbeats 400000 in
theorem number_any (s : ByteArray) (w : World) (hs : s.size ≤ maxLen) :
    Calls Try.prog 44 #[.string s] w fun e w' => e = .returned (.int .i64 (num64 s.data.toList).toInt) ∧ Below w.heap.size w w' := by
  obtain ⟨cap, w1, hrun, hbel, hcap, _, hcell⟩ := conv_str w 9 82 5 s Try.underlying9 Try.underlying82 Try.underlying5
  unfold maxLen at hs
  go_enter Try.func44, Try.ntmps44
  go_wp2
  go_loop [3, 5, 9] (fun r c i => ∃ k : Nat, k ≤ s.size ∧ i = .int .i64 k ∧ r = .int .i64 (num64 (s.data.toList.take k)).toInt) (fun _ _ i => s.size - (intOf i).toNat)
  case atStart => exact ⟨0, Nat.zero_le _, rfl, rfl⟩
  case round =>
    obtain ⟨k, hk, rfl, rfl⟩ := hrel
    by_cases hlt : k < s.size
    · have hc := hcell k hlt
      clear hcell hrun
      have HT : Hid (num64 (s.data.toList.take (k + 1)) = n64 (num64 (s.data.toList.take k)) (s.data.toList.getD k 0)) := by
        rw [take_getD _ k (by simpa using hlt), num64_snoc]
        exact rfl
      generalize s.data.toList.getD k 0 = c at hc HT
      unfold bv at hc
      have hb : c.toNat < 256 := c.toNat_lt
      generalize num64 (s.data.toList.take k) = X at HT ⊢
      go_wp2
      go_round
      case rel => exact ⟨k + 1, by omega, by go_num, by rw [HT.out, n64_i64]⟩
      case measure => simp [intOf]; omega
    · obtain rfl : k = s.size := by omega
      have hl : s.data.toList.take s.size = s.data.toList := List.take_of_length_le (by simp)
      rw [hl]
      clear hl hrun hcell
      go_wp2
      go_ret
      exact ⟨rfl, hbel⟩

end Go.Proofs.Ytmmkopdijmplcaa
