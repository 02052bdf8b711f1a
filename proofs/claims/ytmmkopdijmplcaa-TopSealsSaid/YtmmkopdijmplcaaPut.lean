/-
  code.Put: whatever the number and the width, the call returns the number's form and turns nothing that was there; no condition.
-/
import Derived.Test.YtmmkopdijmplcaaRows
import Derived.Test.YtmmkopdijmplcaaBase
set_option maxRecDepth 100000
namespace Go.Proofs.Ytmmkopdijmplcaa
open Go.RowKit Base

theorem infoU8 : (Try.prog.info? 5).map (fun i => (i.zero, i.size, i.bytes)) = some (some (.int .u8 0), 1, 1) := by kernel_rfl

/-- byte i of a number, the lowest first -/
def b8 (n : Int) (i : Nat) : UInt8 := UInt8.ofNat (n / 2 ^ (8 * i) % 256).toNat
/-- the first j of a number's k bytes, the highest first -/
def putTo (n : Int) (k j : Nat) : List UInt8 := (List.range j).map fun i => b8 n (k - 1 - i)
/-- a number's form -/
def putL (n k : Int) : List UInt8 := if 1 ≤ k ∧ k ≤ 8 then putTo n k.toNat k.toNat else []

theorem bv_b8 (n : Int) (i : Nat) : bv (b8 n i) = .int .u8 (n / 2 ^ (8 * i) % 256) := by
  unfold bv b8
  congr 1
  have h1 : 0 ≤ n / 2 ^ (8 * i) % 256 := Int.emod_nonneg _ (by decide)
  have h2 : n / 2 ^ (8 * i) % 256 < 256 := Int.emod_lt_of_pos _ (by decide)
  generalize n / 2 ^ (8 * i) % 256 = x at h1 h2
  simp only [UInt8.toNat_ofNat']
  omega
theorem putTo_succ (n : Int) (k j : Nat) : (putTo n k (j + 1)).map bv = (putTo n k j).map bv ++ [bv (b8 n (k - 1 - j))] := by
  simp [putTo, List.range_succ]

set_option maxHeartbeats 400000 in
theorem put_none (n k : Int) (w : World) (h : k < 1 ∨ 8 < k) :
    Calls Try.prog 18 #[.int .i64 n, .int .i64 k] w fun e w' => e = .returned (.string (str [])) ∧ w = w' := by
  rcases h with h | h
  · go_enter Try.func18, Try.ntmps18
    go_wp2
    go_ret
    exact ⟨rfl, rfl⟩
  · have h' : ¬ k < 1 := by omega
    go_enter Try.func18, Try.ntmps18
    go_wp2
    go_ret
    exact ⟨rfl, rfl⟩

set_option maxHeartbeats 400000 in
theorem put_some (n : Int) (k : Nat) (w : World) (h1 : 1 ≤ k) (h2 : k ≤ 8) :
    Calls Try.prog 18 #[.int .i64 n, .int .i64 k] w fun e w' => e = .returned (.string (str (putTo n k k))) ∧ Below w.heap.size w w' := by
  obtain ⟨i0, hi, hz0, hz1, hz2⟩ := info_parts infoU8
  go_enter Try.func18, Try.ntmps18
  go_wp2
  go_loopw [5, 6] (fun v i wr => ∃ j : Nat, j ≤ k ∧ i = .int .i64 (k - 1 - j) ∧ wr.ownsRow w.heap.size 5 1 v j ((putTo n k j).map bv) ∧ Below w.heap.size w wr)
    (fun _ i _ => (intOf i + 1).toNat)
  case atStart => exact ⟨0, by omega, by go_num, World.ownsRow_nil _ _ _ _, Below.refl _ _⟩
  case round =>
    obtain ⟨j, hj, rfl, hown, hbel⟩ := hrel
    by_cases hlt : j < k
    · have hge : 0 ≤ (k : Int) - 1 - (j : Int) := by omega
      have HB : Hid (bv (b8 n (k - 1 - j)) = .int .u8 (n / 2 ^ (8 * (k - 1 - j)) % 256)) := bv_b8 n (k - 1 - j)
      go_wp2_with (at_builtin; refine wpList_append_own _ rfl (.tmp 19) (.tmp 25) 82 rfl w.heap.size 5 i0 (.int .u8 0) 1 1 Try.underlying82 hi hz0 hz1 hz2 rfl (by decide) _ _ _ rfl (hown.alloc _) ⟨wr.heap.size, 0, none⟩ 1 1 [bv (b8 n (k - 1 - j))] rfl rfl ?c1 ?c2 ?c3 ?c4 ?c5 ?_)
      case c1 => rw [HB.out]; exact cell_one_new _ _ _
      case c2 => exact one_cell _ rfl
      case c3 => unfold maxLen; omega
      case c4 => omega
      case c5 => have := hbel.size; simp; omega
      intro v' w1 hown' hgrow _
      rw [← putTo_succ] at hown'
      have hbel' : Below w.heap.size w w1 := (hbel.alloc hbel.size _).grown hgrow (by have := hbel.size; simp; omega) (fun g hg => (hown.lt g hg).1)
      clear hown hgrow hbel HB
      go_wp2
      go_roundw
      case rel => exact ⟨j + 1, by omega, by go_num, hown', hbel'⟩
      case measure => simp [intOf]; omega
    · obtain rfl : j = k := by omega
      have hcv := run_back wr 82 9 5 Try.underlying82 Try.underlying5 Try.underlying9 hown
      go_wp2
      go_ret
      exact ⟨rfl, hbel⟩

/-- Put: whatever its arguments. -/
theorem put_any (n k : Int) (w : World) : Calls Try.prog 18 #[.int .i64 n, .int .i64 k] w fun e w' => e = .returned (.string (str (putL n k))) ∧ Below w.heap.size w w' := by
  by_cases h : 1 ≤ k ∧ k ≤ 8
  · obtain ⟨m, rfl⟩ := Int.eq_ofNat_of_zero_le (show 0 ≤ k by omega)
    have e : putL n (m : Int) = putTo n m m := by simp [putL, h]
    rw [e]
    exact put_some n m w (by omega) (by omega)
  · have e : putL n k = [] := by simp [putL, h]
    rw [e]
    exact (put_none n k w (by omega)).mono fun _ _ ⟨he, hw⟩ => ⟨he, hw ▸ Below.refl _ _⟩
end Go.Proofs.Ytmmkopdijmplcaa
