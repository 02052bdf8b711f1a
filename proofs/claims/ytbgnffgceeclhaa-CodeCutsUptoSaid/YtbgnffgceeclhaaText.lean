/-
  PutText of the code and of the reference, and the reference's Put: for every text that fits an int they return its form, or the error.
-/
import Derived.Test.YtbgnffgceeclhaaRows
import Derived.Test.YtbgnffgceeclhaaBase
import Derived.Test.YtbgnffgceeclhaaPut
import Derived.Test.YtbgnffgceeclhaaBits
namespace Go.Proofs.Ytbgnffgceeclhaa
open Go.RowKit Base
/-- the reference's byte: masked first, then cut -/
theorem and255 (x : Int) : bits .and .i64 x (255 : Int) % 256 = x % 256 := by
  show IntKind.i64.wrap (((BitVec.ofInt 64 x) &&& (BitVec.ofInt 64 255)).toNat : Int) % 256 = x % 256
  rw [IntKind.wrap_i64]
  have h : ((BitVec.ofInt 64 x) &&& (BitVec.ofInt 64 255)).toNat = (BitVec.ofInt 64 x).toNat % 256 := by
    rw [BitVec.toNat_and, show (BitVec.ofInt 64 255).toNat = 2 ^ 8 - 1 from rfl, Nat.and_two_pow_sub_one_eq_mod]
  rw [h, BitVec.toNat_ofInt]
  omega

set_option maxHeartbeats 400000 in
theorem rput_none (n k : Int) (w : World) (h : k < 1 ∨ 8 < k) :
    Calls Try.prog 14 #[.int .i64 n, .int .i64 k] w fun e w' => e = .returned (.string (str [])) ∧ Below w.heap.size w w' := by
  rcases h with h | h
  · go_enter Try.func14, Try.ntmps14
    go_wp2
    go_ret
    exact ⟨rfl, (Below.refl _ _).alloc (Nat.le_refl _) _⟩
  · have h' : ¬ k < 1 := by omega
    go_enter Try.func14, Try.ntmps14
    go_wp2
    go_ret
    exact ⟨rfl, (Below.refl _ _).alloc (Nat.le_refl _) _⟩

set_option maxHeartbeats 400000 in
theorem rput_some (n : Int) (k : Nat) (w : World) (h1 : 1 ≤ k) (h2 : k ≤ 8) :
    Calls Try.prog 14 #[.int .i64 n, .int .i64 k] w fun e w' => e = .returned (.string (str (putTo n k k))) ∧ Below w.heap.size w w' := by
  obtain ⟨i0, hi, hz0, hz1, hz2⟩ := info_parts infoU8
  go_enter Try.func14, Try.ntmps14
  go_wp2
  go_loopw [5, 6] (fun v i wr => ∃ j : Nat, j ≤ k ∧ i = .int .i64 (k - 1 - j) ∧ wr.ownsRow w.heap.size 5 1 v j ((putTo n k j).map bv) ∧ Below w.heap.size w wr)
    (fun _ i _ => (intOf i + 1).toNat)
  case atStart => exact ⟨0, by omega, by go_num, World.ownsRow_made w #[] 0 (Nat.le_refl _) (by unfold maxLen; omega) rfl, (Below.refl _ _).alloc (Nat.le_refl _) _⟩
  case round =>
    obtain ⟨j, hj, rfl, hown, hbel⟩ := hrel
    by_cases hlt : j < k
    · have hge : 0 ≤ (k : Int) - 1 - (j : Int) := by omega
      have HB : Hid (bv (b8 n (k - 1 - j)) = .int .u8 (bits .and .i64 (n / 2 ^ (8 * (k - 1 - j))) (255 : Int) % 256)) := by
        show _ = _
        rw [and255]; exact bv_b8 n (k - 1 - j)
      go_wp2_with (at_builtin; refine wpList_append_own _ rfl (.tmp 20) (.tmp 27) 30 rfl w.heap.size 5 i0 (.int .u8 0) 1 1 Try.underlying30 hi hz0 hz1 hz2 rfl (by decide) _ _ _ rfl (hown.alloc _) ⟨wr.heap.size, 0, none⟩ 1 1 [bv (b8 n (k - 1 - j))] rfl rfl ?c1 ?c2 ?c3 ?c4 ?c5 ?_)
      case c1 => rw [HB.out]; exact cell_one_new _ _ _
      case c2 => exact one_cell _ rfl
      case c3 => unfold maxLen; omega
      case c4 => omega
      case c5 => have := hbel.size; simp; omega
      intro v' w1 hown' hgrow _
      rw [← putTo_succ] at hown'
      have hbel' : Below w.heap.size w w1 := (hbel.alloc hbel.size _).grown hgrow (by have := hbel.size; simp; omega) (fun g hg => (hown.lt g hg).1)
      clear hown hgrow hbel HB
      go_wp2
      go_roundw
      case rel => exact ⟨j + 1, by omega, by go_num, hown', hbel'⟩
      case measure => simp [intOf]; omega
    · obtain rfl : j = k := by omega
      have hcv := run_back wr 30 9 5 Try.underlying30 Try.underlying5 Try.underlying9 hown
      go_wp2
      go_ret
      exact ⟨rfl, hbel⟩

/-- The reference's Put: whatever its arguments. -/
theorem rput_any (n k : Int) (w : World) : Calls Try.prog 14 #[.int .i64 n, .int .i64 k] w fun e w' => e = .returned (.string (str (putL n k))) ∧ Below w.heap.size w w' := by
  by_cases h : 1 ≤ k ∧ k ≤ 8
  · obtain ⟨m, rfl⟩ := Int.eq_ofNat_of_zero_le (show 0 ≤ k by omega)
    have e : putL n (m : Int) = putTo n m m := by simp [putL, h]
    rw [e]
    exact rput_some n m w (by omega) (by omega)
  · have e : putL n k = [] := by simp [putL, h]
    rw [e]
    exact rput_none n k w (by omega)

/-- a text's form, and its error -/
def textL (s : ByteArray) : ByteArray := if s.size ≤ 1024 then str (putL s.size 2) ++ s else str []
def textE (s : ByteArray) : Int := if s.size ≤ 1024 then 0 else 11
theorem put2_size (n : Int) : (str (putL n 2)).size = 2 := rfl

set_option maxHeartbeats 400000 in
theorem putText_any (s : ByteArray) (w : World) (hs : s.size ≤ maxLen) :
    Calls Try.prog 10 #[.string s] w fun e w' => e = .returned (.tuple #[.string (textL s), .int .i64 (textE s)]) ∧ Below w.heap.size w w' := by
  unfold maxLen at hs
  by_cases h : s.size ≤ 1024
  · have e1 : Hid (textL s = str (putL s.size 2) ++ s) := by show _ = _; simp [textL, h]
    have e2 : Hid (textE s = 0) := by show _ = _; simp [textE, h]
    have h2 := put2_size s.size
    have h3 : ¬ 9223372036854775807 < (str (putL s.size 2)).size + s.size := by omega
    go_enter Try.func10, Try.ntmps10
    go_wp2_with (go_at_call 13; refine (put_any _ _ _).mono ?_; rintro e w' ⟨rfl, hb⟩)
    go_ret2
    exact ⟨by rw [e1.out, e2.out]; rfl, by assumption⟩
  · have e1 : Hid (textL s = str []) := by show _ = _; simp [textL, h]
    have e2 : Hid (textE s = 11) := by show _ = _; simp [textE, h]
    go_enter Try.func10, Try.ntmps10
    go_wp2
    go_ret2
    exact ⟨by rw [e1.out, e2.out]; rfl, Below.refl _ _⟩

set_option maxHeartbeats 400000 in
theorem rputText_any (s : ByteArray) (w : World) (hs : s.size ≤ maxLen) :
    Calls Try.prog 11 #[.string s] w fun e w' => e = .returned (.tuple #[.string (textL s), .int .i64 (textE s)]) ∧ Below w.heap.size w w' := by
  unfold maxLen at hs
  by_cases h : s.size ≤ 1024
  · have e1 : Hid (textL s = str (putL s.size 2) ++ s) := by show _ = _; simp [textL, h]
    have e2 : Hid (textE s = 0) := by show _ = _; simp [textE, h]
    have h2 := put2_size s.size
    have h3 : ¬ 9223372036854775807 < (str (putL s.size 2)).size + s.size := by omega
    go_enter Try.func11, Try.ntmps11
    go_wp2_with (go_at_call 14; refine (rput_any _ _ _).mono ?_; rintro e w' ⟨rfl, hb⟩)
    go_ret2
    exact ⟨by rw [e1.out, e2.out]; rfl, by assumption⟩
  · have e1 : Hid (textL s = str []) := by show _ = _; simp [textL, h]
    have e2 : Hid (textE s = 11) := by show _ = _; simp [textE, h]
    go_enter Try.func11, Try.ntmps11
    go_wp2
    go_ret2
    exact ⟨by rw [e1.out, e2.out]; rfl, Below.refl _ _⟩
end Go.Proofs.Ytbgnffgceeclhaa
