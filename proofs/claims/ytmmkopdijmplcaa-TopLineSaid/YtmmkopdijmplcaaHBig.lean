/-
  A number put behind a row of bytes: whatever the row of the call's own, the call returns it with the number's bytes behind it.
-/
import Derived.Test.YtmmkopdijmplcaaHWord
import Derived.Deep.LoopGhost
import Derived.Maps.AppendAt
namespace Go.Proofs.Ytmmkopdijmplcaa.HH
open Go.RowKit Base
theorem infoU8 : (Try.prog.info? 5).map (fun i => (i.zero, i.size, i.bytes)) = some (some (.int .u8 0), 1, 1) := by kernel_rfl
/-- byte i of a number, the lowest first -/
def b8 (n i : Nat) : UInt8 := UInt8.ofNat (n / 256 ^ i % 256)
/-- the first j of a number's k bytes, the highest first -/
def bigTo (n k j : Nat) : List UInt8 := (List.range j).map fun i => b8 n (k - 1 - i)
theorem bv_b8 (n i : Nat) : bv (b8 n i) = .int .u8 ((n : Int) / 2 ^ (8 * i) % 256) := by
  unfold bv b8
  congr 1
  rw [UInt8.toNat_ofNat', Nat.mod_mod, Int.natCast_emod, Int.natCast_ediv, Int.natCast_pow, Int.pow_mul]
  rfl
theorem bigTo_succ (n k j : Nat) : (bigTo n k (j + 1)).map bv = (bigTo n k j).map bv ++ [bv (b8 n (k - 1 - j))] := by
  simp [bigTo, List.range_succ]
theorem bigTo_length (n k j : Nat) : (bigTo n k j).length = j := by
  unfold bigTo
  rw [List.length_map, List.length_range]
set_option maxRecDepth 100000 in
set_option maxHeartbeats 1000000 in
theorem big_any {w : World} {B n0 : Nat} {v : Value} {xs : List Value} (hown : w.ownsRow B 5 1 v n0 xs) (hB : B ≤ w.heap.size) (n k : Nat) (hn0 : n0 ≤ 140737488355000) (hk : k ≤ 8) (hn : n < 18446744073709551616) :
    Calls Try.prog 72 #[v, .int .u64 (n : Int), .int .i64 (k : Int)] w fun e w' => ∃ v', e = .returned v' ∧ w'.ownsRow B 5 1 v' (n0 + k) (xs ++ (bigTo n k k).map bv) ∧ Below B w w' := by
  obtain ⟨i0, hi, hz0, hz1, hz2⟩ := info_parts infoU8
  have hnl : (0 : Int) ≤ n := by omega
  replace hn := Lib.hid hn
  go_enter Try.func72, Try.ntmps72
  go_wp2_with fail
  go_loopw [0, 7] (fun v i wr => ∃ j : Nat, j ≤ k ∧ i = .int .i64 (k - 1 - j) ∧ wr.ownsRow B 5 1 v (n0 + j) (xs ++ (bigTo n k j).map bv) ∧ Below B w wr) (fun _ i _ => (intOf i + 1).toNat)
  case atStart => exact ⟨0, by omega, by go_num, by rw [show bigTo n k 0 = [] from rfl, List.map_nil, List.append_nil]; exact hown, Below.refl _ _⟩
  case round =>
    clear hown
    obtain ⟨j, hj, rfl, hown, hbel⟩ := hrel
    have hbs := hbel.size
    by_cases hlt : j < k
    · have hge : 0 ≤ (k : Int) - 1 - (j : Int) := by omega
      have HB : Hid (bv (b8 n (k - 1 - j)) = .int .u8 ((n : Int) / 2 ^ (8 * (k - 1 - j)) % 256)) := bv_b8 n (k - 1 - j)
      go_wp2_with (at_builtin; refine wpList_append_own _ rfl (.tmp 14) (.tmp 20) 82 rfl B 5 i0 (.int .u8 0) 1 1 Try.underlying82 hi hz0 hz1 hz2 rfl (by decide) _ _ _ rfl (hown.alloc _) ⟨wr.heap.size, 0, none⟩ 1 1 [bv (b8 n (k - 1 - j))] rfl rfl ?c1 ?c2 ?c3 ?c4 ?c5 ?_)
      case c1 => rw [HB.out]; exact cell_one_new _ _ _
      case c2 => exact one_cell _ rfl
      case c3 => unfold maxLen; omega
      case c4 => omega
      case c5 => simp; omega
      intro v' w1 hown' hgrow _
      first | rw [← bigTo_succ] at hown' | rw [List.append_assoc, ← bigTo_succ] at hown'
      have hbel' : Below B w w1 := (hbel.alloc (by omega) _).grown hgrow (by simp; omega) (fun g hg => (hown.lt g hg).1)
      clear hown hgrow hbel HB
      go_wp2_with fail
      go_roundw
      case rel => exact ⟨j + 1, by omega, by go_num, hown', hbel'⟩
      case measure => simp [intOf]; omega
    · obtain rfl : j = k := by omega
      go_wp2_with fail
      go_ret
      exact ⟨_, rfl, hown, hbel⟩
theorem big_v {w : World} {B n0 : Nat} {v : Value} {xs ys : List Value} {x y : Int} (hown : w.ownsRow B 5 1 v n0 xs) (hB : B ≤ w.heap.size) (n k : Nat) (hx : Hid (x = (n : Int))) (hy : Hid (y = (k : Int))) (hn0 : n0 ≤ 140737488355000) (hk : k ≤ 8) (hn : Hid (n < 18446744073709551616)) (hys : Hid (xs ++ (bigTo n k k).map bv = ys)) :
    Calls Try.prog 72 #[v, .int .u64 x, .int .i64 y] w fun e w' => ∃ v', e = .returned v' ∧ w'.ownsRow B 5 1 v' (n0 + k) ys ∧ Below B w w' := by
  rw [hx.out, hy.out, ← hys.out]
  exact big_any hown hB n k hn0 hk hn.out
end Go.Proofs.Ytmmkopdijmplcaa.HH
