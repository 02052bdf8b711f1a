/-
  rest: a number's rest by 1001, from 0 on.
-/
import Derived.Test.YtmmkopdijmplcaaLRow
import Derived.Lib.Hide
import Derived.IntWalk
set_option linter.unusedVariables false
set_option maxRecDepth 100000
namespace Go.Proofs.Ytmmkopdijmplcaa.ln
open Go.RowKit Base HH FF RH
/-- a number's rest by 1001, from 0 on -/
def rst (x : Int) : Nat := if x.tmod 1001 < 0 then (x.tmod 1001 + 1001).toNat else (x.tmod 1001).toNat
theorem rst_lt (x : Int) : rst x < 1001 := by
  have hb := Int.tmod_lt_of_pos x (show (0 : Int) < 1001 by decide)
  have hb2 : -1001 < x.tmod 1001 := Int.lt_tmod_of_pos x (show (0 : Int) < 1001 by decide)
  unfold rst
  split <;> omega
theorem rest_v {x : Int} {k : Nat} (hk : Hid (rst x = k)) (w : World) : Calls Try.prog 57 #[.int .i64 x, .int .i64 1001] w fun e w' => e = .returned (.int .i64 (k : Int)) ∧ w = w' := by
  have hb := Int.tmod_lt_of_pos x (show (0 : Int) < 1001 by decide)
  have hb2 : -1001 < x.tmod 1001 := Int.lt_tmod_of_pos x (show (0 : Int) < 1001 by decide)
  have hk' := hk.out
  unfold rst at hk'
  have K1 : x.tmod 1001 < 0 → wrap64 (x.tmod 1001 + 1001) = (k : Int) := fun h => by rw [if_pos h] at hk'; rw [← hk']; unfold wrap64; omega
  have K2 : 0 ≤ x.tmod 1001 → x.tmod 1001 = (k : Int) := fun h => by rw [if_neg (by omega)] at hk'; omega
  clear hb hb2 hk'
  replace K1 := Lib.hid K1
  replace K2 := Lib.hid K2
  go_enter Try.func57, Try.ntmps57
  go_wp2_with fail
  all_goals go_ret
  · rename_i h
    exact ⟨by rw [← K1.out (by first | exact h | omega | assumption)]; rfl, rfl⟩
  · rename_i h
    exact ⟨by rw [← K2.out (by first | exact h | omega | assumption)]; rfl, rfl⟩
end Go.Proofs.Ytmmkopdijmplcaa.ln
