/-
  slices.Index over points; rest.
-/
import Derived.Test.YtmmkopdijmplcaaLRow
import Derived.Lib.Hide
set_option linter.unusedVariables false
set_option maxRecDepth 100000
namespace Go.Proofs.Ytmmkopdijmplcaa.ln
open Go.RowKit Base HH FF RH
def sameP (x y : Nat) (p : Nat × Nat) : Bool := (FloatKind.f64.format.order x p.1 == some .eq) && (FloatKind.f64.format.order y p.2 == some .eq)
set_option maxHeartbeats 1000000 in
theorem index_v {w : World} {g n c x y k : Nat} {ps : List (Nat × Nat)} (hn : n ≤ 4096) (hkn : k < n) (hc : ∀ j, j < n → w.cell? ⟨g, j, none⟩ = some (cv (ps.getD j (0, 0)))) (hne : ∀ j, j < k → sameP x y (ps.getD j (0, 0)) = false) (heq : sameP x y (ps.getD k (0, 0)) = true) :
    Calls Try.prog 54 #[.slice (some ⟨g, 0, none⟩) n c, .complex .f64 x y] w fun e w' => e = .returned (.int .i64 k) ∧ w = w' := by
  replace hc := Lib.hid hc
  replace hne := Lib.hid hne
  replace heq := Lib.hid heq
  go_enter Try.func54, Try.ntmps54
  go_wp2_with fail
  go_loop [8] (fun vi => ∃ i : Nat, i ≤ k ∧ vi = .int .i64 i) (fun vi => k - (intOf vi).toNat)
  case atStart => exact ⟨0, Nat.zero_le _, rfl⟩
  case round =>
    obtain ⟨i, hi, rfl⟩ := hrel
    have hin : (i : Int) < n := by omega
    have hi0 : (0 : Int) ≤ (i : Int) := by omega
    have c1 := hc.out i (by omega)
    by_cases hlt : i < k
    · have h1 := hne.out i hlt
      generalize ps.getD i (0, 0) = p at *
      obtain ⟨a, b⟩ := p
      have h1 : ((FloatKind.f64.format.order x a == some .eq) && (FloatKind.f64.format.order y b == some .eq)) = false := h1
      simp only [cv] at c1
      go_wp2_with fail
      go_round
      case rel => first | exact ⟨i + 1, by omega, by go_num⟩ | ((repeat apply Exists.intro); exact ⟨⟨i + 1, by omega, by go_num⟩, rfl⟩)
      case measure => simp [intOf]; omega
    · obtain rfl : i = k := by omega
      have h1 := heq.out
      generalize ps.getD i (0, 0) = p at *
      obtain ⟨a, b⟩ := p
      have h1 : ((FloatKind.f64.format.order x a == some .eq) && (FloatKind.f64.format.order y b == some .eq)) = true := h1
      simp only [cv] at c1
      go_wp2_with fail
      go_ret
      exact ⟨rfl, rfl⟩
end Go.Proofs.Ytmmkopdijmplcaa.ln
