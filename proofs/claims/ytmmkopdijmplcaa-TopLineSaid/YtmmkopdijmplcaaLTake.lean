/-
  The line's parts and points: taken, number, point, Near.
-/
import Derived.Test.YtmmkopdijmplcaaLPlain
import Derived.Test.YtmmkopdijmplcaaFDec
import Derived.WalkLawsBesides
import Derived.Lib.Hide
set_option linter.unusedVariables false
set_option maxRecDepth 100000
namespace Go.Proofs.Ytmmkopdijmplcaa.ln
open Go.RowKit Base HH FF
theorem taken_v {x d : Nat} (h : tk x = d) (hd : d < 4) (w : World) : Calls Try.prog 67 #[.float .f64 x] w fun e w' => e = .returned (.tuple #[.int .i64 d, .bool true]) ∧ w = w' := by
  unfold tk fGe fLe fLt at h
  by_cases hc : ((FloatKind.f64.format.order x 13839561654909534208 == some .gt || FloatKind.f64.format.order x 13839561654909534208 == some .eq) && (FloatKind.f64.format.order x 4616189618054758400 == some .lt || FloatKind.f64.format.order x 4616189618054758400 == some .eq)) = true
  · rw [hc] at h
    obtain ⟨h1, h2⟩ := (Bool.and_eq_true _ _).mp hc
    have h1 : (FloatKind.f64.format.order x 13839561654909534208 == some .gt || FloatKind.f64.format.order x 13839561654909534208 == some .eq) = true := h1
    have h2 : (FloatKind.f64.format.order x 4616189618054758400 == some .lt || FloatKind.f64.format.order x 4616189618054758400 == some .eq) = true := h2
    clear hc
    by_cases h3 : (FloatKind.f64.format.order x 13835058055282163712 == some .lt) = true
    · obtain rfl : 0 = d := by simpa [h3] using h
      clear h
      go_enter Try.func67, Try.ntmps67
      go_wp2_with fail
      go_ret2
      exact ⟨rfl, rfl⟩
    rw [Bool.not_eq_true] at h3
    by_cases h4 : (FloatKind.f64.format.order x 0 == some .lt) = true
    · obtain rfl : 1 = d := by simpa [h3, h4] using h
      clear h
      go_enter Try.func67, Try.ntmps67
      go_wp2_with fail
      go_ret2
      exact ⟨rfl, rfl⟩
    rw [Bool.not_eq_true] at h4
    by_cases h5 : (FloatKind.f64.format.order x 4611686018427387904 == some .lt) = true
    · obtain rfl : 2 = d := by simpa [h3, h4, h5] using h
      clear h
      go_enter Try.func67, Try.ntmps67
      go_wp2_with fail
      go_ret2
      exact ⟨rfl, rfl⟩
    rw [Bool.not_eq_true] at h5
    obtain rfl : 3 = d := by simpa [h3, h4, h5] using h
    clear h
    go_enter Try.func67, Try.ntmps67
    go_wp2_with fail
    go_ret2
    exact ⟨rfl, rfl⟩
  · exfalso
    rw [Bool.not_eq_true] at hc
    rw [hc] at h
    simp at h
    omega
/-- the four bits of two parts -/
theorem number_bits : ∀ d : Nat, d < 4 → ∀ e : Nat, e < 4 → bits .or .i64 ((d : Int) * 4) (e : Int) % 256 = ((4 * d + e : Nat) : Int) := by decide +kernel
theorem number_v {x y d e : Nat} (hx : tk x = d) (hy : tk y = e) (hd : d < 4) (he : e < 4) (w : World) : Calls Try.prog 55 #[.complex .f64 x y] w fun r w' => r = .returned (.tuple #[.int .u8 ((4 * d + e : Nat) : Int), .bool true]) ∧ w = w' := by
  have hb := number_bits d hd e he
  obtain ⟨m, hm⟩ : ∃ m, 4 * d + e = m := ⟨_, rfl⟩
  rw [hm] at hb ⊢
  replace hm := Lib.hid hm
  replace hx := Lib.hid hx
  replace hy := Lib.hid hy
  go_enter Try.func55, Try.ntmps55
  go_wp2_with fail
  refine (taken_v hx.out hd _).mono ?_
  rintro r w' ⟨rfl, rfl⟩
  go_wp2_with fail
  refine (taken_v hy.out he _).mono ?_
  rintro r w' ⟨rfl, rfl⟩
  go_wp2_with fail
  go_ret2
  exact ⟨by rw [← hb]; rfl, rfl⟩
theorem part_v {d : Nat} (hd : d < 4) (w : World) : Calls Try.prog 66 #[.int .u8 (d : Int)] w fun r w' => r = .returned (.float .f64 (prt d)) ∧ w = w' := by
  obtain ⟨h1, h2, _⟩ := prt_is d hd
  generalize hm : (FloatKind.f64.format.mul 4611686018427387904 (fNum (d : Int))).getD 0 = m at h1 h2
  have f1 : floatBits .mul .f64 4611686018427387904 (floatOfInt .f64 (d : Int)) = some m := h1
  have f2 : floatBits .sub .f64 m 4613937818241073152 = some (prt d) := h2
  have k1 := run_float_arith (P := Try.prog) w .mul 95 .f64 _ _ _ f1
  have k2 := run_float_arith (P := Try.prog) w .sub 95 .f64 _ _ _ f2
  clear h1 h2 f1 f2
  replace hm := Lib.hid hm
  go_enter Try.func66, Try.ntmps66
  go_wp2_with fail
  go_ret
  exact ⟨rfl, rfl⟩
theorem point_bits : ∀ d : Nat, d < 4 → ∀ e : Nat, e < 4 → ((4 * d + e : Nat) : Int) / 4 = (d : Int) ∧ bits .and .u8 ((4 * d + e : Nat) : Int) 3 = (e : Int) := by decide +kernel
theorem point_v {d e m : Nat} (hm : Hid (4 * d + e = m)) (hd : d < 4) (he : e < 4) (w : World) : Calls Try.prog 52 #[.int .u8 (m : Int)] w fun r w' => r = .returned (.complex .f64 (prt d) (prt e)) ∧ w = w' := by
  obtain ⟨b1, b2⟩ := point_bits d hd e he
  rw [hm.out] at b1 b2
  go_enter Try.func52, Try.ntmps52
  go_wp2_with fail
  try rw [b1]
  refine (part_v hd _).mono ?_
  rintro r w' ⟨rfl, rfl⟩
  go_wp2_with fail
  try rw [b2]
  refine (part_v he _).mono ?_
  rintro r w' ⟨rfl, rfl⟩
  go_wp2_with fail
  go_ret
  exact ⟨rfl, rfl⟩
theorem near_v {x y d e : Nat} (hx : tk x = d) (hy : tk y = e) (hd : d < 4) (he : e < 4) (w : World) : Calls Try.prog 53 #[.complex .f64 x y] w fun r w' => r = .returned (.tuple #[.complex .f64 (prt d) (prt e), .bool true]) ∧ w = w' := by
  replace hx := Lib.hid hx
  replace hy := Lib.hid hy
  obtain ⟨m, hm⟩ : ∃ m, 4 * d + e = m := ⟨_, rfl⟩
  have N := Lib.hid (number_v hx.out hy.out hd he w)
  rw [hm] at N
  replace hm := Lib.hid hm
  go_enter Try.func53, Try.ntmps53
  go_wp2_with fail
  refine N.out.mono ?_
  rintro r w' ⟨rfl, rfl⟩
  go_wp2_with fail
  refine (point_v hm hd he _).mono ?_
  rintro r w' ⟨rfl, rfl⟩
  go_wp2_with fail
  go_ret2
  exact ⟨rfl, rfl⟩
end Go.Proofs.Ytmmkopdijmplcaa.ln
