/-
  Root of the document's hash: for a small number and the second or third root the call returns the first 32 bits behind the point.
-/
import Derived.Test.YtmmkopdijmplcaaRDig
import Derived.Deep.CutBlock
set_option linter.unusedVariables false
set_option maxRecDepth 100000
namespace Go.Proofs.Ytmmkopdijmplcaa.RH
open Go.RowKit Base HH
theorem row_dig {w : World} {g : Nat} {xs : List Nat} (h : Row w g 111 (xs.map u64c)) : DigIn w ⟨g, 0, none⟩ xs.length xs := DigIn.row (rest := []) (by rw [List.append_nil]; exact h)
set_option maxHeartbeats 4000000 in
theorem root_any {w : World} {p n : Nat} (hp : p < 65536) (hn : n ≤ 3) (hn2 : 2 ≤ n) {r : Nat} (hr : Hid (root32 p n = r)) :
    Calls Try.prog 78 #[.int .u64 p, .int .i64 n] w fun e w' => e = .returned (.int .u32 (r : Int)) ∧ Below w.heap.size w w' := by
  go_enter Try.func78, Try.ntmps78
  go_wp2_with fail
  go_loopw [5, 6, 7, 8, 9, 10] (fun vx vk _ _ _ _ wr => ∃ j : Nat, j ≤ 41 ∧ vk = .int .i64 (40 - (j : Int)) ∧ vx = .int .u64 (rootTo p n j : Nat) ∧ Below w.heap.size w wr) (fun _ vk _ _ _ _ _ => (intOf vk + 1).toNat)
  case atStart => exact ⟨0, by omega, by go_num, rfl, Below.refl _ _⟩
  case round =>
    obtain ⟨j, hj, rfl, rfl, hb⟩ := hrel
    have hbs := hb.size
    by_cases hlt : j < 41
    · have hge : (0 : Int) ≤ 40 - (j : Int) := by omega
      have hle := rootTo_le p n j hj
      obtain ⟨k, hk⟩ : ∃ k, 40 - j = k := ⟨_, rfl⟩
      have hk40 : k ≤ 40 := by omega
      have hki : 40 - (j : Int) = (k : Int) := by omega
      have hpk : 2 ^ (41 - j) = 2 * 2 ^ k := by rw [show 41 - j = k + 1 from by omega, Nat.pow_succ, Nat.mul_comm]
      rw [hpk] at hle
      obtain ⟨q, hq⟩ : ∃ q, 2 ^ k = q := ⟨_, rfl⟩
      have hstep : rootTo p n (j + 1) = if p * 65536 ^ (2 * n) < (rootTo p n j + q) ^ n then rootTo p n j else rootTo p n j + q := by
        rw [← hq, ← hk]
        rfl
      rw [hq] at hle
      have hq0 : 0 < q := by rw [← hq]; exact Nat.two_pow_pos _
      rw [hki] at hge ⊢
      obtain ⟨X, hX⟩ : ∃ X, rootTo p n j = X := ⟨_, rfl⟩
      obtain ⟨X1, hX1⟩ : ∃ X, rootTo p n (j + 1) = X := ⟨_, rfl⟩
      rw [hX] at hle hstep ⊢
      rw [hX1] at hstep
      have hY41 : X + q < 2199023255552 := by
        have : (2 : Nat) ^ 41 = 2199023255552 := by decide
        omega
      have k64 : (k : Int) < 64 := by omega
      have k0 : (0 : Int) ≤ (k : Int) := by omega
      replace hX := Lib.hid hX
      replace hX1 := Lib.hid hX1
      replace hstep := Lib.hid hstep
      replace hk := Lib.hid hk
      replace hki := Lib.hid hki
      replace hpk := Lib.hid hpk
      replace hle := Lib.hid hle
      have hqw : IntKind.u64.wrap ((2 : Int) ^ k) = (q : Int) := by
        have e : (2 : Int) ^ k = (q : Int) := by rw [← hq, Int.natCast_pow]; rfl
        rw [e, IntKind.wrap_u64]
        omega
      obtain ⟨Y, hY⟩ : ∃ Y, X + q = Y := ⟨_, rfl⟩
      rw [hY] at hY41
      have hYw : IntKind.u64.wrap ((X : Int) + (q : Int)) = (Y : Int) := by
        rw [IntKind.wrap_u64]
        omega
      have hD0 : bits .and .u64 (Y : Int) 65535 = ((Y % 65536 : Nat) : Int) := by
        rw [show (65535 : Int) = ((65535 : Nat) : Int) from rfl, u64_and_nat _ _ (by omega) (by decide), show 65535 = 2 ^ 16 - 1 from rfl, Nat.and_two_pow_sub_one_eq_mod]
      have hD1 : (Y : Int) / 65536 = ((Y / 65536 : Nat) : Int) := by omega
      have hD2 : bits .and .u64 ((Y / 65536 : Nat) : Int) 65535 = ((Y / 65536 % 65536 : Nat) : Int) := by
        rw [show (65535 : Int) = ((65535 : Nat) : Int) from rfl, u64_and_nat _ _ (by omega) (by decide), show 65535 = 2 ^ 16 - 1 from rfl, Nat.and_two_pow_sub_one_eq_mod]
      have hD3 : (Y : Int) / 4294967296 = ((Y / 4294967296 : Nat) : Int) := by omega
      have hval : valD [Y % 65536, Y / 65536 % 65536, Y / 4294967296] = Y := by
        simp only [valD]
        omega
      have hsm : small [Y % 65536, Y / 65536 % 65536, Y / 4294967296] := by
        intro d hd
        simp only [List.mem_cons, List.not_mem_nil, or_false] at hd
        omega
      generalize Y / 65536 % 65536 = d1 at *
      generalize Y / 65536 = Y1 at *
      generalize Y % 65536 = d0 at *
      generalize Y / 4294967296 = d2 at *
      replace hq := Lib.hid hq
      replace hY := Lib.hid hY
      replace hval := Lib.hid hval
      replace hsm := Lib.hid hsm
      have hRd := Row.new wr ([d0, d1, d2].map u64c) 111
      have hRd := hRd.alloc (.cells #[.int .u64 1] 111)
      have hR1 := Row.new (wr.alloc (.cells #[.int .u64 (d0 : Int), .int .u64 (d1 : Int), .int .u64 (d2 : Int)] 111)) ([1].map u64c) 111
      rw [World.size_alloc] at hR1
      have hb2 := (hb.alloc hbs (.cells #[.int .u64 (d0 : Int), .int .u64 (d1 : Int), .int .u64 (d2 : Int)] 111)).alloc (by simp; omega) (.cells #[.int .u64 1] 111)
      have hDd : DigIn ((wr.alloc (.cells #[.int .u64 (d0 : Int), .int .u64 (d1 : Int), .int .u64 (d2 : Int)] 111)).alloc (.cells #[.int .u64 1] 111)) ⟨wr.heap.size, 0, none⟩ 3 [d0, d1, d2] := row_dig hRd
      have hD1' : DigIn ((wr.alloc (.cells #[.int .u64 (d0 : Int), .int .u64 (d1 : Int), .int .u64 (d2 : Int)] 111)).alloc (.cells #[.int .u64 1] 111)) ⟨wr.heap.size + 1, 0, none⟩ 1 [1] := row_dig hR1
      clear hRd hR1
      go_wp2_with fail
      generalize (wr.alloc (.cells #[.int .u64 (d0 : Int), .int .u64 (d1 : Int), .int .u64 (d2 : Int)] 111)).alloc (.cells #[.int .u64 1] 111) = w2 at *
      generalize wr.heap.size = gd at *
      clear hqw hYw hD0 hD1 hD2 hD3
      go_loopw [9, 10] (fun va vi wr => ∃ (i g cap : Nat) (ds : List Nat), i ≤ n ∧ vi = .int .i64 i ∧ va = .slice (some ⟨g, 0, none⟩) (1 + 3 * i) cap ∧ DigIn wr ⟨g, 0, none⟩ (1 + 3 * i) ds ∧ small ds ∧ valD ds = Y ^ i ∧ DigIn wr ⟨gd, 0, none⟩ 3 [d0, d1, d2] ∧ Below w.heap.size w wr) (fun _ vi _ => n - (intOf vi).toNat)
      case atStart => exact ⟨0, gd + 1, 1, [1], Nat.zero_le _, rfl, rfl, hD1', fun d hd => (by simp at hd; omega), rfl, hDd, hb2⟩
      case round =>
        clear hD1' hDd hb2
        obtain ⟨i, g, cap, ds, hin, rfl, rfl, hDs, hds, hvs, hDd, hb2⟩ := hrel
        by_cases hil : i < n
        · have hil' : (i : Int) < n := by omega
          obtain ⟨L, hL⟩ : ∃ L, 1 + 3 * i = L := ⟨_, rfl⟩
          rw [hL] at hDs ⊢
          have hL100 : L ≤ 100 := by omega
          have hL2 : 1 + 3 * (i + 1) = L + 3 := by omega
          replace hL := Lib.hid hL
          replace hL2 := Lib.hid hL2
          replace hvs := Lib.hid hvs
          go_wp2_with fail
          refine (times_any hDs hDd hds hsm.out hL100 (by omega)).mono ?_
          rintro e w3 ⟨ds2, rfl, hDs2, hds2, hv2, hb3'⟩
          have hb3 := hb2.trans (hb3'.mono hb2.size)
          have hDd3 := hDd.below hb3' (Nat.le_refl _)
          have hv3 : Hid (valD ds2 = Y ^ (i + 1)) := by
            show _ = _
            rw [hv2, hvs.out, hval.out, Nat.pow_succ]
          clear hDs hDd hb2 hb3' hds hv2 hvs
          go_wp2_with fail
          go_roundw
          case rel => first | exact ⟨i + 1, _, _, ds2, by omega, by go_num, by rw [hL2.out], by rw [hL2.out]; exact hDs2, hds2, hv3.out, hDd3, hb3⟩ | ((repeat apply Exists.intro); exact ⟨⟨i + 1, _, _, ds2, by omega, by go_num, by rw [hL2.out], by rw [hL2.out]; exact hDs2, hds2, hv3.out, hDd3, hb3⟩, rfl⟩)
          case measure => simp [intOf]; omega
        · obtain rfl : i = n := by omega
          have hil' : ¬ (i : Int) < i := by omega
          have hbs2 := hb2.size
          obtain ⟨A, hA⟩ : ∃ A, decide (p * 65536 ^ (2 * i) < valD ds) = A := ⟨_, rfl⟩
          have hst := hstep.out
          rw [hY.out, ← hvs] at hst
          replace hvs := Lib.hid hvs
          have hA' := Lib.hid hA
          go_wp2_with fail
          refine (above_any (p := p) (n := i) hDs hds hp (by omega) (by omega) hA').mono ?_
          rintro e w' ⟨rfl, rfl⟩
          by_cases hlt2 : p * 65536 ^ (2 * i) < valD ds
          · rw [if_pos hlt2] at hst
            have hAt : A = true := by rw [← hA]; exact decide_eq_true hlt2
            subst hAt
            replace hst := Lib.hid hst
            clear hA hA' hlt2 hDs hDd
            go_wp2_with fail
            go_roundw
            case rel => exact ⟨j + 1, by omega, by have := hki.out; congr 1; omega, by rw [hX1.out, hst.out], hb2⟩
            case measure => have := hki.out; simp [intOf] <;> omega
          · rw [if_neg hlt2] at hst
            have hAf : A = false := by rw [← hA]; exact decide_eq_false hlt2
            subst hAf
            replace hst := Lib.hid hst
            clear hA hA' hlt2 hDs hDd
            go_wp2_with fail
            go_roundw
            case rel => exact ⟨j + 1, by omega, by have := hki.out; congr 1; omega, by rw [hX1.out, hst.out], hb2⟩
            case measure => have := hki.out; simp [intOf] <;> omega
    · obtain rfl : j = 41 := by omega
      have hge : ¬ (0 : Int) ≤ 40 - ((41 : Nat) : Int) := by omega
      obtain ⟨X, hX⟩ : ∃ X, rootTo p n 41 = X := ⟨_, rfl⟩
      rw [hX]
      have hX2 := rootTo_le p n 41 (Nat.le_refl _)
      rw [hX] at hX2
      have hXb : X < 18446744073709551616 := by
        have : (2 : Nat) ^ 41 = 2199023255552 := by decide
        omega
      have hr2 : X % 4294967296 = r := by rw [← hr.out, ← hX]; rfl
      have hAnd : bits .and .u64 (X : Int) 4294967295 = (r : Int) := by
        rw [show (4294967295 : Int) = ((4294967295 : Nat) : Int) from rfl, u64_and_nat _ _ hXb (by decide), show 4294967295 = 2 ^ 32 - 1 from rfl, Nat.and_two_pow_sub_one_eq_mod, ← hr2]
      have r32 : r < 4294967296 := by rw [← hr2]; exact Nat.mod_lt _ (by decide)
      replace hXb := Lib.hid hXb
      replace hX2 := Lib.hid hX2
      replace hX := Lib.hid hX
      replace hr2 := Lib.hid hr2
      go_wp2_with fail
      go_ret
      exact ⟨rfl, hb⟩
end Go.Proofs.Ytmmkopdijmplcaa.RH
