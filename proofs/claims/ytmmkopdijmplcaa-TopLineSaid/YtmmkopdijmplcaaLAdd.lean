/-
  Add of the line: a row of points with noise.
-/
import Derived.Test.YtmmkopdijmplcaaLTurn
import Derived.StillTailTactics
import Derived.Lib.Hide
set_option linter.unusedVariables false
set_option maxRecDepth 100000
namespace Go.Proofs.Ytmmkopdijmplcaa.ln
open Go.RowKit Base HH FF RH
theorem PRow.drew {w : World} {B n : Nat} {v : Value} {xs : List (Nat × Nat)} (h : PRow w B v n xs) : PRow w.drew B v n xs := h.below ((Below.refl _ _).drew)
set_option maxHeartbeats 4000000 in
theorem add_v {w : World} {g n cap : Nat} {xs : List (Nat × Nat)} (hl : xs.length = n) (h0 : 0 < n) (hn : n ≤ 4096) (hg : g < w.heap.size) (hc : ∀ j u, (xs.map cv)[j]? = some u → w.cell? ⟨g, j, none⟩ = some u)
    {gn m capn : Nat} {ys : List (Nat × Nat)} (hm : m ≤ 9007199254740992) (hgn : gn < w.heap.size) (hcn : ∀ j, j < m → w.cell? ⟨gn, j, none⟩ = some (cv (ys.getD j (0, 0)))) {f : Nat → Nat × Nat → Nat × Nat} {q : Nat} (hq : min n m = q)
    (hf : ∀ i, i < q → cSumBits .add .f64 (xs.getD i (0, 0)).1 (xs.getD i (0, 0)).2 (ys.getD i (0, 0)).1 (ys.getD i (0, 0)).2 = some (f i (xs.getD i (0, 0)))) :
    Calls Try.prog 23 #[.slice (some ⟨g, 0, none⟩) n cap, .slice (some ⟨gn, 0, none⟩) m capn] w fun e w' => ∃ v', e = .returned v' ∧ PRow w' w.heap.size v' n (mapTo f xs q) ∧ Below w.heap.size w w' := by
  have CL := Lib.hid (clone_v (cap := cap) hl h0 hn hg hc)
  have hqn : q ≤ n := by omega
  have hqm : q ≤ m := by omega
  have hmin : min (n : Int) (m : Int) = (q : Int) := by omega
  replace hf := Lib.hid hf
  replace hcn := Lib.hid hcn
  replace hq := Lib.hid hq
  clear hc
  go_enter Try.func23, Try.ntmps23
  go_wp2_with fail
  refine CL.out.mono ?_
  rintro e w1 ⟨v', rfl, hP, hb1⟩
  obtain ⟨g', cap', rfl, hcap', hgB, hgl⟩ := hP.lt
  have hP0 : PRow w1 w.heap.size (.slice (some ⟨g', 0, none⟩) n cap') n (mapTo f xs 0) := by rw [mapTo_zero]; exact hP
  clear hP
  go_wp2_with fail
  (try rw [hmin])
  go_loopw [13] (fun vi wr => ∃ i : Nat, i ≤ q ∧ vi = .int .i64 i ∧ PRow wr w.heap.size (.slice (some ⟨g', 0, none⟩) n cap') n (mapTo f xs i) ∧ Below w.heap.size w wr) (fun vi _ => q - (intOf vi).toNat)
  case atStart => exact ⟨0, Nat.zero_le _, rfl, hP0, hb1⟩
  case round =>
    clear hP0 hb1
    obtain ⟨i, hi, rfl, hP, hb⟩ := hrel
    by_cases hlt : i < q
    · have hlt' : (i : Int) < q := by omega
      have hi0 : (0 : Int) ≤ (i : Int) := by omega
      have hin : (i : Int) < n := by omega
      have him : (i : Int) < m := by omega
      have c1 := hP.cell (mapTo_old f xs i (by omega))
      have f1 := hP.free i
      have c2 := (hb.cell (p := ⟨gn, i, none⟩) hgn).trans (hcn.out i (by omega))
      have hset := fun p => hP.set i p
      have hms := mapTo_set f xs i
      have hs := hf.out i hlt
      generalize f i (xs.getD i (0, 0)) = fp at *
      generalize xs.getD i (0, 0) = p at *
      generalize ys.getD i (0, 0) = y at *
      obtain ⟨a, b⟩ := p
      obtain ⟨c, d⟩ := y
      obtain ⟨re, im⟩ := fp
      simp only [cv] at c1 c2
      simp only at hs
      have st := store_c (w := wr.drew) c1 f1 re im
      have ad : ∀ W : World, (binOp .add 86 (.complex .f64 a b) (.complex .f64 c d)).run Try.prog W = .ok (.complex .f64 re im) W := fun W => run_complex_sum (P := Try.prog) W .add (.inl rfl) 86 .f64 a b c d re im hs
      have hb2 : Below w.heap.size w (wr.setCell ⟨g', i, none⟩ (.complex .f64 re im)) := hb.setCell (p := ⟨g', i, none⟩) (by show w.heap.size ≤ g'; omega) _
      have hP2 := hset (re, im)
      rw [hms] at hP2
      clear hset hms hs
      go_wp2_with fail
      go_still_tail 10, (by kernel_rfl)
      go_wp2_with fail
      go_roundw
      case rel => first | exact ⟨i + 1, by omega, by go_num, hP2.drew, hb2.drew⟩ | ((repeat apply Exists.intro); exact ⟨⟨i + 1, by omega, by go_num, hP2.drew, hb2.drew⟩, rfl⟩)
      case measure => simp [intOf]; omega
    · obtain rfl : i = q := by omega
      have hlt' : ¬ (i : Int) < i := by omega
      go_wp2_with fail
      go_ret
      exact ⟨_, rfl, hP, hb⟩
end Go.Proofs.Ytmmkopdijmplcaa.ln
