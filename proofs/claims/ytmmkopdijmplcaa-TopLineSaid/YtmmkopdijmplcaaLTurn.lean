/-
  Turn of the line: a row of points, turned by quarters.
-/
import Derived.Test.YtmmkopdijmplcaaLRow
import Derived.Lib.Hide
set_option linter.unusedVariables false
set_option maxRecDepth 100000
namespace Go.Proofs.Ytmmkopdijmplcaa.ln
open Go.RowKit Base HH FF RH
/-- a point turned by r quarters -/
def turnP (r : Nat) (p : Nat × Nat) : Nat × Nat := if r = 1 then (neg p.2, p.1) else if r = 2 then (neg p.1, neg p.2) else if r = 3 then (p.2, neg p.1) else p
/-- the first i of a row with f laid on them -/
def mapTo (f : Nat → Nat × Nat → Nat × Nat) (xs : List (Nat × Nat)) (i : Nat) : List (Nat × Nat) := (List.range xs.length).map fun j => if j < i then f j (xs.getD j (0, 0)) else xs.getD j (0, 0)
theorem mapTo_length (f : Nat → Nat × Nat → Nat × Nat) (xs : List (Nat × Nat)) (i : Nat) : (mapTo f xs i).length = xs.length := by
  unfold mapTo
  rw [List.length_map, List.length_range]
theorem mapTo_at (f : Nat → Nat × Nat → Nat × Nat) (xs : List (Nat × Nat)) (i j : Nat) (h : j < xs.length) : (mapTo f xs i)[j]? = some (if j < i then f j (xs.getD j (0, 0)) else xs.getD j (0, 0)) := by
  unfold mapTo
  rw [List.getElem?_map, List.getElem?_range h, Option.map_some]
theorem mapTo_zero (f : Nat → Nat × Nat → Nat × Nat) (xs : List (Nat × Nat)) : mapTo f xs 0 = xs := by
  apply List.ext_getElem?
  intro j
  by_cases h : j < xs.length
  · rw [mapTo_at _ _ _ _ h, if_neg (Nat.not_lt_zero _), List.getD_eq_getElem?_getD, List.getElem?_eq_getElem h]
    rfl
  · rw [List.getElem?_eq_none (by rw [mapTo_length]; omega), List.getElem?_eq_none (by omega)]
theorem mapTo_old (f : Nat → Nat × Nat → Nat × Nat) (xs : List (Nat × Nat)) (i : Nat) (h : i < xs.length) : (mapTo f xs i)[i]? = some (xs.getD i (0, 0)) := by
  rw [mapTo_at _ _ _ _ h, if_neg (Nat.lt_irrefl _)]
theorem mapTo_set (f : Nat → Nat × Nat → Nat × Nat) (xs : List (Nat × Nat)) (i : Nat) : (mapTo f xs i).set i (f i (xs.getD i (0, 0))) = mapTo f xs (i + 1) := by
  apply List.ext_getElem?
  intro j
  rw [List.getElem?_set, mapTo_length]
  by_cases h8 : j < xs.length
  · rw [mapTo_at _ _ _ _ h8, mapTo_at _ _ _ _ h8]
    by_cases hk : i = j
    · subst hk
      rw [if_pos rfl, if_pos h8, if_pos (Nat.lt_succ_self _)]
    · rw [if_neg hk]
      by_cases h : j < i
      · rw [if_pos h, if_pos (by omega)]
      · rw [if_neg h, if_neg (by omega)]
  · rw [List.getElem?_eq_none (l := mapTo f xs i) (by rw [mapTo_length]; omega), List.getElem?_eq_none (l := mapTo f xs (i + 1)) (by rw [mapTo_length]; omega)]
    by_cases hk : i = j
    · rw [if_pos hk, if_neg (by omega)]
    · rw [if_neg hk]
theorem store_c {w : World} {g i : Nat} {u : Value} (hc : w.cell? ⟨g, i, none⟩ = some u) (hf : w.frozen? ⟨g, i, none⟩ = false) (x y : Nat) : (store ⟨g, i, none⟩ (.complex .f64 x y)).run Try.prog w = .ok () (w.setCell ⟨g, i, none⟩ (.complex .f64 x y)) := by
  rw [run_store Try.prog w _ (.complex .f64 x y) _ rfl, hc]
  simp [hf]
set_option maxHeartbeats 4000000 in
theorem turn_v {w : World} {g n cap : Nat} {xs : List (Nat × Nat)} (hl : xs.length = n) (h0 : 0 < n) (hn : n ≤ 4096) (hg : g < w.heap.size) (hc : ∀ j u, (xs.map cv)[j]? = some u → w.cell? ⟨g, j, none⟩ = some u) {k : Int} {r : Nat} (hr : bits .and .i64 k 3 = (r : Int)) (hr4 : r < 4) :
    Calls Try.prog 24 #[.slice (some ⟨g, 0, none⟩) n cap, .int .i64 k] w fun e w' => ∃ v', e = .returned v' ∧ PRow w' w.heap.size v' n (mapTo (fun _ => turnP r) xs n) ∧ Below w.heap.size w w' := by
  have CL := Lib.hid (clone_v (cap := cap) hl h0 hn hg hc)
  obtain ⟨f, hf⟩ : ∃ f : Nat → Nat × Nat → Nat × Nat, (fun _ => turnP r) = f := ⟨_, rfl⟩
  have hfi : Hid (∀ i p, f i p = turnP r p) := by
    show _
    intro i p
    rw [← hf]
  rw [hf]
  replace hf := Lib.hid hf
  clear hc
  go_enter Try.func24, Try.ntmps24
  go_wp2_with fail
  refine CL.out.mono ?_
  rintro e w1 ⟨v', rfl, hP, hb1⟩
  obtain ⟨g', cap', rfl, hcap', hgB, hgl⟩ := hP.lt
  have hP0 : PRow w1 w.heap.size (.slice (some ⟨g', 0, none⟩) n cap') n (mapTo f xs 0) := by rw [mapTo_zero]; exact hP
  clear hP
  go_wp2_with fail
  go_loopw [13] (fun vi wr => ∃ i : Nat, i ≤ n ∧ vi = .int .i64 i ∧ PRow wr w.heap.size (.slice (some ⟨g', 0, none⟩) n cap') n (mapTo f xs i) ∧ Below w.heap.size w wr) (fun vi _ => n - (intOf vi).toNat)
  case atStart => exact ⟨0, Nat.zero_le _, rfl, hP0, hb1⟩
  case round =>
    clear hP0 hb1
    obtain ⟨i, hi, rfl, hP, hb⟩ := hrel
    by_cases hlt : i < n
    · have hlt' : (i : Int) < n := by omega
      have hi0 : (0 : Int) ≤ (i : Int) := by omega
      have c1 := hP.cell (mapTo_old f xs i (by omega))
      have f1 := hP.free i
      have hset := fun p => hP.set i p
      have hms := mapTo_set f xs i
      have hfv := hfi.out i (xs.getD i (0, 0))
      generalize xs.getD i (0, 0) = p at *
      obtain ⟨a, b⟩ := p
      rw [hfv] at hms
      simp only [cv] at c1
      have hb2 : ∀ v, Below w.heap.size w (wr.setCell ⟨g', i, none⟩ v) := fun v => hb.setCell (p := ⟨g', i, none⟩) (by show w.heap.size ≤ g'; omega) v
      have n1 : (Op.unary .neg (.float .f64 a)).run Try.prog wr = .ok (.float .f64 (Op.negFloat .f64 a)) wr := rfl
      have n2 : (Op.unary .neg (.float .f64 b)).run Try.prog wr = .ok (.float .f64 (Op.negFloat .f64 b)) wr := rfl
      replace hset := Lib.hid hset
      replace hms := Lib.hid hms
      replace hfv := Lib.hid hfv
      replace hb2 := Lib.hid hb2
      rcases (by omega : r = 0 ∨ r = 1 ∨ r = 2 ∨ r = 3) with rfl | rfl | rfl | rfl
      · have st := store_c c1 f1 a b
        go_wp2_with fail
        have hP2 := hset.out (turnP 0 (a, b))
        rw [hms.out] at hP2
        go_roundw
        case rel => first | exact ⟨i + 1, by omega, by go_num, hP2, hb2.out _⟩ | ((repeat apply Exists.intro); exact ⟨⟨i + 1, by omega, by go_num, hP2, hb2.out _⟩, rfl⟩)
        case measure => simp [intOf]; omega
      · have st := store_c c1 f1 (Op.negFloat .f64 b) a
        go_wp2_with fail
        have hP2 := hset.out (turnP 1 (a, b))
        rw [hms.out] at hP2
        go_roundw
        case rel => first | exact ⟨i + 1, by omega, by go_num, hP2, hb2.out _⟩ | ((repeat apply Exists.intro); exact ⟨⟨i + 1, by omega, by go_num, hP2, hb2.out _⟩, rfl⟩)
        case measure => simp [intOf]; omega
      · have st := store_c c1 f1 (Op.negFloat .f64 a) (Op.negFloat .f64 b)
        go_wp2_with fail
        have hP2 := hset.out (turnP 2 (a, b))
        rw [hms.out] at hP2
        go_roundw
        case rel => first | exact ⟨i + 1, by omega, by go_num, hP2, hb2.out _⟩ | ((repeat apply Exists.intro); exact ⟨⟨i + 1, by omega, by go_num, hP2, hb2.out _⟩, rfl⟩)
        case measure => simp [intOf]; omega
      · have st := store_c c1 f1 b (Op.negFloat .f64 a)
        go_wp2_with fail
        have hP2 := hset.out (turnP 3 (a, b))
        rw [hms.out] at hP2
        go_roundw
        case rel => first | exact ⟨i + 1, by omega, by go_num, hP2, hb2.out _⟩ | ((repeat apply Exists.intro); exact ⟨⟨i + 1, by omega, by go_num, hP2, hb2.out _⟩, rfl⟩)
        case measure => simp [intOf]; omega
    · obtain rfl : i = n := by omega
      have hlt' : ¬ (i : Int) < i := by omega
      go_wp2_with fail
      go_ret
      exact ⟨_, rfl, hP, hb⟩
end Go.Proofs.Ytmmkopdijmplcaa.ln
