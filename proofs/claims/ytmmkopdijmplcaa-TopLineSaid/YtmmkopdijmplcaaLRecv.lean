/-
  Receive of the line: a row of points that are near what was sent, turned: the bytes come back.
-/
import Derived.Test.YtmmkopdijmplcaaLLaw
import Derived.Test.YtmmkopdijmplcaaLIdx
import Derived.Test.YtmmkopdijmplcaaLTurn
import Derived.Test.YtmmkopdijmplcaaRRow
import Derived.IntWalk
import Derived.WalkMore
import Derived.Lib.Hide
set_option linter.unusedVariables false
set_option maxRecDepth 100000
namespace Go.Proofs.Ytmmkopdijmplcaa.ln
open Go.RowKit Base HH FF RH
def pils : List (Nat × Nat) := [(4613937818241073152, 4613937818241073152), (13837309855095848960, 4613937818241073152), (13837309855095848960, 13837309855095848960), (4613937818241073152, 13837309855095848960)]
theorem pil_lt : ∀ k, k < 4 → (pil k).1 < 4 ∧ (pil k).2 < 4 := by decide +kernel
theorem pil_same : ∀ k, k < 4 → ∀ j, j < 4 → sameP (prt (pil k).1) (prt (pil k).2) (pils.getD j (0, 0)) = (j == k) := by decide +kernel
theorem join_bits : ∀ a : Nat, a < 16 → ∀ c : Nat, c < 16 → bits .or .u8 ((a : Int) * 16) (c : Int) = ((16 * a + c : Nat) : Int) := by decide +kernel
theorem pils_cells (w : World) : ∀ j, j < 4 → (w.alloc (.cells #[.complex .f64 4613937818241073152 4613937818241073152, .complex .f64 13837309855095848960 4613937818241073152, .complex .f64 13837309855095848960 13837309855095848960, .complex .f64 4613937818241073152 13837309855095848960] 86)).cell? ⟨w.heap.size, j, none⟩ = some (cv (pils.getD j (0, 0))) := by
  intro j hj
  have h := Row.new w [.complex .f64 4613937818241073152 4613937818241073152, .complex .f64 13837309855095848960 4613937818241073152, .complex .f64 13837309855095848960 13837309855095848960, .complex .f64 4613937818241073152 13837309855095848960] 86
  rcases (by omega : j = 0 ∨ j = 1 ∨ j = 2 ∨ j = 3) with rfl | rfl | rfl | rfl
  all_goals exact h.cell rfl
set_option maxHeartbeats 8000000 in
theorem receive_v {w : World} {g n cap m k r : Nat} {xs : List (Nat × Nat)} {l : List UInt8} (hl : xs.length = n) (hnm : 1 + 2 * m = n) (hm : m ≤ 1000) (hg : g < w.heap.size) (hc : ∀ j u, (xs.map cv)[j]? = some u → w.cell? ⟨g, j, none⟩ = some u)
    (hk : k < 4) (hr : (4 - k) % 4 = r) (hp : tk (xs.getD 0 (0, 0)).1 = (pil k).1 ∧ tk (xs.getD 0 (0, 0)).2 = (pil k).2) (hll : l.length = m)
    (hB : ∀ j, j < m → SayB (turnP r (xs.getD (1 + 2 * j) (0, 0))) (turnP r (xs.getD (2 + 2 * j) (0, 0))) (l.getD j 0)) :
    Calls Try.prog 22 #[.slice (some ⟨g, 0, none⟩) n cap] w fun e w' => e = .returned (.tuple #[.string (str l), .int .i64 0]) ∧ Below w.heap.size w w' := by
  obtain ⟨i0, hi, hz0, hz1, hz2⟩ := info_parts infoU8
  obtain ⟨p1, p2⟩ := pil_lt k hk
  have c0 : w.cell? ⟨g, 0, none⟩ = some (cv (xs.getD 0 (0, 0))) := hc 0 _ (by rw [List.getElem?_map, List.getD_eq_getElem?_getD, List.getElem?_eq_getElem (by omega)]; rfl)
  obtain ⟨hp1, hp2⟩ := hp
  have IX := Lib.hid (fun w' : World => index_v (w := w'.alloc (.cells #[.complex .f64 4613937818241073152 4613937818241073152, .complex .f64 13837309855095848960 4613937818241073152, .complex .f64 13837309855095848960 13837309855095848960, .complex .f64 4613937818241073152 13837309855095848960] 86)) (g := w'.heap.size) (c := 4) (n := 4) (x := prt (pil k).1) (y := prt (pil k).2) (k := k) (ps := pils) (by omega) hk (pils_cells w')
    (fun j hj => by rw [pil_same k hk j (by omega)]; exact beq_eq_false_iff_ne.2 (by omega)) (by rw [pil_same k hk k hk]; exact beq_self_eq_true _))
  have hb1 := (Below.refl w.heap.size w).alloc (Nat.le_refl _) (.cells #[.complex .f64 4613937818241073152 4613937818241073152, .complex .f64 13837309855095848960 4613937818241073152, .complex .f64 13837309855095848960 13837309855095848960, .complex .f64 4613937818241073152 13837309855095848960] 86)
  have TU := Lib.hid (turn_v (w := w.alloc (.cells #[.complex .f64 4613937818241073152 4613937818241073152, .complex .f64 13837309855095848960 4613937818241073152, .complex .f64 13837309855095848960 13837309855095848960, .complex .f64 4613937818241073152 13837309855095848960] 86)) (cap := cap) (k := -(k : Int)) (r := r) hl (by omega) (by omega) (by simp; omega) (fun j u hj => (hb1.cell (p := ⟨g, j, none⟩) hg).trans (hc j u hj)) (by rw [turn_back k hk, hr]) (by omega))
  generalize pil k = pk at *
  obtain ⟨d0, e0⟩ := pk
  generalize hx0 : xs.getD 0 (0, 0) = x0 at *
  obtain ⟨a0, b0⟩ := x0
  simp only [cv] at c0 p1 p2 hp1 hp2 IX
  have hw : IntKind.i64.wrap (-(k : Int)) = -(k : Int) := IntWalk.i64_in _ (by omega)
  have h4096 : ¬ (4096 : Int) < n := by omega
  have hn0 : (0 : Int) < n := by omega
  have hk0 : ¬ ((k : Int) < 0) := by omega
  have hodd : ¬ ((n : Int) % 2 = 0) := by omega
  have hodd' : (n : Int).tmod 2 = 1 := by rw [Int.tmod_eq_emod_of_nonneg (by omega)]; omega
  replace hx0 := Lib.hid hx0
  replace hr := Lib.hid hr
  replace hB := Lib.hid hB
  replace hk := Lib.hid hk
  clear hc
  go_enter Try.func22, Try.ntmps22
  go_wp2_with fail
  go_step3
  go_wp2_with fail
  (with_reducible refine (near_v hp1 hp2 p1 p2 _).mono ?_)
  rintro e w' ⟨rfl, rfl⟩
  go_wp2_with fail
  (with_reducible refine (IX.out _).mono ?_)
  rintro e w' ⟨rfl, rfl⟩
  go_wp2_with fail
  (with_reducible refine (TU.out).mono ?_)
  rintro e w2 ⟨v2, rfl, hP2, hb2'⟩
  have hb2 := hb1.trans (hb2'.mono hb1.size)
  obtain ⟨g2, cp2, rfl, hcp2, hgB2, hg2⟩ := hP2.lt
  clear hb1 hb2' hgB2 TU IX c0
  have hcp : ∀ i, i < n → w2.cell? ⟨g2, i, none⟩ = some (cv (turnP r (xs.getD i (0, 0)))) := fun i h => hP2.cell (by rw [mapTo_at _ _ _ _ (by omega), if_pos h])
  replace hcp := Lib.hid hcp
  clear hP2
  go_wp2_with fail
  go_loopw [4, 5, 9] (fun v ve vi wr => ∃ j i : Nat, j ≤ m ∧ 1 + 2 * j = i ∧ vi = .int .i64 (i : Int) ∧ ve = .int .i64 0 ∧ wr.ownsRow w2.heap.size 5 1 v j ((l.map bv).take j) ∧ Below w2.heap.size w2 wr) (fun _ _ vi _ => n - (intOf vi).toNat)
  case atStart => exact ⟨0, 1, Nat.zero_le _, rfl, rfl, rfl, World.ownsRow_nil _ _ _ _, Below.refl _ _⟩
  case round =>
    obtain ⟨j, i, hj, hij, rfl, rfl, ho, hb⟩ := hrel
    by_cases hlt : j < m
    · have hin : (i : Int) < n := by omega
      have hi0 : (0 : Int) ≤ (i : Int) := by omega
      have hin2 : ((i + 1 : Nat) : Int) < n := by omega
      have hi02 : (0 : Int) ≤ ((i + 1 : Nat) : Int) := by omega
      have e1 : IntKind.i64.wrap ((i : Int) + 1) = ((i + 1 : Nat) : Int) := (IntWalk.i64_in _ (by omega)).trans (by omega)
      have e2 : IntKind.i64.wrap ((i : Int) + 2) = ((i + 2 : Nat) : Int) := (IntWalk.i64_in _ (by omega)).trans (by omega)
      have c1 := (hb.cell (p := ⟨g2, i, none⟩) hg2).trans (hcp.out i (by omega))
      have c2 := (hb.cell (p := ⟨g2, i + 1, none⟩) hg2).trans (hcp.out (i + 1) (by omega))
      obtain ⟨t1, t2, t3, t4⟩ := hB.out j hlt
      rw [hij] at t1 t2
      rw [show 2 + 2 * j = i + 1 from by omega] at t3 t4
      have hsu : Hid ((l.map bv).take (j + 1) = (l.map bv).take j ++ [bv (l.getD j 0)]) := by
        show _ = _
        rw [List.take_succ_eq_append_getElem (by rw [List.length_map]; omega), List.getElem_map, List.getD_eq_getElem?_getD, List.getElem?_eq_getElem (by omega)]
        rfl
      generalize l.getD j 0 = b at *
      generalize turnP r (xs.getD i (0, 0)) = q1 at *
      generalize turnP r (xs.getD (i + 1) (0, 0)) = q2 at *
      obtain ⟨a1, b1⟩ := q1
      obtain ⟨a2, b2⟩ := q2
      simp only [cv] at c1 c2 t1 t2 t3 t4
      have hb256 : b.toNat < 256 := b.toNat_lt
      have N1 := fun w => number_v t1 t2 (by omega) (by omega) w
      have N2 := fun w => number_v t3 t4 (by omega) (by omega) w
      have hjb := join_bits (b.toNat / 16) (by omega) (b.toNat % 16) (by omega)
      rw [show 16 * (b.toNat / 16) + b.toNat % 16 = b.toNat from by omega] at hjb
      rw [show 4 * (b.toNat / 64) + b.toNat / 16 % 4 = b.toNat / 16 from by omega] at N1
      rw [show 4 * (b.toNat % 16 / 4) + b.toNat % 4 = b.toNat % 16 from by omega] at N2
      have h16 : b.toNat / 16 < 16 := by omega
      have h17 : b.toNat % 16 < 16 := by omega
      generalize b.toNat / 16 = m1 at *
      generalize b.toNat % 16 = m2 at *
      replace N1 := Lib.hid N1
      replace N2 := Lib.hid N2
      clear t1 t2 t3 t4
      go_wp2_with fail
      (with_reducible refine (N1.out _).mono ?_)
      rintro e w' ⟨rfl, rfl⟩
      go_wp2_with fail
      (with_reducible refine (N2.out _).mono ?_)
      rintro e w' ⟨rfl, rfl⟩
      go_wp2_with (at_builtin; (refine wpList_append_own _ rfl (.tmp 70) (.tmp 75) 82 rfl w2.heap.size 5 i0 (.int .u8 0) 1 1 Try.underlying82 hi hz0 hz1 hz2 rfl (by decide) _ _ _ (by rfl) (World.ownsRow.alloc (w := wr) ho _) ⟨wr.heap.size, 0, none⟩ 1 1 [bv b] (by rfl) rfl ?c1 ?c2 ?c3 ?c4 ?c5 ?_))
      case c1 => (try rw [hjb]); exact cell_one_new _ _ _
      case c2 => exact one_cell _ rfl
      case c3 => unfold maxLen; omega
      case c4 => omega
      case c5 => have := hb.size; simp; omega
      intro v' w4 ho' hgr _
      rw [← hsu.out] at ho'
      have hb4 := (hb.alloc hb.size _).grown hgr (by have := hb.size; simp; omega) (fun q e => (ho.lt q e).1)
      clear ho hgr hb c1 c2 N1 N2
      go_wp2_with fail
      go_roundw
      case rel => first | exact ⟨j + 1, i + 2, by omega, by omega, by go_num, rfl, ho', hb4⟩ | ((repeat apply Exists.intro); exact ⟨⟨j + 1, i + 2, by omega, by omega, by go_num, rfl, ho', hb4⟩, rfl⟩)
      case measure => simp [intOf]; omega
    · obtain rfl : j = m := by omega
      have hlt' : ¬ (i : Int) < n := by omega
      have hbB := hb2.trans (hb.mono hb2.size)
      rw [List.take_of_length_le (by rw [List.length_map]; omega)] at ho
      have hcv := run_back wr 82 9 5 Try.underlying82 Try.underlying5 Try.underlying9 ho
      go_wp2_with fail
      go_step3
      go_wp2_with fail
      (try rw [Exit.noGoto_ret])
      go_ret2
      exact ⟨rfl, hbB⟩
end Go.Proofs.Ytmmkopdijmplcaa.ln
