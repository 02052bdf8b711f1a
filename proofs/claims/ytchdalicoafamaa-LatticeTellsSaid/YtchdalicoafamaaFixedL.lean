/-
  The fixed calls of the lattice: they answer as the document says.
-/
import Derived.Test.YtchdalicoafamaaRows
import Derived.Test.YtchdalicoafamaaBase
import Derived.Test.YtchdalicoafamaaLat
import Derived.Test.YtchdalicoafamaaClosed
import Derived.Test.YtchdalicoafamaaLattice
import Derived.Test.YtchdalicoafamaaLists
import Derived.Test.YtchdalicoafamaaMake
import Derived.Test.YtchdalicoafamaaSame
import Derived.Test.YtchdalicoafamaaJoins
import Derived.Deep.QuietTactic
import Derived.BigQuiet
import Derived.WalkSmall
import Derived.ChangeKeysEq
import Derived.Deep.LoopGhost
namespace Go.Proofs.Ytchdalicoafamaa
open Go.RowKit Base
namespace Lat
theorem trans_small {u : Nat → BitVec 8} (h : ∀ a, a < 8 → ∀ b, b < 8 → ∀ c, c < 8 → (u a).getLsbD b = true → (u b).getLsbD c = true → (u a).getLsbD c = true) : Trans u := by
  intro a b c ha hb hab hbc
  exact h a ha b hb c (BitVec.lt_of_getLsbD hbc) hab hbc
def P5 : List (Int × Int) := [(0, 1), (0, 2), (1, 3), (2, 3), (0, 3)]
def U5 : Nat → BitVec 8 := addTo (initTo 4) P5
theorem up5 : up 4 P5 = U5 := clo_of_trans (trans_small (by decide +kernel))
theorem new5 : newE 4 P5 = 0 := by
  refine newE_ok (n := 4) (by decide) (by decide) ?_ ?_
  · rw [up5]; decide +kernel
  · rw [up5]
    have : ∀ a, a < 4 → ∀ b, b < 4 → joinBad 4 U5 (down 4 U5) a b = false := by decide +kernel
    exact fun a b ha hb => this a ha b hb
theorem new0 : newE 0 [] = 40 := newE_size (by decide)
theorem new1 : newE 2 [(0, 2)] = 41 := newE_pair (k := 0) (by decide) (by decide) (by decide)
theorem new2 : newE 2 [(0, 1), (1, 0)] = 42 := by
  have hu : up 2 [(0, 1), (1, 0)] = addTo (initTo 2) [(0, 1), (1, 0)] := clo_of_trans (trans_small (by decide +kernel))
  refine newE_loop (n := 2) (a := 0) (by decide) (by decide) (by decide) ?_
  rw [hu]; decide +kernel
theorem new3 : newE 2 [] = 43 := by
  have hu : up 2 [] = addTo (initTo 2) [] := clo_of_trans (trans_small (by decide +kernel))
  refine newE_join (n := 2) (a := 0) (b := 1) (by decide) (by decide) ?_ (by decide) (by decide) ?_
  · rw [hu]; decide +kernel
  · rw [hu]; decide +kernel
theorem said5 : joinF 4 U5 1 2 = 3 ∧ joinF 4 (down 4 U5) 1 2 = 0 ∧ joinF 4 U5 1 9 = -1 ∧ endF 4 (down 4 U5) (allF 4) = 3 ∧ endF 4 U5 (allF 4) = 0 ∧ flowsB 4 U5 0 3 = true ∧ flowsB 4 U5 1 2 = false := by decide +kernel
theorem pairs5 : pairsTo 4 U5 (down 4 U5) 4 = [(0, 1), (0, 2), (1, 3), (2, 3)] := by decide +kernel
end Lat
theorem list5 : listTo 4 Lat.U5 1 4 = [1, 3] := by decide +kernel
theorem made_ok {w w' : World} {n : Nat} {ps : List (Int × Int)} {e : Ending} (h : Made w n ps e w') (h0 : Lat.newE n ps = 0) :
    ∃ g, e = .returned (.tuple #[.pointer (some ⟨g, 0, none⟩), .int .i64 0]) ∧ Below w.heap.size w w' ∧ w.heap.size ≤ g ∧ LatAt w' g n (Lat.up n ps) (Lat.down n (Lat.up n ps)) := by
  obtain ⟨p, rfl, hb, h⟩ := h
  rcases h with ⟨h1, _⟩ | ⟨_, g, rfl, hg, hA⟩
  · exact absurd h0 h1
  · rw [Int.toNat_natCast] at hA
    exact ⟨g, by rw [h0], hb, hg, hA⟩
theorem made_no {w w' : World} {n : Int} {ps : List (Int × Int)} {e : Ending} {c : Int} (h : Made w n ps e w') (h0 : Lat.newE n ps = c) (hc : c ≠ 0) :
    e = .returned (.tuple #[.pointer none, .int .i64 c]) ∧ Below w.heap.size w w' := by
  obtain ⟨p, rfl, hb, h⟩ := h
  rcases h with ⟨_, rfl⟩ | ⟨h1, _⟩
  · exact ⟨by rw [h0], hb⟩
  · exact absurd (h0.symm.trans h1) hc
set_option maxHeartbeats 2000000 in
set_option maxRecDepth 8000 in
theorem lfixed_any (w : World) : Calls Try.prog 11 #[] w fun e w' => e = .returned (.bool true) ∧ Below w.heap.size w w' := by
  go_enter Try.func11, Try.ntmps11
  go_wp2_with fail
  refine (lnew_any _ (laid_pairs (ps := Lat.P5) (heap_alloc_new w _) (by intro k hk; have hk : k < 5 := hk; rcases (by omega : k = 0 ∨ k = 1 ∨ k = 2 ∨ k = 3 ∨ k = 4) with rfl | rfl | rfl | rfl | rfl <;> exact ⟨rfl, rfl⟩))).mono ?_
  rintro e w1 hm
  obtain ⟨g, rfl, hb1, hg, hA⟩ := made_ok (n := 4) hm Lat.new5
  rw [Lat.up5] at hA
  have hb := ((Below.refl w.heap.size w).alloc (Nat.le_refl _) _).trans (hb1.mono (by simp))
  clear hm hb1
  go_wp2_with fail
  refine (lnew_any w1 (nil_pairs w1)).mono ?_
  rintro e w2 hm
  obtain ⟨rfl, hb1⟩ := made_no hm Lat.new0 (by decide)
  have hA := hA.below hb1 hA.lt
  have hb := hb.trans (hb1.mono hb.size)
  clear hm hb1
  go_wp2_with fail
  refine (lnew_any _ (laid_pairs (ps := [(0, 2)]) (heap_alloc_new w2 _) (by intro k hk; have hk : k < 1 := hk; obtain rfl : k = 0 := (by omega); exact ⟨rfl, rfl⟩))).mono ?_
  rintro e w3 hm
  obtain ⟨rfl, hb1⟩ := made_no hm Lat.new1 (by decide)
  have hA := (hA.alloc _).below hb1 (hA.alloc _).lt
  have hb := (hb.alloc hb.size _).trans (hb1.mono (hb.alloc hb.size _).size)
  clear hm hb1
  go_wp2_with fail
  refine (lnew_any _ (laid_pairs (ps := [(0, 1), (1, 0)]) (heap_alloc_new w3 _) (by intro k hk; have hk : k < 2 := hk; rcases (by omega : k = 0 ∨ k = 1) with rfl | rfl <;> exact ⟨rfl, rfl⟩))).mono ?_
  rintro e w4 hm
  obtain ⟨rfl, hb1⟩ := made_no hm Lat.new2 (by decide)
  have hA := (hA.alloc _).below hb1 (hA.alloc _).lt
  have hb := (hb.alloc hb.size _).trans (hb1.mono (hb.alloc hb.size _).size)
  clear hm hb1
  go_wp2_with fail
  refine (lnew_any w4 (nil_pairs w4)).mono ?_
  rintro e w5 hm
  obtain ⟨rfl, hb1⟩ := made_no hm Lat.new3 (by decide)
  have hA := hA.below hb1 hA.lt
  have hb := hb.trans (hb1.mono hb.size)
  clear hm hb1
  obtain ⟨s1, s2, s3, s4, s5, s6, s7⟩ := Lat.said5
  go_wp2_with fail
  refine (join_any hA 1 2).mono ?_
  rw [s1]
  rintro e w' ⟨rfl, q1, rfl⟩
  go_wp2_with fail
  refine (meet_any (hA.drewN _) 1 2).mono ?_
  rw [s2]
  rintro e w' ⟨rfl, q2, rfl⟩
  go_wp2_with fail
  refine (join_any (hA.drewN _) 1 9).mono ?_
  rw [s3]
  rintro e w' ⟨rfl, q3, rfl⟩
  go_wp2_with fail
  refine (top_any (hA.drewN _)).mono ?_
  rw [s4]
  rintro e w' ⟨rfl, q4, rfl⟩
  go_wp2_with fail
  refine (bottom_any (hA.drewN _)).mono ?_
  rw [s5]
  rintro e w' ⟨rfl, q5, rfl⟩
  go_wp2_with fail
  refine (flows_any (hA.drewN _) 0 3).mono ?_
  rw [s6]
  rintro e w' ⟨rfl, rfl⟩
  go_wp2_with fail
  refine (flows_any (hA.drewN _) 1 2).mono ?_
  rw [s7]
  rintro e w' ⟨rfl, rfl⟩
  go_wp2_with fail
  refine (levels_any (hA.drewN _)).mono ?_
  rintro e w' ⟨rfl, rfl⟩
  go_wp2_with fail
  have hA := hA.drewN (q1 + q2 + q3 + q4 + q5)
  have hb := below_drewN hb (q1 + q2 + q3 + q4 + q5)
  generalize w5.drewN (q1 + q2 + q3 + q4 + q5) = w6 at *
  refine (above_any hA 1).mono ?_
  rintro e w7 ⟨v, rfl, hown, hb1⟩
  rw [list5] at hown
  obtain ⟨ao, cap, rfl, _, hi⟩ := ints_of_owns hown
  have hA := hA.below hb1 hA.lt
  have hb := hb.trans (hb1.mono hb.size)
  clear hb1 hown
  go_wp2_with fail
  refine (same_any _ (hi.below ((Below.refl _ _).alloc (Nat.le_refl _) _) (Nat.le_refl _)) (laid_ints (xs := [1, 3]) (heap_alloc_new w7 _) (by intro k hk; have hk : k < 2 := hk; rcases (by omega : k = 0 ∨ k = 1) with rfl | rfl <;> rfl)) (by decide)).mono ?_
  rw [show decide (List.map (fun (k : Nat) => (k : Int)) [1, 3] = [1, 3]) = true from rfl]
  rintro e w' ⟨rfl, q6, rfl⟩
  have hA := (hA.alloc (.cells #[.int .i64 1, .int .i64 3] 3)).drewN q6
  have hb := below_drewN (hb.alloc hb.size (.cells #[.int .i64 1, .int .i64 3] 3)) q6
  clear hi
  generalize (w7.alloc (.cells #[.int .i64 1, .int .i64 3] 3)).drewN q6 = w8 at *
  go_wp2_with fail
  refine (pairs_any hA).mono ?_
  rw [Lat.pairs5]
  rintro e w9 ⟨v, rfl, hown, hb1⟩
  obtain ⟨bo, dap, rfl, _, hp⟩ := pairs_of_owns hown
  have hb := hb.trans (hb1.mono hb.size)
  clear hb1 hown
  go_wp2_with fail
  refine (samePairs_any _ (hp.below ((Below.refl _ _).alloc (Nat.le_refl _) _) (Nat.le_refl _)) (laid_pairs (ps := [(0, 1), (0, 2), (1, 3), (2, 3)]) (heap_alloc_new w9 _) (by intro k hk; have hk : k < 4 := hk; rcases (by omega : k = 0 ∨ k = 1 ∨ k = 2 ∨ k = 3) with rfl | rfl | rfl | rfl <;> exact ⟨rfl, rfl⟩)) (by decide)).mono ?_
  rw [show decide (List.map (fun (p : Nat × Nat) => ((p.1 : Int), (p.2 : Int))) [(0, 1), (0, 2), (1, 3), (2, 3)] = [(0, 1), (0, 2), (1, 3), (2, 3)]) = true from rfl]
  rintro e w' ⟨rfl, q7, rfl⟩
  go_wp2_with fail
  go_ret
  exact ⟨rfl, below_drewN (hb.alloc hb.size _) _⟩
end Go.Proofs.Ytchdalicoafamaa
