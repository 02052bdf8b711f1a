/-
  Rows of pairs that the call owns: where they lie, and parts of them.
-/
import Derived.Test.YtchdalicoafamaaRows
import Derived.Test.YtchdalicoafamaaBase
import Derived.Test.YtchdalicoafamaaLat
import Derived.Test.YtchdalicoafamaaClosed
import Derived.Test.YtchdalicoafamaaLattice
import Derived.Test.YtchdalicoafamaaLists
import Derived.Test.YtchdalicoafamaaMake
import Derived.Test.YtchdalicoafamaaSame
import Derived.Test.YtchdalicoafamaaJoins
import Derived.Test.YtchdalicoafamaaArgsL
import Derived.Test.YtchdalicoafamaaMoreP
import Derived.Test.YtchdalicoafamaaPairsP
import Derived.Test.YtchdalicoafamaaAppend
import Derived.Deep.QuietTactic
import Derived.BigQuiet
import Derived.WalkSmall
import Derived.ChangeKeysEq
import Derived.Deep.Slices
import Derived.OpenShut
import Derived.Deep.LoopGhost
import Derived.Deep.CutRange
import Derived.Deep.RegionLaw
import Derived.Deep.RegionHeld3
namespace Go.Proofs.Ytchdalicoafamaa
open Go.RowKit Base Go.ChangeShapes Go.WideShapes
theorem flatI_pz (l : List (Nat × Nat)) : flatI (Lat.pz l) = l.flatMap pv := by
  unfold flatI Lat.pz
  rw [List.flatMap_map]
  rfl
theorem PRow.of_pairs {w : World} {B : Nat} {v : Value} {l : List (Nat × Nat)} (h : w.ownsRow B 33 2 v l.length (l.flatMap pv)) : PRow w B v (Lat.pz l) := by
  unfold PRow
  rw [Lat.pz_length, flatI_pz]
  exact h
/-- the pairs of a row, where they lie -/
structure PLies (w : World) (g len : Nat) (ps : List (Int × Int)) : Prop where
  len_eq : ps.length = len
  lt : 0 < len → g < w.heap.size
  fst : ∀ k, k < len → w.cell? ⟨g, k * 2, none⟩ = some (.int .i64 (ps.getD k (0, 0)).1)
  snd : ∀ k, k < len → w.cell? ⟨g, k * 2 + 1, none⟩ = some (.int .i64 (ps.getD k (0, 0)).2)
theorem PLies.below {w w' : World} {B g len : Nat} {ps : List (Int × Int)} (h : PLies w g len ps) (hb : Below B w w') (hB : w.heap.size ≤ B) : PLies w' g len ps :=
  ⟨h.len_eq, fun h0 => by have := h.lt h0; have := hb.size; omega, fun k hk => (hb.cell (p := ⟨g, k * 2, none⟩) (by have := h.lt (by omega); show g < B; omega)).trans (h.fst k hk), fun k hk => (hb.cell (p := ⟨g, k * 2 + 1, none⟩) (by have := h.lt (by omega); show g < B; omega)).trans (h.snd k hk)⟩
theorem getD_take {ps : List (Int × Int)} {i k : Nat} (h : k < i) : (ps.take i).getD k (0, 0) = ps.getD k (0, 0) := by
  rw [List.getD_eq_getElem?_getD, List.getD_eq_getElem?_getD, List.getElem?_take, if_pos h]
theorem getD_drop {ps : List (Int × Int)} {i k : Nat} : (ps.drop i).getD k (0, 0) = ps.getD (i + k) (0, 0) := by
  rw [List.getD_eq_getElem?_getD, List.getD_eq_getElem?_getD, List.getElem?_drop]
theorem PLies.all {w : World} {g len : Nat} {ps : List (Int × Int)} (h : PLies w g len ps) : PairsIn w (some ⟨g, 0, none⟩) len ps :=
  ⟨h.len_eq, fun k hk => ⟨_, rfl, h.lt (by omega), by rw [add_zero_at]; exact h.fst k hk, by rw [add_zero_at]; exact h.snd k hk⟩⟩
theorem PLies.take {w : World} {g len : Nat} {ps : List (Int × Int)} (h : PLies w g len ps) {i : Nat} (hi : i ≤ len) : PairsIn w (some ⟨g, 0, none⟩) i (ps.take i) :=
  ⟨by rw [List.length_take, h.len_eq]; omega, fun k hk => ⟨_, rfl, h.lt (by omega), by rw [add_zero_at, getD_take hk]; exact h.fst k (by omega), by rw [add_zero_at, getD_take hk]; exact h.snd k (by omega)⟩⟩
theorem PLies.drop {w : World} {g len : Nat} {ps : List (Int × Int)} (h : PLies w g len ps) {i o m : Nat} (hi : i ≤ len) (ho : m = 0 ∨ o = i * 2) (hm : m = len - i) : PairsIn w (some ⟨g, o, none⟩) m (ps.drop i) := by
  subst hm
  refine ⟨by rw [List.length_drop, h.len_eq], fun k hk => ?_⟩
  obtain rfl : o = i * 2 := by omega
  have e : ∀ x : Nat, (⟨g, i * 2, none⟩ : Addr).add x = ⟨g, i * 2 + x, none⟩ := fun x => by unfold Addr.add; split <;> simp_all
  refine ⟨_, rfl, h.lt (by omega), ?_, ?_⟩
  · rw [e, getD_drop, ← Nat.add_mul]; exact h.fst _ (by omega)
  · rw [e, getD_drop, ← Nat.add_mul]; exact h.snd _ (by omega)
theorem PRow.lies {w : World} {B : Nat} {v : Value} {qs : List (Int × Int)} (h : PRow w B v qs) (h0 : 0 < qs.length) : ∃ g cap, v = .slice (some ⟨g, 0, none⟩) qs.length cap ∧ qs.length ≤ cap ∧ cap ≤ maxLen ∧ PLies w g qs.length qs := by
  rcases h.2 with ⟨_, e⟩ | ⟨g, cap, cur, hv, _, _, hnc, hm, _⟩
  · omega
  · obtain ⟨ao, cap', hv', _, hc⟩ := owns_cells h
    rw [hv] at hv'
    cases hv'
    refine ⟨g, cap, hv, hnc, hm, rfl, fun _ => ?_, fun k hk => ?_, fun k hk => ?_⟩
    · obtain ⟨g', e, _, hg, _⟩ := hc 0 (by omega)
      cases e
      exact hg
    · obtain ⟨g', e, _, _, hk'⟩ := hc (k * 2) (by omega)
      cases e
      exact hk'.trans (flatI_get qs hk).1
    · obtain ⟨g', e, _, _, hk'⟩ := hc (k * 2 + 1) (by omega)
      cases e
      exact hk'.trans (flatI_get qs hk).2
theorem PRow.form {w : World} {B : Nat} {v : Value} {qs : List (Int × Int)} (h : PRow w B v qs) {n : Nat} (hn : qs.length = n) : ∃ ao cap, v = .slice ao n cap ∧ n ≤ cap ∧ cap ≤ maxLen ∧ PairsIn w ao n qs ∧ (0 < n → ∃ g, ao = some ⟨g, 0, none⟩ ∧ PLies w g n qs) := by
  subst hn
  by_cases h0 : 0 < qs.length
  · obtain ⟨g, cap, hv, h1, h2, h3⟩ := h.lies h0
    exact ⟨_, cap, hv, h1, h2, h3.all, fun _ => ⟨g, rfl, h3⟩⟩
  · obtain ⟨ao, cap, hv, _, hp⟩ := h.pairs
    have hc : cap ≤ maxLen := by
      rcases h.2 with ⟨hv', h00⟩ | ⟨g, cap', cur, hv', _, _, _, hm, _⟩
      · rw [hv, h00] at hv'; simp at hv'; omega
      · rw [hv] at hv'; cases hv'; exact hm
    exact ⟨ao, cap, hv, by omega, hc, hp, fun h1 => absurd h1 h0⟩
theorem if_pairs {w : World} {g len cp : Nat} {ps : List (Int × Int)} (h : PLies w g len ps) {i : Nat} (hi : i ≤ len) (hc : len ≤ cp) : PairsIn w (if cp = i then some ⟨g, 0, none⟩ else some ⟨g, i * 2, none⟩) (len - i) (ps.drop i) := by
  split
  · exact h.drop hi (.inl (by omega)) rfl
  · exact h.drop hi (.inr rfl) rfl
end Go.Proofs.Ytchdalicoafamaa
