/-
  Rows of points: Clone, Send; the bytes as points.
-/
import Derived.Test.YtmmkopdijmplcaaLTake
import Derived.Test.YtmmkopdijmplcaaRKeyl
import Derived.Lib.Hide
set_option linter.unusedVariables false
set_option maxRecDepth 100000
namespace Go.Proofs.Ytmmkopdijmplcaa.ln
open Go.RowKit Base HH FF RH
theorem own_b {g n c q : Nat} (e : (Value.slice (some ⟨g, 0, none⟩) n c).ownBlock = some q) : g = q := Option.some.inj e
def cv (p : Nat × Nat) : Value := .complex .f64 p.1 p.2
theorem infoC : (Try.prog.info? 86).map (fun i => (i.zero, i.size, i.bytes)) = some (some (.complex .f64 0 0), 1, 16) := by kernel_rfl
theorem infoC_parts : ∃ i, Try.prog.info? 86 = some i ∧ i.zero = some (.complex .f64 0 0) ∧ i.size = 1 ∧ i.bytes = 16 := by
  have h := infoC
  cases hi : Try.prog.info? 86 with
  | none => rw [hi] at h; cases h
  | some i =>
    rw [hi] at h
    have h2 := Option.some.inj h
    exact ⟨i, rfl, congrArg Prod.fst h2, congrArg (fun p => p.2.1) h2, congrArg (fun p => p.2.2) h2⟩
theorem cv_one (xs : List (Nat × Nat)) : ∀ v ∈ xs.map cv, v.oneCell' = true := by
  intro v hv
  obtain ⟨p, _, rfl⟩ := List.mem_map.1 hv
  rfl
/-- a row of points of the call's own, that is not nil -/
def PRow (w : World) (B : Nat) (v : Value) (n : Nat) (xs : List (Nat × Nat)) : Prop :=
  xs.length = n ∧ ∃ g cap cur, v = .slice (some ⟨g, 0, none⟩) n cap ∧ B ≤ g ∧ w.heap[g]? = some (.cells cur 86 (0, 0)) ∧ n ≤ cap ∧ cap ≤ maxLen ∧ cur.size = cap ∧ cur.toList.take n = xs.map cv
section
variable {w w1 : World} {B n : Nat} {v : Value} {xs : List (Nat × Nat)}
theorem PRow.of_own (h : w.ownsRow B 86 1 v n (xs.map cv)) (hl : xs.length = n) (h0 : 0 < n) : PRow w B v n xs := by
  obtain ⟨_, ⟨_, h2⟩ | ⟨g, cap, cur, rfl, hB, hg, hn, hm, hs, ht⟩⟩ := h
  · omega
  · exact ⟨hl, g, cap, cur, rfl, hB, hg, hn, hm, by rw [hs, Nat.mul_one], by rw [← ht, Nat.mul_one]⟩
theorem PRow.own (h : PRow w B v n xs) : w.ownsRow B 86 1 v n (xs.map cv) := by
  obtain ⟨hl, g, cap, cur, rfl, hB, hg, hn, hm, hs, ht⟩ := h
  exact ⟨by rw [List.length_map, hl, Nat.mul_one], .inr ⟨g, cap, cur, rfl, hB, hg, hn, hm, by rw [hs, Nat.mul_one], by rw [← ht, Nat.mul_one]⟩⟩
theorem PRow.lt (h : PRow w B v n xs) : ∃ g cap, v = .slice (some ⟨g, 0, none⟩) n cap ∧ n ≤ cap ∧ B ≤ g ∧ g < w.heap.size := by
  obtain ⟨_, g, cap, cur, rfl, hB, hg, hn, _⟩ := h
  exact ⟨g, cap, rfl, hn, hB, (Array.getElem?_eq_some_iff.1 hg).1⟩
theorem PRow.mono {B' : Nat} (h : PRow w B v n xs) (hB : B' ≤ B) : PRow w B' v n xs := by
  obtain ⟨h0, g, cap, cur, rfl, hb, r⟩ := h
  exact ⟨h0, g, cap, cur, rfl, Nat.le_trans hB hb, r⟩
theorem PRow.below (h : PRow w B v n xs) (hb : Below w.heap.size w w1) : PRow w1 B v n xs := by
  obtain ⟨h0, g, cap, cur, rfl, hB, hg, h⟩ := h
  exact ⟨h0, g, cap, cur, rfl, hB, (hb.block g (Array.getElem?_eq_some_iff.1 hg).1).trans hg, h⟩
theorem PRow.cell {g cap : Nat} (h : PRow w B (.slice (some ⟨g, 0, none⟩) n cap) n xs) {j : Nat} {p : Nat × Nat} (hj : xs[j]? = some p) : w.cell? ⟨g, j, none⟩ = some (cv p) := by
  obtain ⟨h0, g', cap', cur, he, hB, hg, hn, _, hs, ht⟩ := h
  injection he with ha
  injection ha with ha
  injection ha with e1
  subst e1
  have hjn : j < n := by rw [← h0]; exact (List.getElem?_eq_some_iff.1 hj).1
  have h1 := congrArg (fun l => l[j]?) ht
  simp only [List.getElem?_take, if_pos hjn, List.getElem?_map, hj, Option.map_some] at h1
  unfold World.cell?
  rw [hg]
  simpa using h1
theorem PRow.free {g cap : Nat} (h : PRow w B (.slice (some ⟨g, 0, none⟩) n cap) n xs) (j : Nat) : w.frozen? ⟨g, j, none⟩ = false := by
  obtain ⟨h0, g', cap', cur, he, hB, hg, hn, _, hs, ht⟩ := h
  injection he with ha
  injection ha with ha
  injection ha with e1
  subst e1
  simp [World.frozen?, hg]
theorem PRow.set {g cap : Nat} (h : PRow w B (.slice (some ⟨g, 0, none⟩) n cap) n xs) (j : Nat) (p : Nat × Nat) : PRow (w.setCell ⟨g, j, none⟩ (cv p)) B (.slice (some ⟨g, 0, none⟩) n cap) n (xs.set j p) := by
  obtain ⟨h0, g', cap', cur, he, hB, hg, hn, hm, hs, ht⟩ := h
  injection he with ha e2 e3
  injection ha with ha
  injection ha with e1
  subst e1
  subst e3
  refine ⟨by rw [List.length_set, h0], g, cap, cur.setIfInBounds j (cv p), rfl, hB, ?_, hn, hm, by rw [Array.size_setIfInBounds, hs], ?_⟩
  · rw [setCell_eq_setRow w g j cur 86 (0, 0) (cv p) hg]
    exact setRow_heap w g cur _ 86 _ hg
  · rw [Array.toList_setIfInBounds, List.take_set, ht, List.map_set]
end
set_option maxHeartbeats 1000000 in
theorem clone_v {w : World} {g n cap : Nat} {xs : List (Nat × Nat)} (hl : xs.length = n) (h0 : 0 < n) (hn : n ≤ 4096) (hg : g < w.heap.size) (hc : ∀ j u, (xs.map cv)[j]? = some u → w.cell? ⟨g, j, none⟩ = some u) :
    Calls Try.prog 56 #[.slice (some ⟨g, 0, none⟩) n cap] w fun e w' => ∃ v', e = .returned v' ∧ PRow w' w.heap.size v' n xs ∧ Below w.heap.size w w' := by
  obtain ⟨i0, hi, hz0, hz1, hz2⟩ := infoC_parts
  have ho0 := World.ownsRow_made (base := w.heap.size) (e := 86) (size := 1) w #[] 0 (Nat.le_refl _) (Nat.zero_le _) rfl
  have hb0 := (Below.refl w.heap.size w).alloc (Nat.le_refl _) (.cells #[] 86)
  have hnews : ∀ j u, (xs.map cv)[j]? = some u → (w.alloc (.cells #[] 86)).cell? ((⟨g, 0, none⟩ : Addr).add j) = some u := fun j u hj => by
    rw [Addr.add_mid, Nat.zero_add]
    exact (((Below.refl w.heap.size w).alloc (Nat.le_refl _) _).cell (p := ⟨g, j, none⟩) hg).trans (hc j u hj)
  have hnil : (binOp .eql 41 (.slice (some ⟨g, 0, none⟩) n cap) (.slice none 0 0)).run Try.prog w = .ok (.bool false) w := by
    simp only [binOp]
    simp [run_equal_slice_nil w 41 86 _ n cap Try.underlying41]
  go_enter Try.func56, Try.ntmps56
  go_wp2_with (at_builtin; refine wpList_append_own _ rfl (.tmp 5) (.tmp 6) 41 rfl w.heap.size 86 i0 (.complex .f64 0 0) 1 16 Try.underlying41 hi hz0 hz1 hz2 rfl (by decide) _ _ _ (by rfl) ho0 ⟨g, 0, none⟩ n cap (xs.map cv) (by rfl) (by rw [List.length_map, hl, Nat.mul_one]) hnews (cv_one xs) (by unfold maxLen; omega) (by omega) (by simp) ?_)
  intro v' w1 ho hg' _
  have hb1 : Below w.heap.size w w1 := hb0.grown hg' (by simp) (fun q e => by have := own_b e; omega)
  go_wp2_with fail
  go_ret
  exact ⟨_, rfl, PRow.of_own (by first | exact ho | simpa using ho) hl h0, hb1⟩
end Go.Proofs.Ytmmkopdijmplcaa.ln
