/-
  A new hash, and what it holds while other memory turns; no condition.
-/
import Derived.Test.YtmmkopdijmplcaaHWrite
import Derived.Test.YtmmkopdijmplcaaHBig
import Derived.Deep.CutRange
namespace Go.Proofs.Ytmmkopdijmplcaa.HH
open Go.RowKit Base
theorem HashAt.lt {w : World} {g : Nat} {l : List UInt8} (h : HashAt w g l) : g < w.heap.size := by obtain ⟨B, _, hR⟩ := h; exact hR.lt
theorem HashAt.below {w w1 : World} {g D : Nat} {l : List UInt8} (h : HashAt w g l) (hb : Below D w w1) (hD : g < D) : HashAt w1 g l := by
  obtain ⟨B, hB, hR⟩ := h
  exact ⟨B, hB, hR.below hb hD⟩
theorem HashAt.grown {w w1 : World} {g : Nat} {l : List UInt8} (h : HashAt w g l) {r : Option Nat} (hg : w.grownBy w1 r) (hne : r ≠ some g) : HashAt w1 g l := by
  obtain ⟨B, hB, hR⟩ := h
  exact ⟨B, hB, hR.grown hg hne⟩
theorem HashAt.drew {w : World} {g : Nat} {l : List UInt8} (h : HashAt w g l) : HashAt w.drew g l := h
theorem HashAt.drewN {w : World} {g : Nat} {l : List UInt8} (h : HashAt w g l) (n : Nat) : HashAt (w.drewN n) g l := h
theorem new_hash (w : World) : Calls Try.prog 61 #[] w fun e w' => e = .returned (.pointer (some ⟨w.heap.size, 0, none⟩)) ∧ HashAt w' w.heap.size [] ∧ Below w.heap.size w w' ∧ w'.heap.size = w.heap.size + 1 := by
  refine (new_any w).mono ?_
  rintro e w' ⟨rfl, rfl⟩
  refine ⟨rfl, ⟨List.replicate 64 0, ⟨rfl, rfl⟩, ?_⟩, (Below.refl _ _).alloc (Nat.le_refl _) _, by simp⟩
  exact heap_alloc_new w _
def zeroH : Array Value := Array.replicate 8 (.int .u32 0) ++ Array.replicate 64 (.int .u8 0) ++ #[.int .i64 0]
theorem hsC_one (l B : List UInt8) : (hsC l B).toArray.all (·.oneCell') = true := by
  rw [Array.all_eq_true_iff_forall_mem]
  intro v hv
  have hv2 : v ∈ hsC l B := by simpa using hv
  unfold hsC hsG at hv2
  rw [List.mem_append, List.mem_append] at hv2
  rcases hv2 with (hv2 | hv2) | hv2
  · simp [stA] at hv2
    rcases hv2 with rfl | rfl | rfl | rfl | rfl | rfl | rfl | rfl <;> rfl
  · obtain ⟨x, _, rfl⟩ := List.mem_map.1 hv2
    rfl
  · simp at hv2
    subst hv2
    rfl
end Go.Proofs.Ytmmkopdijmplcaa.HH
