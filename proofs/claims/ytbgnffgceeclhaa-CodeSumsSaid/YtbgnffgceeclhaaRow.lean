/-
  A row of bytes: stores into it, a text turned into one, and one turned back into a text; no condition.
-/
import Derived.Test.YtbgnffgceeclhaaBase
import Derived.Test.YtbgnffgceeclhaaBits
namespace Go.Proofs.Ytbgnffgceeclhaa
open Go.RowKit Base
namespace Base
/-- a row of bytes at the head of block g, none of them frozen -/
structure Row (w : World) (g : Nat) (l : List UInt8) : Prop where
  cell : ∀ j, j < l.length → w.cell? ⟨g, j, none⟩ = some (bv (l.getD j 0))
  free : ∀ j, j < l.length → w.frozen? ⟨g, j, none⟩ = false

theorem Row.set {w : World} {g : Nat} {l : List UInt8} (h : Row w g l) {i : Nat} (hi : i < l.length) (c : UInt8) : Row (w.setCell ⟨g, i, none⟩ (bv c)) g (l.set i c) := by
  refine ⟨fun j hj => ?_, fun j hj => ?_⟩
  · rw [List.length_set] at hj
    by_cases e : i = j
    · subst e
      rw [World.cell?_setCell_same w _ _ (h.cell i hi)]
      simp [List.getD, hi]
    · rw [World.cell?_setCell_other w _ _ _ (fun x => e (congrArg Addr.off x)), h.cell j hj]
      simp [List.getD, e]
  · rw [List.length_set] at hj
    rw [World.frozen?_setCell]
    exact h.free j hj
theorem Row.drew {w : World} {g : Nat} {l : List UInt8} (h : Row w g l) : Row w.drew g l := ⟨h.cell, h.free⟩
theorem Row.drewN {w : World} {g : Nat} {l : List UInt8} (h : Row w g l) (n : Nat) : Row (w.drewN n) g l := ⟨h.cell, h.free⟩

theorem conv_row {P : Program} (w : World) (src dst e : TypeId) (s : ByteArray) (hs : P.underlying src = some .string) (hd : P.underlying dst = some (.slice e)) (he : P.underlying e = some (.int .u8)) :
    ∃ cap w1, (convert src dst (.string s)).run P w = .ok (.slice (some ⟨w.heap.size, 0, none⟩) s.size cap) w1 ∧ Below w.heap.size w w1 ∧ s.size ≤ cap ∧ w1.heap.size = w.heap.size + 1 ∧ Row w1 w.heap.size s.data.toList := by
  refine ⟨_, _, run_bytes_of_string w src dst e s hs hd he, (Below.drew (Below.refl _ _)).alloc (Nat.le_refl _) _, grownCap_ge w s.size 0 e, by simp, fun j hj => ?_, fun j hj => ?_⟩
  all_goals
    have hh : (w.drew.alloc (.cells (bytesRow s (grownCap w s.size 0 e)) e ((bytesRow s (grownCap w s.size 0 e)).size, (bytesRow s (grownCap w s.size 0 e)).size + 1))).heap[w.heap.size]? = some (.cells (bytesRow s (grownCap w s.size 0 e)) e ((bytesRow s (grownCap w s.size 0 e)).size, (bytesRow s (grownCap w s.size 0 e)).size + 1)) := heap_alloc_new w.drew _
    have hj' : j < s.size := by simpa using hj
  · unfold World.cell?
    rw [hh]
    simp [bytesRow, Array.getElem?_append, bv, hj']
  · unfold World.frozen?
    rw [hh]
    have hsz : j < (bytesRow s (grownCap w s.size 0 e)).size := by simp [bytesRow]; omega
    simp
    omega

/-- 'string(b)' of such a row. -/
theorem run_row {P : Program} (w : World) (src dst e : TypeId) (hs : P.underlying src = some (.slice e)) (he : P.underlying e = some (.int .u8)) (hd : P.underlying dst = some .string)
    {g cap n : Nat} {l : List UInt8} (h : Row w g l) (hn : n = l.length) : (convert src dst (.slice (some ⟨g, 0, none⟩) n cap)).run P w = .ok (.string (str l)) w := by
  subst hn
  refine run_convert_bytes_back w src dst e ⟨g, 0, none⟩ cap l hs he hd fun j hj => ?_
  have hx := h.cell j hj
  rw [List.getD_eq_getElem?_getD, List.getElem?_eq_getElem hj] at hx
  have ha : (⟨g, 0, none⟩ : Addr).add j = ⟨g, j, none⟩ := by unfold Addr.add; split <;> simp_all
  rw [ha]
  exact hx
end Base
end Go.Proofs.Ytbgnffgceeclhaa
