/-
  The calls of a reader with what they return handed in by an equation: so that a walk carries names.
-/
import Derived.Test.YtbgnffgceeclhaaRows
import Derived.Test.YtbgnffgceeclhaaBase
import Derived.Test.YtbgnffgceeclhaaPut
import Derived.Test.YtbgnffgceeclhaaBits
import Derived.Test.YtbgnffgceeclhaaReader
import Derived.Test.YtbgnffgceeclhaaFixed
import Derived.Test.YtbgnffgceeclhaaOps
import Derived.Deep.QuietTactic
import Derived.BigQuiet
import Derived.WalkSmall
import Derived.Deep.LoopGhost
import Derived.Deep.CutRange
import Derived.Deep.RegionLaw
import Derived.Deep.CutBlock
namespace Go.Proofs.Ytbgnffgceeclhaa
open Go.RowKit Base
theorem num_v {w : World} {b : Nat} {r : Rd} (h : RdAt w b r) {n : Int} {v : Int} (hv : r.numV n = v) : Calls Try.prog 19 #[.pointer (some ⟨b, 0, none⟩), .int .i64 n] w fun e w' => e = .returned (.int .i64 v) ∧ RdAt w' b (r.numR n) ∧ w.grownBy w' (some b) := by
  subst hv
  exact num_any h n
theorem text_v {w : World} {b : Nat} {r : Rd} (h : RdAt w b r) {n : Int} {v : ByteArray} (hv : r.textV n = v) : Calls Try.prog 18 #[.pointer (some ⟨b, 0, none⟩), .int .i64 n] w fun e w' => e = .returned (.string v) ∧ RdAt w' b (r.textR n) ∧ w.grownBy w' (some b) := by
  subst hv
  exact text_any h n
theorem bytes_v {w : World} {b : Nat} {r : Rd} (h : RdAt w b r) {n : Int} {v : ByteArray} (hv : r.bytesV n = v) : Calls Try.prog 23 #[.pointer (some ⟨b, 0, none⟩), .int .i64 n] w fun e w' => e = .returned (.string v) ∧ RdAt w' b (r.bytesR n) ∧ w.grownBy w' (some b) := by
  subst hv
  exact bytes_any h n
theorem rdAt_drew {w : World} {b : Nat} {r : Rd} (h : RdAt w b r) : RdAt w.drew b r := ⟨h.blk, h.size, h.at_le⟩
theorem ops_cells (w : World) (x y : Int) : (w.alloc (.cells #[.int .i64 x, .int .i64 y] 45)).cell? ⟨w.heap.size, 0, none⟩ = some (.int .i64 x) ∧ (w.alloc (.cells #[.int .i64 x, .int .i64 y] 45)).cell? ⟨w.heap.size, 1, none⟩ = some (.int .i64 y) :=
  ⟨World.cell?_alloc_new w _ _ 0, World.cell?_alloc_new w _ _ 1⟩
theorem fault_v {w : World} {b : Nat} {r : Rd} (h : RdAt w b r) {f p : Int} (hf : r.fault = f) (hp : r.faultP = p) : Calls Try.prog 22 #[.pointer (some ⟨b, 0, none⟩)] w fun e w' => ∃ n, e = .returned (.tuple #[.int .i64 f, .int .i64 p]) ∧ w' = w.drewN n := by
  subst hf
  subst hp
  exact (fault_any h).mono fun _ _ ⟨h1, n, h2⟩ => ⟨n, h1, h2⟩
theorem at_v {w : World} {b : Nat} {r : Rd} (h : RdAt w b r) {p : Int} (hp : ((r.at_ : Nat) : Int) = p) : Calls Try.prog 21 #[.pointer (some ⟨b, 0, none⟩)] w fun e w' => e = .returned (.int .i64 p) ∧ w = w' := by
  subst hp
  exact at_any h
theorem left_v {w : World} {b : Nat} {r : Rd} (h : RdAt w b r) {p : Int} (hp : (r.s.size : Int) - r.at_ = p) : Calls Try.prog 24 #[.pointer (some ⟨b, 0, none⟩)] w fun e w' => ∃ n, e = .returned (.int .i64 p) ∧ w' = w.drewN n := by
  subst hp
  exact (left_any h).mono fun _ _ ⟨h1, n, h2⟩ => ⟨n, h1, h2⟩
theorem ne_yes {x y : Int} (h : x ≠ y) : (x != y) = true := by rw [bne_iff_ne]; exact h
theorem eq_yes {x y : Int} (h : x = y) : (x == y) = true := by rw [h]; exact beq_self_eq_true _
theorem eq_no {x y : Int} (h : x ≠ y) : (x == y) = false := by rw [beq_eq_false_iff_ne]; exact h
end Go.Proofs.Ytbgnffgceeclhaa
