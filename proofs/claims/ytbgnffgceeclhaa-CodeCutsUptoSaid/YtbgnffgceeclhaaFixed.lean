/-
  The calls that the document fixes answer as fixed: the call returns true, in whatever memory.
-/
import Derived.Test.YtbgnffgceeclhaaRows
import Derived.Test.YtbgnffgceeclhaaBase
import Derived.Test.YtbgnffgceeclhaaPut
import Derived.Test.YtbgnffgceeclhaaText
import Derived.Test.YtbgnffgceeclhaaSum
import Derived.Test.YtbgnffgceeclhaaReader
namespace Go.Proofs.Ytbgnffgceeclhaa
open Go.RowKit Base
theorem below_grow {B g : Nat} {w w1 w2 : World} (h : Below B w w1) (hg : w1.grownBy w2 (some g)) (hB : B ≤ w1.heap.size) (hgB : B ≤ g) : Below B w w2 :=
  h.grown hg hB (fun k e => by injection e with e; omega)
theorem below_drewN {B : Nat} {w w1 : World} (h : Below B w w1) (n : Nat) : Below B w (w1.drewN n) := ⟨h.os, h.tape, h.output, h.size, h.block⟩
theorem below_trans {B : Nat} {w w1 w2 : World} (h : Below B w w1) (k : Below w1.heap.size w1 w2) (hB : B ≤ w1.heap.size) : Below B w w2 := h.trans (k.mono hB)

def rd0 : Rd := ⟨⟨#[1, 2, 3]⟩, 0, 0⟩
def rd1 : Rd := ⟨⟨#[1, 2, 3]⟩, 2, 0⟩
def rd2 : Rd := ⟨⟨#[1, 2, 3]⟩, 2, 10⟩

set_option maxHeartbeats 1000000 in
theorem fixed_any (w : World) : Calls Try.prog 12 #[] w fun e w' => e = .returned (.bool true) ∧ Below w.heap.size w w' := by
  go_enter Try.func12, Try.ntmps12
  go_wp2_with fail
  refine (new_any _ _ (by decide)).mono ?_; rintro e w1 ⟨rfl, hr, hb, hz⟩
  change RdAt w1 w.heap.size rd0 at hr
  have hB : w.heap.size ≤ w1.heap.size := by omega
  clear hz
  generalize hgg : w.heap.size = g at *
  have HG := Lib.hid hgg
  clear hgg
  go_wp2_with fail
  refine (num_any hr 2).mono ?_; rintro e w2 ⟨rfl, hr2, hg2⟩
  rw [show rd0.numV 2 = 258 from by decide +kernel]
  rw [show rd0.numR 2 = rd1 from rfl] at hr2
  have hb2 := below_grow hb hg2 hB (Nat.le_refl _)
  have hB2 := Nat.le_trans hB hg2.size
  clear hr hb hg2 hB
  go_wp2_with fail
  refine (left_any hr2).mono ?_; rintro e w3 ⟨rfl, n3, rfl⟩
  rw [show ((rd1.s.size : Int) - (rd1.at_ : Int)) = 1 from by decide +kernel]
  have hr3 := rdAt_drewN hr2 n3
  have hb3 := below_drewN hb2 n3
  have hB3 : g ≤ (w2.drewN n3).heap.size := hB2
  clear hr2 hb2 hB2
  generalize w2.drewN n3 = w3 at *
  go_wp2_with fail
  refine (num_any hr3 2).mono ?_; rintro e w4 ⟨rfl, hr4, hg4⟩
  rw [show rd1.numV 2 = 0 from by decide +kernel]
  rw [show rd1.numR 2 = rd2 from rfl] at hr4
  have hb4 := below_grow hb3 hg4 hB3 (Nat.le_refl _)
  have hB4 := Nat.le_trans hB3 hg4.size
  clear hr3 hb3 hg4 hB3
  go_wp2_with fail
  refine (num_any hr4 1).mono ?_; rintro e w5 ⟨rfl, hr5, hg5⟩
  rw [show rd2.numV 1 = 0 from by decide +kernel]
  rw [show rd2.numR 1 = rd2 from rfl] at hr5
  have hb5 := below_grow hb4 hg5 hB4 (Nat.le_refl _)
  have hB5 := Nat.le_trans hB4 hg5.size
  clear hr4 hb4 hg5 hB4
  go_wp2_with fail
  refine (at_any hr5).mono ?_; rintro e w6 ⟨rfl, rfl⟩
  rw [show ((rd2.at_ : Nat) : Int) = 2 from rfl]
  go_wp2_with fail
  refine (done_any hr5).mono ?_; rintro e w6 ⟨rfl, n6, rfl⟩
  rw [show rd2.doneE = 10 from by decide +kernel, show rd2.doneP = 2 from by decide +kernel]
  have hb6 := below_drewN hb5 n6
  have hB6 : g ≤ (w5.drewN n6).heap.size := hB5
  clear hr5 hb5 hB5
  generalize w5.drewN n6 = w6 at *
  go_wp2_with fail
  refine (putText_any _ _ (by decide)).mono ?_; rintro e w7 ⟨rfl, hb7'⟩
  have hb7 := below_trans hb6 hb7' hB6
  have hB7 := Nat.le_trans hB6 hb7'.size
  clear hb6 hb7' hB6
  rw [show textL ⟨#[97, 98]⟩ = ⟨#[0, 2, 97, 98]⟩ from by decide +kernel, show textE ⟨#[97, 98]⟩ = 0 from by decide +kernel]
  go_wp2_with fail
  refine (put_any _ _ _).mono ?_; rintro e w8 ⟨rfl, hb8'⟩
  have hb8 := below_trans hb7 hb8' hB7
  have hB8 := Nat.le_trans hB7 hb8'.size
  clear hb7 hb8' hB7
  rw [show str (putL (-1) 3) = ⟨#[255, 255, 255]⟩ from by decide +kernel]
  go_wp2_with fail
  refine (sum_any _ _ (by decide)).mono ?_; rintro e w9 ⟨rfl, hb9'⟩
  have hb9 := below_trans hb8 hb9' hB8
  clear hb8 hb9' hB8
  rw [show ((Crc.sum [49, 50, 51, 52, 53, 54, 55, 56, 57]).toNat : Int) = 3421780262 from by decide +kernel]
  go_wp2_with fail
  go_ret
  exact ⟨rfl, by rw [HG.out]; exact hb9⟩
end Go.Proofs.Ytbgnffgceeclhaa
