/-
  Num, Text and Bytes of the reader: what they return and what becomes of the reader, for every reader and every argument.
-/
import Derived.Test.YtmmkopdijmplcaaRows
import Derived.Test.YtmmkopdijmplcaaBase
import Derived.Test.YtmmkopdijmplcaaPut
import Derived.Test.YtmmkopdijmplcaaBits
import Derived.Test.YtmmkopdijmplcaaKTaken
set_option maxRecDepth 100000
namespace Go.Proofs.Ytmmkopdijmplcaa
open Go.RowKit Base

/-! ### what a reader answers, and what becomes of it -/
def Rd.bytesR (r : Rd) (n : Int) : Rd := if r.fault ≠ 0 then r else if n < 0 then { r with fault := 13 } else if (r.s.size : Int) - r.at_ < n then { r with fault := 10 } else { r with at_ := r.at_ + n.toNat }
def Rd.bytesV (r : Rd) (n : Int) : ByteArray := if r.fault ≠ 0 then str [] else if n < 0 then str [] else if (r.s.size : Int) - r.at_ < n then str [] else r.s.extract r.at_ (r.at_ + n.toNat)
def Rd.numR (r : Rd) (n : Int) : Rd := if r.fault ≠ 0 then r else if n < 1 ∨ 8 < n then { r with fault := 13 } else if (r.s.size : Int) - r.at_ < n then { r with fault := 10 } else { r with at_ := r.at_ + n.toNat }
def Rd.numV (r : Rd) (n : Int) : Int := if r.fault ≠ 0 then 0 else if n < 1 ∨ 8 < n then 0 else if (r.s.size : Int) - r.at_ < n then 0 else (num64 ((r.s.data.toList.drop r.at_).take n.toNat)).toInt
theorem takenS_bytes {w : World} {b g : Nat} {r : Rd} {n : Int} (h : RdAt w b r) (hg : w.cell? ⟨g, 0, none⟩ = some (.int .i64 n)) :
    Calls Try.prog 45 #[.pointer (some ⟨b, 0, none⟩), .int .i64 0, .func (Fn.func 46) #[] #[.pointer (some ⟨g, 0, none⟩)], .func (Fn.func 47) #[] #[]] w fun e w' => e = .returned (.string (r.bytesV n)) ∧ RdAt w' b (r.bytesR n) ∧ w.grownBy w' (some b) := by
  unfold Rd.bytesV Rd.bytesR
  by_cases hf : r.fault = 0
  · have hf' : ¬ (r.fault ≠ 0) := fun x => x hf
    rw [if_neg hf', if_neg hf']
    by_cases h1 : n < 0
    · rw [if_pos h1, if_pos h1]; exact takenS_bytes_wide h hf hg h1
    · rw [if_neg h1, if_neg h1]
      by_cases h2 : (r.s.size : Int) - r.at_ < n
      · rw [if_pos h2, if_pos h2]; exact takenS_bytes_end h hf hg (by omega) h2
      · rw [if_neg h2, if_neg h2]; exact takenS_bytes_ok h hf hg (by omega) (by omega)
  · rw [if_pos hf, if_pos hf]; exact takenS_fault h hf _ _ _
theorem takenI_num {w : World} {b g : Nat} {r : Rd} {n : Int} (h : RdAt w b r) (hg : w.cell? ⟨g, 0, none⟩ = some (.int .i64 n)) :
    Calls Try.prog 42 #[.pointer (some ⟨b, 0, none⟩), .int .i64 0, .func (Fn.func 43) #[] #[.pointer (some ⟨g, 0, none⟩)], .func (Fn.func 44) #[] #[]] w fun e w' => e = .returned (.int .i64 (r.numV n)) ∧ RdAt w' b (r.numR n) ∧ w.grownBy w' (some b) := by
  unfold Rd.numV Rd.numR
  by_cases hf : r.fault = 0
  · have hf' : ¬ (r.fault ≠ 0) := fun x => x hf
    rw [if_neg hf', if_neg hf']
    by_cases h1 : n < 1 ∨ 8 < n
    · rw [if_pos h1, if_pos h1]; exact takenI_num_wide h hf hg h1
    · rw [if_neg h1, if_neg h1]
      by_cases h2 : (r.s.size : Int) - r.at_ < n
      · rw [if_pos h2, if_pos h2]; exact takenI_num_end h hf hg (by omega) (by omega) h2
      · rw [if_neg h2, if_neg h2]; exact takenI_num_ok h hf hg (by omega) (by omega) (by omega)
  · rw [if_pos hf, if_pos hf]; exact takenI_fault h hf _ _ _
theorem boxed (w : World) (n : Int) (t : TypeId) : (w.alloc (.cells #[.int .i64 n] t)).cell? ⟨w.heap.size, 0, none⟩ = some (.int .i64 n) := by
  rw [World.cell?, heap_alloc_new]
  rfl

set_option maxHeartbeats 400000 in
theorem bytes_any {w : World} {b : Nat} {r : Rd} (h : RdAt w b r) (n : Int) : Calls Try.prog 14 #[.pointer (some ⟨b, 0, none⟩), .int .i64 n] w fun e w' => e = .returned (.string (r.bytesV n)) ∧ RdAt w' b (r.bytesR n) ∧ w.grownBy w' (some b) := by
  have hb := (Below.refl w.heap.size w).alloc (Nat.le_refl _) (.cells #[.int .i64 n] 3)
  have hc := boxed w n 3
  have hr := rdAt_below h hb
  go_enter Try.func14, Try.ntmps14
  go_wp2_with fail
  refine (takenS_bytes hr hc).mono ?_; rintro e w' ⟨rfl, hr', hg'⟩
  go_wp2
  go_ret
  exact ⟨rfl, hr', grow_trans (grow_of_below hb _) hg'⟩
set_option maxHeartbeats 400000 in
theorem num_any {w : World} {b : Nat} {r : Rd} (h : RdAt w b r) (n : Int) : Calls Try.prog 13 #[.pointer (some ⟨b, 0, none⟩), .int .i64 n] w fun e w' => e = .returned (.int .i64 (r.numV n)) ∧ RdAt w' b (r.numR n) ∧ w.grownBy w' (some b) := by
  have hb := (Below.refl w.heap.size w).alloc (Nat.le_refl _) (.cells #[.int .i64 n] 3)
  have hc := boxed w n 3
  have hr := rdAt_below h hb
  go_enter Try.func13, Try.ntmps13
  go_wp2_with fail
  refine (takenI_num hr hc).mono ?_; rintro e w' ⟨rfl, hr', hg'⟩
  go_wp2
  go_ret
  exact ⟨rfl, hr', grow_trans (grow_of_below hb _) hg'⟩
end Go.Proofs.Ytmmkopdijmplcaa
