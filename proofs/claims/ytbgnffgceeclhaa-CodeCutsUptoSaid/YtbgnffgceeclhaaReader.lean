/-
  Num, Text and Bytes of the reader: what they return and what becomes of the reader, for every reader and every argument.
-/
import Derived.Test.YtbgnffgceeclhaaRows
import Derived.Test.YtbgnffgceeclhaaBase
import Derived.Test.YtbgnffgceeclhaaPut
import Derived.Test.YtbgnffgceeclhaaBits
import Derived.Test.YtbgnffgceeclhaaTaken
namespace Go.Proofs.Ytbgnffgceeclhaa
open Go.RowKit Base

/-! ### what a reader answers, and what becomes of it -/
def Rd.bytesR (r : Rd) (n : Int) : Rd := if r.fault ≠ 0 then r else if n < 0 then { r with fault := 13 } else if (r.s.size : Int) - r.at_ < n then { r with fault := 10 } else { r with at_ := r.at_ + n.toNat }
def Rd.bytesV (r : Rd) (n : Int) : ByteArray := if r.fault ≠ 0 then str [] else if n < 0 then str [] else if (r.s.size : Int) - r.at_ < n then str [] else r.s.extract r.at_ (r.at_ + n.toNat)
def Rd.numR (r : Rd) (n : Int) : Rd := if r.fault ≠ 0 then r else if n < 1 ∨ 8 < n then { r with fault := 13 } else if (r.s.size : Int) - r.at_ < n then { r with fault := 10 } else { r with at_ := r.at_ + n.toNat }
def Rd.numV (r : Rd) (n : Int) : Int := if r.fault ≠ 0 then 0 else if n < 1 ∨ 8 < n then 0 else if (r.s.size : Int) - r.at_ < n then 0 else (num64 ((r.s.data.toList.drop r.at_).take n.toNat)).toInt
def Rd.textR (r : Rd) (n : Int) : Rd := if r.fault ≠ 0 then r else if n < 0 then { r with fault := 13 } else if r.s.size < r.at_ + 2 then { r with fault := 10 } else if n < r.head then { r with fault := 11 } else
  if (r.s.size : Int) - r.at_ - 2 < r.head then { r with fault := 10 } else { r with at_ := r.at_ + 2 + r.head.toNat }
def Rd.textV (r : Rd) (n : Int) : ByteArray := if r.fault ≠ 0 then str [] else if n < 0 then str [] else if r.s.size < r.at_ + 2 then str [] else if n < r.head then str [] else
  if (r.s.size : Int) - r.at_ - 2 < r.head then str [] else r.s.extract (r.at_ + 2) (r.at_ + 2 + r.head.toNat)

theorem takenS_bytes {w : World} {b g : Nat} {r : Rd} {n : Int} (h : RdAt w b r) (hg : w.cell? ⟨g, 0, none⟩ = some (.int .i64 n)) :
    Calls Try.prog 31 #[.pointer (some ⟨b, 0, none⟩), .int .i64 0, .func (Fn.func 37) #[] #[.pointer (some ⟨g, 0, none⟩)], .func (Fn.func 34) #[] #[]] w fun e w' => e = .returned (.string (r.bytesV n)) ∧ RdAt w' b (r.bytesR n) ∧ w.grownBy w' (some b) := by
  unfold Rd.bytesV Rd.bytesR
  by_cases hf : r.fault = 0
  · have hf' : ¬ (r.fault ≠ 0) := fun x => x hf
    rw [if_neg hf', if_neg hf']
    by_cases h1 : n < 0
    · rw [if_pos h1, if_pos h1]; exact takenS_bytes_wide h hf hg h1
    · rw [if_neg h1, if_neg h1]
      by_cases h2 : (r.s.size : Int) - r.at_ < n
      · rw [if_pos h2, if_pos h2]; exact takenS_bytes_end h hf hg (by omega) h2
      · rw [if_neg h2, if_neg h2]; exact takenS_bytes_ok h hf hg (by omega) (by omega)
  · rw [if_pos hf, if_pos hf]; exact takenS_fault h hf _ _ _
theorem takenI_num {w : World} {b g : Nat} {r : Rd} {n : Int} (h : RdAt w b r) (hg : w.cell? ⟨g, 0, none⟩ = some (.int .i64 n)) :
    Calls Try.prog 35 #[.pointer (some ⟨b, 0, none⟩), .int .i64 0, .func (Fn.func 36) #[] #[.pointer (some ⟨g, 0, none⟩)], .func (Fn.func 33) #[] #[]] w fun e w' => e = .returned (.int .i64 (r.numV n)) ∧ RdAt w' b (r.numR n) ∧ w.grownBy w' (some b) := by
  unfold Rd.numV Rd.numR
  by_cases hf : r.fault = 0
  · have hf' : ¬ (r.fault ≠ 0) := fun x => x hf
    rw [if_neg hf', if_neg hf']
    by_cases h1 : n < 1 ∨ 8 < n
    · rw [if_pos h1, if_pos h1]; exact takenI_num_wide h hf hg h1
    · rw [if_neg h1, if_neg h1]
      by_cases h2 : (r.s.size : Int) - r.at_ < n
      · rw [if_pos h2, if_pos h2]; exact takenI_num_end h hf hg (by omega) (by omega) h2
      · rw [if_neg h2, if_neg h2]; exact takenI_num_ok h hf hg (by omega) (by omega) (by omega)
  · rw [if_pos hf, if_pos hf]; exact takenI_fault h hf _ _ _
theorem takenS_text {w : World} {b g : Nat} {r : Rd} {n : Int} (h : RdAt w b r) (hg : w.cell? ⟨g, 0, none⟩ = some (.int .i64 n)) (hn : ¬ n < 0) :
    Calls Try.prog 31 #[.pointer (some ⟨b, 0, none⟩), .int .i64 2, .func (Fn.func 32) #[] #[.pointer (some ⟨g, 0, none⟩)], .func (Fn.func 34) #[] #[]] w fun e w' => e = .returned (.string (r.textV n)) ∧ RdAt w' b (r.textR n) ∧ w.grownBy w' (some b) := by
  unfold Rd.textV Rd.textR
  by_cases hf : r.fault = 0
  · have hf' : ¬ (r.fault ≠ 0) := fun x => x hf
    rw [if_neg hf', if_neg hf', if_neg hn, if_neg hn]
    by_cases h1 : r.s.size < r.at_ + 2
    · rw [if_pos h1, if_pos h1]; exact takenS_text_short h hf (by omega) _ _
    · rw [if_neg h1, if_neg h1]
      by_cases h2 : n < r.head
      · rw [if_pos h2, if_pos h2]; exact takenS_text_long h hf hg (by omega) h2
      · rw [if_neg h2, if_neg h2]
        by_cases h3 : (r.s.size : Int) - r.at_ - 2 < r.head
        · rw [if_pos h3, if_pos h3]; exact takenS_text_end h hf hg (by omega) (by omega) h3
        · rw [if_neg h3, if_neg h3]; exact takenS_text_ok h hf hg (by omega) (by omega) (by omega)
  · rw [if_pos hf, if_pos hf]; exact takenS_fault h hf _ _ _

theorem boxed (w : World) (n : Int) (t : TypeId) : (w.alloc (.cells #[.int .i64 n] t)).cell? ⟨w.heap.size, 0, none⟩ = some (.int .i64 n) := by
  rw [World.cell?, heap_alloc_new]
  rfl

set_option maxHeartbeats 400000 in
theorem bytes_any {w : World} {b : Nat} {r : Rd} (h : RdAt w b r) (n : Int) : Calls Try.prog 23 #[.pointer (some ⟨b, 0, none⟩), .int .i64 n] w fun e w' => e = .returned (.string (r.bytesV n)) ∧ RdAt w' b (r.bytesR n) ∧ w.grownBy w' (some b) := by
  have hb := (Below.refl w.heap.size w).alloc (Nat.le_refl _) (.cells #[.int .i64 n] 3)
  have hc := boxed w n 3
  have hr := rdAt_below h hb
  go_enter Try.func23, Try.ntmps23
  go_wp2_with fail
  refine (takenS_bytes hr hc).mono ?_; rintro e w' ⟨rfl, hr', hg'⟩
  go_wp2
  go_ret
  exact ⟨rfl, hr', grow_trans (grow_of_below hb _) hg'⟩
set_option maxHeartbeats 400000 in
theorem num_any {w : World} {b : Nat} {r : Rd} (h : RdAt w b r) (n : Int) : Calls Try.prog 19 #[.pointer (some ⟨b, 0, none⟩), .int .i64 n] w fun e w' => e = .returned (.int .i64 (r.numV n)) ∧ RdAt w' b (r.numR n) ∧ w.grownBy w' (some b) := by
  have hb := (Below.refl w.heap.size w).alloc (Nat.le_refl _) (.cells #[.int .i64 n] 3)
  have hc := boxed w n 3
  have hr := rdAt_below h hb
  go_enter Try.func19, Try.ntmps19
  go_wp2_with fail
  refine (takenI_num hr hc).mono ?_; rintro e w' ⟨rfl, hr', hg'⟩
  go_wp2
  go_ret
  exact ⟨rfl, hr', grow_trans (grow_of_below hb _) hg'⟩
set_option maxHeartbeats 400000 in
theorem text_any {w : World} {b : Nat} {r : Rd} (h : RdAt w b r) (n : Int) : Calls Try.prog 18 #[.pointer (some ⟨b, 0, none⟩), .int .i64 n] w fun e w' => e = .returned (.string (r.textV n)) ∧ RdAt w' b (r.textR n) ∧ w.grownBy w' (some b) := by
  have hb := (Below.refl w.heap.size w).alloc (Nat.le_refl _) (.cells #[.int .i64 n] 3)
  have hc := boxed w n 3
  have hr := rdAt_below h hb
  by_cases hn : n < 0
  · have e1 : Hid (r.textV n = r.bytesV n) := by show _ = _; simp [Rd.textV, Rd.bytesV, hn]
    have e2 : Hid (r.textR n = r.bytesR n) := by show _ = _; simp [Rd.textR, Rd.bytesR, hn]
    go_enter Try.func18, Try.ntmps18
    go_wp2_with fail
    refine (bytes_any hr n).mono ?_; rintro e w' ⟨rfl, hr', hg'⟩
    go_wp2
    go_ret
    exact ⟨by rw [e1.out]; rfl, by rw [e2.out]; exact hr', grow_trans (grow_of_below hb _) hg'⟩
  · go_enter Try.func18, Try.ntmps18
    go_wp2_with fail
    refine (takenS_text hr hc (by omega)).mono ?_; rintro e w' ⟨rfl, hr', hg'⟩
    go_wp2
    go_ret
    exact ⟨rfl, hr', grow_trans (grow_of_below hb _) hg'⟩
end Go.Proofs.Ytbgnffgceeclhaa
