/-
  The generic function taken, at the three ways in which the reader calls it: what it returns and what becomes of the reader, for every reader.
-/
import Derived.Test.YtmmkopdijmplcaaRows
import Derived.Test.YtmmkopdijmplcaaBase
import Derived.Test.YtmmkopdijmplcaaPut
import Derived.Test.YtmmkopdijmplcaaBits
import Derived.Test.YtmmkopdijmplcaaKRead
import Derived.Test.YtmmkopdijmplcaaKNumber
import Derived.Deep.QuietTactic
import Derived.BigQuiet
import Derived.Deep.RegionHeld3
import Derived.StillTailTactics
set_option maxRecDepth 100000
namespace Go.Proofs.Ytmmkopdijmplcaa
open Go.RowKit Base

theorem grow_drewN (w : World) (n : Nat) (row : Option Nat) : w.grownBy (w.drewN n) row := ⟨rfl, rfl, rfl, Nat.le_refl _, fun _ _ _ => rfl⟩
theorem grow_set {w w1 : World} {b o : Nat} {v : Value} (h : w.grownBy w1 (some b)) : w.grownBy (w1.setCell ⟨b, o, none⟩ v) (some b) :=
  ⟨h.os, h.tape, h.output, by simpa [World.setCell] using h.size, fun k hk hne => (Below.heap_setCell w1 ⟨b, o, none⟩ v k (by rintro rfl; exact hne rfl)).trans (h.block k hk hne)⟩
theorem grow_below {w w1 w2 : World} {row : Option Nat} (h : w.grownBy w1 row) (hb : Below w1.heap.size w1 w2) : w.grownBy w2 row :=
  ⟨hb.os.trans h.os, hb.tape.trans h.tape, hb.output.trans h.output, Nat.le_trans h.size hb.size, fun k hk hne => (hb.block k (Nat.lt_of_lt_of_le hk h.size)).trans (h.block k hk hne)⟩
theorem grow_trans {w w1 w2 : World} {row : Option Nat} (h : w.grownBy w1 row) (k : w1.grownBy w2 row) : w.grownBy w2 row :=
  ⟨k.os.trans h.os, k.tape.trans h.tape, k.output.trans h.output, Nat.le_trans h.size k.size, fun i hi hne => (k.block i (Nat.lt_of_lt_of_le hi h.size) hne).trans (h.block i hi hne)⟩
theorem grow_of_below {w w1 : World} (h : Below w.heap.size w w1) (row : Option Nat) : w.grownBy w1 row := ⟨h.os, h.tape, h.output, h.size, fun i hi _ => h.block i hi⟩

theorem rdAt_drewN {w : World} {b : Nat} {r : Rd} (h : RdAt w b r) (n : Nat) : RdAt (w.drewN n) b r := ⟨h.blk, h.size, h.at_le⟩
theorem rdAt_fault {w : World} {b : Nat} {r : Rd} (h : RdAt w b r) (e : Int) : RdAt (w.setCell ⟨b, 2, none⟩ (.int .i64 e)) b { r with fault := e } :=
  ⟨by have hb := h.blk; simp [World.setCell, Array.getElem?_modify, hb], h.size, h.at_le⟩
theorem rdAt_at {w : World} {b : Nat} {r : Rd} (h : RdAt w b r) (n : Nat) (hn : n ≤ r.s.size) : RdAt (w.setCell ⟨b, 1, none⟩ (.int .i64 (n : Int))) b { r with at_ := n } :=
  ⟨by have hb := h.blk; simp [World.setCell, Array.getElem?_modify, hb], h.size, hn⟩
theorem rdAt_below {w w1 : World} {b : Nat} {r : Rd} (h : RdAt w b r) (hb : Below w.heap.size w w1) : RdAt w1 b r :=
  ⟨(hb.block b h.cells.2.2).trans h.blk, h.size, h.at_le⟩
theorem rdAt_grow {w w1 : World} {b g : Nat} {r : Rd} (h : RdAt w b r) (hb : w.grownBy w1 (some g)) (hne : b ≠ g) : RdAt w1 b r :=
  ⟨(hb.block b h.cells.2.2 (by simpa using hne)).trans h.blk, h.size, h.at_le⟩

/-! ### what is made of bytes -/
theorem same_any (s : ByteArray) (w : World) : Calls Try.prog 47 #[.string s] w fun e w' => e = .returned (.string s) ∧ w' = w := by
  go_enter Try.func47, Try.ntmps47
  go_wp2
  go_ret
  exact ⟨rfl, rfl⟩

set_option maxHeartbeats 400000 in
theorem bytesC_neg (hd : ByteArray) {n : Int} {g : Nat} {w : World} (h : n < 0) (hc : w.cell? ⟨g, 0, none⟩ = some (.int .i64 n)) : Calls Try.prog 46 #[.string hd, .pointer (some ⟨g, 0, none⟩)] w fun e w' => e = .returned (.tuple #[.int .i64 0, .int .i64 13]) ∧ w' = w := by
  go_enter Try.func46, Try.ntmps46
  go_wp2
  go_ret2
  exact ⟨rfl, rfl⟩
set_option maxHeartbeats 400000 in
theorem bytesC_pos (hd : ByteArray) {n : Int} {g : Nat} {w : World} (h : 0 ≤ n) (hc : w.cell? ⟨g, 0, none⟩ = some (.int .i64 n)) : Calls Try.prog 46 #[.string hd, .pointer (some ⟨g, 0, none⟩)] w fun e w' => e = .returned (.tuple #[.int .i64 n, .int .i64 0]) ∧ w' = w := by
  have h' : ¬ n < 0 := by omega
  go_enter Try.func46, Try.ntmps46
  go_wp2
  go_ret2
  exact ⟨rfl, rfl⟩

set_option maxHeartbeats 400000 in
theorem numC_low (hd : ByteArray) {n : Int} {g : Nat} {w : World} (h : n < 1) (hc : w.cell? ⟨g, 0, none⟩ = some (.int .i64 n)) : Calls Try.prog 43 #[.string hd, .pointer (some ⟨g, 0, none⟩)] w fun e w' => e = .returned (.tuple #[.int .i64 0, .int .i64 13]) ∧ w' = w := by
  go_enter Try.func43, Try.ntmps43
  go_wp2
  go_ret2
  exact ⟨rfl, rfl⟩
set_option maxHeartbeats 400000 in
theorem numC_high (hd : ByteArray) {n : Int} {g : Nat} {w : World} (h : 8 < n) (hc : w.cell? ⟨g, 0, none⟩ = some (.int .i64 n)) : Calls Try.prog 43 #[.string hd, .pointer (some ⟨g, 0, none⟩)] w fun e w' => e = .returned (.tuple #[.int .i64 0, .int .i64 13]) ∧ w' = w := by
  have h' : ¬ n < 1 := by omega
  go_enter Try.func43, Try.ntmps43
  go_wp2
  go_ret2
  exact ⟨rfl, rfl⟩
theorem numC_wide (hd : ByteArray) {n : Int} {g : Nat} {w : World} (h : n < 1 ∨ 8 < n) (hc : w.cell? ⟨g, 0, none⟩ = some (.int .i64 n)) : Calls Try.prog 43 #[.string hd, .pointer (some ⟨g, 0, none⟩)] w fun e w' => e = .returned (.tuple #[.int .i64 0, .int .i64 13]) ∧ w' = w := by
  rcases h with h | h
  · exact numC_low hd h hc
  · exact numC_high hd h hc
set_option maxHeartbeats 400000 in
theorem numC_ok (hd : ByteArray) {n : Int} {g : Nat} {w : World} (h1 : 1 ≤ n) (h2 : n ≤ 8) (hc : w.cell? ⟨g, 0, none⟩ = some (.int .i64 n)) : Calls Try.prog 43 #[.string hd, .pointer (some ⟨g, 0, none⟩)] w fun e w' => e = .returned (.tuple #[.int .i64 n, .int .i64 0]) ∧ w' = w := by
  have h' : ¬ n < 1 := by omega
  have h'' : ¬ 8 < n := by omega
  go_enter Try.func43, Try.ntmps43
  go_wp2
  go_ret2
  exact ⟨rfl, rfl⟩
set_option maxHeartbeats 400000 in
/-- with a fault nothing is read -/
theorem takenS_fault {w : World} {b : Nat} {r : Rd} (h : RdAt w b r) (hf : r.fault ≠ 0) (hd : Int) (f1 f2 : Value) : Calls Try.prog 45 #[.pointer (some ⟨b, 0, none⟩), .int .i64 hd, f1, f2] w fun e w' => e = .returned (.string (str [])) ∧ RdAt w' b r ∧ w.grownBy w' (some b) := by
  obtain ⟨⟨c0, c1, c2⟩, ⟨f0, f1', f2'⟩, _⟩ := h.cells
  have hf' : (r.fault != 0) = true := by simp [hf]
  clear hf
  go_enter Try.func45, Try.ntmps45
  go_wp2_with fail
  refine wp_scope_on 0 rfl ?_
  go_wp2_with fail
  go_quiet (fail)
  go_wp2
  go_step3
  refine then_goto (jump_goto ?_)
  go_wp2
  rw [Exit.noGoto_ret]
  go_ret
  exact ⟨rfl, rdAt_fault (rdAt_drewN h _) r.fault, grow_set (grow_drewN w _ _)⟩


set_option maxHeartbeats 400000 in
/-- n bytes, n below 0 -/
theorem takenS_bytes_wide {w : World} {b g : Nat} {r : Rd} {n : Int} (h : RdAt w b r) (hf : r.fault = 0) (hg : w.cell? ⟨g, 0, none⟩ = some (.int .i64 n)) (hn : n < 0) :
    Calls Try.prog 45 #[.pointer (some ⟨b, 0, none⟩), .int .i64 0, .func (Fn.func 46) #[] #[.pointer (some ⟨g, 0, none⟩)], .func (Fn.func 47) #[] #[]] w fun e w' => e = .returned (.string (str [])) ∧ RdAt w' b { r with fault := 13 } ∧ w.grownBy w' (some b) := by
  obtain ⟨⟨c0, c1, c2⟩, ⟨f0, f1', f2'⟩, _⟩ := h.cells
  rw [hf] at c2
  have HF : Hid (r.fault = 0) := hf
  have h1 := h.size
  have h2 := h.at_le
  unfold maxLen at h1
  have h3 : ¬ (r.s.size : Int) - r.at_ < 0 := by omega
  go_enter Try.func45, Try.ntmps45
  go_wp2_with fail
  refine wp_scope_on 0 rfl ?_
  go_wp2_with fail
  go_quiet (fail)
  go_wp2_with fail
  refine (left_any (rdAt_drewN h _)).mono ?_; rintro e w' ⟨rfl, n1, rfl⟩
  go_wp2_with fail
  have hr1 := rdAt_drewN h (nq + n1)
  have hgr : w.grownBy (w.drewN (nq + n1)) (some b) := grow_drewN w _ _
  have hg1 : (w.drewN (nq + n1)).cell? ⟨g, 0, none⟩ = some (.int .i64 _) := hg
  clear c0 c1 c2 f0 f1' f2' hg
  generalize w.drewN (nq + n1) = w1 at *
  obtain ⟨⟨c0, c1, c2⟩, ⟨f0, f1', f2'⟩, _⟩ := hr1.cells
  rw [hf] at c2
  clear hf
  go_quiet ((go_at_call 46; exact Calls.quiet_of_same (bytesC_neg _ hn hg1)))
  go_wp2
  go_step3
  go_wp2
  refine jump_ret ?_
  go_ret
  exact ⟨rfl, rdAt_fault (rdAt_drewN hr1 _) _, grow_set (grow_trans hgr (grow_drewN _ _ _))⟩


set_option maxHeartbeats 400000 in
/-- n bytes, and they end -/
theorem takenS_bytes_end {w : World} {b g : Nat} {r : Rd} {n : Int} (h : RdAt w b r) (hf : r.fault = 0) (hg : w.cell? ⟨g, 0, none⟩ = some (.int .i64 n)) (hn : 0 ≤ n) (hl : (r.s.size : Int) - r.at_ < n) :
    Calls Try.prog 45 #[.pointer (some ⟨b, 0, none⟩), .int .i64 0, .func (Fn.func 46) #[] #[.pointer (some ⟨g, 0, none⟩)], .func (Fn.func 47) #[] #[]] w fun e w' => e = .returned (.string (str [])) ∧ RdAt w' b { r with fault := 10 } ∧ w.grownBy w' (some b) := by
  obtain ⟨⟨c0, c1, c2⟩, ⟨f0, f1', f2'⟩, _⟩ := h.cells
  rw [hf] at c2
  have HF : Hid (r.fault = 0) := hf
  have h1 := h.size
  have h2 := h.at_le
  unfold maxLen at h1
  have h3 : ¬ (r.s.size : Int) - r.at_ < 0 := by omega
  go_enter Try.func45, Try.ntmps45
  go_wp2_with fail
  refine wp_scope_on 0 rfl ?_
  go_wp2_with fail
  go_quiet (fail)
  go_wp2_with fail
  refine (left_any (rdAt_drewN h _)).mono ?_; rintro e w' ⟨rfl, n1, rfl⟩
  go_wp2_with fail
  have hr1 := rdAt_drewN h (nq + n1)
  have hgr : w.grownBy (w.drewN (nq + n1)) (some b) := grow_drewN w _ _
  have hg1 : (w.drewN (nq + n1)).cell? ⟨g, 0, none⟩ = some (.int .i64 _) := hg
  clear c0 c1 c2 f0 f1' f2' hg
  generalize w.drewN (nq + n1) = w1 at *
  obtain ⟨⟨c0, c1, c2⟩, ⟨f0, f1', f2'⟩, _⟩ := hr1.cells
  rw [hf] at c2
  clear hf
  go_quiet ((go_at_call 46; exact Calls.quiet_of_same (bytesC_pos _ hn hg1)))
  go_wp2_with fail
  refine (left_any (rdAt_drewN hr1 _)).mono ?_; rintro e w' ⟨rfl, n2, rfl⟩
  go_wp2
  go_step3
  go_wp2
  refine jump_ret ?_
  go_ret
  exact ⟨rfl, rdAt_fault (rdAt_drewN hr1 _) _, grow_set (grow_trans hgr (grow_drewN _ _ _))⟩


set_option maxHeartbeats 400000 in
/-- n bytes that are there -/
theorem takenS_bytes_ok {w : World} {b g : Nat} {r : Rd} {n : Int} (h : RdAt w b r) (hf : r.fault = 0) (hg : w.cell? ⟨g, 0, none⟩ = some (.int .i64 n)) (hn : 0 ≤ n) (hl : n ≤ (r.s.size : Int) - r.at_) :
    Calls Try.prog 45 #[.pointer (some ⟨b, 0, none⟩), .int .i64 0, .func (Fn.func 46) #[] #[.pointer (some ⟨g, 0, none⟩)], .func (Fn.func 47) #[] #[]] w fun e w' => e = .returned (.string (r.s.extract r.at_ (r.at_ + n.toNat))) ∧ RdAt w' b { r with at_ := r.at_ + n.toNat } ∧ w.grownBy w' (some b) := by
  obtain ⟨⟨c0, c1, c2⟩, ⟨f0, f1', f2'⟩, _⟩ := h.cells
  rw [hf] at c2
  have HF : Hid (r.fault = 0) := hf
  have h1 := h.size
  have h2 := h.at_le
  unfold maxLen at h1
  obtain ⟨m, rfl⟩ := Int.eq_ofNat_of_zero_le hn
  rw [Int.toNat_natCast]
  have h3 : ¬ (r.s.size : Int) - r.at_ < 0 := by omega
  have h4 : ¬ (r.s.size : Int) - r.at_ - 0 < (m : Int) := by omega
  go_enter Try.func45, Try.ntmps45
  go_wp2_with fail
  refine wp_scope_on 0 rfl ?_
  go_wp2_with fail
  go_quiet (fail)
  go_wp2_with fail
  refine (left_any (rdAt_drewN h _)).mono ?_; rintro e w' ⟨rfl, n1, rfl⟩
  go_wp2_with fail
  have hr1 := rdAt_drewN h (nq + n1)
  have hgr : w.grownBy (w.drewN (nq + n1)) (some b) := grow_drewN w _ _
  have hg1 : (w.drewN (nq + n1)).cell? ⟨g, 0, none⟩ = some (.int .i64 _) := hg
  clear c0 c1 c2 f0 f1' f2' hg
  generalize w.drewN (nq + n1) = w1 at *
  obtain ⟨⟨c0, c1, c2⟩, ⟨f0, f1', f2'⟩, _⟩ := hr1.cells
  rw [hf] at c2
  clear hf
  go_quiet ((go_at_call 46; exact Calls.quiet_of_same (bytesC_pos _ hn hg1)))
  go_wp2_with fail
  refine (left_any (rdAt_drewN hr1 _)).mono ?_; rintro e w' ⟨rfl, n2, rfl⟩
  go_wp2_with fail
  have hr2 : RdAt ((w1.drewN (nq + n2)).setCell ⟨b, 1, none⟩ (.int .i64 ((r.at_ : Int) + (m : Int)))) b { r with at_ := r.at_ + m } := by
    have := rdAt_at (rdAt_drewN hr1 (nq + n2)) (r.at_ + m) (by omega)
    rwa [Int.natCast_add] at this
  have hgr2 : w.grownBy ((w1.drewN (nq + n2)).setCell ⟨b, 1, none⟩ (.int .i64 ((r.at_ : Int) + (m : Int)))) (some b) := grow_set (grow_trans hgr (grow_drewN _ _ _))
  clear c0 c1 c2 f0 f1' f2' hgr hr1 hg1
  generalize (w1.drewN (nq + n2)).setCell ⟨b, 1, none⟩ (.int .i64 ((r.at_ : Int) + (m : Int))) = w2 at *
  obtain ⟨⟨c0, c1, c2⟩, ⟨f0, f1', f2'⟩, _⟩ := hr2.cells
  have k1 : r.at_ + m ≤ r.s.size := by omega
  go_quiet ((go_at_call 47; exact Calls.quiet_of_same (same_any _ _)))
  go_wp2
  go_step3
  go_wp2
  refine jump_ret ?_
  go_ret
  refine ⟨rfl, ?_, grow_set (grow_trans hgr2 (grow_drewN _ _ _))⟩
  have hz := rdAt_fault (rdAt_drewN hr2 nq) 0
  rw [HF.out]
  exact hz


set_option maxHeartbeats 400000 in
/-- with a fault nothing is read -/
theorem takenI_fault {w : World} {b : Nat} {r : Rd} (h : RdAt w b r) (hf : r.fault ≠ 0) (hd : Int) (f1 f2 : Value) : Calls Try.prog 42 #[.pointer (some ⟨b, 0, none⟩), .int .i64 hd, f1, f2] w fun e w' => e = .returned (.int .i64 0) ∧ RdAt w' b r ∧ w.grownBy w' (some b) := by
  obtain ⟨⟨c0, c1, c2⟩, ⟨f0, f1', f2'⟩, _⟩ := h.cells
  have hf' : (r.fault != 0) = true := by simp [hf]
  clear hf
  go_enter Try.func42, Try.ntmps42
  go_wp2_with fail
  refine wp_scope_on 0 rfl ?_
  go_wp2_with fail
  go_quiet (fail)
  go_wp2
  go_step3
  refine then_goto (jump_goto ?_)
  go_wp2
  rw [Exit.noGoto_ret]
  go_ret
  exact ⟨rfl, rdAt_fault (rdAt_drewN h _) r.fault, grow_set (grow_drewN w _ _)⟩


set_option maxHeartbeats 400000 in
/-- a number in no such number of bytes -/
theorem takenI_num_wide {w : World} {b g : Nat} {r : Rd} {n : Int} (h : RdAt w b r) (hf : r.fault = 0) (hg : w.cell? ⟨g, 0, none⟩ = some (.int .i64 n)) (hn : n < 1 ∨ 8 < n) :
    Calls Try.prog 42 #[.pointer (some ⟨b, 0, none⟩), .int .i64 0, .func (Fn.func 43) #[] #[.pointer (some ⟨g, 0, none⟩)], .func (Fn.func 44) #[] #[]] w fun e w' => e = .returned (.int .i64 0) ∧ RdAt w' b { r with fault := 13 } ∧ w.grownBy w' (some b) := by
  obtain ⟨⟨c0, c1, c2⟩, ⟨f0, f1', f2'⟩, _⟩ := h.cells
  rw [hf] at c2
  have HF : Hid (r.fault = 0) := hf
  have h1 := h.size
  have h2 := h.at_le
  unfold maxLen at h1
  have h3 : ¬ (r.s.size : Int) - r.at_ < 0 := by omega
  go_enter Try.func42, Try.ntmps42
  go_wp2_with fail
  refine wp_scope_on 0 rfl ?_
  go_wp2_with fail
  go_quiet (fail)
  go_wp2_with fail
  refine (left_any (rdAt_drewN h _)).mono ?_; rintro e w' ⟨rfl, n1, rfl⟩
  go_wp2_with fail
  have hr1 := rdAt_drewN h (nq + n1)
  have hgr : w.grownBy (w.drewN (nq + n1)) (some b) := grow_drewN w _ _
  have hg1 : (w.drewN (nq + n1)).cell? ⟨g, 0, none⟩ = some (.int .i64 _) := hg
  clear c0 c1 c2 f0 f1' f2' hg
  generalize w.drewN (nq + n1) = w1 at *
  obtain ⟨⟨c0, c1, c2⟩, ⟨f0, f1', f2'⟩, _⟩ := hr1.cells
  rw [hf] at c2
  clear hf
  go_quiet ((go_at_call 43; exact Calls.quiet_of_same (numC_wide _ hn hg1)))
  go_wp2
  go_step3
  go_wp2
  refine jump_ret ?_
  go_ret
  exact ⟨rfl, rdAt_fault (rdAt_drewN hr1 _) _, grow_set (grow_trans hgr (grow_drewN _ _ _))⟩


set_option maxHeartbeats 400000 in
/-- a number, and the bytes end -/
theorem takenI_num_end {w : World} {b g : Nat} {r : Rd} {n : Int} (h : RdAt w b r) (hf : r.fault = 0) (hg : w.cell? ⟨g, 0, none⟩ = some (.int .i64 n)) (hn : 1 ≤ n) (hn8 : n ≤ 8) (hl : (r.s.size : Int) - r.at_ < n) :
    Calls Try.prog 42 #[.pointer (some ⟨b, 0, none⟩), .int .i64 0, .func (Fn.func 43) #[] #[.pointer (some ⟨g, 0, none⟩)], .func (Fn.func 44) #[] #[]] w fun e w' => e = .returned (.int .i64 0) ∧ RdAt w' b { r with fault := 10 } ∧ w.grownBy w' (some b) := by
  obtain ⟨⟨c0, c1, c2⟩, ⟨f0, f1', f2'⟩, _⟩ := h.cells
  rw [hf] at c2
  have HF : Hid (r.fault = 0) := hf
  have h1 := h.size
  have h2 := h.at_le
  unfold maxLen at h1
  have h3 : ¬ (r.s.size : Int) - r.at_ < 0 := by omega
  go_enter Try.func42, Try.ntmps42
  go_wp2_with fail
  refine wp_scope_on 0 rfl ?_
  go_wp2_with fail
  go_quiet (fail)
  go_wp2_with fail
  refine (left_any (rdAt_drewN h _)).mono ?_; rintro e w' ⟨rfl, n1, rfl⟩
  go_wp2_with fail
  have hr1 := rdAt_drewN h (nq + n1)
  have hgr : w.grownBy (w.drewN (nq + n1)) (some b) := grow_drewN w _ _
  have hg1 : (w.drewN (nq + n1)).cell? ⟨g, 0, none⟩ = some (.int .i64 _) := hg
  clear c0 c1 c2 f0 f1' f2' hg
  generalize w.drewN (nq + n1) = w1 at *
  obtain ⟨⟨c0, c1, c2⟩, ⟨f0, f1', f2'⟩, _⟩ := hr1.cells
  rw [hf] at c2
  clear hf
  go_quiet ((go_at_call 43; exact Calls.quiet_of_same (numC_ok _ hn hn8 hg1)))
  go_wp2_with fail
  refine (left_any (rdAt_drewN hr1 _)).mono ?_; rintro e w' ⟨rfl, n2, rfl⟩
  go_wp2
  go_step3
  go_wp2
  refine jump_ret ?_
  go_ret
  exact ⟨rfl, rdAt_fault (rdAt_drewN hr1 _) _, grow_set (grow_trans hgr (grow_drewN _ _ _))⟩


set_option maxHeartbeats 400000 in
/-- a number that is there -/
theorem takenI_num_ok {w : World} {b g : Nat} {r : Rd} {n : Int} (h : RdAt w b r) (hf : r.fault = 0) (hg : w.cell? ⟨g, 0, none⟩ = some (.int .i64 n)) (hn : 1 ≤ n) (hn8 : n ≤ 8) (hl : n ≤ (r.s.size : Int) - r.at_) :
    Calls Try.prog 42 #[.pointer (some ⟨b, 0, none⟩), .int .i64 0, .func (Fn.func 43) #[] #[.pointer (some ⟨g, 0, none⟩)], .func (Fn.func 44) #[] #[]] w fun e w' => e = .returned (.int .i64 (num64 ((r.s.data.toList.drop r.at_).take n.toNat)).toInt) ∧ RdAt w' b { r with at_ := r.at_ + n.toNat } ∧ w.grownBy w' (some b) := by
  obtain ⟨⟨c0, c1, c2⟩, ⟨f0, f1', f2'⟩, _⟩ := h.cells
  rw [hf] at c2
  have HF : Hid (r.fault = 0) := hf
  have h1 := h.size
  have h2 := h.at_le
  unfold maxLen at h1
  obtain ⟨m, rfl⟩ := Int.eq_ofNat_of_zero_le (show 0 ≤ n by omega)
  rw [Int.toNat_natCast]
  have h3 : ¬ (r.s.size : Int) - r.at_ < 0 := by omega
  have h4 : ¬ (r.s.size : Int) - r.at_ - 0 < (m : Int) := by omega
  go_enter Try.func42, Try.ntmps42
  go_wp2_with fail
  refine wp_scope_on 0 rfl ?_
  go_wp2_with fail
  go_quiet (fail)
  go_wp2_with fail
  refine (left_any (rdAt_drewN h _)).mono ?_; rintro e w' ⟨rfl, n1, rfl⟩
  go_wp2_with fail
  have hr1 := rdAt_drewN h (nq + n1)
  have hgr : w.grownBy (w.drewN (nq + n1)) (some b) := grow_drewN w _ _
  have hg1 : (w.drewN (nq + n1)).cell? ⟨g, 0, none⟩ = some (.int .i64 _) := hg
  clear c0 c1 c2 f0 f1' f2' hg
  generalize w.drewN (nq + n1) = w1 at *
  obtain ⟨⟨c0, c1, c2⟩, ⟨f0, f1', f2'⟩, _⟩ := hr1.cells
  rw [hf] at c2
  clear hf
  go_quiet ((go_at_call 43; exact Calls.quiet_of_same (numC_ok _ hn hn8 hg1)))
  go_wp2_with fail
  refine (left_any (rdAt_drewN hr1 _)).mono ?_; rintro e w' ⟨rfl, n2, rfl⟩
  go_wp2_with fail
  have hr2 : RdAt ((w1.drewN (nq + n2)).setCell ⟨b, 1, none⟩ (.int .i64 ((r.at_ : Int) + (m : Int)))) b { r with at_ := r.at_ + m } := by
    have := rdAt_at (rdAt_drewN hr1 (nq + n2)) (r.at_ + m) (by omega)
    rwa [Int.natCast_add] at this
  have hgr2 : w.grownBy ((w1.drewN (nq + n2)).setCell ⟨b, 1, none⟩ (.int .i64 ((r.at_ : Int) + (m : Int)))) (some b) := grow_set (grow_trans hgr (grow_drewN _ _ _))
  clear c0 c1 c2 f0 f1' f2' hgr hr1 hg1
  generalize (w1.drewN (nq + n2)).setCell ⟨b, 1, none⟩ (.int .i64 ((r.at_ : Int) + (m : Int))) = w2 at *
  obtain ⟨⟨c0, c1, c2⟩, ⟨f0, f1', f2'⟩, hbl⟩ := hr2.cells
  have k1 : r.at_ + m ≤ r.s.size := by omega
  have k2 : (r.s.extract r.at_ (r.at_ + m)).size ≤ maxLen := by rw [ByteArray.size_extract]; unfold maxLen; omega
  have e1 : IntKind.i64.wrap (r.at_ : Int) = (r.at_ : Int) := IntWalk.i64_in _ (by omega)
  have k6 : (0 : Int) ≤ (r.at_ : Int) + (m : Int) := by omega
  have c1' : w2.cell? ⟨b, 1, none⟩ = some (.int .i64 ((r.at_ : Int) + (m : Int))) := by rw [c1]; exact congrArg _ (congrArg _ (Int.natCast_add _ _))
  have k3 : (r.at_ : Int) ≤ (r.at_ : Int) + (m : Int) := by omega
  have k4 : (r.at_ : Int) + (m : Int) ≤ (r.s.size : Int) := by omega
  have k5 : ((r.at_ : Int) + (m : Int)).toNat = r.at_ + m := by omega
  clear c1
  refine wp_region_still_tail 16 (by kernel_rfl) (by kernel_rfl) ?_
  simp only [List.take_succ_cons, List.take_zero, List.drop_succ_cons, List.drop_zero]
  iterate 16 still_step
  refine wpStill_nil ?_
  clear e1 k3 k4 k5 k6
  change wpList _ _ _ _ _ w2.drew
  have hr3 : RdAt w2.drew b { r with at_ := r.at_ + m } := ⟨hr2.blk, hr2.size, hr2.at_le⟩
  have hgr3 : w.grownBy w2.drew (some b) := grow_trans hgr2 (grow_drewN w2 1 _)
  clear c0 c1' c2 f0 f1' f2' hr2 hgr2
  generalize w2.drew = w3 at *
  obtain ⟨⟨c0, c1, c2⟩, ⟨f0, f1', f2'⟩, hbl⟩ := hr3.cells
  go_wp2_with fail
  refine (number_any _ _ k2).mono ?_; rintro e w4 ⟨rfl, hb4⟩
  have hr4 := rdAt_below hr3 hb4
  have hgr4 := grow_below hgr3 hb4
  clear c0 c1 c2 f0 f1' f2' hr3 hgr3 hb4
  obtain ⟨⟨c0, c1, c2⟩, ⟨f0, f1', f2'⟩, hbl⟩ := hr4.cells
  go_wp2
  go_step3
  go_wp2
  refine jump_ret ?_
  go_ret
  refine ⟨rfl, ?_, grow_set hgr4⟩
  have hz := rdAt_fault hr4 0
  rw [HF.out]
  exact hz


end Go.Proofs.Ytmmkopdijmplcaa
