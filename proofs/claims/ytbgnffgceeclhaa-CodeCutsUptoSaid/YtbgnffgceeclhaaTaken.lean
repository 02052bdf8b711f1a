/-
  The generic function taken, at the three ways in which the reader calls it: what it returns and what becomes of the reader, for every reader.
-/
import Derived.Test.YtbgnffgceeclhaaRows
import Derived.Test.YtbgnffgceeclhaaBase
import Derived.Test.YtbgnffgceeclhaaPut
import Derived.Test.YtbgnffgceeclhaaBits
import Derived.Test.YtbgnffgceeclhaaRead
import Derived.Test.YtbgnffgceeclhaaNumber
import Derived.Deep.QuietTactic
import Derived.BigQuiet
import Derived.Deep.RegionHeld3
import Derived.StillTailTactics
namespace Go.Proofs.Ytbgnffgceeclhaa
open Go.RowKit Base

theorem grow_drewN (w : World) (n : Nat) (row : Option Nat) : w.grownBy (w.drewN n) row := ⟨rfl, rfl, rfl, Nat.le_refl _, fun _ _ _ => rfl⟩
theorem grow_set {w w1 : World} {b o : Nat} {v : Value} (h : w.grownBy w1 (some b)) : w.grownBy (w1.setCell ⟨b, o, none⟩ v) (some b) :=
  ⟨h.os, h.tape, h.output, by simpa [World.setCell] using h.size, fun k hk hne => (Below.heap_setCell w1 ⟨b, o, none⟩ v k (by rintro rfl; exact hne rfl)).trans (h.block k hk hne)⟩
theorem grow_below {w w1 w2 : World} {row : Option Nat} (h : w.grownBy w1 row) (hb : Below w1.heap.size w1 w2) : w.grownBy w2 row :=
  ⟨hb.os.trans h.os, hb.tape.trans h.tape, hb.output.trans h.output, Nat.le_trans h.size hb.size, fun k hk hne => (hb.block k (Nat.lt_of_lt_of_le hk h.size)).trans (h.block k hk hne)⟩
theorem grow_trans {w w1 w2 : World} {row : Option Nat} (h : w.grownBy w1 row) (k : w1.grownBy w2 row) : w.grownBy w2 row :=
  ⟨k.os.trans h.os, k.tape.trans h.tape, k.output.trans h.output, Nat.le_trans h.size k.size, fun i hi hne => (k.block i (Nat.lt_of_lt_of_le hi h.size) hne).trans (h.block i hi hne)⟩
theorem grow_of_below {w w1 : World} (h : Below w.heap.size w w1) (row : Option Nat) : w.grownBy w1 row := ⟨h.os, h.tape, h.output, h.size, fun i hi _ => h.block i hi⟩

theorem rdAt_drewN {w : World} {b : Nat} {r : Rd} (h : RdAt w b r) (n : Nat) : RdAt (w.drewN n) b r := ⟨h.blk, h.size, h.at_le⟩
theorem rdAt_fault {w : World} {b : Nat} {r : Rd} (h : RdAt w b r) (e : Int) : RdAt (w.setCell ⟨b, 2, none⟩ (.int .i64 e)) b { r with fault := e } :=
  ⟨by have hb := h.blk; simp [World.setCell, Array.getElem?_modify, hb], h.size, h.at_le⟩
theorem rdAt_at {w : World} {b : Nat} {r : Rd} (h : RdAt w b r) (n : Nat) (hn : n ≤ r.s.size) : RdAt (w.setCell ⟨b, 1, none⟩ (.int .i64 (n : Int))) b { r with at_ := n } :=
  ⟨by have hb := h.blk; simp [World.setCell, Array.getElem?_modify, hb], h.size, hn⟩
theorem rdAt_below {w w1 : World} {b : Nat} {r : Rd} (h : RdAt w b r) (hb : Below w.heap.size w w1) : RdAt w1 b r :=
  ⟨(hb.block b h.cells.2.2).trans h.blk, h.size, h.at_le⟩
theorem rdAt_grow {w w1 : World} {b g : Nat} {r : Rd} (h : RdAt w b r) (hb : w.grownBy w1 (some g)) (hne : b ≠ g) : RdAt w1 b r :=
  ⟨(hb.block b h.cells.2.2 (by simpa using hne)).trans h.blk, h.size, h.at_le⟩

/-! ### what is made of bytes -/
theorem same_any (s : ByteArray) (w : World) : Calls Try.prog 34 #[.string s] w fun e w' => e = .returned (.string s) ∧ w' = w := by
  go_enter Try.func34, Try.ntmps34
  go_wp2
  go_ret
  exact ⟨rfl, rfl⟩

set_option maxHeartbeats 400000 in
theorem bytesC_neg (hd : ByteArray) {n : Int} {g : Nat} {w : World} (h : n < 0) (hc : w.cell? ⟨g, 0, none⟩ = some (.int .i64 n)) : Calls Try.prog 37 #[.string hd, .pointer (some ⟨g, 0, none⟩)] w fun e w' => e = .returned (.tuple #[.int .i64 0, .int .i64 13]) ∧ w' = w := by
  go_enter Try.func37, Try.ntmps37
  go_wp2
  go_ret2
  exact ⟨rfl, rfl⟩
set_option maxHeartbeats 400000 in
theorem bytesC_pos (hd : ByteArray) {n : Int} {g : Nat} {w : World} (h : 0 ≤ n) (hc : w.cell? ⟨g, 0, none⟩ = some (.int .i64 n)) : Calls Try.prog 37 #[.string hd, .pointer (some ⟨g, 0, none⟩)] w fun e w' => e = .returned (.tuple #[.int .i64 n, .int .i64 0]) ∧ w' = w := by
  have h' : ¬ n < 0 := by omega
  go_enter Try.func37, Try.ntmps37
  go_wp2
  go_ret2
  exact ⟨rfl, rfl⟩

set_option maxHeartbeats 400000 in
theorem numC_low (hd : ByteArray) {n : Int} {g : Nat} {w : World} (h : n < 1) (hc : w.cell? ⟨g, 0, none⟩ = some (.int .i64 n)) : Calls Try.prog 36 #[.string hd, .pointer (some ⟨g, 0, none⟩)] w fun e w' => e = .returned (.tuple #[.int .i64 0, .int .i64 13]) ∧ w' = w := by
  go_enter Try.func36, Try.ntmps36
  go_wp2
  go_ret2
  exact ⟨rfl, rfl⟩
set_option maxHeartbeats 400000 in
theorem numC_high (hd : ByteArray) {n : Int} {g : Nat} {w : World} (h : 8 < n) (hc : w.cell? ⟨g, 0, none⟩ = some (.int .i64 n)) : Calls Try.prog 36 #[.string hd, .pointer (some ⟨g, 0, none⟩)] w fun e w' => e = .returned (.tuple #[.int .i64 0, .int .i64 13]) ∧ w' = w := by
  have h' : ¬ n < 1 := by omega
  go_enter Try.func36, Try.ntmps36
  go_wp2
  go_ret2
  exact ⟨rfl, rfl⟩
theorem numC_wide (hd : ByteArray) {n : Int} {g : Nat} {w : World} (h : n < 1 ∨ 8 < n) (hc : w.cell? ⟨g, 0, none⟩ = some (.int .i64 n)) : Calls Try.prog 36 #[.string hd, .pointer (some ⟨g, 0, none⟩)] w fun e w' => e = .returned (.tuple #[.int .i64 0, .int .i64 13]) ∧ w' = w := by
  rcases h with h | h
  · exact numC_low hd h hc
  · exact numC_high hd h hc
set_option maxHeartbeats 400000 in
theorem numC_ok (hd : ByteArray) {n : Int} {g : Nat} {w : World} (h1 : 1 ≤ n) (h2 : n ≤ 8) (hc : w.cell? ⟨g, 0, none⟩ = some (.int .i64 n)) : Calls Try.prog 36 #[.string hd, .pointer (some ⟨g, 0, none⟩)] w fun e w' => e = .returned (.tuple #[.int .i64 n, .int .i64 0]) ∧ w' = w := by
  have h' : ¬ n < 1 := by omega
  have h'' : ¬ 8 < n := by omega
  go_enter Try.func36, Try.ntmps36
  go_wp2
  go_ret2
  exact ⟨rfl, rfl⟩
set_option maxHeartbeats 400000 in
theorem textC_long (hd : ByteArray) (hs : hd.size ≤ maxLen) {n : Int} {g : Nat} {w : World} (h : n < (num64 hd.data.toList).toInt) (hc : w.cell? ⟨g, 0, none⟩ = some (.int .i64 n)) : Calls Try.prog 32 #[.string hd, .pointer (some ⟨g, 0, none⟩)] w fun e w' => e = .returned (.tuple #[.int .i64 0, .int .i64 11]) ∧ Below w.heap.size w w' := by
  have hg : g < w.heap.size := World.block_lt_of_cell? w _ hc
  go_enter Try.func32, Try.ntmps32
  go_wp2_with fail
  refine (number_any hd _ hs).mono ?_; rintro e w1 ⟨rfl, hb⟩
  have hc1 : w1.cell? ⟨g, 0, none⟩ = some (.int .i64 n) := (hb.cell (p := ⟨g, 0, none⟩) hg).trans hc
  go_wp2
  go_ret2
  exact ⟨rfl, hb⟩
set_option maxHeartbeats 400000 in
theorem textC_ok (hd : ByteArray) (hs : hd.size ≤ maxLen) {n k : Int} {g : Nat} {w : World} (hk : (num64 hd.data.toList).toInt = k) (h : k ≤ n) (hc : w.cell? ⟨g, 0, none⟩ = some (.int .i64 n)) : Calls Try.prog 32 #[.string hd, .pointer (some ⟨g, 0, none⟩)] w fun e w' => e = .returned (.tuple #[.int .i64 k, .int .i64 0]) ∧ Below w.heap.size w w' := by
  subst hk
  have hg : g < w.heap.size := World.block_lt_of_cell? w _ hc
  have h' : ¬ n < (num64 hd.data.toList).toInt := by omega
  go_enter Try.func32, Try.ntmps32
  go_wp2_with fail
  refine (number_any hd _ hs).mono ?_; rintro e w1 ⟨rfl, hb⟩
  have hc1 : w1.cell? ⟨g, 0, none⟩ = some (.int .i64 n) := (hb.cell (p := ⟨g, 0, none⟩) hg).trans hc
  go_wp2
  go_ret2
  exact ⟨rfl, hb⟩


set_option maxHeartbeats 400000 in
/-- with a fault nothing is read -/
theorem takenS_fault {w : World} {b : Nat} {r : Rd} (h : RdAt w b r) (hf : r.fault ≠ 0) (hd : Int) (f1 f2 : Value) : Calls Try.prog 31 #[.pointer (some ⟨b, 0, none⟩), .int .i64 hd, f1, f2] w fun e w' => e = .returned (.string (str [])) ∧ RdAt w' b r ∧ w.grownBy w' (some b) := by
  obtain ⟨⟨c0, c1, c2⟩, ⟨f0, f1', f2'⟩, _⟩ := h.cells
  have hf' : (r.fault != 0) = true := by simp [hf]
  clear hf
  go_enter Try.func31, Try.ntmps31
  go_wp2_with fail
  refine wp_scope_on 0 rfl ?_
  go_wp2_with fail
  go_quiet (fail)
  go_wp2
  go_step3
  refine then_goto (jump_goto ?_)
  go_wp2
  rw [Exit.noGoto_ret]
  go_ret
  exact ⟨rfl, rdAt_fault (rdAt_drewN h _) r.fault, grow_set (grow_drewN w _ _)⟩


set_option maxHeartbeats 400000 in
/-- n bytes, n below 0 -/
theorem takenS_bytes_wide {w : World} {b g : Nat} {r : Rd} {n : Int} (h : RdAt w b r) (hf : r.fault = 0) (hg : w.cell? ⟨g, 0, none⟩ = some (.int .i64 n)) (hn : n < 0) :
    Calls Try.prog 31 #[.pointer (some ⟨b, 0, none⟩), .int .i64 0, .func (Fn.func 37) #[] #[.pointer (some ⟨g, 0, none⟩)], .func (Fn.func 34) #[] #[]] w fun e w' => e = .returned (.string (str [])) ∧ RdAt w' b { r with fault := 13 } ∧ w.grownBy w' (some b) := by
  obtain ⟨⟨c0, c1, c2⟩, ⟨f0, f1', f2'⟩, _⟩ := h.cells
  rw [hf] at c2
  have HF : Hid (r.fault = 0) := hf
  have h1 := h.size
  have h2 := h.at_le
  unfold maxLen at h1
  have h3 : ¬ (r.s.size : Int) - r.at_ < 0 := by omega
  go_enter Try.func31, Try.ntmps31
  go_wp2_with fail
  refine wp_scope_on 0 rfl ?_
  go_wp2_with fail
  go_quiet (fail)
  go_wp2_with fail
  refine (left_any (rdAt_drewN h _)).mono ?_; rintro e w' ⟨rfl, n1, rfl⟩
  go_wp2_with fail
  have hr1 := rdAt_drewN h (nq + n1)
  have hgr : w.grownBy (w.drewN (nq + n1)) (some b) := grow_drewN w _ _
  have hg1 : (w.drewN (nq + n1)).cell? ⟨g, 0, none⟩ = some (.int .i64 _) := hg
  clear c0 c1 c2 f0 f1' f2' hg
  generalize w.drewN (nq + n1) = w1 at *
  obtain ⟨⟨c0, c1, c2⟩, ⟨f0, f1', f2'⟩, _⟩ := hr1.cells
  rw [hf] at c2
  clear hf
  go_quiet ((go_at_call 37; exact Calls.quiet_of_same (bytesC_neg _ hn hg1)))
  go_wp2
  go_step3
  go_wp2
  refine jump_ret ?_
  go_ret
  exact ⟨rfl, rdAt_fault (rdAt_drewN hr1 _) _, grow_set (grow_trans hgr (grow_drewN _ _ _))⟩


set_option maxHeartbeats 400000 in
/-- n bytes, and they end -/
theorem takenS_bytes_end {w : World} {b g : Nat} {r : Rd} {n : Int} (h : RdAt w b r) (hf : r.fault = 0) (hg : w.cell? ⟨g, 0, none⟩ = some (.int .i64 n)) (hn : 0 ≤ n) (hl : (r.s.size : Int) - r.at_ < n) :
    Calls Try.prog 31 #[.pointer (some ⟨b, 0, none⟩), .int .i64 0, .func (Fn.func 37) #[] #[.pointer (some ⟨g, 0, none⟩)], .func (Fn.func 34) #[] #[]] w fun e w' => e = .returned (.string (str [])) ∧ RdAt w' b { r with fault := 10 } ∧ w.grownBy w' (some b) := by
  obtain ⟨⟨c0, c1, c2⟩, ⟨f0, f1', f2'⟩, _⟩ := h.cells
  rw [hf] at c2
  have HF : Hid (r.fault = 0) := hf
  have h1 := h.size
  have h2 := h.at_le
  unfold maxLen at h1
  have h3 : ¬ (r.s.size : Int) - r.at_ < 0 := by omega
  go_enter Try.func31, Try.ntmps31
  go_wp2_with fail
  refine wp_scope_on 0 rfl ?_
  go_wp2_with fail
  go_quiet (fail)
  go_wp2_with fail
  refine (left_any (rdAt_drewN h _)).mono ?_; rintro e w' ⟨rfl, n1, rfl⟩
  go_wp2_with fail
  have hr1 := rdAt_drewN h (nq + n1)
  have hgr : w.grownBy (w.drewN (nq + n1)) (some b) := grow_drewN w _ _
  have hg1 : (w.drewN (nq + n1)).cell? ⟨g, 0, none⟩ = some (.int .i64 _) := hg
  clear c0 c1 c2 f0 f1' f2' hg
  generalize w.drewN (nq + n1) = w1 at *
  obtain ⟨⟨c0, c1, c2⟩, ⟨f0, f1', f2'⟩, _⟩ := hr1.cells
  rw [hf] at c2
  clear hf
  go_quiet ((go_at_call 37; exact Calls.quiet_of_same (bytesC_pos _ hn hg1)))
  go_wp2_with fail
  refine (left_any (rdAt_drewN hr1 _)).mono ?_; rintro e w' ⟨rfl, n2, rfl⟩
  go_wp2
  go_step3
  go_wp2
  refine jump_ret ?_
  go_ret
  exact ⟨rfl, rdAt_fault (rdAt_drewN hr1 _) _, grow_set (grow_trans hgr (grow_drewN _ _ _))⟩


set_option maxHeartbeats 400000 in
/-- n bytes that are there -/
theorem takenS_bytes_ok {w : World} {b g : Nat} {r : Rd} {n : Int} (h : RdAt w b r) (hf : r.fault = 0) (hg : w.cell? ⟨g, 0, none⟩ = some (.int .i64 n)) (hn : 0 ≤ n) (hl : n ≤ (r.s.size : Int) - r.at_) :
    Calls Try.prog 31 #[.pointer (some ⟨b, 0, none⟩), .int .i64 0, .func (Fn.func 37) #[] #[.pointer (some ⟨g, 0, none⟩)], .func (Fn.func 34) #[] #[]] w fun e w' => e = .returned (.string (r.s.extract r.at_ (r.at_ + n.toNat))) ∧ RdAt w' b { r with at_ := r.at_ + n.toNat } ∧ w.grownBy w' (some b) := by
  obtain ⟨⟨c0, c1, c2⟩, ⟨f0, f1', f2'⟩, _⟩ := h.cells
  rw [hf] at c2
  have HF : Hid (r.fault = 0) := hf
  have h1 := h.size
  have h2 := h.at_le
  unfold maxLen at h1
  obtain ⟨m, rfl⟩ := Int.eq_ofNat_of_zero_le hn
  rw [Int.toNat_natCast]
  have h3 : ¬ (r.s.size : Int) - r.at_ < 0 := by omega
  have h4 : ¬ (r.s.size : Int) - r.at_ - 0 < (m : Int) := by omega
  go_enter Try.func31, Try.ntmps31
  go_wp2_with fail
  refine wp_scope_on 0 rfl ?_
  go_wp2_with fail
  go_quiet (fail)
  go_wp2_with fail
  refine (left_any (rdAt_drewN h _)).mono ?_; rintro e w' ⟨rfl, n1, rfl⟩
  go_wp2_with fail
  have hr1 := rdAt_drewN h (nq + n1)
  have hgr : w.grownBy (w.drewN (nq + n1)) (some b) := grow_drewN w _ _
  have hg1 : (w.drewN (nq + n1)).cell? ⟨g, 0, none⟩ = some (.int .i64 _) := hg
  clear c0 c1 c2 f0 f1' f2' hg
  generalize w.drewN (nq + n1) = w1 at *
  obtain ⟨⟨c0, c1, c2⟩, ⟨f0, f1', f2'⟩, _⟩ := hr1.cells
  rw [hf] at c2
  clear hf
  go_quiet ((go_at_call 37; exact Calls.quiet_of_same (bytesC_pos _ hn hg1)))
  go_wp2_with fail
  refine (left_any (rdAt_drewN hr1 _)).mono ?_; rintro e w' ⟨rfl, n2, rfl⟩
  go_wp2_with fail
  have hr2 : RdAt ((w1.drewN (nq + n2)).setCell ⟨b, 1, none⟩ (.int .i64 ((r.at_ : Int) + (m : Int)))) b { r with at_ := r.at_ + m } := by
    have := rdAt_at (rdAt_drewN hr1 (nq + n2)) (r.at_ + m) (by omega)
    rwa [Int.natCast_add] at this
  have hgr2 : w.grownBy ((w1.drewN (nq + n2)).setCell ⟨b, 1, none⟩ (.int .i64 ((r.at_ : Int) + (m : Int)))) (some b) := grow_set (grow_trans hgr (grow_drewN _ _ _))
  clear c0 c1 c2 f0 f1' f2' hgr hr1 hg1
  generalize (w1.drewN (nq + n2)).setCell ⟨b, 1, none⟩ (.int .i64 ((r.at_ : Int) + (m : Int))) = w2 at *
  obtain ⟨⟨c0, c1, c2⟩, ⟨f0, f1', f2'⟩, _⟩ := hr2.cells
  have k1 : r.at_ + m ≤ r.s.size := by omega
  go_quiet ((go_at_call 34; exact Calls.quiet_of_same (same_any _ _)))
  go_wp2
  go_step3
  go_wp2
  refine jump_ret ?_
  go_ret
  refine ⟨rfl, ?_, grow_set (grow_trans hgr2 (grow_drewN _ _ _))⟩
  have hz := rdAt_fault (rdAt_drewN hr2 nq) 0
  rw [HF.out]
  exact hz


set_option maxHeartbeats 400000 in
/-- with a fault nothing is read -/
theorem takenI_fault {w : World} {b : Nat} {r : Rd} (h : RdAt w b r) (hf : r.fault ≠ 0) (hd : Int) (f1 f2 : Value) : Calls Try.prog 35 #[.pointer (some ⟨b, 0, none⟩), .int .i64 hd, f1, f2] w fun e w' => e = .returned (.int .i64 0) ∧ RdAt w' b r ∧ w.grownBy w' (some b) := by
  obtain ⟨⟨c0, c1, c2⟩, ⟨f0, f1', f2'⟩, _⟩ := h.cells
  have hf' : (r.fault != 0) = true := by simp [hf]
  clear hf
  go_enter Try.func35, Try.ntmps35
  go_wp2_with fail
  refine wp_scope_on 0 rfl ?_
  go_wp2_with fail
  go_quiet (fail)
  go_wp2
  go_step3
  refine then_goto (jump_goto ?_)
  go_wp2
  rw [Exit.noGoto_ret]
  go_ret
  exact ⟨rfl, rdAt_fault (rdAt_drewN h _) r.fault, grow_set (grow_drewN w _ _)⟩


set_option maxHeartbeats 400000 in
/-- a number in no such number of bytes -/
theorem takenI_num_wide {w : World} {b g : Nat} {r : Rd} {n : Int} (h : RdAt w b r) (hf : r.fault = 0) (hg : w.cell? ⟨g, 0, none⟩ = some (.int .i64 n)) (hn : n < 1 ∨ 8 < n) :
    Calls Try.prog 35 #[.pointer (some ⟨b, 0, none⟩), .int .i64 0, .func (Fn.func 36) #[] #[.pointer (some ⟨g, 0, none⟩)], .func (Fn.func 33) #[] #[]] w fun e w' => e = .returned (.int .i64 0) ∧ RdAt w' b { r with fault := 13 } ∧ w.grownBy w' (some b) := by
  obtain ⟨⟨c0, c1, c2⟩, ⟨f0, f1', f2'⟩, _⟩ := h.cells
  rw [hf] at c2
  have HF : Hid (r.fault = 0) := hf
  have h1 := h.size
  have h2 := h.at_le
  unfold maxLen at h1
  have h3 : ¬ (r.s.size : Int) - r.at_ < 0 := by omega
  go_enter Try.func35, Try.ntmps35
  go_wp2_with fail
  refine wp_scope_on 0 rfl ?_
  go_wp2_with fail
  go_quiet (fail)
  go_wp2_with fail
  refine (left_any (rdAt_drewN h _)).mono ?_; rintro e w' ⟨rfl, n1, rfl⟩
  go_wp2_with fail
  have hr1 := rdAt_drewN h (nq + n1)
  have hgr : w.grownBy (w.drewN (nq + n1)) (some b) := grow_drewN w _ _
  have hg1 : (w.drewN (nq + n1)).cell? ⟨g, 0, none⟩ = some (.int .i64 _) := hg
  clear c0 c1 c2 f0 f1' f2' hg
  generalize w.drewN (nq + n1) = w1 at *
  obtain ⟨⟨c0, c1, c2⟩, ⟨f0, f1', f2'⟩, _⟩ := hr1.cells
  rw [hf] at c2
  clear hf
  go_quiet ((go_at_call 36; exact Calls.quiet_of_same (numC_wide _ hn hg1)))
  go_wp2
  go_step3
  go_wp2
  refine jump_ret ?_
  go_ret
  exact ⟨rfl, rdAt_fault (rdAt_drewN hr1 _) _, grow_set (grow_trans hgr (grow_drewN _ _ _))⟩


set_option maxHeartbeats 400000 in
/-- a number, and the bytes end -/
theorem takenI_num_end {w : World} {b g : Nat} {r : Rd} {n : Int} (h : RdAt w b r) (hf : r.fault = 0) (hg : w.cell? ⟨g, 0, none⟩ = some (.int .i64 n)) (hn : 1 ≤ n) (hn8 : n ≤ 8) (hl : (r.s.size : Int) - r.at_ < n) :
    Calls Try.prog 35 #[.pointer (some ⟨b, 0, none⟩), .int .i64 0, .func (Fn.func 36) #[] #[.pointer (some ⟨g, 0, none⟩)], .func (Fn.func 33) #[] #[]] w fun e w' => e = .returned (.int .i64 0) ∧ RdAt w' b { r with fault := 10 } ∧ w.grownBy w' (some b) := by
  obtain ⟨⟨c0, c1, c2⟩, ⟨f0, f1', f2'⟩, _⟩ := h.cells
  rw [hf] at c2
  have HF : Hid (r.fault = 0) := hf
  have h1 := h.size
  have h2 := h.at_le
  unfold maxLen at h1
  have h3 : ¬ (r.s.size : Int) - r.at_ < 0 := by omega
  go_enter Try.func35, Try.ntmps35
  go_wp2_with fail
  refine wp_scope_on 0 rfl ?_
  go_wp2_with fail
  go_quiet (fail)
  go_wp2_with fail
  refine (left_any (rdAt_drewN h _)).mono ?_; rintro e w' ⟨rfl, n1, rfl⟩
  go_wp2_with fail
  have hr1 := rdAt_drewN h (nq + n1)
  have hgr : w.grownBy (w.drewN (nq + n1)) (some b) := grow_drewN w _ _
  have hg1 : (w.drewN (nq + n1)).cell? ⟨g, 0, none⟩ = some (.int .i64 _) := hg
  clear c0 c1 c2 f0 f1' f2' hg
  generalize w.drewN (nq + n1) = w1 at *
  obtain ⟨⟨c0, c1, c2⟩, ⟨f0, f1', f2'⟩, _⟩ := hr1.cells
  rw [hf] at c2
  clear hf
  go_quiet ((go_at_call 36; exact Calls.quiet_of_same (numC_ok _ hn hn8 hg1)))
  go_wp2_with fail
  refine (left_any (rdAt_drewN hr1 _)).mono ?_; rintro e w' ⟨rfl, n2, rfl⟩
  go_wp2
  go_step3
  go_wp2
  refine jump_ret ?_
  go_ret
  exact ⟨rfl, rdAt_fault (rdAt_drewN hr1 _) _, grow_set (grow_trans hgr (grow_drewN _ _ _))⟩


set_option maxHeartbeats 400000 in
/-- a number that is there -/
theorem takenI_num_ok {w : World} {b g : Nat} {r : Rd} {n : Int} (h : RdAt w b r) (hf : r.fault = 0) (hg : w.cell? ⟨g, 0, none⟩ = some (.int .i64 n)) (hn : 1 ≤ n) (hn8 : n ≤ 8) (hl : n ≤ (r.s.size : Int) - r.at_) :
    Calls Try.prog 35 #[.pointer (some ⟨b, 0, none⟩), .int .i64 0, .func (Fn.func 36) #[] #[.pointer (some ⟨g, 0, none⟩)], .func (Fn.func 33) #[] #[]] w fun e w' => e = .returned (.int .i64 (num64 ((r.s.data.toList.drop r.at_).take n.toNat)).toInt) ∧ RdAt w' b { r with at_ := r.at_ + n.toNat } ∧ w.grownBy w' (some b) := by
  obtain ⟨⟨c0, c1, c2⟩, ⟨f0, f1', f2'⟩, _⟩ := h.cells
  rw [hf] at c2
  have HF : Hid (r.fault = 0) := hf
  have h1 := h.size
  have h2 := h.at_le
  unfold maxLen at h1
  obtain ⟨m, rfl⟩ := Int.eq_ofNat_of_zero_le (show 0 ≤ n by omega)
  rw [Int.toNat_natCast]
  have h3 : ¬ (r.s.size : Int) - r.at_ < 0 := by omega
  have h4 : ¬ (r.s.size : Int) - r.at_ - 0 < (m : Int) := by omega
  go_enter Try.func35, Try.ntmps35
  go_wp2_with fail
  refine wp_scope_on 0 rfl ?_
  go_wp2_with fail
  go_quiet (fail)
  go_wp2_with fail
  refine (left_any (rdAt_drewN h _)).mono ?_; rintro e w' ⟨rfl, n1, rfl⟩
  go_wp2_with fail
  have hr1 := rdAt_drewN h (nq + n1)
  have hgr : w.grownBy (w.drewN (nq + n1)) (some b) := grow_drewN w _ _
  have hg1 : (w.drewN (nq + n1)).cell? ⟨g, 0, none⟩ = some (.int .i64 _) := hg
  clear c0 c1 c2 f0 f1' f2' hg
  generalize w.drewN (nq + n1) = w1 at *
  obtain ⟨⟨c0, c1, c2⟩, ⟨f0, f1', f2'⟩, _⟩ := hr1.cells
  rw [hf] at c2
  clear hf
  go_quiet ((go_at_call 36; exact Calls.quiet_of_same (numC_ok _ hn hn8 hg1)))
  go_wp2_with fail
  refine (left_any (rdAt_drewN hr1 _)).mono ?_; rintro e w' ⟨rfl, n2, rfl⟩
  go_wp2_with fail
  have hr2 : RdAt ((w1.drewN (nq + n2)).setCell ⟨b, 1, none⟩ (.int .i64 ((r.at_ : Int) + (m : Int)))) b { r with at_ := r.at_ + m } := by
    have := rdAt_at (rdAt_drewN hr1 (nq + n2)) (r.at_ + m) (by omega)
    rwa [Int.natCast_add] at this
  have hgr2 : w.grownBy ((w1.drewN (nq + n2)).setCell ⟨b, 1, none⟩ (.int .i64 ((r.at_ : Int) + (m : Int)))) (some b) := grow_set (grow_trans hgr (grow_drewN _ _ _))
  clear c0 c1 c2 f0 f1' f2' hgr hr1 hg1
  generalize (w1.drewN (nq + n2)).setCell ⟨b, 1, none⟩ (.int .i64 ((r.at_ : Int) + (m : Int))) = w2 at *
  obtain ⟨⟨c0, c1, c2⟩, ⟨f0, f1', f2'⟩, hbl⟩ := hr2.cells
  have k1 : r.at_ + m ≤ r.s.size := by omega
  have k2 : (r.s.extract r.at_ (r.at_ + m)).size ≤ maxLen := by rw [ByteArray.size_extract]; unfold maxLen; omega
  have e1 : IntKind.i64.wrap (r.at_ : Int) = (r.at_ : Int) := IntWalk.i64_in _ (by omega)
  have k6 : (0 : Int) ≤ (r.at_ : Int) + (m : Int) := by omega
  have c1' : w2.cell? ⟨b, 1, none⟩ = some (.int .i64 ((r.at_ : Int) + (m : Int))) := by rw [c1]; exact congrArg _ (congrArg _ (Int.natCast_add _ _))
  have k3 : (r.at_ : Int) ≤ (r.at_ : Int) + (m : Int) := by omega
  have k4 : (r.at_ : Int) + (m : Int) ≤ (r.s.size : Int) := by omega
  have k5 : ((r.at_ : Int) + (m : Int)).toNat = r.at_ + m := by omega
  clear c1
  refine wp_region_still_tail 16 (by kernel_rfl) (by kernel_rfl) ?_
  simp only [List.take_succ_cons, List.take_zero, List.drop_succ_cons, List.drop_zero]
  iterate 16 still_step
  refine wpStill_nil ?_
  clear e1 k3 k4 k5 k6
  change wpList _ _ _ _ _ w2.drew
  have hr3 : RdAt w2.drew b { r with at_ := r.at_ + m } := ⟨hr2.blk, hr2.size, hr2.at_le⟩
  have hgr3 : w.grownBy w2.drew (some b) := grow_trans hgr2 (grow_drewN w2 1 _)
  clear c0 c1' c2 f0 f1' f2' hr2 hgr2
  generalize w2.drew = w3 at *
  obtain ⟨⟨c0, c1, c2⟩, ⟨f0, f1', f2'⟩, hbl⟩ := hr3.cells
  go_wp2_with fail
  refine (number_any _ _ k2).mono ?_; rintro e w4 ⟨rfl, hb4⟩
  have hr4 := rdAt_below hr3 hb4
  have hgr4 := grow_below hgr3 hb4
  clear c0 c1 c2 f0 f1' f2' hr3 hgr3 hb4
  obtain ⟨⟨c0, c1, c2⟩, ⟨f0, f1', f2'⟩, hbl⟩ := hr4.cells
  go_wp2
  go_step3
  go_wp2
  refine jump_ret ?_
  go_ret
  refine ⟨rfl, ?_, grow_set hgr4⟩
  have hz := rdAt_fault hr4 0
  rw [HF.out]
  exact hz


/-- the number that a text's head says -/
def Rd.head (r : Rd) : Int := (num64 ((r.s.data.toList.drop r.at_).take 2)).toInt
theorem head_bounds (r : Rd) (h : r.at_ + 2 ≤ r.s.size) : 0 ≤ r.head ∧ r.head ≤ 65535 := by
  unfold Rd.head
  have hl : ((r.s.data.toList.drop r.at_).take 2).length = 2 := by
    have : r.s.data.toList.length = r.s.size := by simp
    rw [List.length_take, List.length_drop]; omega
  match h2 : (r.s.data.toList.drop r.at_).take 2, hl with
  | [x, y], _ =>
    have hx : x.toNat < 256 := x.toNat_lt
    have hy : y.toNat < 256 := y.toNat_lt
    have e : (num64 [x, y]).toNat = x.toNat * 256 + y.toNat := by
      show (n64 (n64 0#64 x) y).toNat = _
      have e1 : n64 0#64 x = x.toBitVec.setWidth 64 := by simp [n64]
      have h1 := n64_u64 (n64 0#64 x) y
      have h3 : ((n64 0#64 x).toNat : Int) = (x.toNat : Int) := by
        rw [e1, BitVec.toNat_setWidth]
        show ((x.toNat % 2 ^ 64 : Nat) : Int) = _
        omega
      rw [h3] at h1
      have h4 : (x.toNat : Int) * (256 : Int) % (18446744073709551616 : Int) = ((x.toNat * 256 : Nat) : Int) := by omega
      rw [h4, u64_or_nat _ _ (by omega) (by omega)] at h1
      have h5 : x.toNat * 256 ||| y.toNat = x.toNat * 256 + y.toNat := by
        have := Nat.shiftLeft_add_eq_or_of_lt (i := 8) hy x.toNat
        rw [Nat.shiftLeft_eq] at this
        exact this.symm
      rw [h5] at h1
      exact_mod_cast h1.symm
    have hi : (num64 [x, y]).toInt = ((num64 [x, y]).toNat : Int) := by
      rw [← wrap64_toInt]
      exact IntWalk.wrap64_in _ (by omega)
    rw [hi, e]
    omega

set_option maxHeartbeats 400000 in
/-- a text, not even its head -/
theorem takenS_text_short {w : World} {b : Nat} {r : Rd} (h : RdAt w b r) (hf : r.fault = 0) (hl : (r.s.size : Int) - r.at_ < 2) (f1 f2 : Value) :
    Calls Try.prog 31 #[.pointer (some ⟨b, 0, none⟩), .int .i64 2, f1, f2] w fun e w' => e = .returned (.string (str [])) ∧ RdAt w' b { r with fault := 10 } ∧ w.grownBy w' (some b) := by
  obtain ⟨⟨c0, c1, c2⟩, ⟨f0, f1', f2'⟩, _⟩ := h.cells
  rw [hf] at c2
  clear hf
  go_enter Try.func31, Try.ntmps31
  go_wp2_with fail
  refine wp_scope_on 0 rfl ?_
  go_wp2_with fail
  go_quiet (fail)
  go_wp2_with fail
  refine (left_any (rdAt_drewN h _)).mono ?_; rintro e w' ⟨rfl, n1, rfl⟩
  go_wp2
  go_step3
  refine then_goto (jump_goto ?_)
  go_wp2
  rw [Exit.noGoto_ret]
  go_ret
  exact ⟨rfl, rdAt_fault (rdAt_drewN h _) _, grow_set (grow_drewN w _ _)⟩


set_option maxHeartbeats 400000 in
/-- a text that is too long -/
theorem takenS_text_long {w : World} {b g : Nat} {r : Rd} {n : Int} (h : RdAt w b r) (hf : r.fault = 0) (hg : w.cell? ⟨g, 0, none⟩ = some (.int .i64 n)) (h4 : r.at_ + 2 ≤ r.s.size) (hn : n < r.head) :
    Calls Try.prog 31 #[.pointer (some ⟨b, 0, none⟩), .int .i64 2, .func (Fn.func 32) #[] #[.pointer (some ⟨g, 0, none⟩)], .func (Fn.func 34) #[] #[]] w fun e w' => e = .returned (.string (str [])) ∧ RdAt w' b { r with fault := 11 } ∧ w.grownBy w' (some b) := by
  obtain ⟨⟨c0, c1, c2⟩, ⟨f0, f1', f2'⟩, _⟩ := h.cells
  rw [hf] at c2
  have HF : Hid (r.fault = 0) := hf
  have h1 := h.size
  have h2 := h.at_le
  unfold maxLen at h1
  have h3 : ¬ (r.s.size : Int) - r.at_ < 2 := by omega
  have k2 : (r.s.extract r.at_ (r.at_ + 2)).size ≤ maxLen := by rw [ByteArray.size_extract]; unfold maxLen; omega
  have k3 : (r.at_ : Int) ≤ (r.at_ : Int) + 2 := by omega
  have k4 : (r.at_ : Int) + 2 ≤ (r.s.size : Int) := by omega
  have hd2 : (r.s.extract r.at_ (r.at_ + 2)).data.toList = (r.s.data.toList.drop r.at_).take 2 := by simp
  go_enter Try.func31, Try.ntmps31
  go_wp2_with fail
  refine wp_scope_on 0 rfl ?_
  go_wp2_with fail
  go_quiet (fail)
  go_wp2_with fail
  refine (left_any (rdAt_drewN h _)).mono ?_; rintro e w' ⟨rfl, n1, rfl⟩
  go_wp2_with fail
  have hr1 := rdAt_drewN h (nq + n1)
  have hgr : w.grownBy (w.drewN (nq + n1)) (some b) := grow_drewN w _ _
  have hg1 : (w.drewN (nq + n1)).cell? ⟨g, 0, none⟩ = some (.int .i64 _) := hg
  clear c0 c1 c2 f0 f1' f2' hg
  generalize w.drewN (nq + n1) = w1 at *
  obtain ⟨⟨c0, c1, c2⟩, ⟨f0, f1', f2'⟩, _⟩ := hr1.cells
  rw [hf] at c2
  clear hf
  have e1 : IntKind.i64.wrap ((r.at_ : Int) + 2) = (r.at_ : Int) + 2 := IntWalk.i64_in _ (by omega)
  have k6 : (0 : Int) ≤ (r.at_ : Int) + 2 := by omega
  have k5 : ((r.at_ : Int) + 2).toNat = r.at_ + 2 := by omega
  have hg1d : w1.drew.cell? ⟨g, 0, none⟩ = some (.int .i64 _) := hg1
  have hr1d : RdAt w1.drew b r := ⟨hr1.blk, hr1.size, hr1.at_le⟩
  go_region_held3 (fun w' => w'.cell? ⟨b, 0, none⟩ = some (.string r.s) ∧ w'.cell? ⟨b, 1, none⟩ = some (.int .i64 (r.at_ : Int)))
    (first | exact ⟨c0, c1⟩ | exact ⟨d0, d1⟩)
    (first
      | (go_at_call 32; refine (textC_long (w := w1.drew) _ k2 (by rw [hd2]; exact hn) hg1d).mono ?_; rintro e w3 ⟨rfl, hb3⟩; have hr3 := rdAt_below hr1d hb3; have d0 := hr3.cells.1.1; have d1 := hr3.cells.1.2.1))
  have hgr3 := grow_below (grow_trans hgr (grow_drewN w1 1 (some b))) hb3
  clear c0 c1 c2 f0 f1' f2' hr1 hgr hg1 hg1d hr1d hb3 d0 d1 hd2 e1 k6 k5 k2 k3 k4
  obtain ⟨⟨c0, c1, c2⟩, ⟨f0, f1', f2'⟩, _⟩ := hr3.cells
  rw [HF.out] at c2
  go_wp2
  go_step3
  go_wp2
  refine jump_ret ?_
  go_ret
  exact ⟨rfl, rdAt_fault hr3 _, grow_set hgr3⟩


set_option maxHeartbeats 400000 in
/-- a text, and the bytes end -/
theorem takenS_text_end {w : World} {b g : Nat} {r : Rd} {n : Int} (h : RdAt w b r) (hf : r.fault = 0) (hg : w.cell? ⟨g, 0, none⟩ = some (.int .i64 n)) (h4 : r.at_ + 2 ≤ r.s.size) (hn : r.head ≤ n) (hl : (r.s.size : Int) - r.at_ - 2 < r.head) :
    Calls Try.prog 31 #[.pointer (some ⟨b, 0, none⟩), .int .i64 2, .func (Fn.func 32) #[] #[.pointer (some ⟨g, 0, none⟩)], .func (Fn.func 34) #[] #[]] w fun e w' => e = .returned (.string (str [])) ∧ RdAt w' b { r with fault := 10 } ∧ w.grownBy w' (some b) := by
  obtain ⟨⟨c0, c1, c2⟩, ⟨f0, f1', f2'⟩, _⟩ := h.cells
  rw [hf] at c2
  have HF : Hid (r.fault = 0) := hf
  have h1 := h.size
  have h2 := h.at_le
  unfold maxLen at h1
  have h3 : ¬ (r.s.size : Int) - r.at_ < 2 := by omega
  have k2 : (r.s.extract r.at_ (r.at_ + 2)).size ≤ maxLen := by rw [ByteArray.size_extract]; unfold maxLen; omega
  have k3 : (r.at_ : Int) ≤ (r.at_ : Int) + 2 := by omega
  have k4 : (r.at_ : Int) + 2 ≤ (r.s.size : Int) := by omega
  have hd2 : (r.s.extract r.at_ (r.at_ + 2)).data.toList = (r.s.data.toList.drop r.at_).take 2 := by simp
  go_enter Try.func31, Try.ntmps31
  go_wp2_with fail
  refine wp_scope_on 0 rfl ?_
  go_wp2_with fail
  go_quiet (fail)
  go_wp2_with fail
  refine (left_any (rdAt_drewN h _)).mono ?_; rintro e w' ⟨rfl, n1, rfl⟩
  go_wp2_with fail
  have hr1 := rdAt_drewN h (nq + n1)
  have hgr : w.grownBy (w.drewN (nq + n1)) (some b) := grow_drewN w _ _
  have hg1 : (w.drewN (nq + n1)).cell? ⟨g, 0, none⟩ = some (.int .i64 _) := hg
  clear c0 c1 c2 f0 f1' f2' hg
  generalize w.drewN (nq + n1) = w1 at *
  obtain ⟨⟨c0, c1, c2⟩, ⟨f0, f1', f2'⟩, _⟩ := hr1.cells
  rw [hf] at c2
  clear hf
  have e1 : IntKind.i64.wrap ((r.at_ : Int) + 2) = (r.at_ : Int) + 2 := IntWalk.i64_in _ (by omega)
  have k6 : (0 : Int) ≤ (r.at_ : Int) + 2 := by omega
  have k5 : ((r.at_ : Int) + 2).toNat = r.at_ + 2 := by omega
  have hg1d : w1.drew.cell? ⟨g, 0, none⟩ = some (.int .i64 _) := hg1
  have hr1d : RdAt w1.drew b r := ⟨hr1.blk, hr1.size, hr1.at_le⟩
  go_region_held3 (fun w' => w'.cell? ⟨b, 0, none⟩ = some (.string r.s) ∧ w'.cell? ⟨b, 1, none⟩ = some (.int .i64 (r.at_ : Int)))
    (first | exact ⟨c0, c1⟩ | exact ⟨d0, d1⟩)
    (first
      | (go_at_call 32; refine (textC_ok (w := w1.drew) (k := r.head) _ k2 (by rw [hd2]; rfl) hn hg1d).mono ?_; rintro e w3 ⟨rfl, hb3⟩; have hr3 := rdAt_below hr1d hb3; have d0 := hr3.cells.1.1; have d1 := hr3.cells.1.2.1))
  have hgr3 := grow_below (grow_trans hgr (grow_drewN w1 1 (some b))) hb3
  clear c0 c1 c2 f0 f1' f2' hr1 hgr hg1 hg1d hr1d hb3 d0 d1 hd2 e1 k6 k5 k2 k3 k4
  obtain ⟨⟨c0, c1, c2⟩, ⟨f0, f1', f2'⟩, _⟩ := hr3.cells
  rw [HF.out] at c2
  go_wp2_with fail
  refine (left_any hr3).mono ?_; rintro e w' ⟨rfl, n2, rfl⟩
  clear c0 c1 c2 f0 f1' f2'
  have hr4 := rdAt_drewN hr3 n2
  have hgr4 := grow_trans hgr3 (grow_drewN w3 n2 _)
  generalize w3.drewN n2 = w4 at *
  obtain ⟨⟨c0, c1, c2⟩, ⟨f0, f1', f2'⟩, _⟩ := hr4.cells
  rw [HF.out] at c2
  go_wp2
  go_step3
  go_wp2
  refine jump_ret ?_
  go_ret
  exact ⟨rfl, rdAt_fault hr4 _, grow_set hgr4⟩


set_option maxHeartbeats 400000 in
/-- a text that is there -/
theorem takenS_text_ok {w : World} {b g : Nat} {r : Rd} {n : Int} (h : RdAt w b r) (hf : r.fault = 0) (hg : w.cell? ⟨g, 0, none⟩ = some (.int .i64 n)) (h4 : r.at_ + 2 ≤ r.s.size) (hn : r.head ≤ n) (hl : r.head ≤ (r.s.size : Int) - r.at_ - 2) :
    Calls Try.prog 31 #[.pointer (some ⟨b, 0, none⟩), .int .i64 2, .func (Fn.func 32) #[] #[.pointer (some ⟨g, 0, none⟩)], .func (Fn.func 34) #[] #[]] w fun e w' => e = .returned (.string (r.s.extract (r.at_ + 2) (r.at_ + 2 + r.head.toNat))) ∧ RdAt w' b { r with at_ := r.at_ + 2 + r.head.toNat } ∧ w.grownBy w' (some b) := by
  obtain ⟨⟨c0, c1, c2⟩, ⟨f0, f1', f2'⟩, _⟩ := h.cells
  rw [hf] at c2
  have HF : Hid (r.fault = 0) := hf
  have h1 := h.size
  have h2 := h.at_le
  unfold maxLen at h1
  have h3 : ¬ (r.s.size : Int) - r.at_ < 2 := by omega
  have k2 : (r.s.extract r.at_ (r.at_ + 2)).size ≤ maxLen := by rw [ByteArray.size_extract]; unfold maxLen; omega
  have k3 : (r.at_ : Int) ≤ (r.at_ : Int) + 2 := by omega
  have k4 : (r.at_ : Int) + 2 ≤ (r.s.size : Int) := by omega
  have hd2 : (r.s.extract r.at_ (r.at_ + 2)).data.toList = (r.s.data.toList.drop r.at_).take 2 := by simp
  obtain ⟨hb0, hb1⟩ := head_bounds r h4
  obtain ⟨m, hm⟩ := Int.eq_ofNat_of_zero_le hb0
  rw [hm] at hn hl hb1
  rw [hm, Int.toNat_natCast]
  have HM := Lib.hid hm
  clear hm hb0
  go_enter Try.func31, Try.ntmps31
  go_wp2_with fail
  refine wp_scope_on 0 rfl ?_
  go_wp2_with fail
  go_quiet (fail)
  go_wp2_with fail
  refine (left_any (rdAt_drewN h _)).mono ?_; rintro e w' ⟨rfl, n1, rfl⟩
  go_wp2_with fail
  have hr1 := rdAt_drewN h (nq + n1)
  have hgr : w.grownBy (w.drewN (nq + n1)) (some b) := grow_drewN w _ _
  have hg1 : (w.drewN (nq + n1)).cell? ⟨g, 0, none⟩ = some (.int .i64 _) := hg
  clear c0 c1 c2 f0 f1' f2' hg
  generalize w.drewN (nq + n1) = w1 at *
  obtain ⟨⟨c0, c1, c2⟩, ⟨f0, f1', f2'⟩, _⟩ := hr1.cells
  rw [hf] at c2
  clear hf
  have e1 : IntKind.i64.wrap ((r.at_ : Int) + 2) = (r.at_ : Int) + 2 := IntWalk.i64_in _ (by omega)
  have k6 : (0 : Int) ≤ (r.at_ : Int) + 2 := by omega
  have k5 : ((r.at_ : Int) + 2).toNat = r.at_ + 2 := by omega
  have hg1d : w1.drew.cell? ⟨g, 0, none⟩ = some (.int .i64 _) := hg1
  have hr1d : RdAt w1.drew b r := ⟨hr1.blk, hr1.size, hr1.at_le⟩
  go_region_held3 (fun w' => w'.cell? ⟨b, 0, none⟩ = some (.string r.s) ∧ w'.cell? ⟨b, 1, none⟩ = some (.int .i64 (r.at_ : Int)))
    (first | exact ⟨c0, c1⟩ | exact ⟨d0, d1⟩)
    (first
      | (go_at_call 32; refine (textC_ok (w := w1.drew) (k := (m : Int)) _ k2 (by rw [hd2]; exact HM.out) hn hg1d).mono ?_; rintro e w3 ⟨rfl, hb3⟩; have hr3 := rdAt_below hr1d hb3; have d0 := hr3.cells.1.1; have d1 := hr3.cells.1.2.1))
  have hgr3 := grow_below (grow_trans hgr (grow_drewN w1 1 (some b))) hb3
  clear c0 c1 c2 f0 f1' f2' hr1 hgr hg1 hg1d hr1d hb3 d0 d1 hd2 e1 k6 k5 k2 k3 k4
  obtain ⟨⟨c0, c1, c2⟩, ⟨f0, f1', f2'⟩, _⟩ := hr3.cells
  rw [HF.out] at c2
  go_wp2_with fail
  refine (left_any hr3).mono ?_; rintro e w' ⟨rfl, n2, rfl⟩
  clear c0 c1 c2 f0 f1' f2'
  have hr4 := rdAt_drewN hr3 n2
  have hgr4 := grow_trans hgr3 (grow_drewN w3 n2 _)
  generalize w3.drewN n2 = w4 at *
  obtain ⟨⟨c0, c1, c2⟩, ⟨f0, f1', f2'⟩, _⟩ := hr4.cells
  rw [HF.out] at c2
  have hl' : ¬ (r.s.size : Int) - r.at_ - 2 < (m : Int) := by omega
  go_wp2_with fail
  have hr5 : RdAt (w4.setCell ⟨b, 1, none⟩ (.int .i64 ((r.at_ : Int) + (2 + (m : Int))))) b { r with at_ := r.at_ + 2 + m } := by
    have := rdAt_at hr4 (r.at_ + 2 + m) (by omega)
    rwa [show ((r.at_ + 2 + m : Nat) : Int) = (r.at_ : Int) + (2 + (m : Int)) by omega] at this
  have hgr5 : w.grownBy (w4.setCell ⟨b, 1, none⟩ (.int .i64 ((r.at_ : Int) + (2 + (m : Int))))) (some b) := grow_set hgr4
  clear c0 c1 c2 f0 f1' f2' hgr4 hr4
  generalize w4.setCell ⟨b, 1, none⟩ (.int .i64 ((r.at_ : Int) + (2 + (m : Int)))) = w5 at *
  obtain ⟨⟨c0, c1, c2⟩, ⟨f0, f1', f2'⟩, _⟩ := hr5.cells
  have c1' : w5.cell? ⟨b, 1, none⟩ = some (.int .i64 ((r.at_ : Int) + (2 + (m : Int)))) := by rw [c1]; exact congrArg _ (congrArg _ (by show ((r.at_ + 2 + m : Nat) : Int) = _; omega))
  have q1 : IntKind.i64.wrap ((r.at_ : Int) + (2 + (m : Int)) - (m : Int)) = (r.at_ : Int) + 2 := by
    rw [show (r.at_ : Int) + (2 + (m : Int)) - (m : Int) = (r.at_ : Int) + 2 by omega]
    exact IntWalk.i64_in _ (by omega)
  have q2 : (0 : Int) ≤ (r.at_ : Int) + 2 := by omega
  have q3 : (r.at_ : Int) + 2 ≤ (r.at_ : Int) + (2 + (m : Int)) := by omega
  have q4 : (r.at_ : Int) + (2 + (m : Int)) ≤ (r.s.size : Int) := by omega
  have q5 : ((r.at_ : Int) + (2 + (m : Int))).toNat = r.at_ + 2 + m := by omega
  have q6 : ((r.at_ : Int) + 2).toNat = r.at_ + 2 := by omega
  have q7 : (0 : Int) ≤ (r.at_ : Int) + (2 + (m : Int)) := by omega
  clear c1
  go_quiet ((go_at_call 34; exact Calls.quiet_of_same (same_any _ _)))
  clear q1 q2 q3 q4 q5 q6 q7
  go_wp2
  go_step3
  go_wp2
  refine jump_ret ?_
  go_ret
  refine ⟨rfl, ?_, grow_set (grow_trans hgr5 (grow_drewN _ _ _))⟩
  have hz := rdAt_fault (rdAt_drewN hr5 nq) 0
  rw [HF.out]
  exact hz

end Go.Proofs.Ytbgnffgceeclhaa
