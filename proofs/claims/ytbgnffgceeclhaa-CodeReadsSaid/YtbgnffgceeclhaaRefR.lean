/-
  The document's reader: Num, Text, Bytes, Fault and Done return what the reader's own do, for every reader and every argument.
-/
import Derived.Test.YtbgnffgceeclhaaRows
import Derived.Test.YtbgnffgceeclhaaBase
import Derived.Test.YtbgnffgceeclhaaPut
import Derived.Test.YtbgnffgceeclhaaBits
import Derived.Test.YtbgnffgceeclhaaRead
import Derived.Test.YtbgnffgceeclhaaNumber
import Derived.Test.YtbgnffgceeclhaaTaken
import Derived.Test.YtbgnffgceeclhaaReader
import Derived.Test.YtbgnffgceeclhaaFixed
import Derived.Test.YtbgnffgceeclhaaOps
import Derived.Test.YtbgnffgceeclhaaCallsV
import Derived.Deep.QuietTactic
import Derived.BigQuiet
import Derived.WalkSmall
import Derived.Deep.RegionHeld3
namespace Go.Proofs.Ytbgnffgceeclhaa
open Go.RowKit Base
/-- block b is that reader of the document's -/
structure RRdAt (w : World) (b : Nat) (r : Rd) : Prop where
  blk : w.heap[b]? = some (.cells #[.string r.s, .int .i64 r.at_, .int .i64 r.fault] 52 (0, 0))
  size : r.s.size ≤ maxLen
  at_le : r.at_ ≤ r.s.size
theorem RRdAt.cells {w : World} {b : Nat} {r : Rd} (h : RRdAt w b r) :
    (w.cell? ⟨b, 0, none⟩ = some (.string r.s) ∧ w.cell? ⟨b, 1, none⟩ = some (.int .i64 r.at_) ∧ w.cell? ⟨b, 2, none⟩ = some (.int .i64 r.fault)) ∧
    (w.frozen? ⟨b, 0, none⟩ = false ∧ w.frozen? ⟨b, 1, none⟩ = false ∧ w.frozen? ⟨b, 2, none⟩ = false) ∧ b < w.heap.size := by
  have hb := h.blk
  refine ⟨⟨?_, ?_, ?_⟩, ⟨?_, ?_, ?_⟩, (Array.getElem?_eq_some_iff.1 hb).1⟩ <;> first | (rw [World.cell?]; simp [hb]) | (rw [World.frozen?]; simp [hb])
theorem rrd_drewN {w : World} {b : Nat} {r : Rd} (h : RRdAt w b r) (n : Nat) : RRdAt (w.drewN n) b r := ⟨h.blk, h.size, h.at_le⟩
theorem rrd_drew {w : World} {b : Nat} {r : Rd} (h : RRdAt w b r) : RRdAt w.drew b r := ⟨h.blk, h.size, h.at_le⟩
theorem rrd_fault {w : World} {b : Nat} {r : Rd} (h : RRdAt w b r) (e : Int) : RRdAt (w.setCell ⟨b, 2, none⟩ (.int .i64 e)) b { r with fault := e } :=
  ⟨by have hb := h.blk; simp [World.setCell, Array.getElem?_modify, hb], h.size, h.at_le⟩
theorem rrd_at {w : World} {b : Nat} {r : Rd} (h : RRdAt w b r) (n : Nat) (hn : n ≤ r.s.size) : RRdAt (w.setCell ⟨b, 1, none⟩ (.int .i64 (n : Int))) b { r with at_ := n } :=
  ⟨by have hb := h.blk; simp [World.setCell, Array.getElem?_modify, hb], h.size, hn⟩
theorem rrd_below {w w1 : World} {b : Nat} {r : Rd} (h : RRdAt w b r) (hb : Below w.heap.size w w1) : RRdAt w1 b r :=
  ⟨(hb.block b h.cells.2.2).trans h.blk, h.size, h.at_le⟩
theorem rrd_grow {w w1 : World} {b g : Nat} {r : Rd} (h : RRdAt w b r) (hb : w.grownBy w1 (some g)) (hne : b ≠ g) : RRdAt w1 b r :=
  ⟨(hb.block b h.cells.2.2 (by simpa using hne)).trans h.blk, h.size, h.at_le⟩
set_option maxHeartbeats 400000 in
theorem rwrong_any {w : World} {b : Nat} {r : Rd} (h : RRdAt w b r) (e : Int) : Calls Try.prog 38 #[.pointer (some ⟨b, 0, none⟩), .int .i64 e] w fun x w' => x = .returned undef ∧ RRdAt w' b { r with fault := e } ∧ w.grownBy w' (some b) := by
  obtain ⟨⟨c0, c1, c2⟩, ⟨f0, f1', f2'⟩, _⟩ := h.cells
  have h2 := rrd_fault h e
  go_enter Try.func38, Try.ntmps38
  go_wp2
  go_end0
  exact ⟨rfl, h2, grow_set (World.grownBy.refl _ _)⟩
set_option maxHeartbeats 1000000 in
theorem rbytes_fault {w : World} {b : Nat} {r : Rd} {n : Int} (h : RRdAt w b r) (hf : r.fault ≠ 0) : Calls Try.prog 27 #[.pointer (some ⟨b, 0, none⟩), .int .i64 n] w fun e w' => e = .returned (.string (str [])) ∧ RRdAt w' b r ∧ w.grownBy w' (some b) := by
  obtain ⟨⟨c0, c1, c2⟩, ⟨f0, f1', f2'⟩, _⟩ := h.cells
  have hf' : (r.fault != 0) = true := by simp [hf]
  clear hf
  go_enter Try.func27, Try.ntmps27
  go_wp2
  go_ret
  exact ⟨rfl, h, World.grownBy.refl _ _⟩
set_option maxHeartbeats 1000000 in
theorem rbytes_wide0 {w : World} {b : Nat} {r : Rd} {n : Int} (h : RRdAt w b r) (hf : r.fault = 0) (h1 : n < 0) : Calls Try.prog 27 #[.pointer (some ⟨b, 0, none⟩), .int .i64 n] w fun e w' => e = .returned (.string (str [])) ∧ RRdAt w' b { r with fault := 13 } ∧ w.grownBy w' (some b) := by
  obtain ⟨⟨c0, c1, c2⟩, ⟨f0, f1', f2'⟩, _⟩ := h.cells
  rw [hf] at c2
  clear hf
  go_enter Try.func27, Try.ntmps27
  go_wp2_with fail
  refine (rwrong_any h 13).mono ?_
  rintro e w' ⟨rfl, hr, hg⟩
  go_wp2
  go_ret
  exact ⟨rfl, hr, hg⟩
set_option maxHeartbeats 1000000 in
theorem rnum_fault {w : World} {b : Nat} {r : Rd} {n : Int} (h : RRdAt w b r) (hf : r.fault ≠ 0) : Calls Try.prog 25 #[.pointer (some ⟨b, 0, none⟩), .int .i64 n] w fun e w' => e = .returned (.int .i64 0) ∧ RRdAt w' b r ∧ w.grownBy w' (some b) := by
  obtain ⟨⟨c0, c1, c2⟩, ⟨f0, f1', f2'⟩, _⟩ := h.cells
  have hf' : (r.fault != 0) = true := by simp [hf]
  clear hf
  go_enter Try.func25, Try.ntmps25
  go_wp2
  go_ret
  exact ⟨rfl, h, World.grownBy.refl _ _⟩
set_option maxHeartbeats 1000000 in
theorem rnum_wide0 {w : World} {b : Nat} {r : Rd} {n : Int} (h : RRdAt w b r) (hf : r.fault = 0) (h1 : n < 1) : Calls Try.prog 25 #[.pointer (some ⟨b, 0, none⟩), .int .i64 n] w fun e w' => e = .returned (.int .i64 0) ∧ RRdAt w' b { r with fault := 13 } ∧ w.grownBy w' (some b) := by
  obtain ⟨⟨c0, c1, c2⟩, ⟨f0, f1', f2'⟩, _⟩ := h.cells
  rw [hf] at c2
  clear hf
  go_enter Try.func25, Try.ntmps25
  go_wp2_with fail
  refine (rwrong_any h 13).mono ?_
  rintro e w' ⟨rfl, hr, hg⟩
  go_wp2
  go_ret
  exact ⟨rfl, hr, hg⟩
set_option maxHeartbeats 1000000 in
theorem rnum_wide1 {w : World} {b : Nat} {r : Rd} {n : Int} (h : RRdAt w b r) (hf : r.fault = 0) (h1 : 8 < n) : Calls Try.prog 25 #[.pointer (some ⟨b, 0, none⟩), .int .i64 n] w fun e w' => e = .returned (.int .i64 0) ∧ RRdAt w' b { r with fault := 13 } ∧ w.grownBy w' (some b) := by
  obtain ⟨⟨c0, c1, c2⟩, ⟨f0, f1', f2'⟩, _⟩ := h.cells
  rw [hf] at c2
  clear hf
  go_enter Try.func25, Try.ntmps25
  go_wp2_with fail
  refine (rwrong_any h 13).mono ?_
  rintro e w' ⟨rfl, hr, hg⟩
  go_wp2
  go_ret
  exact ⟨rfl, hr, hg⟩
set_option maxHeartbeats 1000000 in
theorem rtext_fault {w : World} {b : Nat} {r : Rd} {n : Int} (h : RRdAt w b r) (hf : r.fault ≠ 0) : Calls Try.prog 26 #[.pointer (some ⟨b, 0, none⟩), .int .i64 n] w fun e w' => e = .returned (.string (str [])) ∧ RRdAt w' b r ∧ w.grownBy w' (some b) := by
  obtain ⟨⟨c0, c1, c2⟩, ⟨f0, f1', f2'⟩, _⟩ := h.cells
  have hf' : (r.fault != 0) = true := by simp [hf]
  clear hf
  go_enter Try.func26, Try.ntmps26
  go_wp2
  go_ret
  exact ⟨rfl, h, World.grownBy.refl _ _⟩
set_option maxHeartbeats 1000000 in
theorem rtext_wide0 {w : World} {b : Nat} {r : Rd} {n : Int} (h : RRdAt w b r) (hf : r.fault = 0) (h1 : n < 0) : Calls Try.prog 26 #[.pointer (some ⟨b, 0, none⟩), .int .i64 n] w fun e w' => e = .returned (.string (str [])) ∧ RRdAt w' b { r with fault := 13 } ∧ w.grownBy w' (some b) := by
  obtain ⟨⟨c0, c1, c2⟩, ⟨f0, f1', f2'⟩, _⟩ := h.cells
  rw [hf] at c2
  clear hf
  go_enter Try.func26, Try.ntmps26
  go_wp2_with fail
  refine (rwrong_any h 13).mono ?_
  rintro e w' ⟨rfl, hr, hg⟩
  go_wp2
  go_ret
  exact ⟨rfl, hr, hg⟩
theorem rnumber_v {s : ByteArray} {w : World} (hs : s.size ≤ maxLen) {v : Int} (hv : (num64 s.data.toList).toInt = v) : Calls Try.prog 39 #[.string s] w fun e w' => e = .returned (.int .i64 v) ∧ w' = w := by
  subst hv
  exact rnumber_any s w hs
set_option maxHeartbeats 1000000 in
theorem rbytes_end {w : World} {b : Nat} {r : Rd} {n : Int} (h : RRdAt w b r) (hf : r.fault = 0) (hn : 0 ≤ n) (hl : (r.s.size : Int) - r.at_ < n) : Calls Try.prog 27 #[.pointer (some ⟨b, 0, none⟩), .int .i64 n] w fun e w' => e = .returned (.string (str [])) ∧ RRdAt w' b { r with fault := 10 } ∧ w.grownBy w' (some b) := by
  obtain ⟨⟨c0, c1, c2⟩, ⟨f0, f1', f2'⟩, _⟩ := h.cells
  have h1 := h.size
  have h2 := h.at_le
  unfold maxLen at h1
  rw [hf] at c2
  clear hf
  go_enter Try.func27, Try.ntmps27
  go_wp2_with fail
  go_quiet (fail)
  go_wp2_with fail
  refine (rwrong_any (rrd_drewN h _) 10).mono ?_
  rintro e w' ⟨rfl, hr, hg⟩
  go_wp2
  go_ret
  exact ⟨rfl, hr, grow_trans (grow_drewN w _ _) hg⟩
set_option maxHeartbeats 1000000 in
theorem rnum_end {w : World} {b : Nat} {r : Rd} {n : Int} (h : RRdAt w b r) (hf : r.fault = 0) (hn : 1 ≤ n) (hn8 : n ≤ 8) (hl : (r.s.size : Int) - r.at_ < n) : Calls Try.prog 25 #[.pointer (some ⟨b, 0, none⟩), .int .i64 n] w fun e w' => e = .returned (.int .i64 0) ∧ RRdAt w' b { r with fault := 10 } ∧ w.grownBy w' (some b) := by
  obtain ⟨⟨c0, c1, c2⟩, ⟨f0, f1', f2'⟩, _⟩ := h.cells
  have h1 := h.size
  have h2 := h.at_le
  unfold maxLen at h1
  rw [hf] at c2
  clear hf
  go_enter Try.func25, Try.ntmps25
  go_wp2_with fail
  go_quiet (fail)
  go_wp2_with fail
  refine (rwrong_any (rrd_drewN h _) 10).mono ?_
  rintro e w' ⟨rfl, hr, hg⟩
  go_wp2
  go_ret
  exact ⟨rfl, hr, grow_trans (grow_drewN w _ _) hg⟩
set_option maxHeartbeats 1000000 in
theorem rbytes_ok {w : World} {b : Nat} {r : Rd} {m : Nat} (h : RRdAt w b r) (hf : r.fault = 0) (hl : r.at_ + m ≤ r.s.size) : Calls Try.prog 27 #[.pointer (some ⟨b, 0, none⟩), .int .i64 (m : Int)] w fun e w' => e = .returned (.string (r.s.extract r.at_ (r.at_ + m))) ∧ RRdAt w' b { r with at_ := r.at_ + m } ∧ w.grownBy w' (some b) := by
  obtain ⟨⟨c0, c1, c2⟩, ⟨f0, f1', f2'⟩, _⟩ := h.cells
  have h1 := h.size
  have h2 := h.at_le
  unfold maxLen at h1
  rw [hf] at c2
  clear hf
  have k1 : (m : Int) ≤ (r.s.size : Int) - r.at_ := by omega
  have k2 : (r.at_ : Int) + (m : Int) ≤ (r.s.size : Int) := by omega
  go_enter Try.func27, Try.ntmps27
  go_wp2_with fail
  go_quiet (fail)
  have hA := rrd_at (rrd_drewN h nq) (r.at_ + m) hl
  have hg := grow_set (b := b) (o := 1) (v := .int .i64 ((r.at_ + m : Nat) : Int)) (grow_drewN w nq (some b))
  rw [Int.natCast_add] at hA hg
  go_wp2_with fail
  obtain ⟨⟨d0, d1, _⟩, _, _⟩ := hA.cells
  change ((w.drewN nq).setCell ⟨b, 1, none⟩ (.int .i64 ((r.at_ : Int) + (m : Int)))).cell? ⟨b, 0, none⟩ = some (.string r.s) at d0
  change ((w.drewN nq).setCell ⟨b, 1, none⟩ (.int .i64 ((r.at_ : Int) + (m : Int)))).cell? ⟨b, 1, none⟩ = some (.int .i64 ((r.at_ + m : Nat) : Int)) at d1
  rw [Int.natCast_add] at d1
  generalize (w.drewN nq).setCell ⟨b, 1, none⟩ (.int .i64 ((r.at_ : Int) + (m : Int))) = w2 at *
  clear c0 c1 c2 f0 f1' f2'
  go_quiet (fail)
  go_wp2
  go_ret
  exact ⟨by simp, rrd_drewN hA _, grow_trans hg (grow_drewN w2 _ _)⟩
set_option maxHeartbeats 1000000 in
theorem rnum_ok {w : World} {b : Nat} {r : Rd} {m : Nat} (h : RRdAt w b r) (hf : r.fault = 0) (hm : 1 ≤ m) (hm8 : m ≤ 8) (hl : r.at_ + m ≤ r.s.size) : Calls Try.prog 25 #[.pointer (some ⟨b, 0, none⟩), .int .i64 (m : Int)] w fun e w' => e = .returned (.int .i64 (num64 ((r.s.data.toList.drop r.at_).take m)).toInt) ∧ RRdAt w' b { r with at_ := r.at_ + m } ∧ w.grownBy w' (some b) := by
  obtain ⟨⟨c0, c1, c2⟩, ⟨f0, f1', f2'⟩, _⟩ := h.cells
  have h1 := h.size
  have h2 := h.at_le
  unfold maxLen at h1
  rw [hf] at c2
  clear hf
  have k1 : (m : Int) ≤ (r.s.size : Int) - r.at_ := by omega
  have k2 : (r.at_ : Int) + (m : Int) ≤ (r.s.size : Int) := by omega
  have k3 : 1 ≤ (m : Int) := by omega
  have k4 : (m : Int) ≤ 8 := by omega
  have hv : (num64 (r.s.extract r.at_ (r.at_ + m)).data.toList).toInt = (num64 ((r.s.data.toList.drop r.at_).take m)).toInt := by simp
  have hs2 : (r.s.extract r.at_ (r.at_ + m)).size ≤ maxLen := by rw [ByteArray.size_extract]; unfold maxLen; omega
  generalize (num64 ((r.s.data.toList.drop r.at_).take m)).toInt = V at *
  replace hv := Lib.hid hv
  replace hs2 := Lib.hid hs2
  go_enter Try.func25, Try.ntmps25
  go_wp2_with fail
  go_quiet (fail)
  have hA := rrd_at (rrd_drewN h nq) (r.at_ + m) hl
  have hg := grow_set (b := b) (o := 1) (v := .int .i64 ((r.at_ + m : Nat) : Int)) (grow_drewN w nq (some b))
  rw [Int.natCast_add] at hA hg
  go_wp2_with fail
  obtain ⟨⟨d0, d1, _⟩, _, _⟩ := hA.cells
  change ((w.drewN nq).setCell ⟨b, 1, none⟩ (.int .i64 ((r.at_ : Int) + (m : Int)))).cell? ⟨b, 0, none⟩ = some (.string r.s) at d0
  change ((w.drewN nq).setCell ⟨b, 1, none⟩ (.int .i64 ((r.at_ : Int) + (m : Int)))).cell? ⟨b, 1, none⟩ = some (.int .i64 ((r.at_ + m : Nat) : Int)) at d1
  rw [Int.natCast_add] at d1
  generalize (w.drewN nq).setCell ⟨b, 1, none⟩ (.int .i64 ((r.at_ : Int) + (m : Int))) = w2 at *
  clear c0 c1 c2 f0 f1' f2'
  go_quiet ((go_at_call 39; go_must (exact Calls.quiet_of_same (rnumber_v hs2.out hv.out))))
  go_wp2
  go_ret
  exact ⟨rfl, rrd_drewN hA _, grow_trans hg (grow_drewN w2 _ _)⟩
set_option maxHeartbeats 2000000 in
theorem rtext_short {w : World} {b : Nat} {r : Rd} {n : Int} (h : RRdAt w b r) (hf : r.fault = 0) (hn : 0 ≤ n) (hl : r.s.size < r.at_ + 2) : Calls Try.prog 26 #[.pointer (some ⟨b, 0, none⟩), .int .i64 n] w fun e w' => e = .returned (.string (str [])) ∧ RRdAt w' b { r with fault := 10 } ∧ w.grownBy w' (some b) := by
  obtain ⟨⟨c0, c1, c2⟩, ⟨f0, f1', f2'⟩, _⟩ := h.cells
  have h1 := h.size
  have h2 := h.at_le
  unfold maxLen at h1
  rw [hf] at c2
  clear hf
  have k1 : (r.s.size : Int) - r.at_ < 2 := by omega
  clear hl
  go_enter Try.func26, Try.ntmps26
  go_wp2_with fail
  go_quiet (fail)
  go_wp2_with fail
  refine (rwrong_any (rrd_drewN h _) 10).mono ?_
  rintro e w' ⟨rfl, hr, hg⟩
  go_wp2
  go_ret
  exact ⟨rfl, hr, grow_trans (grow_drewN w _ _) hg⟩
set_option maxHeartbeats 2000000 in
theorem rtext_long {w : World} {b : Nat} {r : Rd} {n : Int} (h : RRdAt w b r) (hf : r.fault = 0) (hn : 0 ≤ n) (h4 : r.at_ + 2 ≤ r.s.size) (hl : n < r.head) : Calls Try.prog 26 #[.pointer (some ⟨b, 0, none⟩), .int .i64 n] w fun e w' => e = .returned (.string (str [])) ∧ RRdAt w' b { r with fault := 11 } ∧ w.grownBy w' (some b) := by
  obtain ⟨⟨c0, c1, c2⟩, ⟨f0, f1', f2'⟩, _⟩ := h.cells
  have h1 := h.size
  have h2 := h.at_le
  unfold maxLen at h1
  rw [hf] at c2
  clear hf
  have k1 : ¬ ((r.s.size : Int) - r.at_ < 2) := by omega
  have k2 : (r.at_ : Int) + 2 ≤ (r.s.size : Int) := by omega
  have hv : (num64 (r.s.extract r.at_ (r.at_ + 2)).data.toList).toInt = r.head := by unfold Rd.head; simp
  have hs2 : (r.s.extract r.at_ (r.at_ + 2)).size ≤ maxLen := by rw [ByteArray.size_extract]; unfold maxLen; omega
  obtain ⟨b0, b1⟩ := head_bounds r h4
  generalize r.head = k at *
  replace hv := Lib.hid hv
  replace hs2 := Lib.hid hs2
  go_enter Try.func26, Try.ntmps26
  go_wp2_with fail
  go_quiet (fail)
  have h' := rrd_drewN h nq
  have hg' := grow_drewN w nq (some b)
  have d0 : (w.drewN nq).cell? ⟨b, 0, none⟩ = some (.string r.s) := c0
  have d1 : (w.drewN nq).cell? ⟨b, 1, none⟩ = some (.int .i64 r.at_) := c1
  generalize w.drewN nq = w1 at *
  clear c0 c1 c2 f0 f1' f2'
  go_wp2_with fail
  go_quiet ((go_at_call 39; go_must (exact Calls.quiet_of_same (rnumber_v hs2.out hv.out))))
  have h3 := rrd_drewN h' nq
  have hg3 := grow_trans hg' (grow_drewN w1 nq (some b))
  obtain ⟨⟨d0', d1', _⟩, _, _⟩ := h3.cells
  generalize w1.drewN nq = w2 at *
  clear d0 d1 h' hg'
  go_wp2_with fail
  refine (rwrong_any h3 11).mono ?_
  rintro e w' ⟨rfl, hr, hg⟩
  go_wp2
  go_ret
  exact ⟨rfl, hr, grow_trans hg3 hg⟩
set_option maxHeartbeats 2000000 in
theorem rtext_end {w : World} {b : Nat} {r : Rd} {n : Int} (h : RRdAt w b r) (hf : r.fault = 0) (hn : 0 ≤ n) (h4 : r.at_ + 2 ≤ r.s.size) (hl : r.head ≤ n) (hend : (r.s.size : Int) - r.at_ - 2 < r.head) : Calls Try.prog 26 #[.pointer (some ⟨b, 0, none⟩), .int .i64 n] w fun e w' => e = .returned (.string (str [])) ∧ RRdAt w' b { r with fault := 10 } ∧ w.grownBy w' (some b) := by
  obtain ⟨⟨c0, c1, c2⟩, ⟨f0, f1', f2'⟩, _⟩ := h.cells
  have h1 := h.size
  have h2 := h.at_le
  unfold maxLen at h1
  rw [hf] at c2
  clear hf
  have k1 : ¬ ((r.s.size : Int) - r.at_ < 2) := by omega
  have k2 : (r.at_ : Int) + 2 ≤ (r.s.size : Int) := by omega
  have hv : (num64 (r.s.extract r.at_ (r.at_ + 2)).data.toList).toInt = r.head := by unfold Rd.head; simp
  have hs2 : (r.s.extract r.at_ (r.at_ + 2)).size ≤ maxLen := by rw [ByteArray.size_extract]; unfold maxLen; omega
  obtain ⟨b0, b1⟩ := head_bounds r h4
  generalize r.head = k at *
  replace hv := Lib.hid hv
  replace hs2 := Lib.hid hs2
  go_enter Try.func26, Try.ntmps26
  go_wp2_with fail
  go_quiet (fail)
  have h' := rrd_drewN h nq
  have hg' := grow_drewN w nq (some b)
  have d0 : (w.drewN nq).cell? ⟨b, 0, none⟩ = some (.string r.s) := c0
  have d1 : (w.drewN nq).cell? ⟨b, 1, none⟩ = some (.int .i64 r.at_) := c1
  generalize w.drewN nq = w1 at *
  clear c0 c1 c2 f0 f1' f2'
  go_wp2_with fail
  go_quiet ((go_at_call 39; go_must (exact Calls.quiet_of_same (rnumber_v hs2.out hv.out))))
  have h3 := rrd_drewN h' nq
  have hg3 := grow_trans hg' (grow_drewN w1 nq (some b))
  obtain ⟨⟨d0', d1', _⟩, _, _⟩ := h3.cells
  generalize w1.drewN nq = w2 at *
  clear d0 d1 h' hg'
  have e0 : w2.cell? ⟨b, 0, none⟩ = some (.string r.s) := d0'
  have e1 : w2.cell? ⟨b, 1, none⟩ = some (.int .i64 (r.at_ : Int)) := d1'
  clear d0' d1'
  go_wp2_with fail
  go_quiet (fail)
  go_wp2_with fail
  refine (rwrong_any (rrd_drewN h3 _) 10).mono ?_
  rintro e w' ⟨rfl, hr, hg⟩
  go_wp2
  go_ret
  exact ⟨rfl, hr, grow_trans (grow_trans hg3 (grow_drewN w2 _ _)) hg⟩
set_option maxHeartbeats 2000000 in
theorem rtext_ok {w : World} {b : Nat} {r : Rd} {n : Int} (h : RRdAt w b r) (hf : r.fault = 0) (hn : 0 ≤ n) (h4 : r.at_ + 2 ≤ r.s.size) (hl : r.head ≤ n) (hend : ¬ ((r.s.size : Int) - r.at_ - 2 < r.head)) : Calls Try.prog 26 #[.pointer (some ⟨b, 0, none⟩), .int .i64 n] w fun e w' => e = .returned (.string (r.s.extract (r.at_ + 2) (r.at_ + 2 + r.head.toNat))) ∧ RRdAt w' b { r with at_ := r.at_ + 2 + r.head.toNat } ∧ w.grownBy w' (some b) := by
  obtain ⟨⟨c0, c1, c2⟩, ⟨f0, f1', f2'⟩, _⟩ := h.cells
  have h1 := h.size
  have h2 := h.at_le
  unfold maxLen at h1
  rw [hf] at c2
  clear hf
  have k1 : ¬ ((r.s.size : Int) - r.at_ < 2) := by omega
  have k2 : (r.at_ : Int) + 2 ≤ (r.s.size : Int) := by omega
  have hv : (num64 (r.s.extract r.at_ (r.at_ + 2)).data.toList).toInt = r.head := by unfold Rd.head; simp
  have hs2 : (r.s.extract r.at_ (r.at_ + 2)).size ≤ maxLen := by rw [ByteArray.size_extract]; unfold maxLen; omega
  obtain ⟨b0, b1⟩ := head_bounds r h4
  generalize r.head = K at *
  obtain ⟨k, rfl⟩ := Int.eq_ofNat_of_zero_le b0
  rw [Int.toNat_natCast]
  have k5 : (r.at_ : Int) + (2 + (k : Int)) ≤ (r.s.size : Int) := by omega
  have k6 : r.at_ + 2 + k ≤ r.s.size := by omega
  replace hv := Lib.hid hv
  replace hs2 := Lib.hid hs2
  go_enter Try.func26, Try.ntmps26
  go_wp2_with fail
  go_quiet (fail)
  have h' := rrd_drewN h nq
  have hg' := grow_drewN w nq (some b)
  have d0 : (w.drewN nq).cell? ⟨b, 0, none⟩ = some (.string r.s) := c0
  have d1 : (w.drewN nq).cell? ⟨b, 1, none⟩ = some (.int .i64 r.at_) := c1
  generalize w.drewN nq = w1 at *
  clear c0 c1 c2 f0 f1' f2'
  go_wp2_with fail
  go_quiet ((go_at_call 39; go_must (exact Calls.quiet_of_same (rnumber_v hs2.out hv.out))))
  have h3 := rrd_drewN h' nq
  have hg3 := grow_trans hg' (grow_drewN w1 nq (some b))
  obtain ⟨⟨d0', d1', _⟩, _, _⟩ := h3.cells
  generalize w1.drewN nq = w2 at *
  clear d0 d1 h' hg'
  have e0 : w2.cell? ⟨b, 0, none⟩ = some (.string r.s) := d0'
  have e1 : w2.cell? ⟨b, 1, none⟩ = some (.int .i64 (r.at_ : Int)) := d1'
  clear d0' d1'
  go_wp2_with fail
  go_quiet (fail)
  have h5 := rrd_drewN h3 nq
  have hg5 := grow_trans hg3 (grow_drewN w2 nq (some b))
  obtain ⟨⟨g0, g1, g2⟩, ⟨x0, x1, x2⟩, _⟩ := h5.cells
  generalize w2.drewN nq = w3 at *
  clear e0 e1 h3 hg3
  have hA := rrd_at h5 (r.at_ + 2 + k) k6
  have hg := grow_set (b := b) (o := 1) (v := .int .i64 ((r.at_ + 2 + k : Nat) : Int)) hg5
  have hcast : ((r.at_ + 2 + k : Nat) : Int) = (r.at_ : Int) + (2 + (k : Int)) := by omega
  rw [hcast] at hA hg
  go_wp2_with fail
  obtain ⟨⟨p0, p1, _⟩, _, _⟩ := hA.cells
  change (w3.setCell ⟨b, 1, none⟩ (.int .i64 ((r.at_ : Int) + (2 + (k : Int))))).cell? ⟨b, 0, none⟩ = some (.string r.s) at p0
  change (w3.setCell ⟨b, 1, none⟩ (.int .i64 ((r.at_ : Int) + (2 + (k : Int))))).cell? ⟨b, 1, none⟩ = some (.int .i64 ((r.at_ + 2 + k : Nat) : Int)) at p1
  rw [hcast] at p1
  generalize w3.setCell ⟨b, 1, none⟩ (.int .i64 ((r.at_ : Int) + (2 + (k : Int)))) = w4 at *
  clear g0 g1 g2 x0 x1 x2
  have ht1 : ((r.at_ : Int) + (2 + (k : Int)) - (k : Int)).toNat = r.at_ + 2 := by omega
  have ht2 : ((r.at_ : Int) + (2 + (k : Int))).toNat = r.at_ + 2 + k := by omega
  have ht3 : 0 ≤ (r.at_ : Int) + (2 + (k : Int)) - (k : Int) := by omega
  have ht4 : (r.at_ : Int) + (2 + (k : Int)) - (k : Int) ≤ (r.at_ : Int) + (2 + (k : Int)) := by omega
  go_quiet (fail)
  go_wp2
  go_ret
  exact ⟨rfl, rrd_drewN hA _, grow_trans hg (grow_drewN w4 _ _)⟩
theorem rbytes_any {w : World} {b : Nat} {r : Rd} (h : RRdAt w b r) (n : Int) : Calls Try.prog 27 #[.pointer (some ⟨b, 0, none⟩), .int .i64 n] w fun e w' => e = .returned (.string (r.bytesV n)) ∧ RRdAt w' b (r.bytesR n) ∧ w.grownBy w' (some b) := by
  unfold Rd.bytesV Rd.bytesR
  by_cases hf : r.fault = 0
  · have hf' : ¬ (r.fault ≠ 0) := fun x => x hf
    rw [if_neg hf', if_neg hf']
    by_cases h1 : n < 0
    · rw [if_pos h1, if_pos h1]; exact rbytes_wide0 h hf h1
    · rw [if_neg h1, if_neg h1]
      by_cases h2 : (r.s.size : Int) - r.at_ < n
      · rw [if_pos h2, if_pos h2]; exact rbytes_end h hf (by omega) h2
      · rw [if_neg h2, if_neg h2]
        obtain ⟨m, rfl⟩ := Int.eq_ofNat_of_zero_le (show 0 ≤ n by omega)
        rw [Int.toNat_natCast]
        exact rbytes_ok h hf (by omega)
  · rw [if_pos hf, if_pos hf]; exact rbytes_fault h hf
theorem rnum_any {w : World} {b : Nat} {r : Rd} (h : RRdAt w b r) (n : Int) : Calls Try.prog 25 #[.pointer (some ⟨b, 0, none⟩), .int .i64 n] w fun e w' => e = .returned (.int .i64 (r.numV n)) ∧ RRdAt w' b (r.numR n) ∧ w.grownBy w' (some b) := by
  unfold Rd.numV Rd.numR
  by_cases hf : r.fault = 0
  · have hf' : ¬ (r.fault ≠ 0) := fun x => x hf
    rw [if_neg hf', if_neg hf']
    by_cases h1 : n < 1 ∨ 8 < n
    · rw [if_pos h1, if_pos h1]
      rcases h1 with h1 | h1
      · exact rnum_wide0 h hf h1
      · exact rnum_wide1 h hf h1
    · rw [if_neg h1, if_neg h1]
      by_cases h2 : (r.s.size : Int) - r.at_ < n
      · rw [if_pos h2, if_pos h2]; exact rnum_end h hf (by omega) (by omega) h2
      · rw [if_neg h2, if_neg h2]
        obtain ⟨m, rfl⟩ := Int.eq_ofNat_of_zero_le (show 0 ≤ n by omega)
        rw [Int.toNat_natCast]
        exact rnum_ok h hf (by omega) (by omega) (by omega)
  · rw [if_pos hf, if_pos hf]; exact rnum_fault h hf
theorem rtext_any {w : World} {b : Nat} {r : Rd} (h : RRdAt w b r) (n : Int) : Calls Try.prog 26 #[.pointer (some ⟨b, 0, none⟩), .int .i64 n] w fun e w' => e = .returned (.string (r.textV n)) ∧ RRdAt w' b (r.textR n) ∧ w.grownBy w' (some b) := by
  unfold Rd.textV Rd.textR
  by_cases hf : r.fault = 0
  · have hf' : ¬ (r.fault ≠ 0) := fun x => x hf
    rw [if_neg hf', if_neg hf']
    by_cases h0 : n < 0
    · rw [if_pos h0, if_pos h0]; exact rtext_wide0 h hf h0
    · rw [if_neg h0, if_neg h0]
      by_cases h1 : r.s.size < r.at_ + 2
      · rw [if_pos h1, if_pos h1]; exact rtext_short h hf (by omega) h1
      · rw [if_neg h1, if_neg h1]
        by_cases h2 : n < r.head
        · rw [if_pos h2, if_pos h2]; exact rtext_long h hf (by omega) (by omega) h2
        · rw [if_neg h2, if_neg h2]
          by_cases h3 : (r.s.size : Int) - r.at_ - 2 < r.head
          · rw [if_pos h3, if_pos h3]; exact rtext_end h hf (by omega) (by omega) (by omega) h3
          · rw [if_neg h3, if_neg h3]; exact rtext_ok h hf (by omega) (by omega) (by omega) h3
  · rw [if_pos hf, if_pos hf]; exact rtext_fault h hf
set_option maxHeartbeats 1000000 in
theorem rfault_any {w : World} {b : Nat} {r : Rd} (h : RRdAt w b r) {f p : Int} (hf : r.fault = f) (hp : r.faultP = p) : Calls Try.prog 29 #[.pointer (some ⟨b, 0, none⟩)] w fun e w' => ∃ n, e = .returned (.tuple #[.int .i64 f, .int .i64 p]) ∧ w' = w.drewN n := by
  obtain ⟨⟨c0, c1, c2⟩, _, _⟩ := h.cells
  unfold Rd.faultP at hp
  rw [hf] at c2 hp
  by_cases h0 : f = 0
  · subst h0
    have hp0 : p = 0 := hp.symm
    subst hp0
    clear hf hp
    go_enter Try.func29, Try.ntmps29
    go_wp2
    go_ret2
    exact ⟨0, rfl, rfl⟩
  · rw [if_neg h0] at hp
    have hne : (f != 0) = true := by rw [bne_iff_ne]; exact h0
    subst hp
    clear hf h0
    go_enter Try.func29, Try.ntmps29
    go_wp2
    go_quiet (fail)
    go_wp2
    go_ret2
    exact ⟨_, rfl, rfl⟩
set_option maxHeartbeats 1000000 in
theorem rdone_any {w : World} {b : Nat} {r : Rd} (h : RRdAt w b r) {f p : Int} (hf : r.doneE = f) (hp : r.doneP = p) : Calls Try.prog 30 #[.pointer (some ⟨b, 0, none⟩)] w fun e w' => ∃ n, e = .returned (.tuple #[.int .i64 f, .int .i64 p]) ∧ w' = w.drewN n := by
  obtain ⟨⟨c0, c1, c2⟩, _, _⟩ := h.cells
  unfold Rd.doneE at hf
  unfold Rd.doneP at hp
  by_cases h0 : r.fault = 0
  · rw [if_pos h0] at hf hp
    by_cases h1 : r.at_ < r.s.size
    · rw [if_pos h1] at hf hp
      subst hf
      subst hp
      rw [h0] at c2
      have hd : decide ((r.at_ : Int) < (r.s.size : Int)) = true := decide_eq_true (by omega)
      have hd' : (r.at_ : Int) < (r.s.size : Int) := by omega
      clear h0 h1
      go_enter Try.func30, Try.ntmps30
      go_wp2_with fail
      go_quiet (fail)
      go_wp2_with fail
      go_quiet (fail)
      go_wp2
      go_ret2
      exact ⟨_, rfl, World.drewN_drewN _ _ _⟩
    · rw [if_neg h1] at hf hp
      subst hf
      subst hp
      have e2 : Hid (r.faultP = 0) := by show _ = _; unfold Rd.faultP; rw [if_pos h0]
      have e1 := Lib.hid h0
      rw [h0] at c2
      have hd : decide ((r.at_ : Int) < (r.s.size : Int)) = false := decide_eq_false (by omega)
      have hd' : ¬ ((r.at_ : Int) < (r.s.size : Int)) := by omega
      clear h0 h1
      go_enter Try.func30, Try.ntmps30
      go_wp2_with fail
      go_quiet (fail)
      go_wp2_with fail
      refine (rfault_any (rrd_drewN h _) e1.out e2.out).mono ?_
      rintro e w' ⟨q, rfl, rfl⟩
      go_wp2
      go_ret2
      exact ⟨_, rfl, rfl⟩
  · rw [if_neg h0] at hf hp
    have e2 : Hid (r.faultP = p) := by show _ = _; unfold Rd.faultP; rw [if_neg h0]; exact hp
    rw [hf] at h0 c2
    have hne : (f == 0) = false := by rw [beq_eq_false_iff_ne]; exact h0
    replace hf := Lib.hid hf
    replace hp := Lib.hid hp
    clear h0
    go_enter Try.func30, Try.ntmps30
    go_wp2_with fail
    go_quiet (fail)
    go_wp2_with fail
    refine (rfault_any (rrd_drewN h _) hf.out e2.out).mono ?_
    rintro e w' ⟨q, rfl, rfl⟩
    go_wp2
    go_ret2
    exact ⟨_, rfl, rfl⟩
end Go.Proofs.Ytbgnffgceeclhaa
