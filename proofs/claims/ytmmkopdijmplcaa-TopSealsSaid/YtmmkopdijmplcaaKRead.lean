/-
  The reader of package code as a block of three cells; At, Left, Fault, Done, New and Clone return what it says, for every reader.
-/
import Derived.Test.YtmmkopdijmplcaaRows
import Derived.Test.YtmmkopdijmplcaaBase
import Derived.Test.YtmmkopdijmplcaaPut
import Derived.Test.YtmmkopdijmplcaaBits
import Derived.Deep.QuietTactic
import Derived.BigQuiet
import Derived.Deep.RegionHeld3
set_option maxRecDepth 100000
namespace Go.Proofs.Ytmmkopdijmplcaa
open Go.RowKit Base
/-- a block that is known whole -/
def Blk (w : World) (g : Nat) (t : TypeId) (cs : Array Value) : Prop := w.heap[g]? = some (.cells cs t (0, 0))

/-- a reader: its bytes, where it stands, its fault -/
structure Rd where
  s : ByteArray
  at_ : Nat
  fault : Int

/-- block b is that reader -/
structure RdAt (w : World) (b : Nat) (r : Rd) : Prop where
  blk : w.heap[b]? = some (.cells #[.string r.s, .int .i64 r.at_, .int .i64 r.fault] 76 (0, 0))
  size : r.s.size ≤ maxLen
  at_le : r.at_ ≤ r.s.size

theorem RdAt.cells {w : World} {b : Nat} {r : Rd} (h : RdAt w b r) :
    (w.cell? ⟨b, 0, none⟩ = some (.string r.s) ∧ w.cell? ⟨b, 1, none⟩ = some (.int .i64 r.at_) ∧ w.cell? ⟨b, 2, none⟩ = some (.int .i64 r.fault)) ∧
    (w.frozen? ⟨b, 0, none⟩ = false ∧ w.frozen? ⟨b, 1, none⟩ = false ∧ w.frozen? ⟨b, 2, none⟩ = false) ∧ b < w.heap.size := by
  have hb := h.blk
  refine ⟨⟨?_, ?_, ?_⟩, ⟨?_, ?_, ?_⟩, (Array.getElem?_eq_some_iff.1 hb).1⟩ <;> first | (rw [World.cell?]; simp [hb]) | (rw [World.frozen?]; simp [hb])

set_option maxHeartbeats 400000 in
theorem at_any {w : World} {b : Nat} {r : Rd} (h : RdAt w b r) : Calls Try.prog 15 #[.pointer (some ⟨b, 0, none⟩)] w fun e w' => e = .returned (.int .i64 r.at_) ∧ w = w' := by
  obtain ⟨⟨c0, c1, c2⟩, _, _⟩ := h.cells
  go_enter Try.func15, Try.ntmps15
  go_wp2
  go_ret
  exact ⟨rfl, rfl⟩

set_option maxHeartbeats 400000 in
theorem left_any {w : World} {b : Nat} {r : Rd} (h : RdAt w b r) : Calls Try.prog 39 #[.pointer (some ⟨b, 0, none⟩)] w fun e w' => e = .returned (.int .i64 ((r.s.size : Int) - r.at_)) ∧ ∃ n, w' = w.drewN n := by
  obtain ⟨⟨c0, c1, c2⟩, _, _⟩ := h.cells
  have h1 := h.size
  have h2 := h.at_le
  unfold maxLen at h1
  go_enter Try.func39, Try.ntmps39
  go_wp2
  go_quiet (fail)
  go_wp2
  go_ret
  exact ⟨rfl, _, rfl⟩

def Rd.faultP (r : Rd) : Int := if r.fault = 0 then 0 else r.at_
def Rd.doneE (r : Rd) : Int := if r.fault = 0 then (if r.at_ < r.s.size then 12 else 0) else r.fault
def Rd.doneP (r : Rd) : Int := if r.fault = 0 then (if r.at_ < r.s.size then r.at_ else 0) else r.at_

set_option maxHeartbeats 400000 in
theorem fault_any {w : World} {b : Nat} {r : Rd} (h : RdAt w b r) : Calls Try.prog 50 #[.pointer (some ⟨b, 0, none⟩)] w fun e w' => e = .returned (.tuple #[.int .i64 r.fault, .int .i64 r.faultP]) ∧ ∃ n, w' = w.drewN n := by
  obtain ⟨⟨c0, c1, c2⟩, _, _⟩ := h.cells
  by_cases hf : r.fault = 0
  · have HP : Hid (r.faultP = 0) := by show _ = _; simp [Rd.faultP, hf]
    have hf' : (r.fault != 0) = false := by simp [hf]
    have HF := Lib.hid hf
    clear hf
    go_enter Try.func50, Try.ntmps50
    go_wp2
    go_ret2
    exact ⟨by rw [HP.out, HF.out]; rfl, 0, rfl⟩
  · have HP : Hid (r.faultP = r.at_) := by show _ = _; simp [Rd.faultP, hf]
    have hf' : (r.fault != 0) = true := by simp [hf]
    go_enter Try.func50, Try.ntmps50
    go_wp2
    go_quiet (fail)
    go_wp2
    go_ret2
    exact ⟨by rw [HP.out]; rfl, _, rfl⟩

set_option maxHeartbeats 400000 in
theorem done_any {w : World} {b : Nat} {r : Rd} (h : RdAt w b r) : Calls Try.prog 17 #[.pointer (some ⟨b, 0, none⟩)] w fun e w' => e = .returned (.tuple #[.int .i64 r.doneE, .int .i64 r.doneP]) ∧ ∃ n, w' = w.drewN n := by
  obtain ⟨⟨c0, c1, c2⟩, _, _⟩ := h.cells
  by_cases hf : r.fault = 0
  · have hf' : (r.fault == 0) = true := by simp [hf]
    by_cases hl : r.at_ < r.s.size
    · have HE : Hid (r.doneE = 12) := by show _ = _; simp [Rd.doneE, hf, hl]
      have HP : Hid (r.doneP = r.at_) := by show _ = _; simp [Rd.doneP, hf, hl]
      clear hf
      have hl' : 0 < (r.s.size : Int) - r.at_ := by omega
      go_enter Try.func17, Try.ntmps17
      go_wp2_with fail
      refine (left_any h).mono ?_; rintro e w' ⟨rfl, n, rfl⟩
      go_wp2
      go_quiet (fail)
      go_wp2
      go_ret2
      exact ⟨by rw [HE.out, HP.out]; rfl, _, by rw [World.drewN_drewN]⟩
    · have HE : Hid (r.doneE = 0) := by show _ = _; simp [Rd.doneE, hf, hl]
      have HP : Hid (r.doneP = 0) := by show _ = _; simp [Rd.doneP, hf, hl]
      have HE' : Hid (r.fault = 0) := hf
      have HP' : Hid (r.faultP = 0) := by show _ = _; simp [Rd.faultP, hf]
      clear hf
      have hl' : ¬ 0 < (r.s.size : Int) - r.at_ := by omega
      go_enter Try.func17, Try.ntmps17
      go_wp2_with fail
      refine (left_any h).mono ?_; rintro e w' ⟨rfl, n, rfl⟩
      go_wp2_with fail
      refine (fault_any (w := w.drewN n) ⟨h.blk, h.size, h.at_le⟩).mono ?_; rintro e w' ⟨rfl, m, rfl⟩
      go_wp2
      go_ret2
      exact ⟨by rw [HE.out, HP.out, HE'.out, HP'.out]; rfl, n + m, rfl⟩
  · have hf' : (r.fault == 0) = false := by simp [hf]
    have HE : Hid (r.doneE = r.fault) := by show _ = _; simp [Rd.doneE, hf]
    have HP : Hid (r.doneP = r.faultP) := by show _ = _; simp [Rd.doneP, Rd.faultP, hf]
    go_enter Try.func17, Try.ntmps17
    go_wp2_with fail
    refine (fault_any h).mono ?_; rintro e w' ⟨rfl, m, rfl⟩
    go_wp2
    go_ret2
    exact ⟨by rw [HE.out, HP.out]; rfl, m, rfl⟩


set_option maxHeartbeats 400000 in
theorem new_any (s : ByteArray) (w : World) (hs : s.size ≤ maxLen) : Calls Try.prog 12 #[.string s] w fun e w' => e = .returned (.pointer (some ⟨w.heap.size, 0, none⟩)) ∧ RdAt w' w.heap.size ⟨s, 0, 0⟩ ∧ Below w.heap.size w w' ∧ w'.heap.size = w.heap.size + 1 := by
  go_enter Try.func12, Try.ntmps12
  go_wp2
  go_ret
  exact ⟨rfl, ⟨heap_alloc_new _ _, hs, Nat.zero_le _⟩, (Below.refl _ _).alloc (Nat.le_refl _) _, by simp⟩
end Go.Proofs.Ytmmkopdijmplcaa
