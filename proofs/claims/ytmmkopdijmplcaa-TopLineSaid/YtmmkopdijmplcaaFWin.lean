/-
  Windows and queues of package frame: NewWindow, Accept, Last, Clone, NewQueue, Push, Pop, Len, Clone, for whatever window, queue and argument.
-/
import Derived.Test.YtmmkopdijmplcaaFDec
import Derived.RegionTactic
import Derived.Deep.RegionLaw
set_option linter.unusedVariables false
namespace Go.Proofs.Ytmmkopdijmplcaa.FF
open Go.RowKit Base HH
/-- block g is a window whose last number is z -/
def WinAt (w : World) (g : Nat) (z : Int) : Prop := Row w g 98 [.int .i64 z]
set_option maxHeartbeats 400000 in
theorem wnew_any (w : World) : Calls Try.prog 29 #[] w fun e w' => e = .returned (.pointer (some ⟨w.heap.size, 0, none⟩)) ∧ WinAt w' w.heap.size (-1) ∧ Below w.heap.size w w' ∧ w'.heap.size = w.heap.size + 1 := by
  go_enter Try.func29, Try.ntmps29
  go_wp2
  go_ret
  exact ⟨rfl, Row.new _ _ _, (Below.refl _ _).alloc (Nat.le_refl _) _, by simp⟩
set_option maxHeartbeats 400000 in
theorem wlast_any {w : World} {g : Nat} {z : Int} (h : WinAt w g z) : Calls Try.prog 32 #[.pointer (some ⟨g, 0, none⟩)] w fun e w' => e = .returned (.int .i64 z) ∧ w = w' := by
  have c0 := Row.cell h (j := 0) rfl
  go_enter Try.func32, Try.ntmps32
  go_wp2
  go_ret
  exact ⟨rfl, rfl⟩
set_option maxHeartbeats 400000 in
theorem wclone_any {w : World} {g : Nat} {z : Int} (h : WinAt w g z) : Calls Try.prog 33 #[.pointer (some ⟨g, 0, none⟩)] w fun e w' => e = .returned (.pointer (some ⟨w.heap.size, 0, none⟩)) ∧ WinAt w' w.heap.size z ∧ Below w.heap.size w w' ∧ w'.heap.size = w.heap.size + 1 := by
  have c0 := Row.cell h (j := 0) rfl
  go_enter Try.func33, Try.ntmps33
  go_wp2
  go_ret
  exact ⟨rfl, Row.new _ _ _, (Below.refl _ _).alloc (Nat.le_refl _) _, by simp⟩
theorem grown_cell {w : World} {g : Nat} {t : TypeId} {xs : List Value} (h : Row w g t xs) (j : Nat) (v : Value) : w.grownBy (w.setCell ⟨g, j, none⟩ v) (some g) :=
  ⟨rfl, rfl, rfl, by simp [World.setCell], fun k hk hne => Below.heap_setCell w ⟨g, j, none⟩ v k (fun e => hne (by rw [e]))⟩
theorem grown_drew {w w1 : World} {r : Option Nat} (h : w.grownBy w1 r) : w.grownBy w1.drew r := ⟨h.os, h.tape, h.output, h.size, h.block⟩
set_option maxHeartbeats 400000 in
/-- a number that it takes -/
theorem waccept_yes {w : World} {g : Nat} {z n : Int} (h : WinAt w g z) (hn : z < n) : Calls Try.prog 31 #[.pointer (some ⟨g, 0, none⟩), .int .i64 n] w fun e w' => e = .returned (.bool true) ∧ WinAt w' g n ∧ w.grownBy w' (some g) := by
  have c0 := Row.cell h (j := 0) rfl
  have f0 := Row.free h 0
  have hs := Row.set h 0 (.int .i64 n)
  have hg := grown_cell h 0 (.int .i64 n)
  have hn' : ¬ n ≤ z := by omega
  go_enter Try.func31, Try.ntmps31
  go_wp2
  go_ret
  exact ⟨rfl, hs, hg⟩
set_option maxHeartbeats 400000 in
/-- one that it does not take -/
theorem waccept_no {w : World} {g : Nat} {z n : Int} (h : WinAt w g z) (hn : n ≤ z) : Calls Try.prog 31 #[.pointer (some ⟨g, 0, none⟩), .int .i64 n] w fun e w' => e = .returned (.bool false) ∧ w = w' := by
  have c0 := Row.cell h (j := 0) rfl
  go_enter Try.func31, Try.ntmps31
  go_wp2
  go_ret
  exact ⟨rfl, rfl⟩
/-- eight places, of which the first are the texts; what stands behind them is of no account -/
def qC (l : List ByteArray) (junk : List ByteArray) (n depth : Nat) : List Value := (l ++ junk).map Value.string ++ [.int .i64 (n : Int), .int .i64 (depth : Int)]
/-- block g is a queue with these texts -/
def QAt (w : World) (g : Nat) (l : List ByteArray) (depth : Nat) : Prop := ∃ junk, l.length + junk.length = 8 ∧ l.length ≤ depth ∧ depth ≤ 8 ∧ 1 ≤ depth ∧ Row w g 101 (qC l junk l.length depth)
theorem qC_n {l junk : List ByteArray} (h : l.length + junk.length = 8) (n d : Nat) : (qC l junk n d)[8]? = some (.int .i64 (n : Int)) ∧ (qC l junk n d)[9]? = some (.int .i64 (d : Int)) := by
  have hl : ((l ++ junk).map Value.string).length = 8 := by rw [List.length_map, List.length_append, h]
  unfold qC
  constructor
  · rw [List.getElem?_append_right (by omega), hl]
    rfl
  · rw [List.getElem?_append_right (by omega), hl]
    rfl
theorem qC_text {l junk : List ByteArray} (n d : Nat) {k : Nat} (hk : k < (l ++ junk).length) : (qC l junk n d)[k]? = some (.string ((l ++ junk).getD k ByteArray.empty)) := by
  unfold qC
  rw [List.getElem?_append_left (by rw [List.length_map]; exact hk), List.getElem?_map, List.getElem?_eq_getElem hk, List.getD_eq_getElem?_getD, List.getElem?_eq_getElem hk]
  rfl
set_option maxHeartbeats 400000 in
theorem qlen_any {w : World} {g d : Nat} {l : List ByteArray} (h : QAt w g l d) : Calls Try.prog 38 #[.pointer (some ⟨g, 0, none⟩)] w fun e w' => e = .returned (.int .i64 (l.length : Int)) ∧ w = w' := by
  obtain ⟨junk, h8, _, _, _, hr⟩ := h
  have c8 := hr.cell (qC_n h8 l.length d).1
  clear hr h8
  go_enter Try.func38, Try.ntmps38
  go_wp2
  go_ret
  exact ⟨rfl, rfl⟩
set_option maxHeartbeats 400000 in
theorem qnew_yes (d : Nat) (w : World) (h1 : 1 ≤ d) (h2 : d ≤ 8) : Calls Try.prog 34 #[.int .i64 (d : Int)] w fun e w' => e = .returned (.tuple #[.pointer (some ⟨w.heap.size, 0, none⟩), .int .i64 0]) ∧ QAt w' w.heap.size [] d ∧ Below w.heap.size w w' ∧ w'.heap.size = w.heap.size + 1 := by
  have h1' : ¬ (d : Int) < 1 := by omega
  have h2' : ¬ (8 : Int) < d := by omega
  go_enter Try.func34, Try.ntmps34
  go_wp2
  go_ret2
  exact ⟨rfl, ⟨List.replicate 8 ByteArray.empty, rfl, Nat.zero_le _, h2, h1, Row.new _ _ _⟩, (Below.refl _ _).alloc (Nat.le_refl _) _, by simp⟩
set_option maxHeartbeats 400000 in
theorem qnew_no (d : Int) (w : World) (h : d < 1 ∨ 8 < d) : Calls Try.prog 34 #[.int .i64 d] w fun e w' => e = .returned (.tuple #[.pointer none, .int .i64 1]) ∧ w = w' := by
  by_cases h1 : d < 1
  · clear h
    go_enter Try.func34, Try.ntmps34
    go_wp2
    go_ret2
    exact ⟨rfl, rfl⟩
  · have h2 : 8 < d := by omega
    clear h
    go_enter Try.func34, Try.ntmps34
    go_wp2
    go_ret2
    exact ⟨rfl, rfl⟩
end Go.Proofs.Ytmmkopdijmplcaa.FF
