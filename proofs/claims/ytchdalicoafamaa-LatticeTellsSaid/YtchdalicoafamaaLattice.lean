/-
  A lattice in memory; Levels, Flows, Join, Meet, Top, Bottom and what they call: for every lattice and every argument they return what the sets of the lattice say.
-/
import Derived.Test.YtchdalicoafamaaRows
import Derived.Test.YtchdalicoafamaaBase
import Derived.Test.YtchdalicoafamaaLat
import Derived.Test.YtchdalicoafamaaClosed
import Derived.Deep.QuietTactic
import Derived.BigQuiet
import Derived.Deep.LoopGhost
namespace Go.Proofs.Ytchdalicoafamaa
open Go.RowKit Base
theorem ret_int {k : IntKind} {a b : Int} (h : a = b) : Ending.returned (.int k a) = .returned (.int k b) := by rw [h]

/-! ### a lattice in memory -/
def LatCells (n : Nat) (u d : Nat → BitVec 8) : Array Value := #[.int .i64 (n : Int), v8 (u 0), v8 (u 1), v8 (u 2), v8 (u 3), v8 (u 4), v8 (u 5), v8 (u 6), v8 (u 7), v8 (d 0), v8 (d 1), v8 (d 2), v8 (d 3), v8 (d 4), v8 (d 5), v8 (d 6), v8 (d 7)]
/-- block g is a lattice of n levels with these sets -/
structure LatAt (w : World) (g n : Nat) (u d : Nat → BitVec 8) : Prop where
  blk : w.heap[g]? = some (.cells (LatCells n u d) 48 (0, 0))
  le8 : n ≤ 8

theorem cells_up (n : Nat) (u d : Nat → BitVec 8) {a : Nat} (h : a < 8) : (LatCells n u d)[1 + a]? = some (v8 (u a)) := by
  match a, h with
  | 0, _ => rfl
  | 1, _ => rfl
  | 2, _ => rfl
  | 3, _ => rfl
  | 4, _ => rfl
  | 5, _ => rfl
  | 6, _ => rfl
  | 7, _ => rfl
theorem cells_down (n : Nat) (u d : Nat → BitVec 8) {a : Nat} (h : a < 8) : (LatCells n u d)[9 + a]? = some (v8 (d a)) := by
  match a, h with
  | 0, _ => rfl
  | 1, _ => rfl
  | 2, _ => rfl
  | 3, _ => rfl
  | 4, _ => rfl
  | 5, _ => rfl
  | 6, _ => rfl
  | 7, _ => rfl
theorem set_up (n : Nat) (u d : Nat → BitVec 8) {a : Nat} (h : a < 8) (x : BitVec 8) : (LatCells n u d).setIfInBounds (1 + a) (v8 x) = LatCells n (Lat.upd u a x) d := by
  match a, h with
  | 0, _ => rfl
  | 1, _ => rfl
  | 2, _ => rfl
  | 3, _ => rfl
  | 4, _ => rfl
  | 5, _ => rfl
  | 6, _ => rfl
  | 7, _ => rfl
theorem set_down (n : Nat) (u d : Nat → BitVec 8) {a : Nat} (h : a < 8) (x : BitVec 8) : (LatCells n u d).setIfInBounds (9 + a) (v8 x) = LatCells n u (Lat.upd d a x) := by
  match a, h with
  | 0, _ => rfl
  | 1, _ => rfl
  | 2, _ => rfl
  | 3, _ => rfl
  | 4, _ => rfl
  | 5, _ => rfl
  | 6, _ => rfl
  | 7, _ => rfl
section
variable {w w1 : World} {g n : Nat} {u d : Nat → BitVec 8}
theorem LatAt.lt (h : LatAt w g n u d) : g < w.heap.size := (Array.getElem?_eq_some_iff.1 h.blk).1
theorem LatAt.num (h : LatAt w g n u d) : w.cell? ⟨g, 0, none⟩ = some (.int .i64 (n : Int)) := by
  have hb := h.blk
  rw [World.cell?]
  simp [hb, LatCells]
theorem LatAt.up (h : LatAt w g n u d) {a : Nat} (ha : a < 8) : w.cell? ⟨g, 1 + a, none⟩ = some (v8 (u a)) := by
  have hb := h.blk
  rw [World.cell?]
  simp [hb, cells_up n u d ha]
theorem LatAt.down (h : LatAt w g n u d) {a : Nat} (ha : a < 8) : w.cell? ⟨g, 9 + a, none⟩ = some (v8 (d a)) := by
  have hb := h.blk
  rw [World.cell?]
  simp [hb, cells_down n u d ha]
theorem LatAt.free (h : LatAt w g n u d) (a : Nat) : w.frozen? ⟨g, a, none⟩ = false := by
  have hb := h.blk
  rw [World.frozen?]
  simp [hb]
theorem LatAt.setUp (h : LatAt w g n u d) {a : Nat} (ha : a < 8) (x : BitVec 8) : LatAt (w.setCell ⟨g, 1 + a, none⟩ (v8 x)) g n (Lat.upd u a x) d := by
  refine ⟨?_, h.le8⟩
  have hb := h.blk
  rw [← set_up n u d ha]
  simp [World.setCell, Array.getElem?_modify, hb]
theorem LatAt.setDown (h : LatAt w g n u d) {a : Nat} (ha : a < 8) (x : BitVec 8) : LatAt (w.setCell ⟨g, 9 + a, none⟩ (v8 x)) g n u (Lat.upd d a x) := by
  refine ⟨?_, h.le8⟩
  have hb := h.blk
  rw [← set_down n u d ha]
  simp [World.setCell, Array.getElem?_modify, hb]
theorem LatAt.drew (h : LatAt w g n u d) : LatAt w.drew g n u d := ⟨h.blk, h.le8⟩
theorem LatAt.drewN (h : LatAt w g n u d) (k : Nat) : LatAt (w.drewN k) g n u d := ⟨h.blk, h.le8⟩
theorem LatAt.alloc (h : LatAt w g n u d) (o : Obj) : LatAt (w.alloc o) g n u d := ⟨(Below.heap_alloc w o g h.lt).trans h.blk, h.le8⟩
theorem LatAt.below {B : Nat} (h : LatAt w g n u d) (hb : Below B w w1) (hB : g < B) : LatAt w1 g n u d := ⟨(hb.block g hB).trans h.blk, h.le8⟩
theorem LatAt.other (h : LatAt w g n u d) {p : Addr} (hp : g ≠ p.block) (v : Value) : LatAt (w.setCell p v) g n u d := ⟨(Below.heap_setCell w p v g hp).trans h.blk, h.le8⟩

/-- is it a level? -/
theorem is_yes (h : LatAt w g n u d) {a : Int} (h0 : 0 ≤ a) (h1 : a < n) : Calls Try.prog 32 #[.pointer (some ⟨g, 0, none⟩), .int .i64 a] w fun e w' => e = .returned (.bool true) ∧ w' = w := by
  have c0 := h.num
  go_enter Try.func32, Try.ntmps32
  go_wp2
  go_ret
  exact ⟨rfl, rfl⟩
theorem is_no (h : LatAt w g n u d) {a : Int} (h0 : a < 0 ∨ n ≤ a) : Calls Try.prog 32 #[.pointer (some ⟨g, 0, none⟩), .int .i64 a] w fun e w' => e = .returned (.bool false) ∧ w' = w := by
  have c0 := h.num
  by_cases h1 : a < 0
  · have h2 : ¬ 0 ≤ a := by omega
    clear h0
    go_enter Try.func32, Try.ntmps32
    go_wp2
    go_ret
    exact ⟨rfl, rfl⟩
  · have h2 : 0 ≤ a := by omega
    have h3 : ¬ a < (n : Int) := by omega
    clear h0 h1
    go_enter Try.func32, Try.ntmps32
    go_wp2
    go_ret
    exact ⟨rfl, rfl⟩

theorem levels_any (h : LatAt w g n u d) : Calls Try.prog 28 #[.pointer (some ⟨g, 0, none⟩)] w fun e w' => e = .returned (.int .i64 (n : Int)) ∧ w' = w := by
  have c0 := h.num
  go_enter Try.func28, Try.ntmps28
  go_wp2
  go_ret
  exact ⟨rfl, rfl⟩
theorem allF_eq (n : Nat) (h : n ≤ 8) : ((2 : Int) ^ n % 256 - 1) % 256 = ((Lat.allF n).toNat : Int) := by
  match n, h with
  | 0, _ => rfl
  | 1, _ => rfl
  | 2, _ => rfl
  | 3, _ => rfl
  | 4, _ => rfl
  | 5, _ => rfl
  | 6, _ => rfl
  | 7, _ => rfl
  | 8, _ => rfl
theorem all_any (h : LatAt w g n u d) : Calls Try.prog 35 #[.pointer (some ⟨g, 0, none⟩)] w fun e w' => e = .returned (v8 (Lat.allF n)) ∧ w' = w := by
  have c0 := h.num
  have h8 := h.le8
  have HA := Lib.hid (allF_eq n h8)
  go_enter Try.func35, Try.ntmps35
  go_wp2
  go_ret
  exact ⟨ret_int HA.out, rfl⟩

theorem toNat_yes {x y : BitVec 8} (h : x = y) : ((x.toNat : Int) == (y.toNat : Int)) = true := by rw [h]; exact beq_self_eq_true _
theorem toNat_no {x y : BitVec 8} (h : x ≠ y) : ((x.toNat : Int) == (y.toNat : Int)) = false := by
  rw [beq_eq_false_iff_ne]
  intro e
  exact h (BitVec.eq_of_toNat_eq (by omega))

set_option maxHeartbeats 400000 in
/-- end: the first level whose set is just x -/
theorem end_any (h : LatAt w g n u d) {o : Nat} {s : Nat → BitVec 8} (hs : ∀ c, c < 8 → w.cell? ⟨g, o + c, none⟩ = some (v8 (s c))) (x : BitVec 8) :
    Calls Try.prog 34 #[.pointer (some ⟨g, 0, none⟩), .pointer (some ⟨g, o, none⟩), v8 x] w fun e w' => e = .returned (.int .i64 (Lat.endF n s x)) ∧ w' = w := by
  have c0 := h.num
  have h8 := h.le8
  have HS := Lib.hid hs
  clear hs
  go_enter Try.func34, Try.ntmps34
  go_wp2
  go_loop [12] (fun i => ∃ k : Nat, k ≤ n ∧ i = .int .i64 k ∧ Hid (∀ c, c < k → s c ≠ x)) (fun i => n - (intOf i).toNat)
  case atStart => exact ⟨0, Nat.zero_le _, rfl, fun c hc => absurd hc (Nat.not_lt_zero _)⟩
  case round =>
    obtain ⟨k, hk, rfl, hno⟩ := hrel
    by_cases hlt : k < n
    · have ck := HS.out k (by omega)
      by_cases hx : s k = x
      · have ht := toNat_yes hx
        have HE := Lib.hid (Lat.endF_hit hlt hx hno.out)
        clear hx
        go_wp2
        go_ret
        exact ⟨ret_int HE.out.symm, rfl⟩
      · have ht := toNat_no hx
        have hno' : Hid (∀ c, c < k + 1 → s c ≠ x) := fun c hc => by
          by_cases e : c = k
          · rw [e]; exact hx
          · exact hno.out c (by omega)
        clear hx
        go_wp2
        go_round
        case rel => exact ⟨k + 1, by omega, by go_num, hno'⟩
        case measure => simp [intOf]; omega
    · obtain rfl : k = n := by omega
      have HE := Lib.hid (Lat.endF_miss hno.out)
      go_wp2
      go_ret
      exact ⟨ret_int HE.out.symm, rfl⟩

set_option maxHeartbeats 400000 in
theorem flows_any (h : LatAt w g n u d) (a b : Int) : Calls Try.prog 12 #[.pointer (some ⟨g, 0, none⟩), .int .i64 a, .int .i64 b] w fun e w' => e = .returned (.bool (Lat.flowsB n u a b)) ∧ w' = w := by
  have h8 := h.le8
  by_cases ha : 0 ≤ a ∧ a < n
  · obtain ⟨ha0, ha1⟩ := ha
    by_cases hb : 0 ≤ b ∧ b < n
    · obtain ⟨hb0, hb1⟩ := hb
      obtain ⟨i, rfl⟩ := Int.eq_ofNat_of_zero_le ha0
      obtain ⟨j, rfl⟩ := Int.eq_ofNat_of_zero_le hb0
      have cu := h.up (a := i) (by omega)
      have c0 := h.num
      have HF : Hid (Lat.flowsB n u (i : Int) (j : Int) = (u i).getLsbD j) := by
        show _ = _
        unfold Lat.flowsB
        rw [decide_eq_true ⟨ha0, ha1, hb0, hb1⟩]
        simp
      cases hbit : (u i).getLsbD j with
      | true =>
        have ht := bit8_yes hbit
        rw [hbit] at HF
        clear hbit
        go_enter Try.func12, Try.ntmps12
        go_wp2_with (go_at_call 32; refine (is_yes h (by omega) (by omega)).mono ?_; rintro e w' ⟨rfl, rfl⟩)
        go_ret
        exact ⟨by rw [HF.out]; rfl, rfl⟩
      | false =>
        have ht := bit8_no hbit
        rw [hbit] at HF
        clear hbit
        go_enter Try.func12, Try.ntmps12
        go_wp2_with (go_at_call 32; refine (is_yes h (by omega) (by omega)).mono ?_; rintro e w' ⟨rfl, rfl⟩)
        go_ret
        exact ⟨by rw [HF.out]; rfl, rfl⟩
    · have HF : Hid (Lat.flowsB n u a b = false) := by
        show _ = _
        unfold Lat.flowsB
        rw [decide_eq_false (by omega)]
        rfl
      have hb' : b < 0 ∨ (n : Int) ≤ b := by omega
      have HB := Lib.hid hb'
      clear hb hb'
      go_enter Try.func12, Try.ntmps12
      go_wp2_with fail
      refine (is_yes h ha0 ha1).mono ?_; rintro e w' ⟨rfl, rfl⟩
      go_wp2_with fail
      refine (is_no h HB.out).mono ?_; rintro e w' ⟨rfl, rfl⟩
      go_wp2_with fail
      go_ret
      exact ⟨by rw [HF.out]; rfl, rfl⟩
  · have HF : Hid (Lat.flowsB n u a b = false) := by
      show _ = _
      unfold Lat.flowsB
      rw [decide_eq_false (by omega)]
      rfl
    have ha' : a < 0 ∨ (n : Int) ≤ a := by omega
    have HA := Lib.hid ha'
    clear ha ha'
    go_enter Try.func12, Try.ntmps12
    go_wp2_with fail
    refine (is_no h HA.out).mono ?_; rintro e w' ⟨rfl, rfl⟩
    go_wp2_with fail
    go_ret
    exact ⟨by rw [HF.out]; rfl, rfl⟩

set_option maxHeartbeats 400000 in
theorem join_any (h : LatAt w g n u d) (a b : Int) : Calls Try.prog 15 #[.pointer (some ⟨g, 0, none⟩), .int .i64 a, .int .i64 b] w fun e w' => e = .returned (.int .i64 (Lat.joinF n u a b)) ∧ ∃ k, w' = w.drewN k := by
  have h8 := h.le8
  by_cases ha : 0 ≤ a ∧ a < n
  · obtain ⟨ha0, ha1⟩ := ha
    by_cases hb : 0 ≤ b ∧ b < n
    · obtain ⟨hb0, hb1⟩ := hb
      obtain ⟨i, rfl⟩ := Int.eq_ofNat_of_zero_le ha0
      obtain ⟨j, rfl⟩ := Int.eq_ofNat_of_zero_le hb0
      have cu := h.up (a := i) (by omega)
      have cv := h.up (a := j) (by omega)
      have HF : Hid (Lat.joinF n u (i : Int) (j : Int) = Lat.endF n u (u i &&& u j)) := by
        show _ = _
        unfold Lat.joinF
        rw [if_pos ⟨ha0, ha1, hb0, hb1⟩]
        rfl
      have HO := Lib.hid (and8 (u i) (u j))
      go_enter Try.func15, Try.ntmps15
      go_wp2_with (go_at_call 32; refine (is_yes h (by omega) (by omega)).mono ?_; rintro e w' ⟨rfl, rfl⟩)
      go_quiet ((go_at_call 34; go_must (rw [HO.out]; exact Calls.quiet_of_same (end_any (h.drewN _) (o := 1) (fun c hc => h.up hc) _))))
      go_wp2
      go_ret
      exact ⟨ret_int HF.out.symm, _, rfl⟩
    · have HF : Hid (Lat.joinF n u a b = -1) := by
        show _ = _
        unfold Lat.joinF
        rw [if_neg (by omega)]
      have hb' : b < 0 ∨ (n : Int) ≤ b := by omega
      have HB := Lib.hid hb'
      clear hb hb'
      go_enter Try.func15, Try.ntmps15
      go_wp2_with fail
      refine (is_yes h ha0 ha1).mono ?_; rintro e w' ⟨rfl, rfl⟩
      go_wp2_with fail
      refine (is_no h HB.out).mono ?_; rintro e w' ⟨rfl, rfl⟩
      go_wp2_with fail
      go_ret
      exact ⟨ret_int HF.out.symm, 0, rfl⟩
  · have HF : Hid (Lat.joinF n u a b = -1) := by
      show _ = _
      unfold Lat.joinF
      rw [if_neg (by omega)]
    have ha' : a < 0 ∨ (n : Int) ≤ a := by omega
    have HA := Lib.hid ha'
    clear ha ha'
    go_enter Try.func15, Try.ntmps15
    go_wp2_with fail
    refine (is_no h HA.out).mono ?_; rintro e w' ⟨rfl, rfl⟩
    go_wp2_with fail
    go_ret
    exact ⟨ret_int HF.out.symm, 0, rfl⟩
set_option maxHeartbeats 400000 in
theorem meet_any (h : LatAt w g n u d) (a b : Int) : Calls Try.prog 16 #[.pointer (some ⟨g, 0, none⟩), .int .i64 a, .int .i64 b] w fun e w' => e = .returned (.int .i64 (Lat.joinF n d a b)) ∧ ∃ k, w' = w.drewN k := by
  have h8 := h.le8
  by_cases ha : 0 ≤ a ∧ a < n
  · obtain ⟨ha0, ha1⟩ := ha
    by_cases hb : 0 ≤ b ∧ b < n
    · obtain ⟨hb0, hb1⟩ := hb
      obtain ⟨i, rfl⟩ := Int.eq_ofNat_of_zero_le ha0
      obtain ⟨j, rfl⟩ := Int.eq_ofNat_of_zero_le hb0
      have cu := h.down (a := i) (by omega)
      have cv := h.down (a := j) (by omega)
      have HF : Hid (Lat.joinF n d (i : Int) (j : Int) = Lat.endF n d (d i &&& d j)) := by
        show _ = _
        unfold Lat.joinF
        rw [if_pos ⟨ha0, ha1, hb0, hb1⟩]
        rfl
      have HO := Lib.hid (and8 (d i) (d j))
      go_enter Try.func16, Try.ntmps16
      go_wp2_with (go_at_call 32; refine (is_yes h (by omega) (by omega)).mono ?_; rintro e w' ⟨rfl, rfl⟩)
      go_quiet ((go_at_call 34; go_must (rw [HO.out]; exact Calls.quiet_of_same (end_any (h.drewN _) (o := 9) (fun c hc => h.down hc) _))))
      go_wp2
      go_ret
      exact ⟨ret_int HF.out.symm, _, rfl⟩
    · have HF : Hid (Lat.joinF n d a b = -1) := by
        show _ = _
        unfold Lat.joinF
        rw [if_neg (by omega)]
      have hb' : b < 0 ∨ (n : Int) ≤ b := by omega
      have HB := Lib.hid hb'
      clear hb hb'
      go_enter Try.func16, Try.ntmps16
      go_wp2_with fail
      refine (is_yes h ha0 ha1).mono ?_; rintro e w' ⟨rfl, rfl⟩
      go_wp2_with fail
      refine (is_no h HB.out).mono ?_; rintro e w' ⟨rfl, rfl⟩
      go_wp2_with fail
      go_ret
      exact ⟨ret_int HF.out.symm, 0, rfl⟩
  · have HF : Hid (Lat.joinF n d a b = -1) := by
      show _ = _
      unfold Lat.joinF
      rw [if_neg (by omega)]
    have ha' : a < 0 ∨ (n : Int) ≤ a := by omega
    have HA := Lib.hid ha'
    clear ha ha'
    go_enter Try.func16, Try.ntmps16
    go_wp2_with fail
    refine (is_no h HA.out).mono ?_; rintro e w' ⟨rfl, rfl⟩
    go_wp2_with fail
    go_ret
    exact ⟨ret_int HF.out.symm, 0, rfl⟩

set_option maxHeartbeats 400000 in
theorem top_any (h : LatAt w g n u d) : Calls Try.prog 13 #[.pointer (some ⟨g, 0, none⟩)] w fun e w' => e = .returned (.int .i64 (Lat.endF n d (Lat.allF n))) ∧ ∃ k, w' = w.drewN k := by
  go_enter Try.func13, Try.ntmps13
  go_wp2_with fail
  go_quiet (first | ((go_at_call 34; go_must (exact Calls.quiet_of_same (end_any (h.drewN _) (o := 9) (fun c hc => h.down hc) _)))) | ((go_at_call 35; go_must (exact Calls.quiet_of_same (all_any (h.drewN _))))))
  go_wp2
  go_ret
  exact ⟨rfl, _, rfl⟩
set_option maxHeartbeats 400000 in
theorem bottom_any (h : LatAt w g n u d) : Calls Try.prog 14 #[.pointer (some ⟨g, 0, none⟩)] w fun e w' => e = .returned (.int .i64 (Lat.endF n u (Lat.allF n))) ∧ ∃ k, w' = w.drewN k := by
  go_enter Try.func14, Try.ntmps14
  go_wp2_with fail
  go_quiet (first | ((go_at_call 34; go_must (exact Calls.quiet_of_same (end_any (h.drewN _) (o := 1) (fun c hc => h.up hc) _)))) | ((go_at_call 35; go_must (exact Calls.quiet_of_same (all_any (h.drewN _))))))
  go_wp2
  go_ret
  exact ⟨rfl, _, rfl⟩
end
end Go.Proofs.Ytchdalicoafamaa
