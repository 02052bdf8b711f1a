/-
  Above, Below and Pairs of a lattice: for every lattice they return new lists of what its sets say.
-/
import Derived.Test.YtchdalicoafamaaRows
import Derived.Test.YtchdalicoafamaaBase
import Derived.Test.YtchdalicoafamaaLat
import Derived.Test.YtchdalicoafamaaClosed
import Derived.Test.YtchdalicoafamaaLattice
import Derived.Deep.QuietTactic
import Derived.BigQuiet
import Derived.WalkSmall
import Derived.Deep.LoopGhost
namespace Go.Proofs.Ytchdalicoafamaa
open Go.RowKit Base
theorem infoInt : (Try.prog.info? 3).map (fun i => (i.zero, i.size, i.bytes)) = some (some (.int .i64 0), 1, 8) := by kernel_rfl
theorem infoPair : (Try.prog.info? 33).map (fun i => (i.zero, i.size, i.bytes)) = some (some (.agg #[.int .i64 0, .int .i64 0]), 2, 16) := by kernel_rfl

def iv (k : Nat) : Value := .int .i64 (k : Int)
/-- the levels of a's set, below k -/
def listTo (n : Nat) (s : Nat → BitVec 8) (a : Int) (k : Nat) : List Nat := (List.range k).filter fun b => decide (0 ≤ a ∧ a < n) && (s a.toNat).getLsbD b
theorem listTo_yes {n : Nat} {s : Nat → BitVec 8} {a : Int} {k : Nat} (h0 : 0 ≤ a ∧ a < n) (h : (s a.toNat).getLsbD k = true) : (listTo n s a (k + 1)).map iv = (listTo n s a k).map iv ++ [iv k] := by
  unfold listTo
  rw [List.range_succ, List.filter_append]
  simp [h0, h]
theorem listTo_no {n : Nat} {s : Nat → BitVec 8} {a : Int} {k : Nat} (h : ¬ (0 ≤ a ∧ a < n) ∨ (s a.toNat).getLsbD k = false) : listTo n s a (k + 1) = listTo n s a k := by
  unfold listTo
  rw [List.range_succ, List.filter_append]
  rcases h with h | h
  · rw [show (List.filter (fun b => decide (0 ≤ a ∧ a < n) && (s a.toNat).getLsbD b) [k]) = [] from by simp [h]]
    simp
  · rw [show (List.filter (fun b => decide (0 ≤ a ∧ a < n) && (s a.toNat).getLsbD b) [k]) = [] from by simp [h]]
    simp
theorem listTo_le (n : Nat) (s : Nat → BitVec 8) (a : Int) (k : Nat) : (listTo n s a k).length ≤ k := by
  unfold listTo
  have := List.length_filter_le (fun b => decide (0 ≤ a ∧ a < n) && (s a.toNat).getLsbD b) (List.range k)
  simpa using this

section
variable {w w1 : World} {g n : Nat} {u d : Nat → BitVec 8}
set_option maxHeartbeats 1000000 in
theorem listed_any (h : LatAt w g n u d) {o : Nat} {s : Nat → BitVec 8} (hs : ∀ c, c < 8 → w.cell? ⟨g, o + c, none⟩ = some (v8 (s c))) (a : Int) :
    Calls Try.prog 37 #[.pointer (some ⟨g, 0, none⟩), .pointer (some ⟨g, o, none⟩), .int .i64 a] w fun e w' => ∃ v, e = .returned v ∧ w'.ownsRow w.heap.size 3 1 v (listTo n s a n).length ((listTo n s a n).map iv) ∧ Below w.heap.size w w' := by
  obtain ⟨i0, hi, hz0, hz1, hz2⟩ := info_parts infoInt
  have c0 := h.num
  have h8 := h.le8
  have hg := h.lt
  have HS := Lib.hid hs
  clear hs
  go_enter Try.func37, Try.ntmps37
  go_wp2
  go_loopw [7, 13] (fun v i wr => ∃ k : Nat, k ≤ n ∧ i = .int .i64 k ∧ wr.ownsRow w.heap.size 3 1 v (listTo n s a k).length ((listTo n s a k).map iv) ∧ Below w.heap.size w wr) (fun _ i _ => n - (intOf i).toNat)
  case atStart => exact ⟨0, Nat.zero_le _, rfl, World.ownsRow_nil _ _ _ _, Below.refl _ _⟩
  case round =>
    obtain ⟨k, hk, rfl, hown, hbel⟩ := hrel
    have hr := h.below hbel hg
    by_cases hlt : k < n
    · by_cases ha : 0 ≤ a ∧ a < n
      · obtain ⟨ha0, ha1⟩ := ha
        obtain ⟨i, rfl⟩ := Int.eq_ofNat_of_zero_le ha0
        have ca : wr.cell? ⟨g, o + i, none⟩ = some (v8 (s i)) := (hbel.cell (p := ⟨g, o + i, none⟩) hg).trans (HS.out i (by omega))
        cases hbit : (s i).getLsbD k with
        | true =>
          have ht := bit8_yes hbit
          have HL := Lib.hid (listTo_yes (s := s) (k := k) (a := (i : Int)) ⟨ha0, ha1⟩ hbit)
          have hle := listTo_le n s (i : Int) k
          clear hbit
          go_wp2_with fail
          refine (is_yes hr (by omega) (by omega)).mono ?_; rintro e w' ⟨rfl, rfl⟩
          have hbs := hbel.size
          go_wp2_with (at_builtin; refine wpList_append_own _ rfl (.tmp 30) (.tmp 32) 43 rfl w.heap.size 3 i0 (.int .i64 0) 1 8 Try.underlying43 hi hz0 hz1 hz2 rfl (by decide) _ _ _ rfl (hown.alloc _) ⟨w'.heap.size, 0, none⟩ 1 1 [iv k] rfl rfl ?c1 ?c2 ?c3 ?c4 ?c5 ?_)
          case c1 => exact cell_one_new _ _ _
          case c2 => exact one_cell _ rfl
          case c3 => unfold maxLen; omega
          case c4 => omega
          case c5 => simp; omega
          intro v' w2 hown' hgrow _
          rw [← HL.out] at hown'
          have hbel' : Below w.heap.size w w2 := (hbel.alloc hbel.size _).grown hgrow (by simp; omega) (fun g' hg' => (hown.lt g' hg').1)
          have hll : Hid ((listTo n s (i : Int) k).length + 1 = (listTo n s (i : Int) (k + 1)).length) := by
            show _ = _
            have := congrArg List.length HL.out
            simpa using this.symm
          clear hown hgrow hbel HL
          go_wp2
          go_roundw
          case rel => exact ⟨k + 1, by omega, by go_num, by rw [← hll.out]; exact hown', hbel'⟩
          case measure => simp [intOf]; omega
        | false =>
          have ht := bit8_no hbit
          have HL := Lib.hid (listTo_no (n := n) (s := s) (k := k) (a := (i : Int)) (.inr hbit))
          clear hbit
          go_wp2_with fail
          refine (is_yes hr (by omega) (by omega)).mono ?_; rintro e w' ⟨rfl, rfl⟩
          go_wp2_with fail
          go_roundw
          case rel => exact ⟨k + 1, by omega, by go_num, by rw [HL.out]; exact hown, hbel⟩
          case measure => simp [intOf]; omega
      · have HL := Lib.hid (listTo_no (n := n) (s := s) (k := k) (a := a) (.inl ha))
        have ha' : a < 0 ∨ (n : Int) ≤ a := by omega
        have HA := Lib.hid ha'
        clear ha ha'
        go_wp2_with fail
        refine (is_no hr HA.out).mono ?_; rintro e w' ⟨rfl, rfl⟩
        go_wp2_with fail
        go_roundw
        case rel => exact ⟨k + 1, by omega, by go_num, by rw [HL.out]; exact hown, hbel⟩
        case measure => simp [intOf]; omega
    · obtain rfl : k = n := by omega
      go_wp2
      go_ret
      exact ⟨_, rfl, hown, hbel⟩

theorem above_any (h : LatAt w g n u d) (a : Int) :
    Calls Try.prog 23 #[.pointer (some ⟨g, 0, none⟩), .int .i64 a] w fun e w' => ∃ v, e = .returned v ∧ w'.ownsRow w.heap.size 3 1 v (listTo n u a n).length ((listTo n u a n).map iv) ∧ Below w.heap.size w w' := by
  go_enter Try.func23, Try.ntmps23
  go_wp2_with fail
  refine (listed_any h (o := 1) (fun c hc => h.up hc) a).mono ?_; rintro e w' ⟨v, rfl, hown, hb⟩
  go_wp2_with fail
  go_ret
  exact ⟨_, rfl, hown, hb⟩
theorem below_any (h : LatAt w g n u d) (a : Int) :
    Calls Try.prog 24 #[.pointer (some ⟨g, 0, none⟩), .int .i64 a] w fun e w' => ∃ v, e = .returned v ∧ w'.ownsRow w.heap.size 3 1 v (listTo n d a n).length ((listTo n d a n).map iv) ∧ Below w.heap.size w w' := by
  go_enter Try.func24, Try.ntmps24
  go_wp2_with fail
  refine (listed_any h (o := 9) (fun c hc => h.down hc) a).mono ?_; rintro e w' ⟨v, rfl, hown, hb⟩
  go_wp2_with fail
  go_ret
  exact ⟨_, rfl, hown, hb⟩

/-- a pair's two cells -/
def pv (p : Nat × Nat) : List Value := [iv p.1, iv p.2]
theorem one8 (a : Nat) (h : a < 8) : (2 : Int) ^ a % 256 = ((Lat.one a).toNat : Int) := by
  match a, h with
  | 0, _ => rfl
  | 1, _ => rfl
  | 2, _ => rfl
  | 3, _ => rfl
  | 4, _ => rfl
  | 5, _ => rfl
  | 6, _ => rfl
  | 7, _ => rfl
theorem pair_test {x y : BitVec 8} {a b : Nat} (ha : a < 8) (hb : b < 8) : (bits .and .u8 (x.toNat : Int) (y.toNat : Int) == bits .or .u8 ((2 : Int) ^ a % 256) ((2 : Int) ^ b % 256)) = decide (x &&& y = Lat.one a ||| Lat.one b) := by
  rw [and8, one8 a ha, one8 b hb, or8, toNat_eq]
theorem pairs_flat (l : List (Nat × Nat)) : (l.flatMap pv).length = l.length * 2 := by
  induction l with
  | nil => rfl
  | cons p l ih => simp [pv, ih]; omega

set_option maxHeartbeats 2000000 in
theorem pairs_any (h : LatAt w g n u d) :
    Calls Try.prog 17 #[.pointer (some ⟨g, 0, none⟩)] w fun e w' => ∃ v, e = .returned v ∧ w'.ownsRow w.heap.size 33 2 v (Lat.pairsTo n u d n).length ((Lat.pairsTo n u d n).flatMap pv) ∧ Below w.heap.size w w' := by
  obtain ⟨i0, hi, hz0, hz1, hz2⟩ := info_parts infoPair
  have c0 := h.num
  have h8 := h.le8
  have hg := h.lt
  go_enter Try.func17, Try.ntmps17
  go_wp2
  go_loopw [3, 10] (fun v i wr => ∃ a : Nat, a ≤ n ∧ i = .int .i64 a ∧ wr.ownsRow w.heap.size 33 2 v (Lat.pairsTo n u d a).length ((Lat.pairsTo n u d a).flatMap pv) ∧ Below w.heap.size w wr) (fun _ i _ => n - (intOf i).toNat)
  case atStart => exact ⟨0, Nat.zero_le _, rfl, World.ownsRow_nil _ _ _ _, Below.refl _ _⟩
  case round =>
    obtain ⟨a, ha, rfl, hown, hbel⟩ := hrel
    have hr := h.below hbel hg
    by_cases hlt : a < n
    · have cn := hr.num
      have hL0 : Hid (Lat.pairsTo n u d a ++ Lat.rowPairs u d a 0 = Lat.pairsTo n u d a) := by show _ = _; simp [Lat.rowPairs]
      go_wp2_with fail
      obtain ⟨wo, rfl⟩ : ∃ wo : World, wo = wr := ⟨_, rfl⟩
      go_loopw [3, 17] (fun v i wr3 => ∃ b : Nat, b ≤ n ∧ i = .int .i64 b ∧ wr3.ownsRow w.heap.size 33 2 v (Lat.pairsTo n u d a ++ Lat.rowPairs u d a b).length ((Lat.pairsTo n u d a ++ Lat.rowPairs u d a b).flatMap pv) ∧ Below w.heap.size w wr3) (fun _ i _ => n - (intOf i).toNat)
      case atStart => exact ⟨0, Nat.zero_le _, rfl, by rw [hL0.out]; exact hown, hbel⟩
      case round =>
        clear hown hbel hr cn hL0
        obtain ⟨b, hb, rfl, hown, hbel⟩ := hrel
        have hr := h.below hbel hg
        by_cases hltb : b < n
        · have ca := hr.up (a := a) (by omega)
          have cb := hr.down (a := b) (by omega)
          have ht := pair_test (x := u a) (y := d b) (a := a) (b := b) (by omega) (by omega)
          have hle1 := Lat.pairsTo_le n u d a
          have hle2 := Lat.rowPairs_le u d a b
          have hmul : a * n ≤ 64 := Nat.le_trans (Nat.mul_le_mul (show a ≤ 8 by omega) h8) (by omega)
          cases hp : Lat.pairB u d a b with
          | true =>
            have hp2 := hp
            unfold Lat.pairB at hp2
            simp only [Bool.and_eq_true, decide_eq_true_eq] at hp2
            obtain ⟨hne, hq⟩ := hp2
            rw [decide_eq_true hq] at ht
            have hne' : ((a : Int) != (b : Int)) = true := by rw [bne_iff_ne]; omega
            have HR := Lib.hid (Lat.rowPairs_yes hp)
            clear hq hp
            go_wp2_with fail
            go_quiet (fail)
            have hown1 : (wr.drewN nq).ownsRow w.heap.size 33 2 u3 (Lat.pairsTo n u d a ++ Lat.rowPairs u d a b).length ((Lat.pairsTo n u d a ++ Lat.rowPairs u d a b).flatMap pv) := hown
            have hbel1 : Below w.heap.size w (wr.drewN nq) := ⟨hbel.os, hbel.tape, hbel.output, hbel.size, hbel.block⟩
            clear hown hbel hr ca cb ht hne'
            generalize wr.drewN nq = w2 at *
            have hbs := hbel1.size
            have hll : (Lat.pairsTo n u d a ++ Lat.rowPairs u d a b).length ≤ 72 := by rw [List.length_append]; omega
            generalize hLL : Lat.pairsTo n u d a ++ Lat.rowPairs u d a b = L at *
            have HLL := Lib.hid hLL
            clear hLL
            go_wp2_with (at_builtin; refine wpList_append_own _ rfl (.tmp 44) (.tmp 48) 22 rfl w.heap.size 33 i0 (.agg #[.int .i64 0, .int .i64 0]) 2 16 Try.underlying22 hi hz0 hz1 hz2 rfl (by decide) _ _ _ rfl (hown1.alloc _) ⟨w2.heap.size, 0, none⟩ 1 1 [iv a, iv b] rfl rfl ?c1 ?c2 ?c3 ?c4 ?c5 ?_)
            case c1 => exact cell_two_new _ _ _ _
            case c2 =>
              intro x hx
              simp at hx
              rcases hx with rfl | rfl <;> rfl
            case c3 => unfold maxLen; omega
            case c4 => omega
            case c5 => simp; omega
            intro v' w3 hown' hgrow _
            have hbel' : Below w.heap.size w w3 := (hbel1.alloc hbel1.size _).grown hgrow (by simp; omega) (fun g' hg' => (hown1.lt g' hg').1)
            have HN : Hid (Lat.pairsTo n u d a ++ Lat.rowPairs u d a (b + 1) = L ++ [(a, b)]) := by show _ = _; rw [HR.out, ← List.append_assoc, HLL.out]
            have hown2 : w3.ownsRow w.heap.size 33 2 v' (L ++ [(a, b)]).length ((L ++ [(a, b)]).flatMap pv) := by
              rw [List.length_append, List.flatMap_append]
              exact hown'
            clear hown1 hown' hgrow hbel1
            go_wp2
            go_roundw
            case rel => exact ⟨b + 1, by omega, by go_num, by rw [HN.out]; exact hown2, hbel'⟩
            case measure => simp [intOf]; omega
          | false =>
            have HN : Hid (Lat.rowPairs u d a (b + 1) = Lat.rowPairs u d a b) := Lat.rowPairs_no hp
            by_cases hab : a = b
            · have hne' : ((a : Int) != (b : Int)) = false := by simp [hab]
              clear hp hab ht
              go_wp2_with fail
              go_quiet (fail)
              go_wp2
              go_roundw
              case rel => exact ⟨b + 1, by omega, by go_num, by rw [HN.out]; exact hown, ⟨hbel.os, hbel.tape, hbel.output, hbel.size, hbel.block⟩⟩
              case measure => simp [intOf]; omega
            · have hne' : ((a : Int) != (b : Int)) = true := by rw [bne_iff_ne]; omega
              unfold Lat.pairB at hp
              rw [decide_eq_true hab, Bool.true_and] at hp
              rw [hp] at ht
              clear hp hab
              go_wp2_with fail
              go_quiet (fail)
              go_wp2
              go_roundw
              case rel => exact ⟨b + 1, by omega, by go_num, by rw [HN.out]; exact hown, ⟨hbel.os, hbel.tape, hbel.output, hbel.size, hbel.block⟩⟩
              case measure => simp [intOf]; omega
        · obtain rfl : b = n := by omega
          have HN : Hid (Lat.pairsTo b u d (a + 1) = Lat.pairsTo b u d a ++ Lat.rowPairs u d a b) := Lat.pairsTo_succ _ _ _ _
          go_wp2
          go_roundw
          case rel => exact ⟨a + 1, by omega, by go_num, by rw [HN.out]; exact hown, hbel⟩
          case measure => simp [intOf]; omega
    · obtain rfl : a = n := by omega
      go_wp2
      go_ret
      exact ⟨_, rfl, hown, hbel⟩
end
end Go.Proofs.Ytchdalicoafamaa
