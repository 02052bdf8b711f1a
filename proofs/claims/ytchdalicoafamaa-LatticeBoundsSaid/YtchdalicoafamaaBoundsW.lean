/-
  The walk of LatticeBounds: for every number of levels, every pairs and every number asked of the call returns true.
-/
import Derived.Test.YtchdalicoafamaaRows
import Derived.Test.YtchdalicoafamaaBase
import Derived.Test.YtchdalicoafamaaLat
import Derived.Test.YtchdalicoafamaaClosed
import Derived.Test.YtchdalicoafamaaLattice
import Derived.Test.YtchdalicoafamaaLists
import Derived.Test.YtchdalicoafamaaMake
import Derived.Test.YtchdalicoafamaaSame
import Derived.Test.YtchdalicoafamaaJoins
import Derived.Test.YtchdalicoafamaaFixedL
import Derived.Test.YtchdalicoafamaaArgsL
import Derived.Test.YtchdalicoafamaaLawsW
import Derived.Test.YtchdalicoafamaaAppend
import Derived.Test.YtchdalicoafamaaRefP
import Derived.Test.YtchdalicoafamaaRefL
import Derived.Test.YtchdalicoafamaaRefN
import Derived.Deep.QuietTactic
import Derived.BigQuiet
import Derived.WalkSmall
import Derived.ChangeKeysEq
import Derived.Deep.Slices
import Derived.OpenShut
import Derived.Deep.LoopGhost
import Derived.Deep.CutRange
import Derived.Deep.RegionLaw
import Derived.Deep.RegionHeld3
namespace Go.Proofs.Ytchdalicoafamaa.bounds
open Go.RowKit Base Go.ChangeShapes Go.WideShapes
open laws (flows_q join_q meet_q top_q bottom_q eq_yes eq_no ne0)
theorem bounds_of {n : Nat} {u d : Nat → BitVec 8} (h : Lat.Ok n u d) {a b : Nat} (ha : a < n) (hb : b < n) (c : Int) : ∃ j m : Int, Lat.joinF n u a b = j ∧ Lat.joinF n d a b = m ∧
    Lat.flowsB n u j c = (Lat.flowsB n u a c && Lat.flowsB n u b c) ∧ Lat.flowsB n u c m = (Lat.flowsB n u c a && Lat.flowsB n u c b) := by
  refine ⟨_, _, Lat.J_int h ha hb, Lat.J_int h.dual ha hb, ?_, ?_⟩
  · have hj := Lat.J_lt h ha hb
    by_cases hc : 0 ≤ c ∧ c < n
    · obtain ⟨x, rfl⟩ := Int.eq_ofNat_of_zero_le hc.1
      have hx : x < n := by omega
      rw [Lat.flowsB_is hj hx, Lat.flowsB_is ha hx, Lat.flowsB_is hb hx]
      exact Lat.J_bt h ha hb x
    · have : ∀ y : Int, Lat.flowsB n u y c = false := fun y => by
        unfold Lat.flowsB
        rw [decide_eq_false (by omega), Bool.false_and]
      rw [this, this, this]
      rfl
  · have hm := Lat.M_lt h ha hb
    by_cases hc : 0 ≤ c ∧ c < n
    · obtain ⟨x, rfl⟩ := Int.eq_ofNat_of_zero_le hc.1
      have hx : x < n := by omega
      rw [Lat.flowsB_is hx hm, Lat.flowsB_is hx ha, Lat.flowsB_is hx hb]
      exact Lat.M_bt h ha hb x
    · have : ∀ y : Int, Lat.flowsB n u c y = false := fun y => by
        unfold Lat.flowsB
        rw [decide_eq_false (by omega), Bool.false_and]
      rw [this, this, this]
      rfl
set_option maxHeartbeats 20000000 in
set_option maxRecDepth 8000 in
theorem walk_no (W : World) {n : Int} {ao : Option Addr} {len cap : Nat} {ps : List (Int × Int)} (hps : PairsIn W ao len ps) (c : Int) (h0 : Lat.newE n ps ≠ 0) :
    Calls Try.prog 7 #[.int .i64 n, .slice ao len cap, .int .i64 c] W fun e w' => e = .returned (.bool true) ∧ Below W.heap.size W w' := by
  have ht := ne0 h0
  go_enter Try.func7, Try.ntmps7
  go_wp2_with fail
  refine (lnew_any W hps).mono ?_
  rintro e w1 hm
  obtain ⟨rfl, hb⟩ := made_no hm rfl h0
  have hps1 := hps.below hb (Nat.le_refl _)
  clear hm
  go_wp2_with fail
  refine (lfixed_any w1).mono ?_
  rintro e w2 ⟨rfl, hb1⟩
  have hps2 := hps1.below hb1 (Nat.le_refl _)
  have hb := hb.trans (hb1.mono hb.size)
  clear hb1 hps1
  go_wp2_with fail
  refine (rlnew_any w2 hps2).mono ?_
  rintro e w3 ⟨p, rfl, hb3, _⟩
  have hb := hb.trans (hb3.mono hb.size)
  clear hps2 hb3
  generalize Lat.newE n ps = ec at *
  go_wp2_with fail
  go_ret
  exact ⟨rfl, hb⟩
set_option maxHeartbeats 20000000 in
set_option maxRecDepth 8000 in
theorem walk_yes (W : World) {n : Nat} {ao : Option Addr} {len cap : Nat} {ps : List (Int × Int)} (hps : PairsIn W ao len ps) (c : Int) (h0 : Lat.newE n ps = 0) :
    Calls Try.prog 7 #[.int .i64 n, .slice ao len cap, .int .i64 c] W fun e w' => e = .returned (.bool true) ∧ Below W.heap.size W w' := by
  have hok := Lat.ok_of h0
  go_enter Try.func7, Try.ntmps7
  go_wp2_with fail
  refine (lnew_any W hps).mono ?_
  rintro e w1 hm
  obtain ⟨g, rfl, hb, hg, hA⟩ := made_ok hm h0
  generalize Lat.up n ps = u at *
  generalize Lat.down n u = d at *
  clear hm h0 hps
  have h8 := hok.le8
  have HOK := Lib.hid hok
  clear hok
  go_wp2_with fail
  refine (lfixed_any w1).mono ?_
  rintro e w2 ⟨rfl, hb1⟩
  have hA := hA.below hb1 hA.lt
  have hb := hb.trans (hb1.mono hb.size)
  clear hb1
  go_wp2_with fail
  go_loopw [11] (fun i wr => ∃ a : Nat, a ≤ n ∧ i = .int .i64 a ∧ ∃ q, wr = w2.drewN q) (fun i _ => n - (intOf i).toNat)
  case atStart => exact ⟨0, Nat.zero_le _, rfl, 0, rfl⟩
  case round =>
    obtain ⟨a, ha, rfl, qa, rfl⟩ := hrel
    by_cases hlt : a < n
    · have ha9 : (a : Int) < n := by omega
      go_wp2_with fail
      go_loopw [12] (fun i wr => ∃ b : Nat, b ≤ n ∧ i = .int .i64 b ∧ ∃ q, wr = w2.drewN q) (fun i _ => n - (intOf i).toNat)
      case atStart => exact ⟨0, Nat.zero_le _, rfl, _, rfl⟩
      case round =>
        obtain ⟨b, hb', rfl, qb, rfl⟩ := hrel
        by_cases hltb : b < n
        · have hb9 : (b : Int) < n := by omega
          obtain ⟨j, m, fj, fm, f1, f2⟩ := bounds_of HOK.out hlt hltb c
          obtain ⟨p, fp⟩ : ∃ r, Lat.flowsB n u (a : Int) c = r := ⟨_, rfl⟩
          obtain ⟨q, fq⟩ : ∃ r, Lat.flowsB n u (b : Int) c = r := ⟨_, rfl⟩
          obtain ⟨s, fs⟩ : ∃ r, Lat.flowsB n u c (a : Int) = r := ⟨_, rfl⟩
          obtain ⟨t, ft⟩ : ∃ r, Lat.flowsB n u c (b : Int) = r := ⟨_, rfl⟩
          rw [fp, fq] at f1
          rw [fs, ft] at f2
          replace fj := Lib.hid fj
          replace fm := Lib.hid fm
          replace f1 := Lib.hid f1
          replace f2 := Lib.hid f2
          replace fp := Lib.hid fp
          replace fq := Lib.hid fq
          replace fs := Lib.hid fs
          replace ft := Lib.hid ft
          cases p with
          | false =>
            cases s with
            | false =>
              go_wp2_with fail
              refine (join_q (hA.drewN _) fj.out).mono ?_
              rintro e w' ⟨q1, rfl, rfl⟩
              go_wp2_with fail
              refine (flows_s (hA.drewN _) f1.out).mono ?_
              rintro e w' ⟨rfl, rfl⟩
              go_wp2_with fail
              refine (flows_s (hA.drewN _) fp.out).mono ?_
              rintro e w' ⟨rfl, rfl⟩
              go_wp2_with fail
              refine (meet_q (hA.drewN _) fm.out).mono ?_
              rintro e w' ⟨q2, rfl, rfl⟩
              go_wp2_with fail
              refine (flows_s (hA.drewN _) f2.out).mono ?_
              rintro e w' ⟨rfl, rfl⟩
              go_wp2_with fail
              refine (flows_s (hA.drewN _) fs.out).mono ?_
              rintro e w' ⟨rfl, rfl⟩
              go_wp2_with fail
              go_roundw
              case rel => exact ⟨b + 1, by omega, by go_num, _, rfl⟩
              case measure => simp [intOf]; omega
            | true =>
              cases t with
              | false =>
                go_wp2_with fail
                refine (join_q (hA.drewN _) fj.out).mono ?_
                rintro e w' ⟨q1, rfl, rfl⟩
                go_wp2_with fail
                refine (flows_s (hA.drewN _) f1.out).mono ?_
                rintro e w' ⟨rfl, rfl⟩
                go_wp2_with fail
                refine (flows_s (hA.drewN _) fp.out).mono ?_
                rintro e w' ⟨rfl, rfl⟩
                go_wp2_with fail
                refine (meet_q (hA.drewN _) fm.out).mono ?_
                rintro e w' ⟨q2, rfl, rfl⟩
                go_wp2_with fail
                refine (flows_s (hA.drewN _) f2.out).mono ?_
                rintro e w' ⟨rfl, rfl⟩
                go_wp2_with fail
                refine (flows_s (hA.drewN _) fs.out).mono ?_
                rintro e w' ⟨rfl, rfl⟩
                go_wp2_with fail
                refine (flows_s (hA.drewN _) ft.out).mono ?_
                rintro e w' ⟨rfl, rfl⟩
                go_wp2_with fail
                go_roundw
                case rel => exact ⟨b + 1, by omega, by go_num, _, rfl⟩
                case measure => simp [intOf]; omega
              | true =>
                go_wp2_with fail
                refine (join_q (hA.drewN _) fj.out).mono ?_
                rintro e w' ⟨q1, rfl, rfl⟩
                go_wp2_with fail
                refine (flows_s (hA.drewN _) f1.out).mono ?_
                rintro e w' ⟨rfl, rfl⟩
                go_wp2_with fail
                refine (flows_s (hA.drewN _) fp.out).mono ?_
                rintro e w' ⟨rfl, rfl⟩
                go_wp2_with fail
                refine (meet_q (hA.drewN _) fm.out).mono ?_
                rintro e w' ⟨q2, rfl, rfl⟩
                go_wp2_with fail
                refine (flows_s (hA.drewN _) f2.out).mono ?_
                rintro e w' ⟨rfl, rfl⟩
                go_wp2_with fail
                refine (flows_s (hA.drewN _) fs.out).mono ?_
                rintro e w' ⟨rfl, rfl⟩
                go_wp2_with fail
                refine (flows_s (hA.drewN _) ft.out).mono ?_
                rintro e w' ⟨rfl, rfl⟩
                go_wp2_with fail
                go_roundw
                case rel => exact ⟨b + 1, by omega, by go_num, _, rfl⟩
                case measure => simp [intOf]; omega
          | true =>
            cases q with
            | false =>
              cases s with
              | false =>
                go_wp2_with fail
                refine (join_q (hA.drewN _) fj.out).mono ?_
                rintro e w' ⟨q1, rfl, rfl⟩
                go_wp2_with fail
                refine (flows_s (hA.drewN _) f1.out).mono ?_
                rintro e w' ⟨rfl, rfl⟩
                go_wp2_with fail
                refine (flows_s (hA.drewN _) fp.out).mono ?_
                rintro e w' ⟨rfl, rfl⟩
                go_wp2_with fail
                refine (flows_s (hA.drewN _) fq.out).mono ?_
                rintro e w' ⟨rfl, rfl⟩
                go_wp2_with fail
                refine (meet_q (hA.drewN _) fm.out).mono ?_
                rintro e w' ⟨q2, rfl, rfl⟩
                go_wp2_with fail
                refine (flows_s (hA.drewN _) f2.out).mono ?_
                rintro e w' ⟨rfl, rfl⟩
                go_wp2_with fail
                refine (flows_s (hA.drewN _) fs.out).mono ?_
                rintro e w' ⟨rfl, rfl⟩
                go_wp2_with fail
                go_roundw
                case rel => exact ⟨b + 1, by omega, by go_num, _, rfl⟩
                case measure => simp [intOf]; omega
              | true =>
                cases t with
                | false =>
                  go_wp2_with fail
                  refine (join_q (hA.drewN _) fj.out).mono ?_
                  rintro e w' ⟨q1, rfl, rfl⟩
                  go_wp2_with fail
                  refine (flows_s (hA.drewN _) f1.out).mono ?_
                  rintro e w' ⟨rfl, rfl⟩
                  go_wp2_with fail
                  refine (flows_s (hA.drewN _) fp.out).mono ?_
                  rintro e w' ⟨rfl, rfl⟩
                  go_wp2_with fail
                  refine (flows_s (hA.drewN _) fq.out).mono ?_
                  rintro e w' ⟨rfl, rfl⟩
                  go_wp2_with fail
                  refine (meet_q (hA.drewN _) fm.out).mono ?_
                  rintro e w' ⟨q2, rfl, rfl⟩
                  go_wp2_with fail
                  refine (flows_s (hA.drewN _) f2.out).mono ?_
                  rintro e w' ⟨rfl, rfl⟩
                  go_wp2_with fail
                  refine (flows_s (hA.drewN _) fs.out).mono ?_
                  rintro e w' ⟨rfl, rfl⟩
                  go_wp2_with fail
                  refine (flows_s (hA.drewN _) ft.out).mono ?_
                  rintro e w' ⟨rfl, rfl⟩
                  go_wp2_with fail
                  go_roundw
                  case rel => exact ⟨b + 1, by omega, by go_num, _, rfl⟩
                  case measure => simp [intOf]; omega
                | true =>
                  go_wp2_with fail
                  refine (join_q (hA.drewN _) fj.out).mono ?_
                  rintro e w' ⟨q1, rfl, rfl⟩
                  go_wp2_with fail
                  refine (flows_s (hA.drewN _) f1.out).mono ?_
                  rintro e w' ⟨rfl, rfl⟩
                  go_wp2_with fail
                  refine (flows_s (hA.drewN _) fp.out).mono ?_
                  rintro e w' ⟨rfl, rfl⟩
                  go_wp2_with fail
                  refine (flows_s (hA.drewN _) fq.out).mono ?_
                  rintro e w' ⟨rfl, rfl⟩
                  go_wp2_with fail
                  refine (meet_q (hA.drewN _) fm.out).mono ?_
                  rintro e w' ⟨q2, rfl, rfl⟩
                  go_wp2_with fail
                  refine (flows_s (hA.drewN _) f2.out).mono ?_
                  rintro e w' ⟨rfl, rfl⟩
                  go_wp2_with fail
                  refine (flows_s (hA.drewN _) fs.out).mono ?_
                  rintro e w' ⟨rfl, rfl⟩
                  go_wp2_with fail
                  refine (flows_s (hA.drewN _) ft.out).mono ?_
                  rintro e w' ⟨rfl, rfl⟩
                  go_wp2_with fail
                  go_roundw
                  case rel => exact ⟨b + 1, by omega, by go_num, _, rfl⟩
                  case measure => simp [intOf]; omega
            | true =>
              cases s with
              | false =>
                go_wp2_with fail
                refine (join_q (hA.drewN _) fj.out).mono ?_
                rintro e w' ⟨q1, rfl, rfl⟩
                go_wp2_with fail
                refine (flows_s (hA.drewN _) f1.out).mono ?_
                rintro e w' ⟨rfl, rfl⟩
                go_wp2_with fail
                refine (flows_s (hA.drewN _) fp.out).mono ?_
                rintro e w' ⟨rfl, rfl⟩
                go_wp2_with fail
                refine (flows_s (hA.drewN _) fq.out).mono ?_
                rintro e w' ⟨rfl, rfl⟩
                go_wp2_with fail
                refine (meet_q (hA.drewN _) fm.out).mono ?_
                rintro e w' ⟨q2, rfl, rfl⟩
                go_wp2_with fail
                refine (flows_s (hA.drewN _) f2.out).mono ?_
                rintro e w' ⟨rfl, rfl⟩
                go_wp2_with fail
                refine (flows_s (hA.drewN _) fs.out).mono ?_
                rintro e w' ⟨rfl, rfl⟩
                go_wp2_with fail
                go_roundw
                case rel => exact ⟨b + 1, by omega, by go_num, _, rfl⟩
                case measure => simp [intOf]; omega
              | true =>
                cases t with
                | false =>
                  go_wp2_with fail
                  refine (join_q (hA.drewN _) fj.out).mono ?_
                  rintro e w' ⟨q1, rfl, rfl⟩
                  go_wp2_with fail
                  refine (flows_s (hA.drewN _) f1.out).mono ?_
                  rintro e w' ⟨rfl, rfl⟩
                  go_wp2_with fail
                  refine (flows_s (hA.drewN _) fp.out).mono ?_
                  rintro e w' ⟨rfl, rfl⟩
                  go_wp2_with fail
                  refine (flows_s (hA.drewN _) fq.out).mono ?_
                  rintro e w' ⟨rfl, rfl⟩
                  go_wp2_with fail
                  refine (meet_q (hA.drewN _) fm.out).mono ?_
                  rintro e w' ⟨q2, rfl, rfl⟩
                  go_wp2_with fail
                  refine (flows_s (hA.drewN _) f2.out).mono ?_
                  rintro e w' ⟨rfl, rfl⟩
                  go_wp2_with fail
                  refine (flows_s (hA.drewN _) fs.out).mono ?_
                  rintro e w' ⟨rfl, rfl⟩
                  go_wp2_with fail
                  refine (flows_s (hA.drewN _) ft.out).mono ?_
                  rintro e w' ⟨rfl, rfl⟩
                  go_wp2_with fail
                  go_roundw
                  case rel => exact ⟨b + 1, by omega, by go_num, _, rfl⟩
                  case measure => simp [intOf]; omega
                | true =>
                  go_wp2_with fail
                  refine (join_q (hA.drewN _) fj.out).mono ?_
                  rintro e w' ⟨q1, rfl, rfl⟩
                  go_wp2_with fail
                  refine (flows_s (hA.drewN _) f1.out).mono ?_
                  rintro e w' ⟨rfl, rfl⟩
                  go_wp2_with fail
                  refine (flows_s (hA.drewN _) fp.out).mono ?_
                  rintro e w' ⟨rfl, rfl⟩
                  go_wp2_with fail
                  refine (flows_s (hA.drewN _) fq.out).mono ?_
                  rintro e w' ⟨rfl, rfl⟩
                  go_wp2_with fail
                  refine (meet_q (hA.drewN _) fm.out).mono ?_
                  rintro e w' ⟨q2, rfl, rfl⟩
                  go_wp2_with fail
                  refine (flows_s (hA.drewN _) f2.out).mono ?_
                  rintro e w' ⟨rfl, rfl⟩
                  go_wp2_with fail
                  refine (flows_s (hA.drewN _) fs.out).mono ?_
                  rintro e w' ⟨rfl, rfl⟩
                  go_wp2_with fail
                  refine (flows_s (hA.drewN _) ft.out).mono ?_
                  rintro e w' ⟨rfl, rfl⟩
                  go_wp2_with fail
                  go_roundw
                  case rel => exact ⟨b + 1, by omega, by go_num, _, rfl⟩
                  case measure => simp [intOf]; omega
        · obtain rfl : b = n := by omega
          have hb9 : ¬ ((b : Int) < b) := by omega
          go_wp2_with fail
          go_roundw
          case rel => exact ⟨a + 1, by omega, by go_num, _, rfl⟩
          case measure => simp [intOf]; omega
    · obtain rfl : a = n := by omega
      have ha9 : ¬ ((a : Int) < a) := by omega
      go_wp2_with fail
      go_ret
      exact ⟨rfl, below_drewN hb _⟩
theorem walk (W : World) {n : Int} {ao : Option Addr} {len cap : Nat} {ps : List (Int × Int)} (hps : PairsIn W ao len ps) (c : Int) :
    Calls Try.prog 7 #[.int .i64 n, .slice ao len cap, .int .i64 c] W fun e w' => e = .returned (.bool true) ∧ Below W.heap.size W w' := by
  by_cases h : Lat.newE n ps = 0
  · obtain ⟨m, rfl⟩ := Int.eq_ofNat_of_zero_le (show 0 ≤ n by have := (Lat.newE_zero h).1; omega)
    exact walk_yes W hps c h
  · exact walk_no W hps c h
end Go.Proofs.Ytchdalicoafamaa.bounds
