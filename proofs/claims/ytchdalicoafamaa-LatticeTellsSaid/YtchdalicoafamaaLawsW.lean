/-
  The statement LatticeLaws: for every number of levels and every pairs the law returns true.
-/
import Derived.Test.YtchdalicoafamaaRows
import Derived.Test.YtchdalicoafamaaBase
import Derived.Test.YtchdalicoafamaaLat
import Derived.Test.YtchdalicoafamaaClosed
import Derived.Test.YtchdalicoafamaaLattice
import Derived.Test.YtchdalicoafamaaLists
import Derived.Test.YtchdalicoafamaaMake
import Derived.Test.YtchdalicoafamaaSame
import Derived.Test.YtchdalicoafamaaJoins
import Derived.Test.YtchdalicoafamaaFixedL
import Derived.Test.YtchdalicoafamaaArgsL
import Derived.Deep.QuietTactic
import Derived.BigQuiet
import Derived.WalkSmall
import Derived.ChangeKeysEq
import Derived.Deep.Slices
import Derived.OpenShut
import Derived.Deep.LoopGhost
import Derived.Deep.CutRange
namespace Go.Proofs.Ytchdalicoafamaa
open Go.RowKit Base Go.ChangeShapes Go.WideShapes
namespace laws
section
variable {w : World} {g n : Nat} {u d : Nat → BitVec 8}
theorem flows_q (h : LatAt w g n u d) {a b : Int} {r : Bool} (hr : Lat.flowsB n u a b = r) : Calls Try.prog 12 #[.pointer (some ⟨g, 0, none⟩), .int .i64 a, .int .i64 b] w fun e w' => ∃ k, e = .returned (.bool r) ∧ w' = w.drewN k := by
  subst hr
  exact (flows_any h a b).mono fun e w' ⟨he, hw⟩ => ⟨0, he, hw⟩
theorem join_q (h : LatAt w g n u d) {a b r : Int} (hr : Lat.joinF n u a b = r) : Calls Try.prog 15 #[.pointer (some ⟨g, 0, none⟩), .int .i64 a, .int .i64 b] w fun e w' => ∃ k, e = .returned (.int .i64 r) ∧ w' = w.drewN k := by
  subst hr
  exact (join_any h a b).mono fun e w' ⟨he, k, hw⟩ => ⟨k, he, hw⟩
theorem meet_q (h : LatAt w g n u d) {a b r : Int} (hr : Lat.joinF n d a b = r) : Calls Try.prog 16 #[.pointer (some ⟨g, 0, none⟩), .int .i64 a, .int .i64 b] w fun e w' => ∃ k, e = .returned (.int .i64 r) ∧ w' = w.drewN k := by
  subst hr
  exact (meet_any h a b).mono fun e w' ⟨he, k, hw⟩ => ⟨k, he, hw⟩
theorem top_q (h : LatAt w g n u d) {r : Int} (hr : Lat.endF n d (Lat.allF n) = r) : Calls Try.prog 13 #[.pointer (some ⟨g, 0, none⟩)] w fun e w' => ∃ k, e = .returned (.int .i64 r) ∧ w' = w.drewN k := by
  subst hr
  exact (top_any h).mono fun e w' ⟨he, k, hw⟩ => ⟨k, he, hw⟩
theorem bottom_q (h : LatAt w g n u d) {r : Int} (hr : Lat.endF n u (Lat.allF n) = r) : Calls Try.prog 14 #[.pointer (some ⟨g, 0, none⟩)] w fun e w' => ∃ k, e = .returned (.int .i64 r) ∧ w' = w.drewN k := by
  subst hr
  exact (bottom_any h).mono fun e w' ⟨he, k, hw⟩ => ⟨k, he, hw⟩
end
theorem eq_yes {x y : Int} (h : x = y) : (x == y) = true := by rw [h]; exact beq_self_eq_true _
theorem eq_no {x y : Int} (h : x ≠ y) : (x == y) = false := by rw [beq_eq_false_iff_ne]; exact h
theorem ne0 {x : Int} (h : x ≠ 0) : (x != 0) = true := by rw [bne_iff_ne]; exact h
set_option maxHeartbeats 20000000 in
set_option maxRecDepth 8000 in
theorem walk_no (W : World) {n : Int} {ao : Option Addr} {len cap : Nat} {ps : List (Int × Int)} (hps : PairsIn W ao len ps) (h0 : Lat.newE n ps ≠ 0) :
    Calls Try.prog 3 #[.int .i64 n, .slice ao len cap] W fun e w' => e = .returned (.bool true) ∧ Below W.heap.size W w' := by
  have ht := ne0 h0
  go_enter Try.func3, Try.ntmps3
  go_wp2_with fail
  refine (lnew_any W hps).mono ?_
  rintro e w1 hm
  obtain ⟨rfl, hb⟩ := made_no hm rfl h0
  generalize Lat.newE n ps = ec at *
  go_wp2_with fail
  refine (lfixed_any w1).mono ?_
  rintro e w2 ⟨rfl, hb1⟩
  have hb := hb.trans (hb1.mono hb.size)
  go_wp2_with fail
  go_ret
  exact ⟨rfl, hb⟩
set_option maxHeartbeats 20000000 in
set_option maxRecDepth 8000 in
theorem walk_yes (W : World) {n : Nat} {ao : Option Addr} {len cap : Nat} {ps : List (Int × Int)} (hps : PairsIn W ao len ps) (h0 : Lat.newE n ps = 0) :
    Calls Try.prog 3 #[.int .i64 n, .slice ao len cap] W fun e w' => e = .returned (.bool true) ∧ Below W.heap.size W w' := by
  have hok := Lat.ok_of h0
  go_enter Try.func3, Try.ntmps3
  go_wp2_with fail
  refine (lnew_any W hps).mono ?_
  rintro e w1 hm
  obtain ⟨g, rfl, hb, hg, hA⟩ := made_ok hm h0
  generalize Lat.up n ps = u at *
  generalize Lat.down n u = d at *
  clear hm h0 hps
  have h8 := hok.le8
  have HOK := Lib.hid hok
  clear hok
  go_wp2_with fail
  refine (lfixed_any w1).mono ?_
  rintro e w2 ⟨rfl, hb1⟩
  have hA := hA.below hb1 hA.lt
  have hb := hb.trans (hb1.mono hb.size)
  clear hb1
  go_wp2_with fail
  go_loopw [7] (fun i wr => ∃ a : Nat, a ≤ n ∧ i = .int .i64 a ∧ LatAt wr g n u d ∧ Below W.heap.size W wr) (fun i _ => n - (intOf i).toNat)
  case atStart => exact ⟨0, Nat.zero_le _, rfl, hA, hb⟩
  case round =>
    clear hA hb
    obtain ⟨a, ha, rfl, hA, hb⟩ := hrel
    by_cases hlt : a < n
    · obtain ⟨t, htl, he, htop⟩ := Lat.top_is HOK.out
      obtain ⟨z, hzl, hez, hbot⟩ := Lat.bottom_is HOK.out
      have f1 : Lat.flowsB n u (a : Int) (a : Int) = true := by rw [Lat.flowsB_is hlt hlt]; exact HOK.out.refl a hlt
      have f2 : Lat.flowsB n u (a : Int) (t : Int) = true := by rw [Lat.flowsB_is hlt htl]; exact htop a hlt
      have f3 : Lat.flowsB n u (z : Int) (a : Int) = true := by rw [Lat.flowsB_is hzl hlt]; exact hbot a hlt
      clear htop hbot
      replace f1 := Lib.hid f1
      replace f2 := Lib.hid f2
      replace f3 := Lib.hid f3
      replace he := Lib.hid he
      replace hez := Lib.hid hez
      go_wp2_with fail
      refine (flows_q hA f1.out).mono ?_
      rintro e w' ⟨q1, rfl, rfl⟩
      go_wp2_with fail
      refine (top_q (hA.drewN _) he.out).mono ?_
      rintro e w' ⟨q2, rfl, rfl⟩
      go_wp2_with fail
      refine (flows_q (hA.drewN _) f2.out).mono ?_
      rintro e w' ⟨q3, rfl, rfl⟩
      go_wp2_with fail
      refine (bottom_q (hA.drewN _) hez.out).mono ?_
      rintro e w' ⟨q4, rfl, rfl⟩
      go_wp2_with fail
      refine (flows_q (hA.drewN _) f3.out).mono ?_
      rintro e w' ⟨q5, rfl, rfl⟩
      go_wp2_with fail
      have hA := hA.drewN (q1 + q2 + q3 + q4 + q5)
      have hb := below_drewN hb (q1 + q2 + q3 + q4 + q5)
      generalize wr.drewN (q1 + q2 + q3 + q4 + q5) = w3 at *
      clear f1 f2 f3 he hez
      obtain ⟨wo, rfl⟩ : ∃ wo : World, wo = w3 := ⟨_, rfl⟩
      go_loopw [8] (fun i wr => ∃ b : Nat, b ≤ n ∧ i = .int .i64 b ∧ LatAt wr g n u d ∧ Below W.heap.size W wr) (fun i _ => n - (intOf i).toNat)
      case atStart => exact ⟨0, Nat.zero_le _, rfl, hA, hb⟩
      case round =>
        clear hA hb
        obtain ⟨b, hb0, rfl, hA, hb⟩ := hrel
        by_cases hltb : b < n
        · obtain ⟨j, m, hj, hm, f1, f2, f3, f4, f5, f6, f7, f8, f9, f10, f11, f12, f13⟩ := Lat.two HOK.out hlt hltb
          have H11 := Lib.hid f11
          have H12 := Lib.hid f12
          have H13 := Lib.hid f13
          clear f11 f12 f13
          replace f1 := Lib.hid f1
          replace f2 := Lib.hid f2
          replace f3 := Lib.hid f3
          replace f4 := Lib.hid f4
          replace f5 := Lib.hid f5
          replace f6 := Lib.hid f6
          replace f9 := Lib.hid f9
          replace f10 := Lib.hid f10
          go_wp2_with fail
          refine (join_q hA f1.out).mono ?_
          rintro e w' ⟨q1, rfl, rfl⟩
          go_wp2_with fail
          refine (meet_q (hA.drewN _) f2.out).mono ?_
          rintro e w' ⟨q2, rfl, rfl⟩
          go_upto_region 15 with fail
          have hA := hA.drewN (q1 + q2)
          have hb := below_drewN hb (q1 + q2)
          generalize wr.drewN (q1 + q2) = w3 at *
          clear f1 f2
          go_cut [156] from 59 to 210 (fun s156 w => s156 = .bool false ∧ LatAt w g n u d ∧ Below W.heap.size W w)
          case first =>
            cases hr : Lat.flowsB n u (a : Int) (b : Int) with
            | true =>
              rw [hr] at f7 f8
              have e7 := eq_yes (show (j : Int) = b by have := of_decide_eq_true f7.symm; omega)
              have e8 := eq_yes (show (m : Int) = a by have := of_decide_eq_true f8.symm; omega)
              clear f7 f8
              have HR := Lib.hid hr
              by_cases hab : a = b
              · have hn := ne_no (show (a : Int) = b by omega)
                clear hab hr
                go_wp2_with fail
                refine (join_q hA f3.out).mono ?_
                rintro e w' ⟨q1, rfl, rfl⟩
                go_wp2_with fail
                refine (meet_q (hA.drewN _) f4.out).mono ?_
                rintro e w' ⟨q2, rfl, rfl⟩
                go_wp2_with fail
                refine (join_q (hA.drewN _) f5.out).mono ?_
                rintro e w' ⟨q3, rfl, rfl⟩
                go_wp2_with fail
                refine (meet_q (hA.drewN _) f6.out).mono ?_
                rintro e w' ⟨q4, rfl, rfl⟩
                go_wp2_with fail
                refine (flows_q (hA.drewN _) HR.out).mono ?_
                rintro e w' ⟨q5, rfl, rfl⟩
                go_wp2_with fail
                refine (flows_q (hA.drewN _) HR.out).mono ?_
                rintro e w' ⟨q6, rfl, rfl⟩
                go_wp2_with fail
                refine (flows_q (hA.drewN _) f9.out).mono ?_
                rintro e w' ⟨q7, rfl, rfl⟩
                go_wp2_with fail
                refine (flows_q (hA.drewN _) f10.out).mono ?_
                rintro e w' ⟨q8, rfl, rfl⟩
                go_wp2_with fail
                go_meet
                case rel => exact ⟨rfl, hA.drewN _, below_drewN hb _⟩
              · have hn := ne_yes (show (a : Int) ≠ b by omega)
                have hs : Hid (Lat.flowsB n u (b : Int) (a : Int) = false) := by
                  show _ = _
                  cases hq : Lat.flowsB n u (b : Int) (a : Int)
                  · rfl
                  · exact absurd (H11.out hr hq) hab
                clear hab hr
                go_wp2_with fail
                refine (join_q hA f3.out).mono ?_
                rintro e w' ⟨q1, rfl, rfl⟩
                go_wp2_with fail
                refine (meet_q (hA.drewN _) f4.out).mono ?_
                rintro e w' ⟨q2, rfl, rfl⟩
                go_wp2_with fail
                refine (join_q (hA.drewN _) f5.out).mono ?_
                rintro e w' ⟨q3, rfl, rfl⟩
                go_wp2_with fail
                refine (meet_q (hA.drewN _) f6.out).mono ?_
                rintro e w' ⟨q4, rfl, rfl⟩
                go_wp2_with fail
                refine (flows_q (hA.drewN _) HR.out).mono ?_
                rintro e w' ⟨q5, rfl, rfl⟩
                go_wp2_with fail
                refine (flows_q (hA.drewN _) HR.out).mono ?_
                rintro e w' ⟨q6, rfl, rfl⟩
                go_wp2_with fail
                refine (flows_q (hA.drewN _) HR.out).mono ?_
                rintro e w' ⟨q7, rfl, rfl⟩
                go_wp2_with fail
                refine (flows_q (hA.drewN _) hs.out).mono ?_
                rintro e w' ⟨q8, rfl, rfl⟩
                go_wp2_with fail
                refine (flows_q (hA.drewN _) f9.out).mono ?_
                rintro e w' ⟨q9, rfl, rfl⟩
                go_wp2_with fail
                refine (flows_q (hA.drewN _) f10.out).mono ?_
                rintro e w' ⟨q10, rfl, rfl⟩
                go_wp2_with fail
                go_meet
                case rel => exact ⟨rfl, hA.drewN _, below_drewN hb _⟩
            | false =>
              rw [hr] at f7 f8
              have e7 := eq_no (show (j : Int) ≠ b by have := of_decide_eq_false f7.symm; omega)
              have e8 := eq_no (show (m : Int) ≠ a by have := of_decide_eq_false f8.symm; omega)
              clear f7 f8
              have HR := Lib.hid hr
              by_cases hab : a = b
              · exfalso
                have h1 := HOK.out.refl a hlt
                rw [Lat.flowsB_is hlt hltb, ← hab, h1] at hr
                cases hr
              · have hn := ne_yes (show (a : Int) ≠ b by omega)
                clear hab hr
                go_wp2_with fail
                refine (join_q hA f3.out).mono ?_
                rintro e w' ⟨q1, rfl, rfl⟩
                go_wp2_with fail
                refine (meet_q (hA.drewN _) f4.out).mono ?_
                rintro e w' ⟨q2, rfl, rfl⟩
                go_wp2_with fail
                refine (join_q (hA.drewN _) f5.out).mono ?_
                rintro e w' ⟨q3, rfl, rfl⟩
                go_wp2_with fail
                refine (meet_q (hA.drewN _) f6.out).mono ?_
                rintro e w' ⟨q4, rfl, rfl⟩
                go_wp2_with fail
                refine (flows_q (hA.drewN _) HR.out).mono ?_
                rintro e w' ⟨q5, rfl, rfl⟩
                go_wp2_with fail
                refine (flows_q (hA.drewN _) HR.out).mono ?_
                rintro e w' ⟨q6, rfl, rfl⟩
                go_wp2_with fail
                refine (flows_q (hA.drewN _) HR.out).mono ?_
                rintro e w' ⟨q7, rfl, rfl⟩
                go_wp2_with fail
                refine (flows_q (hA.drewN _) f9.out).mono ?_
                rintro e w' ⟨q8, rfl, rfl⟩
                go_wp2_with fail
                refine (flows_q (hA.drewN _) f10.out).mono ?_
                rintro e w' ⟨q9, rfl, rfl⟩
                go_wp2_with fail
                go_meet
                case rel => exact ⟨rfl, hA.drewN _, below_drewN hb _⟩
          case rest =>
            obtain ⟨rfl, hA, hb⟩ := hcut
            clear f3 f4 f5 f6 f7 f8 f9 f10 H11
            go_wp2_with fail
            obtain ⟨wp, rfl⟩ : ∃ wp : World, wp = wc := ⟨_, rfl⟩
            go_loopw [11] (fun i wr => ∃ c : Nat, c ≤ n ∧ i = .int .i64 c ∧ LatAt wr g n u d ∧ Below W.heap.size W wr) (fun i _ => n - (intOf i).toNat)
            case atStart => exact ⟨0, Nat.zero_le _, rfl, hA, hb⟩
            case round =>
              clear hA hb
              obtain ⟨c, hc0, rfl, hA, hb⟩ := hrel
              by_cases hltc : c < n
              · obtain ⟨x, y, z, o, k1, k2, k3, k4, k5, k6⟩ := H12.out c hltc
                replace k1 := Lib.hid k1
                replace k2 := Lib.hid k2
                replace k3 := Lib.hid k3
                replace k4 := Lib.hid k4
                replace k5 := Lib.hid k5
                replace k6 := Lib.hid k6
                cases hr : Lat.flowsB n u (a : Int) (b : Int) with
                | true =>
                  cases ht : Lat.flowsB n u (b : Int) (c : Int) with
                  | true =>
                    have hv := Lib.hid (H13.out c hltc hr ht)
                    replace hr := Lib.hid hr
                    replace ht := Lib.hid ht
                    go_wp2_with fail
                    refine (join_q hA k1.out).mono ?_
                    rintro e w' ⟨q1, rfl, rfl⟩
                    go_wp2_with fail
                    refine (join_q (hA.drewN _) k2.out).mono ?_
                    rintro e w' ⟨q2, rfl, rfl⟩
                    go_wp2_with fail
                    refine (join_q (hA.drewN _) k3.out).mono ?_
                    rintro e w' ⟨q3, rfl, rfl⟩
                    go_wp2_with fail
                    refine (meet_q (hA.drewN _) k4.out).mono ?_
                    rintro e w' ⟨q4, rfl, rfl⟩
                    go_wp2_with fail
                    refine (meet_q (hA.drewN _) k5.out).mono ?_
                    rintro e w' ⟨q5, rfl, rfl⟩
                    go_wp2_with fail
                    refine (meet_q (hA.drewN _) k6.out).mono ?_
                    rintro e w' ⟨q6, rfl, rfl⟩
                    go_wp2_with fail
                    refine (flows_q (hA.drewN _) hr.out).mono ?_
                    rintro e w' ⟨q7, rfl, rfl⟩
                    go_wp2_with fail
                    refine (flows_q (hA.drewN _) ht.out).mono ?_
                    rintro e w' ⟨q8, rfl, rfl⟩
                    go_wp2_with fail
                    refine (flows_q (hA.drewN _) hv.out).mono ?_
                    rintro e w' ⟨q9, rfl, rfl⟩
                    go_wp2_with fail
                    have hA := hA.drewN (q1 + q2 + q3 + q4 + q5 + q6 + q7 + q8 + q9)
                    have hb := below_drewN hb (q1 + q2 + q3 + q4 + q5 + q6 + q7 + q8 + q9)
                    generalize wr.drewN (q1 + q2 + q3 + q4 + q5 + q6 + q7 + q8 + q9) = w3 at *
                    go_roundw
                    case rel => exact ⟨c + 1, by omega, by go_num, hA, hb⟩
                    case measure => simp [intOf]; omega
                  | false =>
                    replace hr := Lib.hid hr
                    replace ht := Lib.hid ht
                    go_wp2_with fail
                    refine (join_q hA k1.out).mono ?_
                    rintro e w' ⟨q1, rfl, rfl⟩
                    go_wp2_with fail
                    refine (join_q (hA.drewN _) k2.out).mono ?_
                    rintro e w' ⟨q2, rfl, rfl⟩
                    go_wp2_with fail
                    refine (join_q (hA.drewN _) k3.out).mono ?_
                    rintro e w' ⟨q3, rfl, rfl⟩
                    go_wp2_with fail
                    refine (meet_q (hA.drewN _) k4.out).mono ?_
                    rintro e w' ⟨q4, rfl, rfl⟩
                    go_wp2_with fail
                    refine (meet_q (hA.drewN _) k5.out).mono ?_
                    rintro e w' ⟨q5, rfl, rfl⟩
                    go_wp2_with fail
                    refine (meet_q (hA.drewN _) k6.out).mono ?_
                    rintro e w' ⟨q6, rfl, rfl⟩
                    go_wp2_with fail
                    refine (flows_q (hA.drewN _) hr.out).mono ?_
                    rintro e w' ⟨q7, rfl, rfl⟩
                    go_wp2_with fail
                    refine (flows_q (hA.drewN _) ht.out).mono ?_
                    rintro e w' ⟨q8, rfl, rfl⟩
                    go_wp2_with fail
                    have hA := hA.drewN (q1 + q2 + q3 + q4 + q5 + q6 + q7 + q8)
                    have hb := below_drewN hb (q1 + q2 + q3 + q4 + q5 + q6 + q7 + q8)
                    generalize wr.drewN (q1 + q2 + q3 + q4 + q5 + q6 + q7 + q8) = w3 at *
                    go_roundw
                    case rel => exact ⟨c + 1, by omega, by go_num, hA, hb⟩
                    case measure => simp [intOf]; omega
                | false =>
                  replace hr := Lib.hid hr
                  go_wp2_with fail
                  refine (join_q hA k1.out).mono ?_
                  rintro e w' ⟨q1, rfl, rfl⟩
                  go_wp2_with fail
                  refine (join_q (hA.drewN _) k2.out).mono ?_
                  rintro e w' ⟨q2, rfl, rfl⟩
                  go_wp2_with fail
                  refine (join_q (hA.drewN _) k3.out).mono ?_
                  rintro e w' ⟨q3, rfl, rfl⟩
                  go_wp2_with fail
                  refine (meet_q (hA.drewN _) k4.out).mono ?_
                  rintro e w' ⟨q4, rfl, rfl⟩
                  go_wp2_with fail
                  refine (meet_q (hA.drewN _) k5.out).mono ?_
                  rintro e w' ⟨q5, rfl, rfl⟩
                  go_wp2_with fail
                  refine (meet_q (hA.drewN _) k6.out).mono ?_
                  rintro e w' ⟨q6, rfl, rfl⟩
                  go_wp2_with fail
                  refine (flows_q (hA.drewN _) hr.out).mono ?_
                  rintro e w' ⟨q7, rfl, rfl⟩
                  go_wp2_with fail
                  have hA := hA.drewN (q1 + q2 + q3 + q4 + q5 + q6 + q7)
                  have hb := below_drewN hb (q1 + q2 + q3 + q4 + q5 + q6 + q7)
                  generalize wr.drewN (q1 + q2 + q3 + q4 + q5 + q6 + q7) = w3 at *
                  go_roundw
                  case rel => exact ⟨c + 1, by omega, by go_num, hA, hb⟩
                  case measure => simp [intOf]; omega
              · obtain rfl : c = n := by omega
                go_wp2_with fail
                go_roundw
                case rel => exact ⟨b + 1, by omega, by go_num, hA, hb⟩
                case measure => simp [intOf]; omega
        · obtain rfl : b = n := by omega
          go_wp2_with fail
          go_roundw
          case rel => exact ⟨a + 1, by omega, by go_num, hA, hb⟩
          case measure => simp [intOf]; omega
    · obtain rfl : a = n := by omega
      go_wp2_with fail
      go_ret
      exact ⟨rfl, hb⟩
end laws
end Go.Proofs.Ytchdalicoafamaa
