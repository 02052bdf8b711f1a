/-
  The walk of CodeJoins: for every two strings within the reach and every script the call returns true.
-/
import Derived.Test.YtbgnffgceeclhaaRows
import Derived.Test.YtbgnffgceeclhaaBase
import Derived.Test.YtbgnffgceeclhaaPut
import Derived.Test.YtbgnffgceeclhaaBits
import Derived.Test.YtbgnffgceeclhaaReader
import Derived.Test.YtbgnffgceeclhaaFixed
import Derived.Test.YtbgnffgceeclhaaOps
import Derived.Test.YtbgnffgceeclhaaShift
import Derived.Test.YtbgnffgceeclhaaCallsV
import Derived.Deep.QuietTactic
import Derived.BigQuiet
import Derived.WalkSmall
import Derived.Deep.LoopGhost
import Derived.Deep.CutRange
import Derived.Deep.RegionLaw
import Derived.Deep.CutBlock
namespace Go.Proofs.Ytbgnffgceeclhaa.joins
open Go.RowKit Base
set_option maxHeartbeats 20000000 in
set_option maxRecDepth 8000 in
theorem walk (W : World) {a b : ByteArray} (ha : a.size ≤ 140737488355327) (hb0 : b.size ≤ 140737488355327) {ao : Option Addr} {len cap : Nat} {ps : List (Int × Int)} (hps : OpsIn W ao len ps) (hlm : len ≤ maxLen) :
    Calls Try.prog 7 #[.string a, .string b, .slice ao len cap] W fun e w' => e = .returned (.bool true) ∧ Below W.heap.size W w' := by
  unfold maxLen at hlm
  have hsum : ¬ 9223372036854775807 < a.size + b.size := by omega
  obtain ⟨fb1, fb2, hS0⟩ := first_bytes a b (by omega)
  have hab : (a ++ b).size ≤ maxLen := by rw [ByteArray.size_append]; unfold maxLen; omega
  have hsz : (a ++ b).size = a.size + b.size := ByteArray.size_append
  go_enter Try.func7, Try.ntmps7
  go_wp2_with fail
  refine (new_any (a ++ b) W hab).mono ?_
  rintro e w1 ⟨rfl, hr, hb1, hz1⟩
  go_wp2_with fail
  refine (new_any b w1 (by unfold maxLen; omega)).mono ?_
  rintro e w2 ⟨rfl, hx, hb2, hz2⟩
  replace hr := rdAt_below hr hb2
  replace hb2 := hb1.trans (hb2.mono hb1.size)
  have hgr : W.heap.size ≤ W.heap.size := Nat.le_refl _
  have hgx : W.heap.size ≤ w1.heap.size := hb1.size
  have hrx : W.heap.size ≠ w1.heap.size := by omega
  have hxr := hrx.symm
  have hxl := hx.cells.2.2
  have hrl := hr.cells.2.2
  generalize w1.heap.size = gx at *
  clear hb1 hz1 hz2
  go_wp2_with fail
  refine (fixed_any w2).mono ?_
  rintro e w3 ⟨rfl, hb3⟩
  have hl3 := hb3.size
  replace hr := rdAt_below hr hb3
  replace hx := rdAt_below hx hb3
  replace hb3 := hb2.trans (hb3.mono hb2.size)
  clear hb2
  have fb3 : Hid ((⟨a ++ b, 0, 0⟩ : Rd).bytesV a.size = a) := fb1
  go_wp2_with fail
  refine (bytes_v hr fb3.out).mono ?_
  rintro e w4 ⟨rfl, hr4, hg4⟩
  rw [fb2] at hr4
  have hx4 := rdAt_grow hx hg4 hxr
  have hl4 := hg4.size
  have hb4 := below_grow hb3 hg4 hb3.size hgr
  clear hr hx hg4 hb3
  go_wp2_with fail
  refine (at_any hr4).mono ?_
  rintro e w' ⟨rfl, rfl⟩
  go_wp2_with fail
  refine (left_any hr4).mono ?_
  rintro e w' ⟨rfl, q, rfl⟩
  rw [show (((⟨a ++ b, a.size, 0⟩ : Rd).s.size : Int) - ((⟨a ++ b, a.size, 0⟩ : Rd).at_ : Int)) = (b.size : Int) from by show ((a ++ b).size : Int) - (a.size : Int) = b.size; omega]
  replace hr4 := rdAt_drewN hr4 q
  replace hx4 := rdAt_drewN hx4 q
  replace hb4 := below_drewN hb4 q
  replace hl4 : w3.heap.size ≤ (w4.drewN q).heap.size := hl4
  generalize w4.drewN q = w5 at *
  go_wp2_with fail
  go_loopw [9] (fun i wr => ∃ k : Nat, k ≤ len ∧ i = .int .i64 k ∧ ∃ r x, RdAt wr W.heap.size r ∧ RdAt wr gx x ∧ Sh a r x ∧ Below W.heap.size W wr) (fun i _ => len - (intOf i).toNat)
  case atStart => exact ⟨0, Nat.zero_le _, rfl, _, _, hr4, hx4, hS0, hb4⟩
  case round =>
    clear hr4 hx4 hb4 hS0 hrl hxl
    obtain ⟨k, hk, rfl, r, x, hr, hx, hS, hb⟩ := hrel
    by_cases hlt : k < len
    · have hklt : (k : Int) < len := by omega
      obtain ⟨p, kind, n, rfl, _, _, c0, c1⟩ := (hps.below hb (Nat.le_refl _)).at_ hlt
      have hrl := hr.cells.2.2
      have hxl := hx.cells.2.2
      go_upto_block 2 with fail
      obtain ⟨co0, co1⟩ := ops_cells wr kind n
      have hb1 := hb.alloc hb.size (.cells #[.int .i64 kind, .int .i64 n] 45)
      have hr1 := rdAt_below hr ((Below.refl wr.heap.size wr).alloc (Nat.le_refl _) (.cells #[.int .i64 kind, .int .i64 n] 45))
      have hx1 := rdAt_below hx ((Below.refl wr.heap.size wr).alloc (Nat.le_refl _) (.cells #[.int .i64 kind, .int .i64 n] 45))
      have hB1 := hb1.size
      have hor : some wr.heap.size ≠ some W.heap.size := fun e => by have := Option.some.inj e; omega
      have hox : some wr.heap.size ≠ some gx := fun e => by have := Option.some.inj e; omega
      clear hr hx hb c0 c1
      generalize wr.alloc (.cells #[.int .i64 kind, .int .i64 n] 45) = w1 at *
      generalize wr.heap.size = o at *
      go_cut [11] from 52 to 142 (fun s wx => s = .bool true ∧ ∃ r x, RdAt wx W.heap.size r ∧ RdAt wx gx x ∧ Sh a r x ∧ Below W.heap.size W wx)
      case first =>
        by_cases h0 : kind = 0
        · subst h0
          obtain ⟨hv, hS2⟩ := Sh.num hS n
          obtain ⟨v, hvx⟩ : ∃ v, x.numV n = v := ⟨_, rfl⟩
          rw [hvx] at hv
          replace hv := Lib.hid hv
          replace hvx := Lib.hid hvx
          go_upto_region 13 with fail
          replace hr1 := rdAt_drew hr1
          replace hx1 := rdAt_drew hx1
          replace co1 : w1.drew.cell? ⟨o, 1, none⟩ = some (.int .i64 n) := co1
          replace hb1 := hb1.drew
          replace hB1 : W.heap.size ≤ w1.drew.heap.size := hB1
          go_region_law (first
            | (go_simp
               go_at_call_of 19 (Value.pointer (some ⟨W.heap.size, 0, none⟩))
               refine (num_v hr1' hv.out).mono ?_
               rintro e w5 ⟨rfl, hrF, hg5⟩
               have hxF := rdAt_grow hx2 hg5 hxr
               have hbF := below_grow hb4 hg5 hB4 hgr
               clear hg5 hx2 hr1' hb4 hB4 co4)
            | (go_simp
               go_at_call_of 19 (Value.pointer (some ⟨W.heap.size, 0, none⟩))
               refine (num_v hr1 hv.out).mono ?_
               rintro e w4 ⟨rfl, hr2, hg4⟩
               have hx1' := rdAt_grow hx1 hg4 hxr
               have co4 := hg4.cell co1 hor
               have hb4 := below_grow hb1 hg4 hB1 hgr
               have hB4 := Nat.le_trans hB1 hg4.size
               clear hg4 hr1 hx1)
            | (go_simp
               go_at_call_of 19 (Value.pointer (some ⟨gx, 0, none⟩))
               refine (num_v hx1' hvx.out).mono ?_
               rintro e w5 ⟨rfl, hxF, hg5⟩
               have hrF := rdAt_grow hr2 hg5 hrx
               have hbF := below_grow hb4 hg5 hB4 hgx
               clear hg5 hr2 hx1' hb4 hB4 co4)
            | (go_simp
               go_at_call_of 19 (Value.pointer (some ⟨gx, 0, none⟩))
               refine (num_v hx1 hvx.out).mono ?_
               rintro e w4 ⟨rfl, hx2, hg4⟩
               have hr1' := rdAt_grow hr1 hg4 hrx
               have co4 := hg4.cell co1 hox
               have hb4 := below_grow hb1 hg4 hB1 hgx
               have hB4 := Nat.le_trans hB1 hg4.size
               clear hg4 hr1 hx1))
          all_goals
            go_wp2_with fail
            go_meet
            case rel => exact ⟨by simp, _, _, hrF, hxF, hS2, hbF⟩
        · have t0 := eq_no h0
          by_cases h1 : kind = 1
          · subst h1
            obtain ⟨hv, hS2⟩ := Sh.text hS n
            obtain ⟨v, hvx⟩ : ∃ v, x.textV n = v := ⟨_, rfl⟩
            rw [hvx] at hv
            replace hv := Lib.hid hv
            replace hvx := Lib.hid hvx
            go_upto_region 15 with fail
            replace hr1 := rdAt_drew hr1
            replace hx1 := rdAt_drew hx1
            replace co1 : w1.drew.cell? ⟨o, 1, none⟩ = some (.int .i64 n) := co1
            replace hb1 := hb1.drew
            replace hB1 : W.heap.size ≤ w1.drew.heap.size := hB1
            go_region_law (first
              | (go_simp
                 go_at_call_of 18 (Value.pointer (some ⟨W.heap.size, 0, none⟩))
                 refine (text_v hr1' hv.out).mono ?_
                 rintro e w5 ⟨rfl, hrF, hg5⟩
                 have hxF := rdAt_grow hx2 hg5 hxr
                 have hbF := below_grow hb4 hg5 hB4 hgr
                 clear hg5 hx2 hr1' hb4 hB4 co4)
              | (go_simp
                 go_at_call_of 18 (Value.pointer (some ⟨W.heap.size, 0, none⟩))
                 refine (text_v hr1 hv.out).mono ?_
                 rintro e w4 ⟨rfl, hr2, hg4⟩
                 have hx1' := rdAt_grow hx1 hg4 hxr
                 have co4 := hg4.cell co1 hor
                 have hb4 := below_grow hb1 hg4 hB1 hgr
                 have hB4 := Nat.le_trans hB1 hg4.size
                 clear hg4 hr1 hx1)
              | (go_simp
                 go_at_call_of 18 (Value.pointer (some ⟨gx, 0, none⟩))
                 refine (text_v hx1' hvx.out).mono ?_
                 rintro e w5 ⟨rfl, hxF, hg5⟩
                 have hrF := rdAt_grow hr2 hg5 hrx
                 have hbF := below_grow hb4 hg5 hB4 hgx
                 clear hg5 hr2 hx1' hb4 hB4 co4)
              | (go_simp
                 go_at_call_of 18 (Value.pointer (some ⟨gx, 0, none⟩))
                 refine (text_v hx1 hvx.out).mono ?_
                 rintro e w4 ⟨rfl, hx2, hg4⟩
                 have hr1' := rdAt_grow hr1 hg4 hrx
                 have co4 := hg4.cell co1 hox
                 have hb4 := below_grow hb1 hg4 hB1 hgx
                 have hB4 := Nat.le_trans hB1 hg4.size
                 clear hg4 hr1 hx1))
            all_goals
              go_wp2_with fail
              go_meet
              case rel => exact ⟨by simp, _, _, hrF, hxF, hS2, hbF⟩
          · have t1 := eq_no h1
            by_cases h2 : kind = 2
            · subst h2
              obtain ⟨hv, hS2⟩ := Sh.bytes hS n
              obtain ⟨v, hvx⟩ : ∃ v, x.bytesV n = v := ⟨_, rfl⟩
              rw [hvx] at hv
              replace hv := Lib.hid hv
              replace hvx := Lib.hid hvx
              go_upto_region 17 with fail
              replace hr1 := rdAt_drew hr1
              replace hx1 := rdAt_drew hx1
              replace co1 : w1.drew.cell? ⟨o, 1, none⟩ = some (.int .i64 n) := co1
              replace hb1 := hb1.drew
              replace hB1 : W.heap.size ≤ w1.drew.heap.size := hB1
              go_region_law (first
                | (go_simp
                   go_at_call_of 23 (Value.pointer (some ⟨W.heap.size, 0, none⟩))
                   refine (bytes_v hr1' hv.out).mono ?_
                   rintro e w5 ⟨rfl, hrF, hg5⟩
                   have hxF := rdAt_grow hx2 hg5 hxr
                   have hbF := below_grow hb4 hg5 hB4 hgr
                   clear hg5 hx2 hr1' hb4 hB4 co4)
                | (go_simp
                   go_at_call_of 23 (Value.pointer (some ⟨W.heap.size, 0, none⟩))
                   refine (bytes_v hr1 hv.out).mono ?_
                   rintro e w4 ⟨rfl, hr2, hg4⟩
                   have hx1' := rdAt_grow hx1 hg4 hxr
                   have co4 := hg4.cell co1 hor
                   have hb4 := below_grow hb1 hg4 hB1 hgr
                   have hB4 := Nat.le_trans hB1 hg4.size
                   clear hg4 hr1 hx1)
                | (go_simp
                   go_at_call_of 23 (Value.pointer (some ⟨gx, 0, none⟩))
                   refine (bytes_v hx1' hvx.out).mono ?_
                   rintro e w5 ⟨rfl, hxF, hg5⟩
                   have hrF := rdAt_grow hr2 hg5 hrx
                   have hbF := below_grow hb4 hg5 hB4 hgx
                   clear hg5 hr2 hx1' hb4 hB4 co4)
                | (go_simp
                   go_at_call_of 23 (Value.pointer (some ⟨gx, 0, none⟩))
                   refine (bytes_v hx1 hvx.out).mono ?_
                   rintro e w4 ⟨rfl, hx2, hg4⟩
                   have hr1' := rdAt_grow hr1 hg4 hrx
                   have co4 := hg4.cell co1 hox
                   have hb4 := below_grow hb1 hg4 hB1 hgx
                   have hB4 := Nat.le_trans hB1 hg4.size
                   clear hg4 hr1 hx1))
              all_goals
                go_wp2_with fail
                go_meet
                case rel => exact ⟨by simp, _, _, hrF, hxF, hS2, hbF⟩
            · have t2 := eq_no h2
              clear h0 h1 h2
              go_wp2_with fail
              go_meet
              case rel => exact ⟨by simp, _, _, hr1, hx1, hS, hb1⟩
      case rest =>
        obtain ⟨rfl, r2, x2, hr2, hx2, hS2, hb2⟩ := hcut
        have b1 := hr2.size
        have b2 := hr2.at_le
        have b3 := hS2.at_
        have b4 := hx2.at_le
        have b5 := hx2.size
        unfold maxLen at b1 b5
        have e1 := hS2.fault
        have e7 := hS2.left
        obtain ⟨l, hl⟩ : ∃ l, (x2.s.size : Int) - x2.at_ = l := ⟨_, rfl⟩
        rw [hl] at e7
        have e8 := Lib.hid hl
        replace e7 := Lib.hid e7
        have e5 : Hid (((r2.at_ : Nat) : Int) = (x2.at_ : Int) + a.size) := by show _ = _; omega
        have hwr : (x2.at_ : Int) + (a.size : Int) ≤ 9223372036854775807 := by omega
        by_cases hf : x2.fault = 0
        · have e2 : Hid (r2.faultP = 0) := by show _ = _; unfold Rd.faultP; rw [e1, if_pos hf]
          have e4 : Hid (x2.faultP = 0) := by show _ = _; unfold Rd.faultP; rw [if_pos hf]
          have e3 := Lib.hid hf
          replace e1 := Lib.hid (e1.trans hf)
          clear hf hl
          go_wp2_with fail
          refine (fault_v hr2 e1.out e2.out).mono ?_
          rintro e w' ⟨q1, rfl, rfl⟩
          go_wp2_with fail
          refine (fault_v (rdAt_drewN hx2 _) e3.out e4.out).mono ?_
          rintro e w' ⟨q2, rfl, rfl⟩
          go_wp2_with fail
          refine (at_v (rdAt_drewN hr2 _) e5.out).mono ?_
          rintro e w' ⟨rfl, rfl⟩
          go_wp2_with fail
          refine (at_v (rdAt_drewN hx2 _) rfl).mono ?_
          rintro e w' ⟨rfl, rfl⟩
          go_wp2_with fail
          refine (left_v (rdAt_drewN hr2 _) e7.out).mono ?_
          rintro e w' ⟨q3, rfl, rfl⟩
          go_wp2_with fail
          refine (left_v (rdAt_drewN hx2 _) e8.out).mono ?_
          rintro e w' ⟨q4, rfl, rfl⟩
          go_wp2_with fail
          go_roundw
          case rel => exact ⟨k + 1, by omega, by go_num, r2, x2, rdAt_drewN hr2 _, rdAt_drewN hx2 _, hS2, below_drewN hb2 _⟩
          case measure => simp [intOf]; omega
        · have e2 := hS2.faultP hf
          have e4 : x2.faultP = x2.at_ := by unfold Rd.faultP; rw [if_neg hf]
          rw [e4] at e2
          obtain ⟨f, hff⟩ : ∃ f, x2.fault = f := ⟨_, rfl⟩
          rw [hff] at e1 hf
          have hne := ne_yes hf
          have e3 := Lib.hid hff
          replace e1 := Lib.hid e1
          replace e2 := Lib.hid e2
          replace e4 := Lib.hid e4
          clear hl hff hf
          go_wp2_with fail
          refine (fault_v hr2 e1.out e2.out).mono ?_
          rintro e w' ⟨q1, rfl, rfl⟩
          go_wp2_with fail
          refine (fault_v (rdAt_drewN hx2 _) e3.out e4.out).mono ?_
          rintro e w' ⟨q2, rfl, rfl⟩
          go_wp2_with fail
          refine (at_v (rdAt_drewN hr2 _) e5.out).mono ?_
          rintro e w' ⟨rfl, rfl⟩
          go_wp2_with fail
          refine (at_v (rdAt_drewN hx2 _) rfl).mono ?_
          rintro e w' ⟨rfl, rfl⟩
          go_wp2_with fail
          refine (left_v (rdAt_drewN hr2 _) e7.out).mono ?_
          rintro e w' ⟨q3, rfl, rfl⟩
          go_wp2_with fail
          refine (left_v (rdAt_drewN hx2 _) e8.out).mono ?_
          rintro e w' ⟨q4, rfl, rfl⟩
          go_wp2_with fail
          go_roundw
          case rel => exact ⟨k + 1, by omega, by go_num, r2, x2, rdAt_drewN hr2 _, rdAt_drewN hx2 _, hS2, below_drewN hb2 _⟩
          case measure => simp [intOf]; omega
    · have hklt : ¬ ((k : Int) < len) := by omega
      go_wp2_with fail
      go_ret
      exact ⟨rfl, hb⟩
end Go.Proofs.Ytbgnffgceeclhaa.joins
