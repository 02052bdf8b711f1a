/-
  The walk of CodeOnce: for every string within the reach and every script the call returns true.
-/
import Derived.Test.YtbgnffgceeclhaaRows
import Derived.Test.YtbgnffgceeclhaaBase
import Derived.Test.YtbgnffgceeclhaaPut
import Derived.Test.YtbgnffgceeclhaaBits
import Derived.Test.YtbgnffgceeclhaaReader
import Derived.Test.YtbgnffgceeclhaaFixed
import Derived.Test.YtbgnffgceeclhaaOps
import Derived.Test.YtbgnffgceeclhaaShift
import Derived.Test.YtbgnffgceeclhaaOnceP
import Derived.Test.YtbgnffgceeclhaaCallsV
import Derived.Deep.QuietTactic
import Derived.BigQuiet
import Derived.WalkSmall
import Derived.Deep.LoopGhost
import Derived.Deep.CutRange
import Derived.Deep.RegionLaw
import Derived.Deep.CutBlock
namespace Go.Proofs.Ytbgnffgceeclhaa.once
open Go.RowKit Base
theorem below_drew' {B : Nat} {w w1 : World} (h : Below B w w1) : Below B w w1.drew := h.drew
theorem put_v {w : World} {n k : Int} : Calls Try.prog 13 #[.int .i64 n, .int .i64 k] w fun e w' => e = .returned (.string (str (putL n k))) ∧ Below w.heap.size w w' := put_any n k w
theorem putText_v {w : World} {s t : ByteArray} (hs : s.size ≤ maxLen) (ht : textL s = t) (he : textE s = 0) : Calls Try.prog 10 #[.string s] w fun e w' => e = .returned (.tuple #[.string t, .int .i64 0]) ∧ Below w.heap.size w w' := by
  subst ht
  rw [← he]
  exact putText_any s w hs
set_option maxHeartbeats 20000000 in
set_option maxRecDepth 8000 in
theorem walk (W : World) {s : ByteArray} (hs : s.size ≤ 140737488355327) {ao : Option Addr} {len cap : Nat} {ps : List (Int × Int)} (hps : OpsIn W ao len ps) (hlm : len ≤ maxLen) :
    Calls Try.prog 6 #[.string s, .slice ao len cap] W fun e w' => e = .returned (.bool true) ∧ Below W.heap.size W w' := by
  unfold maxLen at hlm
  go_enter Try.func6, Try.ntmps6
  go_wp2_with fail
  refine (new_any s W (by unfold maxLen; omega)).mono ?_
  rintro e w1 ⟨rfl, hr, hb1, hz1⟩
  clear hz1
  have hgr : W.heap.size ≤ W.heap.size := Nat.le_refl _
  go_wp2_with fail
  refine (fixed_any w1).mono ?_
  rintro e w3 ⟨rfl, hb3⟩
  replace hr := rdAt_below hr hb3
  replace hb3 := hb1.trans (hb3.mono hb1.size)
  clear hb1
  go_wp2_with fail
  go_loopw [6] (fun i wr => ∃ k : Nat, k ≤ len ∧ i = .int .i64 k ∧ ∃ r : Rd, r.s = s ∧ RdAt wr W.heap.size r ∧ Below W.heap.size W wr) (fun i _ => len - (intOf i).toNat)
  case atStart => exact ⟨0, Nat.zero_le _, rfl, _, rfl, hr, hb3⟩
  case round =>
    clear hr hb3
    obtain ⟨k, hk, rfl, r, hrs, hr, hb⟩ := hrel
    have HRS := Lib.hid hrs
    clear hrs
    by_cases hlt : k < len
    · have hklt : (k : Int) < len := by omega
      obtain ⟨p, kind, n, rfl, _, _, c0, c1⟩ := (hps.below hb (Nat.le_refl _)).at_ hlt
      have hrl := hr.cells.2.2
      obtain ⟨f, hf⟩ : ∃ f, r.fault = f := ⟨_, rfl⟩
      replace hf := Lib.hid hf
      go_wp2_with fail
      refine (at_v hr rfl).mono ?_
      rintro e w' ⟨rfl, rfl⟩
      go_wp2_with fail
      refine (fault_v hr hf.out rfl).mono ?_
      rintro e w' ⟨q1, rfl, rfl⟩
      replace hr := rdAt_drewN hr q1
      replace hb := below_drewN hb q1
      replace c0 : (wr.drewN q1).cell? (p.add (k * 2)) = some (.int .i64 kind) := c0
      replace c1 : (wr.drewN q1).cell? ⟨(p.add (k * 2)).block, (p.add (k * 2)).off + 1, none⟩ = some (.int .i64 n) := c1
      replace hrl : W.heap.size < (wr.drewN q1).heap.size := hrl
      generalize wr.drewN q1 = wr at *
      go_upto_block 2 with fail
      obtain ⟨co0, co1⟩ := ops_cells wr kind n
      have hb1 := hb.alloc hb.size (.cells #[.int .i64 kind, .int .i64 n] 45)
      have hr1 := rdAt_below hr ((Below.refl wr.heap.size wr).alloc (Nat.le_refl _) (.cells #[.int .i64 kind, .int .i64 n] 45))
      have hB1 := hb1.size
      have hor : some wr.heap.size ≠ some W.heap.size := fun e => by have := Option.some.inj e; omega
      clear hr hb c0 c1
      generalize wr.alloc (.cells #[.int .i64 kind, .int .i64 n] 45) = w1 at *
      generalize wr.heap.size = o at *
      go_cut [10, 12, 13] from 25 to 115 (fun s10 _ _ wx => ∃ r' out, s10 = .string out ∧ RdAt wx W.heap.size r' ∧ Once r r' out ∧ Below W.heap.size W wx)
      case first =>
        by_cases h0 : kind = 0
        · subst h0
          obtain ⟨v, hv⟩ : ∃ v, r.numV n = v := ⟨_, rfl⟩
          have hO := once_num r n
          rw [hv] at hO
          replace hv := Lib.hid hv
          go_upto_region 13 with fail
          replace hr1 := rdAt_drew hr1
          replace co1 : w1.drew.cell? ⟨o, 1, none⟩ = some (.int .i64 n) := co1
          replace hb1 := hb1.drew
          replace hB1 : W.heap.size ≤ w1.drew.heap.size := hB1
          go_region_law (first
            | (go_simp
               go_at_call 19
               refine (num_v hr1 hv.out).mono ?_
               rintro e w4 ⟨rfl, hr2, hg4⟩
               have co4 := hg4.cell co1 hor
               have hb4 := below_grow hb1 hg4 hB1 hgr
               have hB4 := Nat.le_trans hB1 hg4.size
               clear hg4 hr1)
            | (go_simp
               go_at_call 13
               refine put_v.mono ?_
               rintro e w5 ⟨rfl, hb5⟩
               have hrF := rdAt_below hr2 hb5
               have hbF := below_trans hb4 hb5 hB4
               clear hb5 hr2 hb4))
          all_goals
            go_wp2_with fail
            go_meet
            case rel => exact ⟨_, _, rfl, hrF, hO, hbF⟩
        · have t0 := eq_no h0
          by_cases h1 : kind = 1
          · subst h1
            have key : ∀ m : Int, m ≤ 1024 → textE (r.textV m) = 0 ∧ Once r (r.textR m) (textL (r.textV m)) ∧ (r.textV m).size ≤ maxLen := fun m hm =>
              ⟨(once_text r hm).1, (once_text r hm).2, by have := text_size r hm fun h => (head_bounds r h).1; unfold maxLen; omega⟩
            by_cases hn : n < 1024
            · obtain ⟨k1, hO, k3⟩ := key (n) (by omega)
              obtain ⟨v, hv⟩ : ∃ v, r.textV (n) = v := ⟨_, rfl⟩
              rw [hv] at k1 hO k3
              obtain ⟨t, ht⟩ : ∃ t, textL v = t := ⟨_, rfl⟩
              rw [ht] at hO
              replace hv := Lib.hid hv
              replace ht := Lib.hid ht
              replace k1 := Lib.hid k1
              clear key
              go_wp2_with fail
              refine (text_v hr1 hv.out).mono ?_
              rintro e w4 ⟨rfl, hr2, hg4⟩
              have hb4 := below_grow hb1 hg4 hB1 hgr
              have hB4 := Nat.le_trans hB1 hg4.size
              clear hg4 hr1 hb1 co0 co1
              go_wp2_with fail
              refine (putText_v k3 ht.out k1.out).mono ?_
              rintro e w5 ⟨rfl, hb5⟩
              have hrF := rdAt_below hr2 hb5
              have hbF := below_trans hb4 hb5 hB4
              clear hb5 hr2 hb4
              go_wp2_with fail
              go_meet
              case rel => exact ⟨_, _, rfl, hrF, hO, hbF⟩
            · obtain ⟨k1, hO, k3⟩ := key (1024) (by omega)
              obtain ⟨v, hv⟩ : ∃ v, r.textV (1024) = v := ⟨_, rfl⟩
              rw [hv] at k1 hO k3
              obtain ⟨t, ht⟩ : ∃ t, textL v = t := ⟨_, rfl⟩
              rw [ht] at hO
              replace hv := Lib.hid hv
              replace ht := Lib.hid ht
              replace k1 := Lib.hid k1
              clear key
              go_wp2_with fail
              refine (text_v hr1 hv.out).mono ?_
              rintro e w4 ⟨rfl, hr2, hg4⟩
              have hb4 := below_grow hb1 hg4 hB1 hgr
              have hB4 := Nat.le_trans hB1 hg4.size
              clear hg4 hr1 hb1 co0 co1
              go_wp2_with fail
              refine (putText_v k3 ht.out k1.out).mono ?_
              rintro e w5 ⟨rfl, hb5⟩
              have hrF := rdAt_below hr2 hb5
              have hbF := below_trans hb4 hb5 hB4
              clear hb5 hr2 hb4
              go_wp2_with fail
              go_meet
              case rel => exact ⟨_, _, rfl, hrF, hO, hbF⟩
          · have t1 := eq_no h1
            by_cases h2 : kind = 2
            · subst h2
              have hO := once_bytes r n
              obtain ⟨v, hv⟩ : ∃ v, r.bytesV n = v := ⟨_, rfl⟩
              rw [hv] at hO
              replace hv := Lib.hid hv
              go_wp2_with fail
              refine (bytes_v hr1 hv.out).mono ?_
              rintro e w4 ⟨rfl, hr2, hg4⟩
              have hb4 := below_grow hb1 hg4 hB1 hgr
              go_wp2_with fail
              go_meet
              case rel => exact ⟨_, _, rfl, hr2, hO, hb4⟩
            · have t2 := eq_no h2
              clear h0 h1 h2
              have hO := Once.none r hr1.at_le
              go_wp2_with fail
              go_meet
              case rel => exact ⟨_, _, rfl, hr1, hO, hb1⟩
      case rest =>
        obtain ⟨r2, out, rfl, hr2, hO, hb2⟩ := hcut
        have hs2 : r2.s = s := hO.s.trans HRS.out
        have hle := hO.le
        by_cases hf2 : r2.fault = 0
        · obtain ⟨g1, g2⟩ := hO.got hf2
          rw [HRS.out] at g1 g2
          have e1 := Lib.hid hf2
          have e2 : Hid (r2.faultP = 0) := by show _ = _; unfold Rd.faultP; rw [if_pos hf2]
          clear hO hf2 co0 co1 hr1 hb1
          obtain ⟨b, hb⟩ : ∃ b, r2.at_ = b := ⟨_, rfl⟩
          rw [hb] at g1 g2 hle
          have e3 : Hid (((r2.at_ : Nat) : Int) = (b : Int)) := by show _ = _; rw [hb]
          clear hb
          generalize r.at_ = a at *
          have k1 : (a : Int) ≤ b := by omega
          have k2 : (b : Int) ≤ s.size := by omega
          go_wp2_with fail
          refine (fault_v hr2 e1.out e2.out).mono ?_
          rintro e w' ⟨q1, rfl, rfl⟩
          go_wp2_with fail
          refine (at_v (rdAt_drewN hr2 _) e3.out).mono ?_
          rintro e w' ⟨rfl, rfl⟩
          go_wp2_with fail
          go_roundw
          case rel => exact ⟨k + 1, by omega, by go_num, r2, hs2, rdAt_drewN hr2 _, below_drewN hb2 _⟩
          case measure => simp [intOf]; omega
        · obtain ⟨g1, g2⟩ := hO.bad hf2
          have e2 : Hid (r2.faultP = (r.at_ : Int)) := by show _ = _; unfold Rd.faultP; rw [if_neg hf2, g1]
          have e3 : Hid (((r2.at_ : Nat) : Int) = (r.at_ : Int)) := by show _ = _; rw [g1]
          rw [hf.out] at g2
          obtain ⟨f2, hff⟩ : ∃ f2, r2.fault = f2 := ⟨_, rfl⟩
          rw [hff] at g2 hf2
          have hne := ne_yes hf2
          have e1 := Lib.hid hff
          clear hO hff hle g1 co0 co1 hr1 hb1
          by_cases hf0 : f = 0
          · have hb0 : (f != 0) = false := by rw [hf0]; rfl
            clear g2
            go_wp2_with fail
            refine (fault_v hr2 e1.out e2.out).mono ?_
            rintro e w' ⟨q1, rfl, rfl⟩
            go_wp2_with fail
            refine (at_v (rdAt_drewN hr2 _) e3.out).mono ?_
            rintro e w' ⟨rfl, rfl⟩
            go_wp2_with fail
            go_roundw
            case rel => exact ⟨k + 1, by omega, by go_num, r2, hs2, rdAt_drewN hr2 _, below_drewN hb2 _⟩
            case measure => simp [intOf]; omega
          · have hb0 := ne_yes hf0
            have hb3 : (f != f2) = false := by rw [g2 hf0]; exact bne_self_eq_false _
            clear g2
            go_wp2_with fail
            refine (fault_v hr2 e1.out e2.out).mono ?_
            rintro e w' ⟨q1, rfl, rfl⟩
            go_wp2_with fail
            refine (at_v (rdAt_drewN hr2 _) e3.out).mono ?_
            rintro e w' ⟨rfl, rfl⟩
            go_wp2_with fail
            go_roundw
            case rel => exact ⟨k + 1, by omega, by go_num, r2, hs2, rdAt_drewN hr2 _, below_drewN hb2 _⟩
            case measure => simp [intOf]; omega
    · have hklt : ¬ ((k : Int) < len) := by omega
      go_wp2_with fail
      go_ret
      exact ⟨rfl, hb⟩
end Go.Proofs.Ytbgnffgceeclhaa.once
