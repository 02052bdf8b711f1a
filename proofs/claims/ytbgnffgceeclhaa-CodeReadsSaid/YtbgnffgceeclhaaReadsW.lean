/-
  The walk of CodeReads: for every string within the reach and every script the call returns true.
-/
import Derived.Test.YtbgnffgceeclhaaRows
import Derived.Test.YtbgnffgceeclhaaBase
import Derived.Test.YtbgnffgceeclhaaPut
import Derived.Test.YtbgnffgceeclhaaBits
import Derived.Test.YtbgnffgceeclhaaReader
import Derived.Test.YtbgnffgceeclhaaFixed
import Derived.Test.YtbgnffgceeclhaaOps
import Derived.Test.YtbgnffgceeclhaaCallsV
import Derived.Test.YtbgnffgceeclhaaRefR
import Derived.Deep.QuietTactic
import Derived.BigQuiet
import Derived.WalkSmall
import Derived.Deep.LoopGhost
import Derived.Deep.CutRange
import Derived.Deep.RegionLaw
import Derived.Deep.CutBlock
namespace Go.Proofs.Ytbgnffgceeclhaa.reads
open Go.RowKit Base
theorem rnum_v {w : World} {b : Nat} {r : Rd} (h : RRdAt w b r) {n : Int} {v : Int} (hv : r.numV n = v) : Calls Try.prog 25 #[.pointer (some ⟨b, 0, none⟩), .int .i64 n] w fun e w' => e = .returned (.int .i64 v) ∧ RRdAt w' b (r.numR n) ∧ w.grownBy w' (some b) := by
  subst hv
  exact rnum_any h n
theorem rtext_v {w : World} {b : Nat} {r : Rd} (h : RRdAt w b r) {n : Int} {v : ByteArray} (hv : r.textV n = v) : Calls Try.prog 26 #[.pointer (some ⟨b, 0, none⟩), .int .i64 n] w fun e w' => e = .returned (.string v) ∧ RRdAt w' b (r.textR n) ∧ w.grownBy w' (some b) := by
  subst hv
  exact rtext_any h n
theorem rbytes_v {w : World} {b : Nat} {r : Rd} (h : RRdAt w b r) {n : Int} {v : ByteArray} (hv : r.bytesV n = v) : Calls Try.prog 27 #[.pointer (some ⟨b, 0, none⟩), .int .i64 n] w fun e w' => e = .returned (.string v) ∧ RRdAt w' b (r.bytesR n) ∧ w.grownBy w' (some b) := by
  subst hv
  exact rbytes_any h n
theorem left_q {w : World} {b : Nat} {r : Rd} (h : RdAt w b r) {p : Int} (hp : (r.s.size : Int) - r.at_ = p) : Calls Try.prog 24 #[.pointer (some ⟨b, 0, none⟩)] w fun e w' => e = .returned (.int .i64 p) ∧ ∃ m, w' = w.drewN m := by
  subst hp
  exact left_any h
theorem at_q {w : World} {b : Nat} {r : Rd} (h : RdAt w b r) {p : Int} (hp : ((r.at_ : Nat) : Int) = p) : Calls Try.prog 21 #[.pointer (some ⟨b, 0, none⟩)] w fun e w' => e = .returned (.int .i64 p) ∧ w' = w := by
  subst hp
  exact (at_any h).mono fun _ _ ⟨h1, h2⟩ => ⟨h1, h2.symm⟩
theorem done_v {w : World} {b : Nat} {r : Rd} (h : RdAt w b r) {f p : Int} (hf : r.doneE = f) (hp : r.doneP = p) : Calls Try.prog 20 #[.pointer (some ⟨b, 0, none⟩)] w fun e w' => ∃ n, e = .returned (.tuple #[.int .i64 f, .int .i64 p]) ∧ w' = w.drewN n := by
  subst hf
  subst hp
  exact (done_any h).mono fun _ _ ⟨h1, n, h2⟩ => ⟨n, h1, h2⟩
theorem same_s (r : Rd) (n : Int) : (r.numR n).s = r.s ∧ (r.bytesR n).s = r.s ∧ (r.textR n).s = r.s := by
  unfold Rd.numR Rd.bytesR Rd.textR
  refine ⟨?_, ?_, ?_⟩ <;> (repeat' split) <;> rfl
set_option maxHeartbeats 40000000 in
set_option maxRecDepth 8000 in
theorem walk (W : World) {s : ByteArray} (hs : s.size ≤ 140737488355327) {ao : Option Addr} {len cap : Nat} {ps : List (Int × Int)} (hps : OpsIn W ao len ps) (hlm : len ≤ maxLen) :
    Calls Try.prog 9 #[.string s, .slice ao len cap] W fun e w' => e = .returned (.bool true) ∧ Below W.heap.size W w' := by
  unfold maxLen at hlm
  go_enter Try.func9, Try.ntmps9
  go_wp2_with fail
  refine (new_any s W (by unfold maxLen; omega)).mono ?_
  rintro e w1 ⟨rfl, hr, hb1, hz1⟩
  have hgr : W.heap.size ≤ W.heap.size := Nat.le_refl _
  have hgx : W.heap.size ≤ w1.heap.size := hb1.size
  have hrx : W.heap.size ≠ w1.heap.size := by omega
  have hx : RRdAt (w1.alloc (.cells #[.string s, .int .i64 0, .int .i64 0] 52)) w1.heap.size ⟨s, 0, 0⟩ := ⟨heap_alloc_new _ _, by unfold maxLen; show s.size ≤ _; omega, Nat.zero_le _⟩
  replace hr := rdAt_below hr ((Below.refl w1.heap.size w1).alloc (Nat.le_refl _) (.cells #[.string s, .int .i64 0, .int .i64 0] 52))
  replace hb1 := hb1.alloc hb1.size (.cells #[.string s, .int .i64 0, .int .i64 0] 52)
  clear hz1
  go_wp2_with fail
  generalize w1.alloc (.cells #[.string s, .int .i64 0, .int .i64 0] 52) = w2 at *
  generalize w1.heap.size = gx at *
  refine (fixed_any w2).mono ?_
  rintro e w3 ⟨rfl, hb3⟩
  replace hr := rdAt_below hr hb3
  replace hx := rrd_below hx hb3
  replace hb3 := hb1.trans (hb3.mono hb1.size)
  clear hb1
  go_wp2_with fail
  go_loopw [5, 7] (fun v i wr => ∃ k : Nat, k ≤ len ∧ i = .int .i64 k ∧ ∃ (r : Rd) (gr : Nat), v = .pointer (some ⟨gr, 0, none⟩) ∧ r.s = s ∧ RdAt wr gr r ∧ RRdAt wr gx r ∧ gr ≠ gx ∧ W.heap.size ≤ gr ∧ Below W.heap.size W wr) (fun _ i _ => len - (intOf i).toNat)
  case atStart => exact ⟨0, Nat.zero_le _, rfl, _, _, rfl, rfl, hr, hx, hrx, hgr, hb3⟩
  case round =>
    clear hr hx hb3 hgr hrx
    obtain ⟨k, hk, rfl, r, gr, rfl, hrs, hr, hx, hrx, hgr, hb⟩ := hrel
    have HRS := Lib.hid hrs
    clear hrs
    have hxr := hrx.symm
    by_cases hlt : k < len
    · have hklt : (k : Int) < len := by omega
      obtain ⟨p, kind, n, rfl, _, _, c0, c1⟩ := (hps.below hb (Nat.le_refl _)).at_ hlt
      have hrl := hr.cells.2.2
      have hxl := hx.cells.2.2
      go_upto_block 2 with fail
      obtain ⟨co0, co1⟩ := ops_cells wr kind n
      have hb1 := hb.alloc hb.size (.cells #[.int .i64 kind, .int .i64 n] 45)
      have hr1 := rdAt_below hr ((Below.refl wr.heap.size wr).alloc (Nat.le_refl _) (.cells #[.int .i64 kind, .int .i64 n] 45))
      have hx1 := rrd_below hx ((Below.refl wr.heap.size wr).alloc (Nat.le_refl _) (.cells #[.int .i64 kind, .int .i64 n] 45))
      have hB1 := hb1.size
      have hor : some wr.heap.size ≠ some gr := fun e => by have := Option.some.inj e; omega
      have hox : some wr.heap.size ≠ some gx := fun e => by have := Option.some.inj e; omega
      clear hr hx hb c0 c1
      generalize wr.alloc (.cells #[.int .i64 kind, .int .i64 n] 45) = w1 at *
      generalize wr.heap.size = o at *
      go_cut [5, 9, 10] from 30 to 146 (fun s5 s9 _ wx => s9 = .bool true ∧ ∃ (r : Rd) (gr : Nat), s5 = .pointer (some ⟨gr, 0, none⟩) ∧ r.s = s ∧ RdAt wx gr r ∧ RRdAt wx gx r ∧ gr ≠ gx ∧ W.heap.size ≤ gr ∧ Below W.heap.size W wx)
      case first =>
        by_cases h0 : kind = 0
        · subst h0
          obtain ⟨v, hv⟩ : ∃ v, r.numV n = v := ⟨_, rfl⟩
          replace hv := Lib.hid hv
          have hs2 : (r.numR n).s = s := (same_s r n).1.trans HRS.out
          go_upto_region 12 with fail
          replace hr1 := rdAt_drew hr1
          replace hx1 := rrd_drew hx1
          replace co1 : w1.drew.cell? ⟨o, 1, none⟩ = some (.int .i64 n) := co1
          replace hb1 := hb1.drew
          replace hB1 : W.heap.size ≤ w1.drew.heap.size := hB1
          go_region_law (first
            | (go_simp
               go_at_call 19
               refine (num_v hr1' hv.out).mono ?_
               rintro e w5 ⟨rfl, hrF, hg5⟩
               have hxF := rrd_grow hx2 hg5 hxr
               have hbF := below_grow hb4 hg5 hB4 hgr
               clear hg5 hx2 hr1' hb4 hB4 co4)
            | (go_simp
               go_at_call 19
               refine (num_v hr1 hv.out).mono ?_
               rintro e w4 ⟨rfl, hr2, hg4⟩
               have hx1' := rrd_grow hx1 hg4 hxr
               have co4 := hg4.cell co1 hor
               have hb4 := below_grow hb1 hg4 hB1 hgr
               have hB4 := Nat.le_trans hB1 hg4.size
               clear hg4 hr1 hx1)
            | (go_simp
               go_at_call 25
               refine (rnum_v hx1' hv.out).mono ?_
               rintro e w5 ⟨rfl, hxF, hg5⟩
               have hrF := rdAt_grow hr2 hg5 hrx
               have hbF := below_grow hb4 hg5 hB4 hgx
               clear hg5 hr2 hx1' hb4 hB4 co4)
            | (go_simp
               go_at_call 25
               refine (rnum_v hx1 hv.out).mono ?_
               rintro e w4 ⟨rfl, hx2, hg4⟩
               have hr1' := rdAt_grow hr1 hg4 hrx
               have co4 := hg4.cell co1 hox
               have hb4 := below_grow hb1 hg4 hB1 hgx
               have hB4 := Nat.le_trans hB1 hg4.size
               clear hg4 hr1 hx1))
          all_goals
            go_wp2_with fail
            go_meet
            case rel => exact ⟨by simp, _, gr, rfl, hs2, hrF, hxF, hrx, hgr, hbF⟩
        · have t0 := eq_no h0
          by_cases h1 : kind = 1
          · subst h1
            obtain ⟨v, hv⟩ : ∃ v, r.textV n = v := ⟨_, rfl⟩
            replace hv := Lib.hid hv
            have hs2 : (r.textR n).s = s := (same_s r n).2.2.trans HRS.out
            go_upto_region 14 with fail
            replace hr1 := rdAt_drew hr1
            replace hx1 := rrd_drew hx1
            replace co1 : w1.drew.cell? ⟨o, 1, none⟩ = some (.int .i64 n) := co1
            replace hb1 := hb1.drew
            replace hB1 : W.heap.size ≤ w1.drew.heap.size := hB1
            go_region_law (first
              | (go_simp
                 go_at_call 18
                 refine (text_v hr1' hv.out).mono ?_
                 rintro e w5 ⟨rfl, hrF, hg5⟩
                 have hxF := rrd_grow hx2 hg5 hxr
                 have hbF := below_grow hb4 hg5 hB4 hgr
                 clear hg5 hx2 hr1' hb4 hB4 co4)
              | (go_simp
                 go_at_call 18
                 refine (text_v hr1 hv.out).mono ?_
                 rintro e w4 ⟨rfl, hr2, hg4⟩
                 have hx1' := rrd_grow hx1 hg4 hxr
                 have co4 := hg4.cell co1 hor
                 have hb4 := below_grow hb1 hg4 hB1 hgr
                 have hB4 := Nat.le_trans hB1 hg4.size
                 clear hg4 hr1 hx1)
              | (go_simp
                 go_at_call 26
                 refine (rtext_v hx1' hv.out).mono ?_
                 rintro e w5 ⟨rfl, hxF, hg5⟩
                 have hrF := rdAt_grow hr2 hg5 hrx
                 have hbF := below_grow hb4 hg5 hB4 hgx
                 clear hg5 hr2 hx1' hb4 hB4 co4)
              | (go_simp
                 go_at_call 26
                 refine (rtext_v hx1 hv.out).mono ?_
                 rintro e w4 ⟨rfl, hx2, hg4⟩
                 have hr1' := rdAt_grow hr1 hg4 hrx
                 have co4 := hg4.cell co1 hox
                 have hb4 := below_grow hb1 hg4 hB1 hgx
                 have hB4 := Nat.le_trans hB1 hg4.size
                 clear hg4 hr1 hx1))
            all_goals
              go_wp2_with fail
              go_meet
              case rel => exact ⟨by simp, _, gr, rfl, hs2, hrF, hxF, hrx, hgr, hbF⟩
          · have t1 := eq_no h1
            by_cases h2 : kind = 2
            · subst h2
              obtain ⟨v, hv⟩ : ∃ v, r.bytesV n = v := ⟨_, rfl⟩
              replace hv := Lib.hid hv
              have hs2 : (r.bytesR n).s = s := (same_s r n).2.1.trans HRS.out
              go_upto_region 16 with fail
              replace hr1 := rdAt_drew hr1
              replace hx1 := rrd_drew hx1
              replace co1 : w1.drew.cell? ⟨o, 1, none⟩ = some (.int .i64 n) := co1
              replace hb1 := hb1.drew
              replace hB1 : W.heap.size ≤ w1.drew.heap.size := hB1
              go_region_law (first
                | (go_simp
                   go_at_call 23
                   refine (bytes_v hr1' hv.out).mono ?_
                   rintro e w5 ⟨rfl, hrF, hg5⟩
                   have hxF := rrd_grow hx2 hg5 hxr
                   have hbF := below_grow hb4 hg5 hB4 hgr
                   clear hg5 hx2 hr1' hb4 hB4 co4)
                | (go_simp
                   go_at_call 23
                   refine (bytes_v hr1 hv.out).mono ?_
                   rintro e w4 ⟨rfl, hr2, hg4⟩
                   have hx1' := rrd_grow hx1 hg4 hxr
                   have co4 := hg4.cell co1 hor
                   have hb4 := below_grow hb1 hg4 hB1 hgr
                   have hB4 := Nat.le_trans hB1 hg4.size
                   clear hg4 hr1 hx1)
                | (go_simp
                   go_at_call 27
                   refine (rbytes_v hx1' hv.out).mono ?_
                   rintro e w5 ⟨rfl, hxF, hg5⟩
                   have hrF := rdAt_grow hr2 hg5 hrx
                   have hbF := below_grow hb4 hg5 hB4 hgx
                   clear hg5 hr2 hx1' hb4 hB4 co4)
                | (go_simp
                   go_at_call 27
                   refine (rbytes_v hx1 hv.out).mono ?_
                   rintro e w4 ⟨rfl, hx2, hg4⟩
                   have hr1' := rdAt_grow hr1 hg4 hrx
                   have co4 := hg4.cell co1 hox
                   have hb4 := below_grow hb1 hg4 hB1 hgx
                   have hB4 := Nat.le_trans hB1 hg4.size
                   clear hg4 hr1 hx1))
              all_goals
                go_wp2_with fail
                go_meet
                case rel => exact ⟨by simp, _, gr, rfl, hs2, hrF, hxF, hrx, hgr, hbF⟩
            · have t2 := eq_no h2
              by_cases h3 : kind = 3
              · subst h3
                have hs2 : r.s = s := HRS.out
                clear h0 h1 h2
                have hxl1 := hx1.cells.2.2
                have hrl1 := hr1.cells.2.2
                obtain ⟨v, hv⟩ : ∃ v, r.numV 1 = v := ⟨_, rfl⟩
                replace hv := Lib.hid hv
                go_wp2_with fail
                refine (clone_any hr1).mono ?_
                rintro e w4 ⟨rfl, hc, hb4, _⟩
                replace hr1 := rdAt_below hr1 hb4
                replace hx1 := rrd_below hx1 hb4
                have hB4 := hb4.size
                replace hb4 := below_trans hb1 hb4 hB1
                clear hb1
                go_wp2_with fail
                refine (num_v hr1 hv.out).mono ?_
                rintro e w5 ⟨rfl, _, hg5⟩
                have hcF := rdAt_grow hc hg5 (by omega)
                have hxF := rrd_grow hx1 hg5 hxr
                have hbF := below_grow hb4 hg5 (Nat.le_trans hB1 hB4) hgr
                go_wp2_with fail
                go_meet
                case rel => exact ⟨by simp, r, _, rfl, hs2, hcF, hxF, by omega, hB1, hbF⟩
              · have t3 := eq_no h3
                have hs2 : r.s = s := HRS.out
                clear h0 h1 h2 h3
                go_wp2_with fail
                go_meet
                case rel => exact ⟨by simp, r, gr, rfl, hs2, hr1, hx1, hrx, hgr, hb1⟩
      case rest =>
        obtain ⟨rfl, r2, gr2, rfl, hs2, hr2, hx2, hrx2, hgr2, hb2⟩ := hcut
        clear hr1 hx1 hb1 co0 co1 hor hox hrx hxr hgr
        have b1 := hr2.size
        have b2 := hr2.at_le
        unfold maxLen at b1
        rw [hs2] at b1 b2
        obtain ⟨⟨_, x1, _⟩, _, _⟩ := hx2.cells
        have e7 : Hid ((r2.s.size : Int) - r2.at_ = (s.size : Int) - r2.at_) := by show _ = _; rw [hs2]
        obtain ⟨a, ha⟩ : ∃ a, r2.at_ = a := ⟨_, rfl⟩
        have e5 : Hid (((r2.at_ : Nat) : Int) = (a : Int)) := by show _ = _; rw [ha]
        rw [ha] at x1 b2
        replace e7 := Lib.hid (e7.out.trans (by rw [ha] : (s.size : Int) - r2.at_ = (s.size : Int) - a))
        obtain ⟨f, hf⟩ : ∃ f, r2.fault = f := ⟨_, rfl⟩
        obtain ⟨fp, hfp⟩ : ∃ f, r2.faultP = f := ⟨_, rfl⟩
        obtain ⟨d, hd⟩ : ∃ f, r2.doneE = f := ⟨_, rfl⟩
        obtain ⟨dp, hdp⟩ : ∃ f, r2.doneP = f := ⟨_, rfl⟩
        replace hf := Lib.hid hf
        replace hfp := Lib.hid hfp
        replace hd := Lib.hid hd
        replace hdp := Lib.hid hdp
        have hs3 := Lib.hid hs2
        clear hs2 ha
        go_wp2_with fail
        go_quiet (first
          | ((go_at_call 21; go_must (exact Calls.quiet_of_same (at_q (rdAt_drewN hr2 _) e5.out))))
          | ((go_at_call 24; go_must (exact Calls.quiet_of (left_q (rdAt_drewN hr2 _) e7.out)))))
        have hr3 := rdAt_drewN hr2 nq
        have hx3 := rrd_drewN hx2 nq
        have hb3 := below_drewN hb2 nq
        clear hr2 hx2 hb2 x1
        generalize wc.drewN nq = w3 at *
        go_wp2_with fail
        refine (fault_v hr3 hf.out hfp.out).mono ?_
        rintro e w' ⟨q1, rfl, rfl⟩
        go_wp2_with fail
        refine (rfault_any (rrd_drewN hx3 _) hf.out hfp.out).mono ?_
        rintro e w' ⟨q2, rfl, rfl⟩
        go_wp2_with fail
        refine (done_v (rdAt_drewN hr3 _) hd.out hdp.out).mono ?_
        rintro e w' ⟨q3, rfl, rfl⟩
        go_wp2_with fail
        refine (rdone_any (rrd_drewN hx3 _) hd.out hdp.out).mono ?_
        rintro e w' ⟨q4, rfl, rfl⟩
        go_wp2_with fail
        go_roundw
        case rel => exact ⟨k + 1, by omega, by go_num, r2, gr2, rfl, hs3.out, rdAt_drewN hr3 _, rrd_drewN hx3 _, hrx2, hgr2, below_drewN hb3 _⟩
        case measure => simp [intOf]; omega
    · have hklt : ¬ ((k : Int) < len) := by omega
      go_wp2_with fail
      go_ret
      exact ⟨rfl, hb⟩
end Go.Proofs.Ytbgnffgceeclhaa.reads
