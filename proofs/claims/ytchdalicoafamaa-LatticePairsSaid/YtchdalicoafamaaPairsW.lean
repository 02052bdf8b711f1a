/-
  The walk of LatticePairs: for every number of levels and every pairs the call returns true.
-/
import Derived.Test.YtchdalicoafamaaRows
import Derived.Test.YtchdalicoafamaaBase
import Derived.Test.YtchdalicoafamaaLat
import Derived.Test.YtchdalicoafamaaClosed
import Derived.Test.YtchdalicoafamaaLattice
import Derived.Test.YtchdalicoafamaaLists
import Derived.Test.YtchdalicoafamaaMake
import Derived.Test.YtchdalicoafamaaSame
import Derived.Test.YtchdalicoafamaaJoins
import Derived.Test.YtchdalicoafamaaFixedL
import Derived.Test.YtchdalicoafamaaArgsL
import Derived.Test.YtchdalicoafamaaLawsW
import Derived.Test.YtchdalicoafamaaMoreP
import Derived.Test.YtchdalicoafamaaPairsP
import Derived.Test.YtchdalicoafamaaAppend
import Derived.Test.YtchdalicoafamaaLies
import Derived.Deep.QuietTactic
import Derived.BigQuiet
import Derived.WalkSmall
import Derived.ChangeKeysEq
import Derived.Deep.Slices
import Derived.OpenShut
import Derived.Deep.LoopGhost
import Derived.Deep.CutRange
import Derived.Deep.RegionLaw
import Derived.Deep.RegionHeld3
namespace Go.Proofs.Ytchdalicoafamaa.prs
open Go.RowKit Base Go.ChangeShapes Go.WideShapes
open laws (flows_q join_q meet_q top_q bottom_q eq_yes eq_no ne0)
set_option maxHeartbeats 20000000 in
set_option maxRecDepth 8000 in
theorem walk_no (W : World) {n : Int} {ao : Option Addr} {len cap : Nat} {ps : List (Int × Int)} (hps : PairsIn W ao len ps) (h0 : Lat.newE n ps ≠ 0) :
    Calls Try.prog 4 #[.int .i64 n, .slice ao len cap] W fun e w' => e = .returned (.bool true) ∧ Below W.heap.size W w' := by
  have ht := ne0 h0
  go_enter Try.func4, Try.ntmps4
  go_wp2_with fail
  refine (lnew_any W hps).mono ?_
  rintro e w1 hm
  obtain ⟨rfl, hb⟩ := made_no hm rfl h0
  generalize Lat.newE n ps = ec at *
  go_wp2_with fail
  refine (lfixed_any w1).mono ?_
  rintro e w2 ⟨rfl, hb1⟩
  have hb := hb.trans (hb1.mono hb.size)
  go_wp2_with fail
  go_ret
  exact ⟨rfl, hb⟩
set_option maxHeartbeats 20000000 in
set_option maxRecDepth 8000 in
theorem walk_yes (W : World) {n : Nat} {ao : Option Addr} {len cap : Nat} {ps : List (Int × Int)} (hps : PairsIn W ao len ps) (h0 : Lat.newE n ps = 0) :
    Calls Try.prog 4 #[.int .i64 n, .slice ao len cap] W fun e w' => e = .returned (.bool true) ∧ Below W.heap.size W w' := by
  have hok := Lat.ok_of h0
  obtain ⟨hE, hU⟩ := Lat.again h0
  go_enter Try.func4, Try.ntmps4
  go_wp2_with fail
  refine (lnew_any W hps).mono ?_
  rintro e w1 hm
  obtain ⟨g, rfl, hb, hg, hA⟩ := made_ok hm h0
  generalize Lat.up n ps = u at *
  generalize Lat.down n u = d at *
  clear hm h0 hps
  have h8 := hok.le8
  have HOK := Lib.hid hok
  clear hok
  go_wp2_with fail
  refine (lfixed_any w1).mono ?_
  rintro e w2 ⟨rfl, hb1⟩
  have hA := hA.below hb1 hA.lt
  have hb := hb.trans (hb1.mono hb.size)
  clear hb1
  go_wp2_with fail
  refine (pairs_any hA).mono ?_
  rintro e w3 ⟨v, rfl, hown, hb1⟩
  have hA := hA.below hb1 hA.lt
  have hb := hb.trans (hb1.mono hb.size)
  have hR := PRow.of_pairs hown
  have hlen := Lat.pairs_len HOK.out
  generalize hL : Lat.pairsTo n u d n = L at *
  have HL := Lib.hid hL
  obtain ⟨ap, cp, rfl, hlc, hcm, hpp, hlies⟩ := hR.form (Lat.pz_length L)
  clear hown hb1 hR hL
  go_wp2_with fail
  refine (lnew_any w3 hpp).mono ?_
  rintro e w4 hm
  obtain ⟨g2, rfl, hb1, hg2, hB⟩ := made_ok hm hE
  rw [hU] at hB
  generalize Lat.down n u = d2 at *
  have hA := hA.below hb1 hA.lt
  have hb := hb.trans (hb1.mono hb.size)
  have hlies := fun h => (hlies h).imp fun _ h => And.intro h.1 (h.2.below hb1 (Nat.le_refl _))
  clear hm hE hU hb1 hpp hg hg2
  go_wp2_with fail
  go_loopw [9] (fun i wr => ∃ a : Nat, a ≤ n ∧ i = .int .i64 a ∧ wr = w4) (fun i _ => n - (intOf i).toNat)
  case atStart => exact ⟨0, Nat.zero_le _, rfl, rfl⟩
  case round =>
    obtain ⟨a, ha, rfl, rfl⟩ := hrel
    by_cases hlt : a < n
    · have ha8 : (a : Int) < 8 := by omega
      have ha9 : (a : Int) < n := by omega
      go_wp2_with fail
      obtain ⟨wo, hwo⟩ : ∃ wo : World, wo = wr := ⟨_, rfl⟩
      go_loopw [10] (fun i wx => ∃ b : Nat, b ≤ n ∧ i = .int .i64 b ∧ wx = wo) (fun i _ => n - (intOf i).toNat)
      case atStart => exact ⟨0, Nat.zero_le _, rfl, hwo.symm⟩
      case round =>
        obtain ⟨b, hb', rfl, rfl⟩ := hrel
        subst hwo
        by_cases hltb : b < n
        · have hb8 : (b : Int) < 8 := by omega
          have hb9 : (b : Int) < n := by omega
          obtain ⟨r, hf⟩ : ∃ r, Lat.flowsB n u (a : Int) (b : Int) = r := ⟨_, rfl⟩
          cases r with
          | true =>
              replace hf := Lib.hid hf
              go_wp2_with fail
              refine (flows_s hA hf.out).mono ?_
              rintro e w' ⟨rfl, rfl⟩
              go_wp2_with fail
              refine (flows_s hB hf.out).mono ?_
              rintro e w' ⟨rfl, rfl⟩
              go_wp2_with fail
              go_roundw
              case rel => exact ⟨b + 1, by omega, by go_num, by trivial⟩
              case measure => simp [intOf]; omega
          | false =>
              replace hf := Lib.hid hf
              go_wp2_with fail
              refine (flows_s hA hf.out).mono ?_
              rintro e w' ⟨rfl, rfl⟩
              go_wp2_with fail
              refine (flows_s hB hf.out).mono ?_
              rintro e w' ⟨rfl, rfl⟩
              go_wp2_with fail
              go_roundw
              case rel => exact ⟨b + 1, by omega, by go_num, by trivial⟩
              case measure => simp [intOf]; omega
        · obtain rfl : b = n := by omega
          go_wp2_with fail
          go_roundw
          case rel => exact ⟨a + 1, by omega, by go_num, by trivial⟩
          case measure => simp [intOf]; omega
    · obtain rfl : a = n := by omega
      clear hA hB hlt ha
      go_wp2_with fail
      obtain ⟨wo, hwo⟩ : ∃ wo : World, wo = wr := ⟨_, rfl⟩
      go_loopw [11] (fun i wx => ∃ k : Nat, k ≤ L.length ∧ i = .int .i64 k ∧ Below wo.heap.size wo wx) (fun i _ => L.length - (intOf i).toNat)
      case atStart => exact ⟨0, Nat.zero_le _, rfl, by rw [hwo]; exact Below.refl _ _⟩
      case round =>
        subst hwo
        obtain ⟨k, hk, rfl, hbk⟩ := hrel
        by_cases hlk : k < L.length
        · obtain ⟨gp, rfl, hP⟩ := hlies (by omega)
          replace hP := hP.below hbk (Nat.le_refl _)
          go_upto_region 21 with fail
          have hcap := hcm
          unfold maxLen at hcap
          have hbs := hbk.size
          have k1 : (k : Int) + 1 ≤ (cp : Int) := by omega
          have k2 : (k : Int) + 1 ≤ (L.length : Int) := by omega
          have k3 : (k : Int) ≤ (cp : Int) := by omega
          have k4 : k ≤ cp := by omega
          have k6 : (k : Int) + 1 ≤ 64 := by omega
          have hwr : IntKind.i64.wrap ((k : Int) + 1) = (k : Int) + 1 := IntWalk.i64_in _ (by omega)
          have k7 : 0 ≤ (k : Int) + 1 := by omega
          have htn : ((k : Int) + 1).toNat = k + 1 := by omega
          have k5 : k + 1 ≤ L.length := by omega
          go_region_law (first
            | (refine step_append_pairs (v := .slice (some ⟨wr.heap.size, 0, none⟩) 0 0) rfl (.tmp 79) (.tmp 82) rfl rfl (PRow.empty wr (Nat.le_refl _)).drew (by simp) rfl ((hP.take (Nat.le_of_lt hlk)).alloc (.cells #[] 33)).drew (by simp <;> omega) ?_
               intro v1 w5 h1 hgr1
               have hb5 := ((Below.refl wr.heap.size wr).alloc (Nat.le_refl _) (.cells #[] 33)).drew.grown hgr1 (by simp) (fun k e => by cases e; exact Nat.le_refl _)
               clear hgr1)
            | (refine step_append_pairs rfl (.tmp 83) (.tmp 87) rfl rfl h1 hb5.size rfl (if_pairs (hP.below hb5 (Nat.le_refl _)) k5 hlc) (by simp <;> omega) ?_
               intro v2 w6 h2 hgr2
               have hb6 := hb5.grown hgr2 hb5.size (fun k e => (h1.lt k e).1)
               clear hgr2))
          have hneed := Lat.needed HOK.out (i := k) (by rw [HL.out]; exact hlk)
          simp only [HL.out] at hneed
          have cxx := hP.fst k hlk
          have cyy := hP.snd k hlk
          rw [Lat.pz_get L hlk] at cxx cyy
          have hs : ([] ++ List.take k (Lat.pz L) ++ List.drop (k + 1) (Lat.pz L)) = Lat.pz (L.take k ++ L.drop (k + 1)) := by
            unfold Lat.pz
            rw [List.nil_append, List.map_append, List.map_take, List.map_drop]
          rw [hs] at h2
          have hll : (Lat.pz (L.take k ++ L.drop (k + 1))).length = L.length - 1 := by
            rw [Lat.pz_length, List.length_append, List.length_take, List.length_drop]
            omega
          obtain ⟨ao2, c2, rfl, hm2, hp2⟩ := h2.pairs_len hll
          generalize L.take k ++ L.drop (k + 1) = R at *
          obtain ⟨⟨x, y⟩, hxy⟩ : ∃ q, L[k] = q := ⟨_, rfl⟩
          rw [hxy] at hneed cxx cyy
          have hbs6 := hb6.size
          have hgp := hP.lt (by omega)
          replace cxx := (hb6.cell (p := ⟨gp, k * 2, none⟩) hgp).trans cxx
          replace cyy := (hb6.cell (p := ⟨gp, k * 2 + 1, none⟩) hgp).trans cyy
          replace hb6 := hbk.trans (hb6.mono hbs)
          replace hneed := Lib.hid hneed
          generalize (if cp = k + 1 then some (⟨gp, 0, none⟩ : Addr) else some ⟨gp, (k + 1) * 2, none⟩) = ax at *
          clear hs hxy h1 hb5 h2 hll hP hwr htn k7 k6 k3 k1 k4 hcap
          go_wp2_with fail
          refine (lnew_any w6 hp2).mono ?_
          rintro e w7 ⟨p, rfl, hb7, hcase⟩
          simp only [Int.toNat_natCast] at hcase
          have cx7 := (hb7.cell (p := ⟨gp, k * 2, none⟩) (by show gp < _; omega)).trans cxx
          have cy7 := (hb7.cell (p := ⟨gp, k * 2 + 1, none⟩) (by show gp < _; omega)).trans cyy
          replace hb7 := hb6.trans (hb7.mono (by omega))
          clear hp2 cxx cyy hb6
          generalize Lat.newE a (Lat.pz R) = ec at *
          rcases hcase with ⟨_, rfl⟩ | ⟨_, g3, rfl, _, hC⟩
          · go_wp2_with fail
            go_quiet (fail)
            have hb8 := below_drewN hb7 nq
            clear hb7
            generalize w7.drewN nq = w8 at *
            go_wp2_with fail
            go_roundw
            case rel => exact ⟨k + 1, by omega, by go_num, hb8⟩
            case measure => simp [intOf]; omega
          · go_wp2_with fail
            go_quiet ((go_at_call 12; go_must (exact Calls.quiet_of_same ((flows_s (hC.drewN _) hneed.out).mono fun _ _ h => ⟨h.1, h.2.symm⟩))))
            have hb8 := below_drewN hb7 nq
            clear hb7 cx7 cy7 hC
            generalize w7.drewN nq = w8 at *
            go_wp2_with fail
            go_roundw
            case rel => exact ⟨k + 1, by omega, by go_num, hb8⟩
            case measure => simp [intOf]; omega
        · obtain rfl : k = L.length := by omega
          go_wp2_with fail
          go_ret
          exact ⟨rfl, hb.trans (hbk.mono hb.size)⟩

theorem walk (W : World) {n : Int} {ao : Option Addr} {len cap : Nat} {ps : List (Int × Int)} (hps : PairsIn W ao len ps) :
    Calls Try.prog 4 #[.int .i64 n, .slice ao len cap] W fun e w' => e = .returned (.bool true) ∧ Below W.heap.size W w' := by
  by_cases h : Lat.newE n ps = 0
  · obtain ⟨m, rfl⟩ := Int.eq_ofNat_of_zero_le (show 0 ≤ n by have := (Lat.newE_zero h).1; omega)
    exact walk_yes W hps h
  · exact walk_no W hps h
end Go.Proofs.Ytchdalicoafamaa.prs
