/-
  The walk of LatticeTurned: for every number of levels and every pairs that are within the reach the call returns true.
-/
import Derived.Test.YtchdalicoafamaaRows
import Derived.Test.YtchdalicoafamaaBase
import Derived.Test.YtchdalicoafamaaLat
import Derived.Test.YtchdalicoafamaaClosed
import Derived.Test.YtchdalicoafamaaLattice
import Derived.Test.YtchdalicoafamaaLists
import Derived.Test.YtchdalicoafamaaMake
import Derived.Test.YtchdalicoafamaaSame
import Derived.Test.YtchdalicoafamaaJoins
import Derived.Test.YtchdalicoafamaaFixedL
import Derived.Test.YtchdalicoafamaaArgsL
import Derived.Test.YtchdalicoafamaaLawsW
import Derived.Test.YtchdalicoafamaaAppend
import Derived.Test.YtchdalicoafamaaLies
import Derived.Test.YtchdalicoafamaaTurnedP
import Derived.Deep.QuietTactic
import Derived.BigQuiet
import Derived.WalkSmall
import Derived.ChangeKeysEq
import Derived.Deep.Slices
import Derived.OpenShut
import Derived.Deep.LoopGhost
import Derived.Deep.CutRange
import Derived.Deep.RegionLaw
import Derived.Deep.RegionHeld3
namespace Go.Proofs.Ytchdalicoafamaa.turned
open Go.RowKit Base Go.ChangeShapes Go.WideShapes
open laws (flows_q join_q meet_q top_q bottom_q eq_yes eq_no ne0)
theorem take_snoc {ps : List (Int × Int)} {k : Nat} (hk : k < ps.length) (f : Int × Int → Int × Int) : (ps.take k).map f ++ [f (ps.getD k (0, 0))] = (ps.take (k + 1)).map f := by
  rw [List.take_add_one, List.map_append, List.getD_eq_getElem?_getD, List.getElem?_eq_getElem hk]
  rfl
theorem levels_s {w : World} {g n : Nat} {u d : Nat → BitVec 8} (h : LatAt w g n u d) : Calls Try.prog 28 #[.pointer (some ⟨g, 0, none⟩)] w fun e w' => e = .returned (.int .i64 (n : Int)) ∧ w = w' :=
  (levels_any h).mono fun _ _ h => ⟨h.1, h.2.symm⟩
theorem pairs_at {w : World} {ao : Option Addr} {len : Nat} {ps : List (Int × Int)} (h : PairsIn w ao len ps) {k : Nat} (hk : k < len) : ∃ a x y, ao = some a ∧ a.block < w.heap.size ∧ ps.getD k (0, 0) = (x, y) ∧ w.cell? (a.add (k * 2)) = some (.int .i64 x) ∧ w.cell? ⟨(a.add (k * 2)).block, (a.add (k * 2)).off + 1, none⟩ = some (.int .i64 y) := by
  obtain ⟨a, e, hl, c0, c1⟩ := h.2 k hk
  exact ⟨a, _, _, e, hl, rfl, c0, c1⟩
theorem list_len (n : Nat) (u : Nat → BitVec 8) (a : Int) : (listTo n u a n).length ≤ n := listTo_le n u a n
set_option maxHeartbeats 20000000 in
set_option maxRecDepth 8000 in
theorem walk (W : World) {n : Int} {ao : Option Addr} {len cap : Nat} {ps : List (Int × Int)} (hps : PairsIn W ao len ps) (hm : len * 16 ≤ 140737488355327) :
    Calls Try.prog 9 #[.int .i64 n, .slice ao len cap] W fun e w' => e = .returned (.bool true) ∧ Below W.heap.size W w' := by
  have hlen := hps.1
  go_enter Try.func9, Try.ntmps9
  go_wp2_with fail
  go_loopw [5, 6] (fun v i wr => ∃ k : Nat, k ≤ len ∧ i = .int .i64 k ∧ PRow wr W.heap.size v ((ps.take k).map Lat.sw) ∧ Below W.heap.size W wr) (fun _ i _ => len - (intOf i).toNat)
  case atStart => exact ⟨0, Nat.zero_le _, rfl, by simpa using PRow.empty W (Nat.le_refl _), (Below.refl _ _).alloc (Nat.le_refl _) _⟩
  case round =>
    obtain ⟨k, hk, rfl, hown, hb⟩ := hrel
    have hpsr := hps.below hb (Nat.le_refl _)
    have hbs := hb.size
    by_cases hlt : k < len
    · obtain ⟨a, x, y, rfl, hpb, hq, cx, cy⟩ := pairs_at hpsr hlt
      have HS := Lib.hid (take_snoc (ps := ps) (k := k) (by omega) Lat.sw)
      replace HS := Lib.hid (hq ▸ HS.out)
      clear hq
      have hklt : (k : Int) < len := by omega
      go_upto_region 5 with fail
      have cx1 : wr.drew.cell? (a.add (k * 2)) = some (.int .i64 x) := cx
      have cy1 : wr.drew.cell? ⟨(a.add (k * 2)).block, (a.add (k * 2)).off + 1, none⟩ = some (.int .i64 y) := cy
      have hll : ((ps.take k).map Lat.sw).length = k := by rw [List.length_map, List.length_take]; omega
      go_region_law (refine step_append_pairs rfl (.tmp 23) (.tmp 35) rfl rfl (hown.drew.alloc (.cells #[.int .i64 y, .int .i64 x] 33)) (by simp <;> omega) rfl (PairsIn.made wr.drew y x) (by rw [hll]; omega) ?_
                     intro v3 w3 h3 hgr3
                     have hb3 := (hb.drew.alloc hbs (.cells #[.int .i64 y, .int .i64 x] 33)).grown hgr3 (by simp <;> omega) (fun g hg => (hown.lt g hg).1)
                     clear hgr3)
      all_goals
        clear cx cy cx1 cy1 hown hb
        go_wp2_with fail
        go_roundw
        case rel => exact ⟨k + 1, by omega, by go_num, by rw [← HS.out, List.map_take]; simpa [Lat.sw] using h3, hb3⟩
        case measure => simp [intOf]; omega
    · obtain rfl : k = len := by omega
      rw [List.take_of_length_le (by omega)] at hown
      have hnE := Lat.turned_E n ps
      clear hlt hk
      obtain ⟨ap, cp, rfl, hqm, hqs⟩ := hown.pairs_len (n := k) (by rw [List.length_map]; exact hlen)
      by_cases h0 : Lat.newE n ps = 0
      · obtain ⟨n, rfl⟩ := Int.eq_ofNat_of_zero_le (show 0 ≤ n by have := (Lat.newE_zero h0).1; omega)
        have hok := Lat.ok_of h0
        have h8 := hok.le8
        obtain ⟨h0', hu', hd'⟩ := Lat.turned_ok h0
        clear hnE hm
        go_wp2_with fail
        refine (lnew_any wr hpsr).mono ?_
        rintro e w1 hm1
        obtain ⟨g, rfl, hb1, hg, hA⟩ := made_ok hm1 h0
        replace hqs := hqs.below hb1 (Nat.le_refl _)
        replace hb1 := hb.trans (hb1.mono hb.size)
        clear hm1 hpsr hown hb hg h0
        go_wp2_with fail
        refine (lnew_any w1 hqs).mono ?_
        rintro e w2 hm1
        obtain ⟨g', rfl, hb2, hg', hB⟩ := made_ok hm1 h0'
        rw [hu', hd'] at hB
        replace hA := hA.below hb2 hA.lt
        replace hb2 := hb1.trans (hb2.mono hb1.size)
        clear hm1 hqs hb1 hg' h0' hu' hd'
        go_wp2_with fail
        refine (lfixed_any w2).mono ?_
        rintro e w3 ⟨rfl, hb3⟩
        replace hA := hA.below hb3 hA.lt
        replace hB := hB.below hb3 hB.lt
        replace hb3 := hb2.trans (hb3.mono hb2.size)
        clear hb2 hps hlen hbs
        generalize Lat.up n ps = u at *
        generalize Lat.down n u = d at *
        have HOK := Lib.hid hok
        clear hok
        obtain ⟨t, ht⟩ : ∃ t, Lat.endF n d (Lat.allF n) = t := ⟨_, rfl⟩
        obtain ⟨z, hz⟩ : ∃ z, Lat.endF n u (Lat.allF n) = z := ⟨_, rfl⟩
        replace ht := Lib.hid ht
        replace hz := Lib.hid hz
        go_wp2_with fail
        refine (top_q hA ht.out).mono ?_
        rintro e w' ⟨q1, rfl, rfl⟩
        go_wp2_with fail
        refine (bottom_q (hB.drewN _) ht.out).mono ?_
        rintro e w' ⟨q2, rfl, rfl⟩
        go_wp2_with fail
        refine (bottom_q (hA.drewN _) hz.out).mono ?_
        rintro e w' ⟨q3, rfl, rfl⟩
        go_wp2_with fail
        refine (top_q (hB.drewN _) hz.out).mono ?_
        rintro e w' ⟨q4, rfl, rfl⟩
        go_wp2_with fail
        refine (levels_s (hA.drewN _)).mono ?_
        rintro e w' ⟨rfl, rfl⟩
        go_wp2_with fail
        refine (levels_s (hB.drewN _)).mono ?_
        rintro e w' ⟨rfl, rfl⟩
        go_wp2_with fail
        have hb4 := below_drewN hb3 (q1 + q2 + q3 + q4)
        replace hA := hA.drewN (q1 + q2 + q3 + q4)
        replace hB := hB.drewN (q1 + q2 + q3 + q4)
        clear hb3
        generalize w3.drewN (q1 + q2 + q3 + q4) = w4 at *
        go_loopw [11] (fun i wr => ∃ a : Int, -1 ≤ a ∧ a ≤ n + 1 ∧ i = .int .i64 a ∧ Below w4.heap.size w4 wr) (fun i _ => (n + 1 - intOf i).toNat)
        case atStart => exact ⟨-1, by omega, by omega, rfl, Below.refl _ _⟩
        case round =>
          have hgA := hA.lt
          have hgB := hB.lt
          obtain ⟨a, ha0, ha1, rfl, hba⟩ := hrel
          by_cases hlt : a ≤ n
          · go_wp2_with fail
            obtain ⟨wo, rfl⟩ : ∃ wo : World, wo = wr := ⟨_, rfl⟩
            go_loopw [12] (fun i wr => ∃ b : Int, -1 ≤ b ∧ b ≤ n + 1 ∧ i = .int .i64 b ∧ Below w4.heap.size w4 wr) (fun i _ => (n + 1 - intOf i).toNat)
            case atStart => exact ⟨-1, by omega, by omega, rfl, hba⟩
            case round =>
              clear hba
              obtain ⟨b, hb0, hb1, rfl, hbb⟩ := hrel
              replace hA := hA.below hbb hgA
              replace hB := hB.below hbb hgB
              by_cases hltb : b ≤ n
              · have f1 := Lat.flows_turned HOK.out a b
                obtain ⟨r, fr⟩ : ∃ r, Lat.flowsB n u a b = r := ⟨_, rfl⟩
                obtain ⟨j, f2⟩ : ∃ r, Lat.joinF n u a b = r := ⟨_, rfl⟩
                obtain ⟨m, f3⟩ : ∃ r, Lat.joinF n d a b = r := ⟨_, rfl⟩
                rw [fr] at f1
                replace f1 := Lib.hid f1
                replace f2 := Lib.hid f2
                replace f3 := Lib.hid f3
                replace fr := Lib.hid fr
                cases r with
                | true =>
                  go_wp2_with fail
                  refine (flows_s hA fr.out).mono ?_
                  rintro e w' ⟨rfl, rfl⟩
                  go_wp2_with fail
                  refine (flows_s hB f1.out).mono ?_
                  rintro e w' ⟨rfl, rfl⟩
                  go_wp2_with fail
                  refine (join_q hA f2.out).mono ?_
                  rintro e w' ⟨q1, rfl, rfl⟩
                  go_wp2_with fail
                  refine (meet_q (hB.drewN _) f2.out).mono ?_
                  rintro e w' ⟨q2, rfl, rfl⟩
                  go_wp2_with fail
                  refine (meet_q (hA.drewN _) f3.out).mono ?_
                  rintro e w' ⟨q3, rfl, rfl⟩
                  go_wp2_with fail
                  refine (join_q (hB.drewN _) f3.out).mono ?_
                  rintro e w' ⟨q4, rfl, rfl⟩
                  go_wp2_with fail
                  go_roundw
                  case rel => exact ⟨b + 1, by omega, by omega, by go_num, below_drewN hbb _⟩
                  case measure => simp [intOf]; omega
                | false =>
                  go_wp2_with fail
                  refine (flows_s hA fr.out).mono ?_
                  rintro e w' ⟨rfl, rfl⟩
                  go_wp2_with fail
                  refine (flows_s hB f1.out).mono ?_
                  rintro e w' ⟨rfl, rfl⟩
                  go_wp2_with fail
                  refine (join_q hA f2.out).mono ?_
                  rintro e w' ⟨q1, rfl, rfl⟩
                  go_wp2_with fail
                  refine (meet_q (hB.drewN _) f2.out).mono ?_
                  rintro e w' ⟨q2, rfl, rfl⟩
                  go_wp2_with fail
                  refine (meet_q (hA.drewN _) f3.out).mono ?_
                  rintro e w' ⟨q3, rfl, rfl⟩
                  go_wp2_with fail
                  refine (join_q (hB.drewN _) f3.out).mono ?_
                  rintro e w' ⟨q4, rfl, rfl⟩
                  go_wp2_with fail
                  go_roundw
                  case rel => exact ⟨b + 1, by omega, by omega, by go_num, below_drewN hbb _⟩
                  case measure => simp [intOf]; omega
              · have hbs4 := hbb.size
                have hll := list_len n u a
                go_wp2_with fail
                refine (above_any hA a).mono ?_
                rintro e w5 ⟨v1, rfl, hown1, hb5⟩
                replace hB := hB.below hb5 (by omega)
                replace hb5 := hbb.trans (hb5.mono hbs4)
                have hbs5 := hb5.size
                obtain ⟨l1, c1, rfl, hlm, hx⟩ := ints_of_owns hown1
                clear hown1 hbb hA
                go_wp2_with fail
                refine (below_any hB a).mono ?_
                rintro e w6 ⟨v2, rfl, hown2, hb6⟩
                replace hx := hx.below hb6 (Nat.le_refl _)
                replace hb6 := hb5.trans (hb6.mono hbs5)
                obtain ⟨l2, c2, rfl, _, hy⟩ := ints_of_owns hown2
                clear hown2 hB hb5 hbs5 hbs4
                generalize listTo n u a n = L at *
                go_wp2_with fail
                go_loopw [15] (fun i wr => ∃ k : Nat, k ≤ L.length ∧ i = .int .i64 k ∧ ∃ q, wr = w6.drewN q) (fun i _ => L.length - (intOf i).toNat)
                case atStart => exact ⟨0, Nat.zero_le _, rfl, 0, rfl⟩
                case round =>
                  obtain ⟨m, hm0, rfl, q, rfl⟩ := hrel
                  by_cases hltm : m < L.length
                  · obtain ⟨p1, rfl, _, cx⟩ := hx.2 m hltm
                    obtain ⟨p2, rfl, _, cy⟩ := hy.2 m hltm
                    have hmlt : (m : Int) < L.length := by omega
                    generalize (L.map fun (k : Nat) => (k : Int)).getD m 0 = x at *
                    go_wp2_with fail
                    go_quiet (fail)
                    go_wp2_with fail
                    go_roundw
                    case rel => exact ⟨m + 1, by omega, by go_num, _, rfl⟩
                    case measure => simp [intOf]; omega
                  · have hmlt : ¬ ((m : Int) < L.length) := by omega
                    go_wp2_with fail
                    go_roundw
                    case rel => exact ⟨a + 1, by omega, by omega, by go_num, below_drewN hb6 _⟩
                    case measure => simp [intOf]; omega
          · go_wp2_with fail
            go_ret
            exact ⟨rfl, hb4.trans (hba.mono hb4.size)⟩
      · have h1 : Lat.newE n (ps.map Lat.sw) ≠ 0 := by rw [hnE]; exact h0
        go_wp2_with fail
        refine (lnew_any wr hpsr).mono ?_
        rintro e w1 hm1
        obtain ⟨rfl, hb1⟩ := made_no hm1 rfl h0
        replace hqs := hqs.below hb1 (Nat.le_refl _)
        replace hb1 := hb.trans (hb1.mono hb.size)
        clear hm1 hpsr hown hb
        have ht := ne0 h0
        go_wp2_with fail
        refine (lnew_any w1 hqs).mono ?_
        rintro e w2 hm1
        obtain ⟨rfl, hb2⟩ := made_no hm1 rfl h1
        replace hb2 := hb1.trans (hb2.mono hb1.size)
        clear hm1 hqs hb1 h1
        rw [hnE]
        clear hnE
        generalize Lat.newE n ps = ec at *
        go_wp2_with fail
        refine (lfixed_any w2).mono ?_
        rintro e w3 ⟨rfl, hb3⟩
        replace hb3 := hb2.trans (hb3.mono hb2.size)
        go_wp2_with fail
        go_ret
        exact ⟨rfl, hb3⟩
end Go.Proofs.Ytchdalicoafamaa.turned
