/-
  The walk of LatticeMore: for every number of levels, every pairs and one pair more the call returns true.
-/
import Derived.Test.YtchdalicoafamaaRows
import Derived.Test.YtchdalicoafamaaBase
import Derived.Test.YtchdalicoafamaaLat
import Derived.Test.YtchdalicoafamaaClosed
import Derived.Test.YtchdalicoafamaaLattice
import Derived.Test.YtchdalicoafamaaLists
import Derived.Test.YtchdalicoafamaaMake
import Derived.Test.YtchdalicoafamaaSame
import Derived.Test.YtchdalicoafamaaJoins
import Derived.Test.YtchdalicoafamaaFixedL
import Derived.Test.YtchdalicoafamaaArgsL
import Derived.Test.YtchdalicoafamaaLawsW
import Derived.Test.YtchdalicoafamaaMoreP
import Derived.Test.YtchdalicoafamaaAppend
import Derived.Deep.QuietTactic
import Derived.BigQuiet
import Derived.WalkSmall
import Derived.ChangeKeysEq
import Derived.Deep.Slices
import Derived.OpenShut
import Derived.Deep.LoopGhost
import Derived.Deep.CutRange
import Derived.Deep.RegionLaw
import Derived.Deep.RegionHeld3
namespace Go.Proofs.Ytchdalicoafamaa.more
open Go.RowKit Base Go.ChangeShapes Go.WideShapes
open laws (flows_q join_q meet_q top_q bottom_q eq_yes eq_no ne0)
set_option maxHeartbeats 20000000 in
set_option maxRecDepth 8000 in
theorem walk_no (W : World) {n : Int} {ao : Option Addr} {len cap : Nat} {ps : List (Int × Int)} (hps : PairsIn W ao len ps) (x y : Int) (h0 : Lat.newE n ps ≠ 0) :
    Calls Try.prog 5 #[.int .i64 n, .slice ao len cap, .agg #[.int .i64 x, .int .i64 y]] W fun e w' => e = .returned (.bool true) ∧ Below W.heap.size W w' := by
  have ht := ne0 h0
  have hps1 := hps.alloc (.cells #[.int .i64 x, .int .i64 y] 33)
  have hb0 := (Below.refl W.heap.size W).alloc (Nat.le_refl _) (.cells #[.int .i64 x, .int .i64 y] 33)
  go_enter Try.func5, Try.ntmps5
  go_wp2_with fail
  refine (lnew_any _ hps1).mono ?_
  rintro e w1 hm
  obtain ⟨rfl, hb⟩ := made_no hm rfl h0
  have hb := hb0.trans (hb.mono hb0.size)
  generalize Lat.newE n ps = ec at *
  go_wp2_with fail
  refine (lfixed_any w1).mono ?_
  rintro e w2 ⟨rfl, hb1⟩
  have hb := hb.trans (hb1.mono hb.size)
  go_wp2_with fail
  go_ret
  exact ⟨rfl, hb⟩
set_option maxHeartbeats 20000000 in
set_option maxRecDepth 8000 in
theorem walk_full (W : World) {n : Nat} {ao : Option Addr} {len cap : Nat} {ps : List (Int × Int)} (hps : PairsIn W ao len ps) (x y : Int) (h0 : Lat.newE n ps = 0) (hl : 64 ≤ len) :
    Calls Try.prog 5 #[.int .i64 n, .slice ao len cap, .agg #[.int .i64 x, .int .i64 y]] W fun e w' => e = .returned (.bool true) ∧ Below W.heap.size W w' := by
  have hps1 := hps.alloc (.cells #[.int .i64 x, .int .i64 y] 33)
  have hb0 := (Below.refl W.heap.size W).alloc (Nat.le_refl _) (.cells #[.int .i64 x, .int .i64 y] 33)
  go_enter Try.func5, Try.ntmps5
  go_wp2_with fail
  refine (lnew_any _ hps1).mono ?_
  rintro e w1 hm
  obtain ⟨g, rfl, hb, hg, hA⟩ := made_ok hm h0
  have hb := hb0.trans (hb.mono hb0.size)
  clear hm h0 hps hps1 hb0
  go_wp2_with fail
  refine (lfixed_any w1).mono ?_
  rintro e w2 ⟨rfl, hb1⟩
  have hb := hb.trans (hb1.mono hb.size)
  go_wp2_with fail
  go_ret
  exact ⟨rfl, hb⟩
set_option maxHeartbeats 20000000 in
set_option maxRecDepth 8000 in
theorem walk_yes (W : World) {n : Nat} {ao : Option Addr} {len cap : Nat} {ps : List (Int × Int)} (hps : PairsIn W ao len ps) (x y : Int) (h0 : Lat.newE n ps = 0) (hl : len < 64) :
    Calls Try.prog 5 #[.int .i64 n, .slice ao len cap, .agg #[.int .i64 x, .int .i64 y]] W fun e w' => e = .returned (.bool true) ∧ Below W.heap.size W w' := by
  have hps1 := hps.alloc (.cells #[.int .i64 x, .int .i64 y] 33)
  have hb0 := (Below.refl W.heap.size W).alloc (Nat.le_refl _) (.cells #[.int .i64 x, .int .i64 y] 33)
  go_enter Try.func5, Try.ntmps5
  go_wp2_with fail
  refine (lnew_any _ hps1).mono ?_
  rintro e w1 hm
  obtain ⟨g, rfl, hbN, hg, hA⟩ := made_ok hm h0
  have cx : w1.cell? ⟨W.heap.size, 0, none⟩ = some (.int .i64 x) := (hbN.cell (p := ⟨W.heap.size, 0, none⟩) (by simp)).trans (World.cell?_alloc_new W _ _ 0)
  have cy : w1.cell? ⟨W.heap.size, 1, none⟩ = some (.int .i64 y) := (hbN.cell (p := ⟨W.heap.size, 1, none⟩) (by simp)).trans (World.cell?_alloc_new W _ _ 1)
  have hb := hb0.trans (hbN.mono hb0.size)
  have hps := hps1.below hbN (Nat.le_refl _)
  clear hm hps1 hb0 hbN
  go_wp2_with fail
  refine (lfixed_any w1).mono ?_
  rintro e w2 ⟨rfl, hb1⟩
  have hA := hA.below hb1 hA.lt
  have hps := hps.below hb1 (Nat.le_refl _)
  have hbl : W.heap.size < w1.heap.size := World.block_lt_of_cell? w1 _ cx
  replace cx := (hb1.cell (p := ⟨W.heap.size, 0, none⟩) hbl).trans cx
  replace cy := (hb1.cell (p := ⟨W.heap.size, 1, none⟩) hbl).trans cy
  have hb := hb.trans (hb1.mono hb.size)
  clear hb1 hbl
  go_upto_region 6 with fail
  have hB : W.heap.size < w2.heap.size := World.block_lt_of_cell? w2 _ cx
  have hl' := hps.1
  go_cut [9, 10] from 35 to 111 (fun s9 s10 wr => ∃ p : Option Addr, s9 = .pointer p ∧ s10 = .int .i64 (Lat.newE n (ps ++ [(x, y)])) ∧ Below w2.heap.size w2 wr ∧
    ((Lat.newE n (ps ++ [(x, y)]) ≠ 0 ∧ p = none) ∨ (Lat.newE n (ps ++ [(x, y)]) = 0 ∧ ∃ g', p = some ⟨g', 0, none⟩ ∧ LatAt wr g' n (Lat.up n (ps ++ [(x, y)])) (Lat.down n (Lat.up n (ps ++ [(x, y)]))))))
  case first =>
    have cx1 : w2.drew.cell? ⟨W.heap.size, 0, none⟩ = some (.int .i64 x) := cx
    have cy1 : w2.drew.cell? ⟨W.heap.size, 1, none⟩ = some (.int .i64 y) := cy
    have hb0 := Below.refl w2.heap.size w2
    go_region_law (first
      | (refine step_append_pairs (v := .slice (some ⟨w2.heap.size, 0, none⟩) 0 0) rfl (.tmp 37) (.tmp 38) rfl rfl (PRow.empty w2 (Nat.le_refl _)).drew (by simp) rfl (hps.alloc (.cells #[] 33)).drew (by simp <;> omega) ?_
         intro v1 w3 h1 hgr1
         have hb3 := (hb0.alloc (Nat.le_refl _) (.cells #[] 33)).drew.grown hgr1 (by simp) (fun k e => by cases e; exact Nat.le_refl _)
         have cx3 := (hb3.cell (p := ⟨W.heap.size, 0, none⟩) hB).trans cx
         have cy3 := (hb3.cell (p := ⟨W.heap.size, 1, none⟩) hB).trans cy
         clear hgr1)
      | (refine step_append_pairs (v := .slice (some ⟨w2.heap.size, 0, none⟩) 0 0) rfl (.tmp 37) (.tmp 38) rfl rfl ((PRow.empty w2 (Nat.le_refl _)).alloc (.cells #[.int .i64 x, .int .i64 y] 33)).drew (by simp <;> omega) rfl ((hps.alloc (.cells #[] 33)).alloc (.cells #[.int .i64 x, .int .i64 y] 33)).drew (by simp <;> omega) ?_
         intro v1 w3 h1 hgr1
         have hb3 := ((hb0.alloc (Nat.le_refl _) (.cells #[] 33)).alloc (by simp <;> omega) (.cells #[.int .i64 x, .int .i64 y] 33)).drew.grown hgr1 (by simp <;> omega) (fun k e => by cases e; exact Nat.le_refl _)
         have hp3 := (PairsIn.made (w2.alloc (.cells #[] 33)) x y).drew.grownBy hgr1 (by simp [Value.ownBlock])
         simp only [World.size_alloc] at hp3
         clear hgr1)
      | (refine step_append_pairs (v := .slice (some ⟨w2.heap.size + 1, 0, none⟩) 0 0) rfl (.tmp 37) (.tmp 38) rfl rfl (PRow.empty_at (base := w2.heap.size) (w2.alloc (.cells #[.int .i64 x, .int .i64 y] 33)) (by simp) (by simp)).drew (by simp <;> omega) rfl ((hps.alloc (.cells #[.int .i64 x, .int .i64 y] 33)).alloc (.cells #[] 33)).drew (by simp <;> omega) ?_
         intro v1 w3 h1 hgr1
         have hb3 := ((hb0.alloc (Nat.le_refl _) (.cells #[.int .i64 x, .int .i64 y] 33)).alloc (by simp <;> omega) (.cells #[] 33)).drew.grown hgr1 (by simp <;> omega) (fun k e => by cases e; simp)
         have hp3 := ((PairsIn.made w2 x y).alloc (.cells #[] 33)).drew.grownBy hgr1 (by simp [Value.ownBlock])
         clear hgr1)
      | (refine step_append_pairs rfl (.tmp 39) (.tmp 41) rfl rfl h1 hb3.size rfl hp3 (by simp <;> omega) ?_
         intro v2 w4 h2 hgr2
         have hb4 := hb3.grown hgr2 hb3.size (fun k e => (h1.lt k e).1)
         obtain ⟨ao2, c2, rfl, hm2, hp2⟩ := h2.pairs_len (n := len + 1) (by simp <;> omega)
         clear hgr2)
      | (refine step_append_pairs rfl (.tmp 39) (.tmp 41) rfl rfl (h1.alloc (.cells #[.int .i64 x, .int .i64 y] 33)) (by have := hb3.size; simp; omega) rfl (PairsIn.made w3 x y) (by simp <;> omega) ?_
         intro v2 w4 h2 hgr2
         have hb4 := (hb3.alloc hb3.size (.cells #[.int .i64 x, .int .i64 y] 33)).grown hgr2 (by have := hb3.size; simp; omega) (fun k e => (h1.lt k e).1)
         obtain ⟨ao2, c2, rfl, hm2, hp2⟩ := h2.pairs_len (n := len + 1) (by simp <;> omega)
         clear hgr2)
      | (go_simp
         go_at_call 10
         refine (lnew_any w4 hp2).mono ?_
         rintro e w5 ⟨p, rfl, hb5, hcase⟩
         replace hb5 := hb4.trans (hb5.mono hb4.size)
         simp only [Int.toNat_natCast, List.nil_append] at hcase))
    all_goals
      go_wp2_with fail
      go_meet
      case rel => exact ⟨p, rfl, rfl, hb5, hcase.imp id fun h => ⟨h.1, h.2.imp fun _ h => ⟨h.1, h.2.2⟩⟩⟩
  case rest =>
    obtain ⟨p, rfl, rfl, hb5, hcase⟩ := hcut
    have hbW := hb.trans (hb5.mono hb.size)
    have hA5 := hA.below hb5 hA.lt
    have h8 := hA.le8
    have cx5 := (hb5.cell (p := ⟨W.heap.size, 0, none⟩) hB).trans cx
    have cy5 := (hb5.cell (p := ⟨W.heap.size, 1, none⟩) hB).trans cy
    clear hA hps cx cy hb hb5 hB
    have h1n := (Lat.newE_zero h0).1
    cases hF : Lat.flowsB n (Lat.up n ps) x y with
    | true =>
      obtain ⟨e0, eu⟩ := Lat.newE_more (q := (x, y)) h8 (by omega) h0 (by omega) hF
      rcases hcase with ⟨hne, _⟩ | ⟨_, g', rfl, hB5⟩
      · exact absurd e0 hne
      · rw [eu] at hB5
        rw [e0]
        clear e0 eu h0
        generalize Lat.up n ps = u at *
        generalize Lat.down n u = d at *
        replace hF := Lib.hid hF
        go_wp2_with fail
        refine (flows_s hA5 hF.out).mono ?_
        rintro e w' ⟨rfl, rfl⟩
        go_wp2_with fail
        go_loopw [11] (fun i wr => ∃ a : Nat, a ≤ n ∧ i = .int .i64 a ∧ wr = wc) (fun i _ => n - (intOf i).toNat)
        case atStart => exact ⟨0, Nat.zero_le _, rfl, rfl⟩
        case round =>
          obtain ⟨a, ha, rfl, rfl⟩ := hrel
          by_cases hlt : a < n
          · go_wp2_with fail
            obtain ⟨wo, hwo⟩ : ∃ wo : World, wo = wr := ⟨_, rfl⟩
            go_loopw [12] (fun i wx => ∃ b : Nat, b ≤ n ∧ i = .int .i64 b ∧ wx = wo) (fun i _ => n - (intOf i).toNat)
            case atStart => exact ⟨0, Nat.zero_le _, rfl, hwo.symm⟩
            case round =>
              obtain ⟨b, hb', rfl, rfl⟩ := hrel
              subst hwo
              by_cases hltb : b < n
              · cases hf : Lat.flowsB n u (a : Int) (b : Int) with
                | true =>
                  replace hf := Lib.hid hf
                  go_wp2_with fail
                  refine (flows_s hA5 hf.out).mono ?_
                  rintro e w' ⟨rfl, rfl⟩
                  go_wp2_with fail
                  refine (flows_s hB5 hf.out).mono ?_
                  rintro e w' ⟨rfl, rfl⟩
                  go_wp2_with fail
                  refine (flows_s hA5 hF.out).mono ?_
                  rintro e w' ⟨rfl, rfl⟩
                  go_wp2_with fail
                  refine (flows_s hA5 hf.out).mono ?_
                  rintro e w' ⟨rfl, rfl⟩
                  go_wp2_with fail
                  refine (flows_s hB5 hf.out).mono ?_
                  rintro e w' ⟨rfl, rfl⟩
                  go_wp2_with fail
                  go_roundw
                  case rel => exact ⟨b + 1, by omega, by go_num, by trivial⟩
                  case measure => simp [intOf]; omega
                | false =>
                  replace hf := Lib.hid hf
                  go_wp2_with fail
                  refine (flows_s hA5 hf.out).mono ?_
                  rintro e w' ⟨rfl, rfl⟩
                  go_wp2_with fail
                  refine (flows_s hA5 hF.out).mono ?_
                  rintro e w' ⟨rfl, rfl⟩
                  go_wp2_with fail
                  refine (flows_s hA5 hf.out).mono ?_
                  rintro e w' ⟨rfl, rfl⟩
                  go_wp2_with fail
                  refine (flows_s hB5 hf.out).mono ?_
                  rintro e w' ⟨rfl, rfl⟩
                  go_wp2_with fail
                  go_roundw
                  case rel => exact ⟨b + 1, by omega, by go_num, by trivial⟩
                  case measure => simp [intOf]; omega
              · obtain rfl : b = n := by omega
                go_wp2_with fail
                go_roundw
                case rel => exact ⟨a + 1, by omega, by go_num, by trivial⟩
                case measure => simp [intOf]; omega
          · obtain rfl : a = n := by omega
            go_wp2_with fail
            go_ret
            exact ⟨rfl, hbW⟩
    | false =>
      rcases hcase with ⟨hne, rfl⟩ | ⟨he, g', rfl, hB5⟩
      · generalize Lat.newE n (ps ++ [(x, y)]) = ec at *
        replace hF := Lib.hid hF
        clear hne
        go_wp2_with fail
        refine (flows_s hA5 hF.out).mono ?_
        rintro e w' ⟨rfl, rfl⟩
        go_wp2_with fail
        go_loopw [11] (fun i wr => i = .int .i64 (0 : Nat) ∧ wr = wc) (fun i _ => 0)
        case atStart => exact ⟨rfl, rfl⟩
        case round =>
          obtain ⟨rfl, rfl⟩ := hrel
          go_wp2_with fail
          go_ret
          exact ⟨rfl, hbW⟩
      · have HM : Hid (∀ {a b : Int}, Lat.flowsB n (Lat.up n ps) a b = true → Lat.flowsB n (Lat.up n (ps ++ [(x, y)])) a b = true) := fun h => Lat.flows_more h8 he h
        rw [he]
        clear he h0
        generalize Lat.up n ps = u at *
        generalize Lat.down n u = d at *
        generalize Lat.up n (ps ++ [(x, y)]) = u' at *
        generalize Lat.down n u' = d' at *
        replace hF := Lib.hid hF
        go_wp2_with fail
        refine (flows_s hA5 hF.out).mono ?_
        rintro e w' ⟨rfl, rfl⟩
        go_wp2_with fail
        go_loopw [11] (fun i wr => ∃ a : Nat, a ≤ n ∧ i = .int .i64 a ∧ wr = wc) (fun i _ => n - (intOf i).toNat)
        case atStart => exact ⟨0, Nat.zero_le _, rfl, rfl⟩
        case round =>
          obtain ⟨a, ha, rfl, rfl⟩ := hrel
          by_cases hlt : a < n
          · go_wp2_with fail
            obtain ⟨wo, hwo⟩ : ∃ wo : World, wo = wr := ⟨_, rfl⟩
            go_loopw [12] (fun i wx => ∃ b : Nat, b ≤ n ∧ i = .int .i64 b ∧ wx = wo) (fun i _ => n - (intOf i).toNat)
            case atStart => exact ⟨0, Nat.zero_le _, rfl, hwo.symm⟩
            case round =>
              obtain ⟨b, hb', rfl, rfl⟩ := hrel
              subst hwo
              by_cases hltb : b < n
              · cases hf : Lat.flowsB n u (a : Int) (b : Int) with
                | true =>
                  have hf2 := Lib.hid (HM.out hf)
                  replace hf := Lib.hid hf
                  go_wp2_with fail
                  refine (flows_s hA5 hf.out).mono ?_
                  rintro e w' ⟨rfl, rfl⟩
                  go_wp2_with fail
                  refine (flows_s hB5 hf2.out).mono ?_
                  rintro e w' ⟨rfl, rfl⟩
                  go_wp2_with fail
                  refine (flows_s hA5 hF.out).mono ?_
                  rintro e w' ⟨rfl, rfl⟩
                  go_wp2_with fail
                  go_roundw
                  case rel => exact ⟨b + 1, by omega, by go_num, by trivial⟩
                  case measure => simp [intOf]; omega
                | false =>
                  replace hf := Lib.hid hf
                  go_wp2_with fail
                  refine (flows_s hA5 hf.out).mono ?_
                  rintro e w' ⟨rfl, rfl⟩
                  go_wp2_with fail
                  refine (flows_s hA5 hF.out).mono ?_
                  rintro e w' ⟨rfl, rfl⟩
                  go_wp2_with fail
                  go_roundw
                  case rel => exact ⟨b + 1, by omega, by go_num, by trivial⟩
                  case measure => simp [intOf]; omega
              · obtain rfl : b = n := by omega
                go_wp2_with fail
                go_roundw
                case rel => exact ⟨a + 1, by omega, by go_num, by trivial⟩
                case measure => simp [intOf]; omega
          · obtain rfl : a = n := by omega
            go_wp2_with fail
            go_ret
            exact ⟨rfl, hbW⟩

theorem walk (W : World) {n : Int} {ao : Option Addr} {len cap : Nat} {ps : List (Int × Int)} (hps : PairsIn W ao len ps) (x y : Int) :
    Calls Try.prog 5 #[.int .i64 n, .slice ao len cap, .agg #[.int .i64 x, .int .i64 y]] W fun e w' => e = .returned (.bool true) ∧ Below W.heap.size W w' := by
  by_cases h : Lat.newE n ps = 0
  · obtain ⟨m, rfl⟩ := Int.eq_ofNat_of_zero_le (show 0 ≤ n by have := (Lat.newE_zero h).1; omega)
    by_cases hl : len < 64
    · exact walk_yes W hps x y h hl
    · exact walk_full W hps x y h (by omega)
  · exact walk_no W hps x y h
end Go.Proofs.Ytchdalicoafamaa.more
