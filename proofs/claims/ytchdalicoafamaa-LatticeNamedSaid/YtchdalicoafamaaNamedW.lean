/-
  The walk of LatticeNamed: for every number of levels and every pairs that are within the reach the call returns true.
-/
import Derived.Test.YtchdalicoafamaaRows
import Derived.Test.YtchdalicoafamaaBase
import Derived.Test.YtchdalicoafamaaLat
import Derived.Test.YtchdalicoafamaaClosed
import Derived.Test.YtchdalicoafamaaLattice
import Derived.Test.YtchdalicoafamaaLists
import Derived.Test.YtchdalicoafamaaMake
import Derived.Test.YtchdalicoafamaaSame
import Derived.Test.YtchdalicoafamaaJoins
import Derived.Test.YtchdalicoafamaaFixedL
import Derived.Test.YtchdalicoafamaaArgsL
import Derived.Test.YtchdalicoafamaaLawsW
import Derived.Test.YtchdalicoafamaaAppend
import Derived.Test.YtchdalicoafamaaLies
import Derived.Test.YtchdalicoafamaaNamedP
import Derived.Deep.QuietTactic
import Derived.BigQuiet
import Derived.WalkSmall
import Derived.ChangeKeysEq
import Derived.Deep.Slices
import Derived.OpenShut
import Derived.Deep.LoopGhost
import Derived.Deep.CutRange
import Derived.Deep.RegionLaw
import Derived.Deep.RegionHeld3
namespace Go.Proofs.Ytchdalicoafamaa.named
open Go.RowKit Base Go.ChangeShapes Go.WideShapes
open laws (flows_q join_q meet_q top_q bottom_q eq_yes eq_no ne0)
theorem named_ends {n : Nat} {u u' d d' : Nat → BitVec 8} (h : Lat.Iso n u u') (ho : Lat.Ok n u d) (ho' : Lat.Ok n u' d') :
    ∃ t z : Nat, Lat.endF n d (Lat.allF n) = (n : Int) - 1 - t ∧ Lat.endF n d' (Lat.allF n) = t ∧ Lat.endF n u (Lat.allF n) = (n : Int) - 1 - z ∧ Lat.endF n u' (Lat.allF n) = z ∧ t < n ∧ z < n := by
  obtain ⟨t, tl, te, _⟩ := Lat.top_is ho'
  obtain ⟨z, zl, ze, _⟩ := Lat.bottom_is ho'
  obtain ⟨q1, q2⟩ := h.ends ho ho'
  exact ⟨t, z, by rw [q1, te], te, by rw [q2, ze], ze, tl, zl⟩
theorem named_two {n : Nat} {u u' d d' : Nat → BitVec 8} (h : Lat.Iso n u u') (ho : Lat.Ok n u d) (ho' : Lat.Ok n u' d') {a b : Nat} (ha : a < n) (hb : b < n) :
    ∃ j m : Nat, Lat.flowsB n u' ((n : Int) - 1 - a) ((n : Int) - 1 - b) = Lat.flowsB n u a b ∧ Lat.joinF n u a b = (n : Int) - 1 - j ∧ Lat.joinF n u' ((n : Int) - 1 - a) ((n : Int) - 1 - b) = j ∧
      Lat.joinF n d a b = (n : Int) - 1 - m ∧ Lat.joinF n d' ((n : Int) - 1 - a) ((n : Int) - 1 - b) = m ∧ j < n ∧ m < n := by
  have e1 : (n : Int) - 1 - a = ((n - 1 - a : Nat) : Int) := by omega
  have e2 : (n : Int) - 1 - b = ((n - 1 - b : Nat) : Int) := by omega
  have hd : Lat.Iso n d d' := ⟨h.le8, fun a b ha hb => by rw [ho'.dn, ho.dn]; exact h.eq b a hb ha, ho.dual.rng, ho'.dual.rng⟩
  have q1 := h.join ho ho' ha hb
  have q2 := hd.join ho.dual ho'.dual ha hb
  have q3 := h.flows ha hb
  rw [e1, e2] at q1 q2 q3 ⊢
  have l1 := Lat.J_int ho' (show n - 1 - a < n by omega) (show n - 1 - b < n by omega)
  have l2 := Lat.J_int ho'.dual (show n - 1 - a < n by omega) (show n - 1 - b < n by omega)
  exact ⟨_, _, q3, by rw [q1, l1], l1, by rw [q2, l2], l2, Lat.J_lt ho' (by omega) (by omega), Lat.J_lt ho'.dual (by omega) (by omega)⟩
theorem take_snoc {ps : List (Int × Int)} {k : Nat} (hk : k < ps.length) (f : Int × Int → Int × Int) : (ps.take k).map f ++ [f (ps.getD k (0, 0))] = (ps.take (k + 1)).map f := by
  rw [List.take_add_one, List.map_append, List.getD_eq_getElem?_getD, List.getElem?_eq_getElem hk]
  rfl
set_option maxHeartbeats 20000000 in
set_option maxRecDepth 8000 in
theorem walk (W : World) {n : Int} {ao : Option Addr} {len cap : Nat} {ps : List (Int × Int)} (hps : PairsIn W ao len ps) (hm : len * 16 ≤ 140737488355327) (hlo : -9223372036854775808 ≤ n) (hhi : n ≤ 9223372036854775807) :
    Calls Try.prog 6 #[.int .i64 n, .slice ao len cap] W fun e w' => e = .returned (.bool true) ∧ Below W.heap.size W w' := by
  have hlen := hps.1
  go_enter Try.func6, Try.ntmps6
  go_wp2_with fail
  go_loopw [5, 6] (fun v i wr => ∃ k : Nat, k ≤ len ∧ i = .int .i64 k ∧ PRow wr W.heap.size v ((ps.take k).map (Lat.rv n)) ∧ Below W.heap.size W wr ∧ Hid (∀ p ∈ ps.take k, Lat.okP n p = true)) (fun _ i _ => len - (intOf i).toNat)
  case atStart => exact ⟨0, Nat.zero_le _, rfl, by simpa using PRow.empty W (Nat.le_refl _), (Below.refl _ _).alloc (Nat.le_refl _) _, fun p hp => by simp at hp⟩
  case round =>
    obtain ⟨k, hk, rfl, hown, hb, hokp⟩ := hrel
    have hpsr := hps.below hb (Nat.le_refl _)
    by_cases hlt : k < len
    · obtain ⟨a, rfl, hpb, cx, cy⟩ := hpsr.2 k hlt
      have HS := Lib.hid (take_snoc (ps := ps) (k := k) (by omega) (Lat.rv n))
      have HT : Hid (∀ p ∈ ps.take (k + 1), p ∈ ps.take k ∨ p = ps.getD k (0, 0)) := fun p hp => by
        rw [List.take_add_one, List.mem_append] at hp
        rcases hp with hp | hp
        · exact .inl hp
        · right
          rw [List.getElem?_eq_getElem (by omega)] at hp
          simp at hp
          rw [List.getD_eq_getElem?_getD, List.getElem?_eq_getElem (by omega), hp]
          rfl
      have HBAD : Hid (Lat.okP n (ps.getD k (0, 0)) = false → Lat.newE n ps = 40 ∨ Lat.newE n ps = 41) := fun hbad => by
        by_cases hs : n < 1 ∨ 8 < n ∨ 64 < ps.length
        · exact .inl (Lat.newE_size hs)
        · exact .inr (Lat.newE_pair hs (by omega) hbad)
      obtain ⟨⟨x, y⟩, hq⟩ : ∃ q, ps.getD k (0, 0) = q := ⟨_, rfl⟩
      rw [hq] at cx cy
      replace HS := Lib.hid (hq ▸ HS.out)
      replace HT := Lib.hid (hq ▸ HT.out)
      replace HBAD := Lib.hid (hq ▸ HBAD.out)
      clear hq
      have hklt : (k : Int) < len := by omega
      go_upto_region 5 with fail
      go_quiet (fail)
      replace hb := below_drewN hb nq
      replace hown : PRow (wr.drewN nq) W.heap.size u5 ((ps.take k).map (Lat.rv n)) := hown
      replace hpsr : PairsIn (wr.drewN nq) (some a) len ps := hpsr
      clear cx cy hpb
      generalize wr.drewN nq = w2 at *
      have hbs := hb.size
      by_cases hok : 0 ≤ x ∧ x < n ∧ 0 ≤ y ∧ y < n
      · obtain ⟨x0, x1, y0, y1⟩ := hok
        have HOKP : Hid (Lat.okP n (x, y) = true) := by show _ = _; unfold Lat.okP; simp; omega
        have wn : IntKind.i64.wrap (n - 1) = n - 1 := IntWalk.i64_in _ (by omega)
        have wx : IntKind.i64.wrap (n - 1 - x) = n - 1 - x := IntWalk.i64_in _ (by omega)
        have wy : IntKind.i64.wrap (n - 1 - y) = n - 1 - y := IntWalk.i64_in _ (by omega)
        clear hpsr
        go_wp2_with (at_builtin; refine wpList_append_pairs rfl (.tmp 65) (.tmp 75) rfl rfl (hown.alloc _) ?c1 rfl (PairsIn.made w2 _ _) ?c2 ?_)
        case c1 => simp; omega
        case c2 => simp; omega
        intro v3 w3 h3 hgr3
        have hb3 := (hb.alloc hbs _).grown hgr3 (by simp; omega) (fun g hg => (hown.lt g hg).1)
        clear hgr3 hown hb
        go_wp2_with fail
        go_roundw
        case rel => exact ⟨k + 1, by omega, by go_num, by rw [← HS.out, List.map_take]; exact h3, hb3, fun p hp => by
          rcases HT.out p hp with h | h
          · exact hokp.out p h
          · rw [h]; exact HOKP.out⟩
        case measure => simp [intOf]; omega
      · have HE := Lib.hid (HBAD.out (by unfold Lat.okP; exact decide_eq_false hok))
        rcases (by omega : x < 0 ∨ (0 ≤ x ∧ n ≤ x) ∨ (0 ≤ x ∧ x < n ∧ y < 0) ∨ (0 ≤ x ∧ x < n ∧ 0 ≤ y ∧ n ≤ y)) with h1 | ⟨h1, h2⟩ | ⟨h1, h2, h3⟩ | ⟨h1, h2, h3, h4⟩
        · clear hok
          go_wp2_with fail
          refine (lnew_any w2 hpsr).mono ?_
          rintro e w3 hm3
          obtain ⟨rfl, hb3⟩ := made_no hm3 rfl (by rcases HE.out with h | h <;> rw [h] <;> decide)
          replace hb3 := hb.trans (hb3.mono hb.size)
          clear hm3 hown
          have hE := HE.out
          generalize Lat.newE n ps = ec at *
          go_wp2_with fail
          refine (lfixed_any w3).mono ?_
          rintro e w4 ⟨rfl, hb4⟩
          replace hb4 := hb3.trans (hb4.mono hb3.size)
          rcases hE with rfl | rfl
          · go_wp2_with fail
            go_ret
            exact ⟨rfl, hb4⟩
          · go_wp2_with fail
            go_ret
            exact ⟨rfl, hb4⟩
        · clear hok
          go_wp2_with fail
          refine (lnew_any w2 hpsr).mono ?_
          rintro e w3 hm3
          obtain ⟨rfl, hb3⟩ := made_no hm3 rfl (by rcases HE.out with h | h <;> rw [h] <;> decide)
          replace hb3 := hb.trans (hb3.mono hb.size)
          clear hm3 hown
          have hE := HE.out
          generalize Lat.newE n ps = ec at *
          go_wp2_with fail
          refine (lfixed_any w3).mono ?_
          rintro e w4 ⟨rfl, hb4⟩
          replace hb4 := hb3.trans (hb4.mono hb3.size)
          rcases hE with rfl | rfl
          · go_wp2_with fail
            go_ret
            exact ⟨rfl, hb4⟩
          · go_wp2_with fail
            go_ret
            exact ⟨rfl, hb4⟩
        · clear hok
          go_wp2_with fail
          refine (lnew_any w2 hpsr).mono ?_
          rintro e w3 hm3
          obtain ⟨rfl, hb3⟩ := made_no hm3 rfl (by rcases HE.out with h | h <;> rw [h] <;> decide)
          replace hb3 := hb.trans (hb3.mono hb.size)
          clear hm3 hown
          have hE := HE.out
          generalize Lat.newE n ps = ec at *
          go_wp2_with fail
          refine (lfixed_any w3).mono ?_
          rintro e w4 ⟨rfl, hb4⟩
          replace hb4 := hb3.trans (hb4.mono hb3.size)
          rcases hE with rfl | rfl
          · go_wp2_with fail
            go_ret
            exact ⟨rfl, hb4⟩
          · go_wp2_with fail
            go_ret
            exact ⟨rfl, hb4⟩
        · clear hok
          go_wp2_with fail
          refine (lnew_any w2 hpsr).mono ?_
          rintro e w3 hm3
          obtain ⟨rfl, hb3⟩ := made_no hm3 rfl (by rcases HE.out with h | h <;> rw [h] <;> decide)
          replace hb3 := hb.trans (hb3.mono hb.size)
          clear hm3 hown
          have hE := HE.out
          generalize Lat.newE n ps = ec at *
          go_wp2_with fail
          refine (lfixed_any w3).mono ?_
          rintro e w4 ⟨rfl, hb4⟩
          replace hb4 := hb3.trans (hb4.mono hb3.size)
          rcases hE with rfl | rfl
          · go_wp2_with fail
            go_ret
            exact ⟨rfl, hb4⟩
          · go_wp2_with fail
            go_ret
            exact ⟨rfl, hb4⟩
    · obtain rfl : k = len := by omega
      rw [List.take_of_length_le (by omega)] at hown hokp
      have hall : ps.all (Lat.okP n) = true := List.all_eq_true.2 hokp.out
      have hnE := Lat.named_E hall
      clear hokp hlt hk
      obtain ⟨ap, cp, rfl, hqm, hqs⟩ := hown.pairs_len (n := k) (by rw [List.length_map]; exact hlen)
      by_cases h0 : Lat.newE n ps = 0
      · obtain ⟨n, rfl⟩ := Int.eq_ofNat_of_zero_le (show 0 ≤ n by have := (Lat.newE_zero h0).1; omega)
        have hok := Lat.ok_of h0
        have h8 := hok.le8
        have hiso := Lat.iso_rv h8 hall
        rw [h0] at hnE
        have hok' := Lat.ok_of hnE
        clear hall hm
        go_wp2_with fail
        refine (lnew_any wr hpsr).mono ?_
        rintro e w1 hm1
        obtain ⟨g, rfl, hb1, hg, hA⟩ := made_ok hm1 h0
        replace hqs := hqs.below hb1 (Nat.le_refl _)
        replace hb1 := hb.trans (hb1.mono hb.size)
        clear hm1 hpsr hown hb hg h0
        go_wp2_with fail
        refine (lnew_any w1 hqs).mono ?_
        rintro e w2 hm1
        obtain ⟨g', rfl, hb2, hg', hB⟩ := made_ok hm1 hnE
        replace hA := hA.below hb2 hA.lt
        replace hb2 := hb1.trans (hb2.mono hb1.size)
        clear hm1 hqs hb1 hg' hnE
        go_wp2_with fail
        refine (lfixed_any w2).mono ?_
        rintro e w3 ⟨rfl, hb3⟩
        replace hA := hA.below hb3 hA.lt
        replace hB := hB.below hb3 hB.lt
        replace hb3 := hb2.trans (hb3.mono hb2.size)
        clear hb2 hps hlen
        generalize Lat.up n (ps.map (Lat.rv n)) = u' at *
        generalize Lat.down n u' = d' at *
        generalize Lat.up n ps = u at *
        generalize Lat.down n u = d at *
        have HOK := Lib.hid hok
        have HOK' := Lib.hid hok'
        have HISO := Lib.hid hiso
        clear hok hok' hiso
        go_wp2_with fail
        go_loopw [15] (fun i wr => ∃ a : Nat, a ≤ n ∧ i = .int .i64 a ∧ ∃ q, wr = w3.drewN q) (fun i _ => n - (intOf i).toNat)
        case atStart => exact ⟨0, Nat.zero_le _, rfl, 0, rfl⟩
        case round =>
          obtain ⟨a, ha, rfl, qa, rfl⟩ := hrel
          by_cases hlt : a < n
          · have ha9 : (a : Int) < n := by omega
            go_wp2_with fail
            go_loopw [16] (fun i wr => ∃ b : Nat, b ≤ n ∧ i = .int .i64 b ∧ ∃ q, wr = w3.drewN q) (fun i _ => n - (intOf i).toNat)
            case atStart => exact ⟨0, Nat.zero_le _, rfl, _, rfl⟩
            case round =>
              obtain ⟨b, hb', rfl, qb, rfl⟩ := hrel
              by_cases hltb : b < n
              · have hb9 : (b : Int) < n := by omega
                obtain ⟨j, m, f1, f2, f3, f4, f5, hj, hm⟩ := named_two HISO.out HOK.out HOK'.out hlt hltb
                obtain ⟨r, fr⟩ : ∃ r, Lat.flowsB n u (a : Int) (b : Int) = r := ⟨_, rfl⟩
                rw [fr] at f1
                replace f1 := Lib.hid f1
                replace f2 := Lib.hid f2
                replace f3 := Lib.hid f3
                replace f4 := Lib.hid f4
                replace f5 := Lib.hid f5
                replace fr := Lib.hid fr
                cases r with
                | true =>
                  go_wp2_with fail
                  refine (flows_s (hA.drewN _) fr.out).mono ?_
                  rintro e w' ⟨rfl, rfl⟩
                  go_wp2_with fail
                  refine (flows_s (hB.drewN _) f1.out).mono ?_
                  rintro e w' ⟨rfl, rfl⟩
                  go_wp2_with fail
                  refine (join_q (hA.drewN _) f2.out).mono ?_
                  rintro e w' ⟨q1, rfl, rfl⟩
                  go_wp2_with fail
                  refine (join_q (hB.drewN _) f3.out).mono ?_
                  rintro e w' ⟨q2, rfl, rfl⟩
                  go_wp2_with fail
                  refine (meet_q (hA.drewN _) f4.out).mono ?_
                  rintro e w' ⟨q3, rfl, rfl⟩
                  go_wp2_with fail
                  refine (meet_q (hB.drewN _) f5.out).mono ?_
                  rintro e w' ⟨q4, rfl, rfl⟩
                  go_wp2_with fail
                  go_roundw
                  case rel => exact ⟨b + 1, by omega, by go_num, _, rfl⟩
                  case measure => simp [intOf]; omega
                | false =>
                  go_wp2_with fail
                  refine (flows_s (hA.drewN _) fr.out).mono ?_
                  rintro e w' ⟨rfl, rfl⟩
                  go_wp2_with fail
                  refine (flows_s (hB.drewN _) f1.out).mono ?_
                  rintro e w' ⟨rfl, rfl⟩
                  go_wp2_with fail
                  refine (join_q (hA.drewN _) f2.out).mono ?_
                  rintro e w' ⟨q1, rfl, rfl⟩
                  go_wp2_with fail
                  refine (join_q (hB.drewN _) f3.out).mono ?_
                  rintro e w' ⟨q2, rfl, rfl⟩
                  go_wp2_with fail
                  refine (meet_q (hA.drewN _) f4.out).mono ?_
                  rintro e w' ⟨q3, rfl, rfl⟩
                  go_wp2_with fail
                  refine (meet_q (hB.drewN _) f5.out).mono ?_
                  rintro e w' ⟨q4, rfl, rfl⟩
                  go_wp2_with fail
                  go_roundw
                  case rel => exact ⟨b + 1, by omega, by go_num, _, rfl⟩
                  case measure => simp [intOf]; omega
              · obtain rfl : b = n := by omega
                go_wp2_with fail
                go_roundw
                case rel => exact ⟨a + 1, by omega, by go_num, _, rfl⟩
                case measure => simp [intOf]; omega
          · obtain rfl : a = n := by omega
            have ha9 : ¬ ((a : Int) < a) := by omega
            obtain ⟨t, z, e1, e2, e3, e4, ht, hz⟩ := named_ends HISO.out HOK.out HOK'.out
            have HPL := Lib.hid (HISO.out.pairs HOK.out HOK'.out)
            have hl1 := Lat.pairs_len HOK.out
            have hl2 := Lat.pairs_len HOK'.out
            replace e1 := Lib.hid e1
            replace e2 := Lib.hid e2
            replace e3 := Lib.hid e3
            replace e4 := Lib.hid e4
            have hb4 := below_drewN hb3 qa
            replace hA := hA.drewN qa
            replace hB := hB.drewN qa
            clear hb3
            generalize w3.drewN qa = w4 at *
            have hpos := HOK.out.pos
            go_wp2_with fail
            refine (top_q hA e1.out).mono ?_
            rintro e w' ⟨q1, rfl, rfl⟩
            go_wp2_with fail
            refine (top_q (hB.drewN _) e2.out).mono ?_
            rintro e w' ⟨q2, rfl, rfl⟩
            go_wp2_with fail
            refine (bottom_q (hA.drewN _) e3.out).mono ?_
            rintro e w' ⟨q3, rfl, rfl⟩
            go_wp2_with fail
            refine (bottom_q (hB.drewN _) e4.out).mono ?_
            rintro e w' ⟨q4, rfl, rfl⟩
            go_wp2_with fail
            refine (pairs_any (hA.drewN _)).mono ?_
            rintro e w5 ⟨v, rfl, hown, hb5⟩
            replace hB := (hB.drewN _).below hb5 (hB.drewN _).lt
            replace hb5 := (below_drewN hb4 _).trans (hb5.mono (below_drewN hb4 _).size)
            obtain ⟨av, cv, rfl, _, _⟩ := (PRow.of_pairs hown).pairs_len (Lat.pz_length _)
            clear hown hA hb4
            generalize w4.drewN _ = w4 at *
            go_wp2_with fail
            refine (pairs_any hB).mono ?_
            rintro e w6 ⟨v, rfl, hown, hb6⟩
            replace hb6 := hb5.trans (hb6.mono hb5.size)
            obtain ⟨av2, cv2, rfl, _, _⟩ := (PRow.of_pairs hown).pairs_len (Lat.pz_length _)
            clear hown hB hb5
            rw [HPL.out]
            go_wp2_with fail
            go_ret
            exact ⟨rfl, hb6⟩
      · have h1 : Lat.newE n (ps.map (Lat.rv n)) ≠ 0 := by rw [hnE]; exact h0
        go_wp2_with fail
        refine (lnew_any wr hpsr).mono ?_
        rintro e w1 hm1
        obtain ⟨rfl, hb1⟩ := made_no hm1 rfl h0
        replace hqs := hqs.below hb1 (Nat.le_refl _)
        replace hb1 := hb.trans (hb1.mono hb.size)
        clear hm1 hpsr hown hb
        have ht := ne0 h0
        go_wp2_with fail
        refine (lnew_any w1 hqs).mono ?_
        rintro e w2 hm1
        obtain ⟨rfl, hb2⟩ := made_no hm1 rfl h1
        replace hb2 := hb1.trans (hb2.mono hb1.size)
        clear hm1 hqs hb1 h1
        rw [hnE]
        clear hnE
        generalize Lat.newE n ps = ec at *
        go_wp2_with fail
        refine (lfixed_any w2).mono ?_
        rintro e w3 ⟨rfl, hb3⟩
        replace hb3 := hb2.trans (hb3.mono hb2.size)
        go_wp2_with fail
        go_ret
        exact ⟨rfl, hb3⟩
end Go.Proofs.Ytchdalicoafamaa.named
