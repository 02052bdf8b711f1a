/-
  The walk of FrameStreams: for every key, list of payloads and order within the reach the call returns true.
-/
import Derived.Test.YtmmkopdijmplcaaFBackW
import Derived.Test.YtmmkopdijmplcaaFWindW
import Derived.Test.YtmmkopdijmplcaaFOpen
import Derived.Deep.CutBlock
set_option linter.unusedVariables false
namespace Go.Proofs.Ytmmkopdijmplcaa.fstr
open Go.RowKit Base HH FF fback
/-- the payload that is sent in the place of p -/
def cutP (p : ByteArray) : ByteArray := if p.size ≤ 200 then p else ⟨#[]⟩
theorem cutP_size (p : ByteArray) : (cutP p).size ≤ 200 := by
  unfold cutP
  split
  · assumption
  · decide
/-- frame i -/
def frm (key : ByteArray) (ps : List ByteArray) (i : Nat) : ByteArray := str (Frm.whole key.data.toList 1 7 i (cutP (ps.getD i ByteArray.empty)).data.toList)
def frms (key : ByteArray) (ps : List ByteArray) (k : Nat) : List ByteArray := (List.range k).map (frm key ps)
theorem frms_length (key : ByteArray) (ps : List ByteArray) (k : Nat) : (frms key ps k).length = k := by
  unfold frms
  rw [List.length_map, List.length_range]
theorem frms_succ (key : ByteArray) (ps : List ByteArray) (k : Nat) : frms key ps (k + 1) = frms key ps k ++ [frm key ps k] := by
  unfold frms
  rw [List.range_succ, List.map_append]
  rfl
theorem frms_get (key : ByteArray) (ps : List ByteArray) {k n : Nat} (h : n < k) : (frms key ps k).getD n ByteArray.empty = frm key ps n := by
  unfold frms
  rw [List.getD_eq_getElem?_getD, List.getElem?_map, List.getElem?_range h]
  rfl
theorem frm_ok (key : ByteArray) (ps : List ByteArray) {n : Nat} (h : n ≤ 4611686018427387904) : Ok key (cutP (ps.getD n ByteArray.empty)) (frm key ps n) 1 7 n :=
  ⟨by decide, by decide, h, cutP_size _, rfl⟩
set_option maxHeartbeats 400000 in
theorem place_any (n : Int) (m : Nat) (w : World) (hm : 0 < m) (hm2 : m ≤ 12) (h1 : n ≤ 9223372036854775807) (h2 : -9223372036854775808 ≤ n) : Calls Try.prog 30 #[.int .i64 n, .int .i64 m] w fun e w' => ∃ k : Nat, k < m ∧ e = .returned (.int .i64 k) ∧ w = w' := by
  have hm0 : (0 : Int) < m := by omega
  have hb := Int.tmod_lt_of_pos n hm0
  have hneg : -(m : Int) < n.tmod m := by
    have := Int.lt_tmod_of_pos n hm0
    omega
  have hne : ¬ ((m : Int) = 0) := by omega
  have hne2 : ((m : Int) == 0) = false := by rw [beq_eq_false_iff_ne]; exact hne
  obtain ⟨t, ht⟩ : ∃ t, n.tmod m = t := ⟨_, rfl⟩
  rw [ht] at hb hneg
  by_cases hlt : t < 0
  · obtain ⟨k, hk⟩ := Int.eq_ofNat_of_zero_le (show 0 ≤ t + m by omega)
    have hkm : k < m := by omega
    have hk' := Lib.hid hk
    clear hk
    go_enter Try.func30, Try.ntmps30
    go_wp2
    go_ret
    exact ⟨k, hkm, by rw [hk'.out]; rfl, rfl⟩
  · obtain ⟨k, rfl⟩ := Int.eq_ofNat_of_zero_le (show 0 ≤ t by omega)
    go_enter Try.func30, Try.ntmps30
    go_wp2
    go_ret
    exact ⟨k, by omega, rfl, rfl⟩
theorem srow_keep {w w1 : World} {B : Nat} {v : Value} {ss : List ByteArray} (h : SRow w B v ss) (hb : Below w.heap.size w w1) : SRow w1 B v ss := by
  unfold SRow at h ⊢
  refine ⟨h.1, ?_⟩
  rcases h.2 with h1 | ⟨g, c, cur, hv, hB, hh, hr⟩
  · exact .inl h1
  · refine .inr ⟨g, c, cur, hv, hB, ?_, hr⟩
    rw [hb.block g (Array.getElem?_eq_some_iff.1 hh).1]
    exact hh
theorem one_str (w : World) (f : ByteArray) : StrsIn (w.alloc (.cells #[.string f] 9)) (some ⟨w.heap.size, 0, none⟩) 1 [f] :=
  ⟨rfl, fun k hk => by
    obtain rfl : k = 0 := by omega
    exact ⟨_, rfl, by simp, cell_one_new w (.string f) 9 0 _ rfl⟩⟩
theorem e_enc {key : ByteArray} {ps : List ByteArray} {n : Nat} (hk : key.size ≤ 288230376151711743) (hn : n ≤ 4611686018427387904) {p f : ByteArray} (hp : Hid (cutP (ps.getD n ByteArray.empty) = p)) (hf : Hid (frm key ps n = f)) (w : World) :
    Calls Try.prog 11 #[.string key, .int .i64 1, .int .i64 7, .int .i64 n, .string p] w fun e w' => e = .returned (.tuple #[.string f, .int .i64 0]) ∧ Below w.heap.size w w' := by
  rw [← hp.out, ← hf.out]
  exact (frm_ok key ps hn).enc hk w
theorem e_long {key p : ByteArray} {n : Nat} (hn : n ≤ 4611686018427387904) (hp : 200 < p.size) (w : World) :
    Calls Try.prog 11 #[.string key, .int .i64 1, .int .i64 7, .int .i64 n, .string p] w fun e w' => e = .returned (.tuple #[.string (str []), .int .i64 191]) ∧ w = w' :=
  enc_long (level := 1) (epoch := 7) w (by decide) (by decide) hn hp
theorem e_dec {key : ByteArray} {ps : List ByteArray} {n : Nat} (hk : key.size ≤ 288230376151711743) (hn : n ≤ 4611686018427387904) {p f : ByteArray} (hp : Hid (cutP (ps.getD n ByteArray.empty) = p)) (hf : Hid (frm key ps n = f)) (w : World) :
    Calls Try.prog 19 #[.string key, .int .i64 1, .int .i64 7, .string f] w fun e w' => e = .returned (.tuple #[.int .i64 n, .string p, .int .i64 0]) ∧ Below w.heap.size w w' := by
  rw [← hp.out, ← hf.out]
  exact (frm_ok key ps hn).dec hk w
set_option maxRecDepth 100000 in
set_option maxHeartbeats 4000000 in
theorem walk (W : World) {key : ByteArray} {po oo : Option Addr} {plen pcap olen ocap : Nat} {ps : List ByteArray} {zs : List Int} (hk : key.size ≤ 288230376151711743) (hps : StrsIn W po plen ps) (hzs : IntsIn W oo olen zs) (hpl : plen ≤ 9223372036854775807) (hol : olen ≤ 9223372036854775807) (hwf : ∀ z ∈ zs, (Lit.int .i64 z).wf = true) :
    Calls Try.prog 7 #[.string key, .slice po plen pcap, .slice oo olen ocap] W fun e w' => e = .returned (.bool true) ∧ Below W.heap.size W w' := by
  replace hwf := Lib.hid hwf
  have hpsl := Lib.hid hps.1
  have hzsl := Lib.hid hzs.1
  go_enter Try.func7, Try.ntmps7
  go_wp2_with fail
  have hr0 := SRow.empty (base := W.heap.size) W (Nat.le_refl _)
  have hb0 := (Below.refl W.heap.size W).alloc (Nat.le_refl _) (.cells #[] 9)
  go_loopw [7, 8, 9, 10] (fun v i _ _ wr => ∃ k : Nat, k ≤ plen ∧ k ≤ 12 ∧ i = .int .i64 k ∧ SRow wr W.heap.size v (frms key ps k) ∧ Below W.heap.size W wr) (fun _ i _ _ _ => plen - (intOf i).toNat)
  case atStart => exact ⟨0, Nat.zero_le _, Nat.zero_le _, rfl, hr0, hb0⟩
  case round =>
    clear hr0 hb0
    obtain ⟨k, hk1, hk12, rfl, hr, hb⟩ := hrel
    have hbs := hb.size
    have hfl := frms_length key ps k
    obtain ⟨ao, cap, rfl, hcap, hst⟩ := hr.strs
    rw [hfl] at hcap hst hr ⊢
    by_cases hgo : k < plen ∧ k < 12
    · obtain ⟨hlt, hlt12⟩ := hgo
      have t1 : (k : Int) < plen := by omega
      have t2 : (k : Int) < 12 := by omega
      obtain ⟨a, p, rfl, hab, hp, hmem, c0⟩ := (hps.below hb (Nat.le_refl _)).at_ hlt
      obtain ⟨f, hf⟩ : ∃ f, frm key ps k = f := ⟨_, rfl⟩
      have hsc := frms_succ key ps k
      rw [hf] at hsc
      replace hf := Lib.hid hf
      replace hsc := Lib.hid hsc
      replace hfl := Lib.hid hfl
      by_cases h200 : p.size ≤ 200
      · have hcp : Hid (cutP (ps.getD k ByteArray.empty) = p) := by show _ = _; rw [hp]; unfold cutP; rw [if_pos h200]
        have hE := Lib.hid (fun w => e_enc (n := k) hk (by omega) hcp hf w)
        replace hp := Lib.hid hp
        clear hst
        go_wp2_with fail
        (with_reducible refine (hE.out _).mono ?_)
        rintro e w2 ⟨rfl, hb2'⟩
        have hb2 := hb.trans (hb2'.mono hbs)
        have hr2 : SRow w2 W.heap.size (.slice ao k cap) (frms key ps k) := srow_keep hr hb2'
        have hbs2 := hb2.size
        clear c0 hb hr hb2' hE
        go_wp2_with (at_builtin; refine wpList_append_strs rfl (.tmp 58) (.tmp 60) rfl (by rfl) (srow_keep hr2 ((Below.refl w2.heap.size w2).alloc (Nat.le_refl _) (.cells #[.string f] 9))) (by simp; omega) (by rfl) (one_str w2 f) (by rw [hfl.out]; omega) ?_)
        intro v3 w3 hr3 hg3
        have hlt3 := hr2.lt
        have hb3 := (hb2.alloc hbs2 (.cells #[.string f] 9)).grown hg3 (by simp; omega) (fun q e => (hlt3 q e).1)
        rw [← hsc.out] at hr3
        clear hb2 hr2 hg3 hlt3
        go_wp2_with fail
        go_roundw
        case rel => first | exact ⟨k + 1, by omega, by omega, by go_num, hr3, hb3⟩ | ((repeat apply Exists.intro); exact ⟨⟨k + 1, by omega, by omega, by go_num, hr3, hb3⟩, rfl⟩)
        case measure => simp [intOf]; omega
      · have hcp : Hid (cutP (ps.getD k ByteArray.empty) = ⟨#[]⟩) := by show _ = _; rw [hp]; unfold cutP; rw [if_neg h200]
        have h201 : 200 < p.size := by omega
        have h202 : ¬ (p.size : Int) ≤ 200 := by omega
        have hE := Lib.hid (fun w => e_enc (n := k) hk (by omega) hcp hf w)
        have hL := Lib.hid (fun w => e_long (key := key) (n := k) (by omega) h201 w)
        replace hp := Lib.hid hp
        clear hst
        go_wp2_with fail
        (with_reducible refine (hL.out _).mono ?_)
        rintro e w1 ⟨rfl, rfl⟩
        go_wp2_with fail
        (with_reducible refine (hE.out _).mono ?_)
        rintro e w2 ⟨rfl, hb2'⟩
        have hb2 := hb.trans (hb2'.mono hbs)
        have hr2 : SRow w2 W.heap.size (.slice ao k cap) (frms key ps k) := srow_keep hr hb2'
        have hbs2 := hb2.size
        clear c0 hb hr hb2' hE hL
        go_wp2_with (at_builtin; refine wpList_append_strs rfl (.tmp 58) (.tmp 60) rfl (by rfl) (srow_keep hr2 ((Below.refl w2.heap.size w2).alloc (Nat.le_refl _) (.cells #[.string f] 9))) (by simp; omega) (by rfl) (one_str w2 f) (by rw [hfl.out]; omega) ?_)
        intro v3 w3 hr3 hg3
        have hlt3 := hr2.lt
        have hb3 := (hb2.alloc hbs2 (.cells #[.string f] 9)).grown hg3 (by simp; omega) (fun q e => (hlt3 q e).1)
        rw [← hsc.out] at hr3
        clear hb2 hr2 hg3 hlt3
        go_wp2_with fail
        go_roundw
        case rel => first | exact ⟨k + 1, by omega, by omega, by go_num, hr3, hb3⟩ | ((repeat apply Exists.intro); exact ⟨⟨k + 1, by omega, by omega, by go_num, hr3, hb3⟩, rfl⟩)
        case measure => simp [intOf]; omega
    · have t3 : ¬ ((k : Int) < plen ∧ (k : Int) < 12) := by omega
      have hend : k ≤ plen ∧ k ≤ 12 ∧ (k = 0 → plen = 0) := ⟨hk1, hk12, fun h => by omega⟩
      obtain ⟨w2, hw2⟩ : ∃ w2, w2 = wr := ⟨_, rfl⟩
      have t4 : ((k : Int) < plen) ∨ ¬ ((k : Int) < plen) := Classical.em _
      have t5 : ((k : Int) < 12) ∨ ¬ ((k : Int) < 12) := Classical.em _
      subst hw2
      by_cases hk0 : k = 0
      · subst hk0
        have hp0 : ¬ (0 : Int) < plen := by omega
        have hp0' : ¬ ((0 : Nat) : Int) < plen := by omega
        clear t3 t4 t5
        go_wp2_with fail
        refine (ffixed_any w2).mono ?_
        rintro e w3 ⟨rfl, hb3'⟩
        have hb3 := hb.trans (hb3'.mono hbs)
        go_wp2_with fail
        go_ret
        exact ⟨rfl, hb3⟩
      · have hk0' : ((k : Int) == 0) = false := by rw [beq_eq_false_iff_ne]; omega
        replace hend := Lib.hid hend
        have hstop : Hid (¬ (k < plen ∧ k < 12)) := hgo
        clear hgo t3
        clear t4 t5
        have h12 : k ≤ 12 := hk12
        have hz1 := hzs.below hb (Nat.le_refl _)
        have hp1 := hps.below hb (Nat.le_refl _)
        clear hr
        have two : (¬ (k : Int) < plen) ∨ ((k : Int) < plen ∧ ¬ (k : Int) < 12) := by
          have := hstop.out
          omega
        have kpos : 0 < k := by omega
        have hkpl : k ≤ plen := hk1
        replace hfl := Lib.hid hfl
        rcases two with hA | ⟨hA, hB⟩
        all_goals
          go_wp2_with fail
          refine (wnew_any w2).mono ?_
          rintro e w3 ⟨rfl, hw3, hb3', hz3⟩
          have hb3 := hb.trans (hb3'.mono hbs)
          have hst3 := hst.below hb3' (Nat.le_refl _)
          have hz3' := hz1.below hb3' (Nat.le_refl _)
          have hp3 := hp1.below hb3' (Nat.le_refl _)
          have hst4 : StrsIn w2 ao k (frms key ps k) := hst
          obtain ⟨gw, hgw⟩ : ∃ g, w2.heap.size = g := ⟨_, rfl⟩
          rw [hgw] at hw3 hbs ⊢
          have hbw : Below gw w2 w3 := by rw [← hgw]; exact hb3'
          have hgwl : w2.heap.size ≤ gw := by omega
          replace hgw := Lib.hid hgw
          clear hb3' hz3 hst3 hz3' hp3
          go_wp2_with fail
          go_loopw [12, 13, 14, 15, 16, 17, 18] (fun last i _ _ _ _ _ wr => ∃ (j : Nat) (m : Int), j ≤ olen ∧ i = .int .i64 j ∧ last = .int .i64 m ∧ -1 ≤ m ∧ m < 13 ∧ WinAt wr gw m ∧ Below gw w2 wr) (fun _ i _ _ _ _ _ _ => olen - (intOf i).toNat)
          case atStart => exact ⟨0, -1, Nat.zero_le _, rfl, rfl, by omega, by omega, hw3, hbw⟩
          case round =>
            clear hw3 hbw hb3
            obtain ⟨j, m, hj, rfl, rfl, hm1, hm13, hw, hbr⟩ := hrel
            have hbrs := hbr.size
            have hbW : Below W.heap.size W wr := hb.trans (hbr.mono (by omega))
            by_cases hgo : j < olen ∧ j < 40
            · obtain ⟨hjl, hj40⟩ := hgo
              have u1 : (j : Int) < olen := by omega
              have u2 : (j : Int) < 40 := by omega
              obtain ⟨a, z, rfl, hza, hz, cz⟩ := (hz1.below hbr hgwl).at_ hjl
              have hwz := hwf.out z (by
                have hzl := hzsl.out
                rw [← hz, List.getD_eq_getElem?_getD, List.getElem?_eq_getElem (by omega)]
                exact List.getElem_mem _)
              have hz1' := wf_le hwz
              have hz2' := wf_ge hwz
              replace hz := Lib.hid hz
              clear hwz
              go_wp2_with fail
              refine (place_any z k wr kpos h12 hz1' hz2').mono ?_
              rintro e w' ⟨n, hnk, rfl, rfl⟩
              clear cz hz1' hz2'
              obtain ⟨b, f, rfl, hfb, hf, _, cf⟩ := (hst4.below hbr hgwl).at_ hnk
              rw [frms_get key ps hnk] at hf
              have hnp : n < plen := by omega
              have hn12 : n < 12 := by omega
              obtain ⟨q, hq⟩ : ∃ q, cutP (ps.getD n ByteArray.empty) = q := ⟨_, rfl⟩
              have hD := Lib.hid (fun w => e_dec (n := n) hk (by omega) (Lib.hid hq) (Lib.hid hf) w)
              replace hf := Lib.hid hf
              have nk1 : (n : Int) < k := by omega
              have nk2 : (n : Int) < plen := by omega
              go_wp2_with fail
              (with_reducible refine (hD.out _).mono ?_)
              rintro e w4 ⟨rfl, hb4'⟩
              have hgl := hw.lt
              have hw4 := hw.below hb4' hgl
              have hbr4 := hbr.trans (hb4'.mono (Nat.le_of_lt hgl))
              have hbs4 := hw4.lt
              clear cf hw hbr hb4' hD hbW hbrs hgl
              obtain ⟨b2, p, rfl, hpb, hp, _, cp⟩ := (hp1.below hbr4 hgwl).at_ hnp
              have hnn : ((n : Int) != (n : Int)) = false := bne_self_eq_false _
              have hcut : (p.size ≤ 200 ∧ q = p) ∨ (200 < p.size ∧ q = ⟨#[]⟩) := by
                rw [← hq, hp]
                unfold cutP
                by_cases h : p.size ≤ 200
                · exact .inl ⟨h, if_pos h⟩
                · exact .inr ⟨by omega, if_neg h⟩
              replace hp := Lib.hid hp
              replace hq := Lib.hid hq
              have hpp : (p.toList == p.toList) = true := beq_self_eq_true _
              by_cases hmn : m < n
              · have hmx : max m (n : Int) = n := Int.max_eq_right (by omega)
                rcases hcut with ⟨hc1, rfl⟩ | ⟨hc1, rfl⟩
                · have hc2 : ¬ (200 : Int) < q.size := by omega
                  go_wp2_with fail
                  refine (waccept_yes hw4 hmn).mono ?_
                  rintro e w5 ⟨rfl, hw5, hg5⟩
                  have hbr5 := hbr4.grown hg5 (Nat.le_of_lt hbs4) (fun q e => by injection e with e; omega)
                  clear hw4 hbr4 hg5 cp
                  go_wp2_with fail
                  go_roundw
                  case rel => first | exact ⟨j + 1, n, by omega, by go_num, rfl, by omega, by omega, hw5, hbr5⟩ | ((repeat apply Exists.intro); exact ⟨⟨j + 1, n, by omega, by go_num, rfl, by omega, by omega, hw5, hbr5⟩, rfl⟩)
                  case measure => simp [intOf]; omega
                · have hc2 : (200 : Int) < p.size := by omega
                  go_wp2_with fail
                  refine (waccept_yes hw4 hmn).mono ?_
                  rintro e w5 ⟨rfl, hw5, hg5⟩
                  have hbr5 := hbr4.grown hg5 (Nat.le_of_lt hbs4) (fun q e => by injection e with e; omega)
                  clear hw4 hbr4 hg5 cp
                  go_wp2_with fail
                  go_roundw
                  case rel => first | exact ⟨j + 1, n, by omega, by go_num, rfl, by omega, by omega, hw5, hbr5⟩ | ((repeat apply Exists.intro); exact ⟨⟨j + 1, n, by omega, by go_num, rfl, by omega, by omega, hw5, hbr5⟩, rfl⟩)
                  case measure => simp [intOf]; omega
              · have hmn' : (n : Int) ≤ m := by omega
                have hmx : max m (n : Int) = m := Int.max_eq_left hmn'
                rcases hcut with ⟨hc1, rfl⟩ | ⟨hc1, rfl⟩
                · have hc2 : ¬ (200 : Int) < q.size := by omega
                  go_wp2_with fail
                  refine (waccept_no hw4 hmn').mono ?_
                  rintro e w' ⟨rfl, rfl⟩
                  clear cp
                  go_wp2_with fail
                  go_roundw
                  case rel => first | exact ⟨j + 1, m, by omega, by go_num, rfl, by omega, by omega, hw4, hbr4⟩ | ((repeat apply Exists.intro); exact ⟨⟨j + 1, m, by omega, by go_num, rfl, by omega, by omega, hw4, hbr4⟩, rfl⟩)
                  case measure => simp [intOf]; omega
                · have hc2 : (200 : Int) < p.size := by omega
                  go_wp2_with fail
                  refine (waccept_no hw4 hmn').mono ?_
                  rintro e w' ⟨rfl, rfl⟩
                  clear cp
                  go_wp2_with fail
                  go_roundw
                  case rel => first | exact ⟨j + 1, m, by omega, by go_num, rfl, by omega, by omega, hw4, hbr4⟩ | ((repeat apply Exists.intro); exact ⟨⟨j + 1, m, by omega, by go_num, rfl, by omega, by omega, hw4, hbr4⟩, rfl⟩)
                  case measure => simp [intOf]; omega
            · have twoJ : (¬ (j : Int) < olen) ∨ ((j : Int) < olen ∧ ¬ (j : Int) < 40) := by omega
              have hmm : (m == m) = true := beq_self_eq_true _
              clear hgo
              rcases twoJ with jA | ⟨jA, jB⟩
              all_goals
                go_wp2_with fail
                refine (wlast_any hw).mono ?_
                rintro e w' ⟨rfl, rfl⟩
                go_wp2_with fail
                refine (ffixed_any wr).mono ?_
                rintro e w5 ⟨rfl, hb5'⟩
                have hb5 := hbW.trans (hb5'.mono hbW.size)
                go_wp2_with fail
                go_ret
                exact ⟨rfl, hb5⟩
end Go.Proofs.Ytmmkopdijmplcaa.fstr
