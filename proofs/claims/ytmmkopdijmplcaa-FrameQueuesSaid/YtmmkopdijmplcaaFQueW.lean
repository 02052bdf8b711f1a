/-
  The walk of FrameQueues: for every depth and list of calls the call returns true.
-/
import Derived.Test.YtmmkopdijmplcaaFQops
set_option linter.unusedVariables false
namespace Go.Proofs.Ytmmkopdijmplcaa.fque
open Go.RowKit Base HH FF
set_option maxRecDepth 100000 in
set_option maxHeartbeats 1000000 in
theorem walk_no (W : World) {mo : Option Addr} {mlen mcap : Nat} {d : Int} (hd : d < 1 ∨ 8 < d) :
    Calls Try.prog 9 #[.int .i64 d, .slice mo mlen mcap] W fun e w' => e = .returned (.bool true) ∧ Below W.heap.size W w' := by
  by_cases h1 : d < 1
  · go_enter Try.func9, Try.ntmps9
    go_wp2_with fail
    refine (qnew_no d W hd).mono ?_
    rintro e w' ⟨rfl, rfl⟩
    clear hd
    go_wp2_with fail
    refine (ffixed_any W).mono ?_
    rintro e w2 ⟨rfl, hb2⟩
    go_wp2_with fail
    go_ret
    exact ⟨rfl, hb2⟩
  · have h2 : 8 < d := by omega
    go_enter Try.func9, Try.ntmps9
    go_wp2_with fail
    refine (qnew_no d W hd).mono ?_
    rintro e w' ⟨rfl, rfl⟩
    clear hd
    go_wp2_with fail
    refine (ffixed_any W).mono ?_
    rintro e w2 ⟨rfl, hb2⟩
    go_wp2_with fail
    go_ret
    exact ⟨rfl, hb2⟩
theorem trow_grown {w w1 : World} {B g o n cap : Nat} {ss : List ByteArray} (h : TRow w B (.slice (some ⟨g, o, none⟩) n cap) ss) {q : Nat} (hg : w.grownBy w1 (some q)) (hq : g ≠ q) : TRow w1 B (.slice (some ⟨g, o, none⟩) n cap) ss := by
  obtain ⟨g', o', cap', cur, he, hB, hr, h1, h2, h3, h4⟩ := h
  injection he with ha hl hc
  injection ha with ha
  injection ha with e1 e2 e3
  subst e1
  subst e2
  subst hl
  subst hc
  exact ⟨g, o, cap, cur, rfl, hB, hr.grown hg (fun e => by injection e with e; omega), h1, h2, h3, h4⟩
theorem qpop_none {w : World} {g d : Nat} (h : QAt w g [] d) : Calls Try.prog 36 #[.pointer (some ⟨g, 0, none⟩)] w fun e w' => e = .returned (.tuple #[.string ⟨#[]⟩, .bool false]) ∧ w = w' := qpop_no h
theorem qlen_v {w : World} {g d : Nat} {l : List ByteArray} (h : QAt w g l d) {n : Nat} (hn : Hid (l.length = n)) : Calls Try.prog 38 #[.pointer (some ⟨g, 0, none⟩)] w fun e w' => e = .returned (.int .i64 (n : Int)) ∧ w = w' := by
  rw [← hn.out]
  exact qlen_any h
theorem below_grown {w w1 : World} (h : Below w.heap.size w w1) (r : Option Nat) : w.grownBy w1 r := ⟨h.os, h.tape, h.output, h.size, fun k hk _ => h.block k hk⟩
theorem qpush_some {w : World} {g d : Nat} {l : List ByteArray} (h : QAt w g l d) (s : ByteArray) : Calls Try.prog 35 #[.pointer (some ⟨g, 0, none⟩), .string s] w fun e w' => ∃ b l', e = .returned (.bool b) ∧ QAt w' g l' d ∧ w.grownBy w' (some g) := by
  have hld : l.length ≤ d := by obtain ⟨_, _, h, _⟩ := h; exact h
  by_cases hd : l.length < d
  · exact (qpush_yes h hd s).mono fun _ _ ⟨h1, h2, h3⟩ => ⟨_, _, h1, h2, h3⟩
  · exact (qpush_no h (by omega) s).mono fun _ _ ⟨h1, h2⟩ => ⟨_, l, h1, h.below h2 h.lt, below_grown h2 _⟩
theorem qpop_some {w : World} {g d : Nat} {l : List ByteArray} (h : QAt w g l d) : Calls Try.prog 36 #[.pointer (some ⟨g, 0, none⟩)] w fun e w' => ∃ s b l', e = .returned (.tuple #[.string s, .bool b]) ∧ QAt w' g l' d ∧ w.grownBy w' (some g) := by
  cases l with
  | nil => exact (qpop_no h).mono fun _ _ ⟨h1, h2⟩ => ⟨_, _, [], h1, h2 ▸ h, h2 ▸ World.grownBy.refl _ _⟩
  | cons x r => exact (qpop_yes h).mono fun _ _ ⟨h1, h2, h3⟩ => ⟨_, _, _, h1, h2, h3⟩
set_option maxRecDepth 100000 in
set_option maxHeartbeats 4000000 in
theorem walk_yes (W : World) {mo : Option Addr} {mlen mcap : Nat} {ms : List (Int × ByteArray)} {d : Nat} (hms : FOpsIn W mo mlen ms) (hml : mlen ≤ 9223372036854775807) (hd1 : 1 ≤ d) (hd8 : d ≤ 8) :
    Calls Try.prog 9 #[.int .i64 d, .slice mo mlen mcap] W fun e w' => e = .returned (.bool true) ∧ Below W.heap.size W w' := by
  have hlen := hms.1
  have g1 : ¬ (d : Int) < 1 := by omega
  have g2 : ¬ (8 : Int) < d := by omega
  have g3 : decide ((d : Int) < 1) = false := decide_eq_false g1
  have g4 : decide ((8 : Int) < d) = false := decide_eq_false g2
  go_enter Try.func9, Try.ntmps9
  go_wp2_with fail
  refine (qnew_yes d W hd1 hd8).mono ?_
  rintro e w1 ⟨rfl, hq1, hb1, hz1⟩
  obtain ⟨gq, hgq⟩ : ∃ g, W.heap.size = g := ⟨_, rfl⟩
  have hgW : W.heap.size ≤ gq := by omega
  rw [hgq] at hq1 hz1 ⊢
  replace hgq := Lib.hid hgq
  have hb2 := hb1.alloc hb1.size (.cells #[] 9)
  have hq2 : QAt (w1.alloc (.cells #[] 9)) gq [] d := hq1.below ((Below.refl w1.heap.size w1).alloc (Nat.le_refl _) _) hq1.lt
  have ht2 := TRow.empty (B := gq + 1) w1 (by omega)
  clear hb1 hq1
  replace hz1 := Lib.hid hz1
  go_wp2_with fail
  go_loopw [7, 8, 9, 10, 11, 12, 13] (fun v i _ _ _ _ _ wr => ∃ (k : Nat) (ss : List ByteArray), k ≤ mlen ∧ i = .int .i64 k ∧ TRow wr (gq + 1) v ss ∧ QAt wr gq ss d ∧ Below W.heap.size W wr) (fun _ i _ _ _ _ _ _ => mlen - (intOf i).toNat)
  case atStart => exact ⟨0, [], Nat.zero_le _, rfl, ht2, hq2, hb2⟩
  case round =>
    clear ht2 hq2 hb2
    obtain ⟨k, ss, hk, rfl, ht, hq, hb⟩ := hrel
    by_cases hlt : k < mlen
    · have hlt' : (k : Int) < mlen := by omega
      obtain ⟨a, x, y, rfl, hab, hxy, c0, c1⟩ := (hms.below hb (Nat.le_refl _)).at_ hlt
      have hbs := hb.size
      obtain ⟨g, o, cap, rfl, hnc, hBg, hgl⟩ := ht.shape
      have hql := hq.lt
      have hss : ss.length ≤ d := by obtain ⟨_, _, h, _⟩ := hq; exact h
      have hN := Row.new wr [.int .i64 x, .string y] 66
      have htN := ht.alloc (.cells #[.int .i64 x, .string y] 66)
      have hqN : QAt (wr.alloc (.cells #[.int .i64 x, .string y] 66)) gq ss d := hq.below ((Below.refl wr.heap.size wr).alloc (Nat.le_refl _) _) hql
      have hbN := hb.alloc hbs (.cells #[.int .i64 x, .string y] 66)
      obtain ⟨n, hn⟩ : ∃ n, ss.length = n := ⟨_, rfl⟩
      rw [hn] at hnc hss htN ⊢
      obtain ⟨wo, hwo⟩ : ∃ wo : World, wo = wr := ⟨_, rfl⟩
      subst hwo
      obtain ⟨gx, hgx⟩ : ∃ gx, wo.heap.size = gx := ⟨_, rfl⟩
      have hwx : wo.heap.size + 1 = (wo.alloc (.cells #[.int .i64 x, .string y] 66)).heap.size := by simp
      rw [hgx] at hwx hN
      replace hlen := Lib.hid hlen
      replace hxy := Lib.hid hxy
      have hgxq : gq < gx := by omega
      have hgxg : g < gx := by omega
      have hneq : some gq ≠ some gx := fun e => by injection e with e; omega
      replace hneq := Lib.hid hneq
      have hn8 : n ≤ 8 := by omega
      clear ht hq hb
      by_cases h0 : x = 0
      · subst h0
        have hx : ((0 : Int) == 0) = true := rfl
        by_cases hnd : n < d
        · have hnd' : decide ((n : Int) < d) = true := decide_eq_true (by omega)
          replace hn := Lib.hid hn
          go_wp2_with fail
          generalize wo.alloc (.cells #[.int .i64 0, .string y] 66) = w2 at *
          refine (qpush_yes hqN (by rw [hn.out]; exact hnd) y).mono ?_
          rintro e w3 ⟨rfl, hq3, hg3⟩
          have ht3 := htN.grown hg3 (by omega)
          have hN3 := hN.grown hg3 hneq.out
          have hb3 := hbN.grown hg3 hbN.size (fun q e => by injection e with e; omega)
          have d1 := hN3.cell (j := 1) rfl
          have hs3 := hg3.size
          clear hqN htN hN hbN hg3 c0 c1
          have hbs3 := hb3.size
          go_wp2_with (at_builtin; refine wpList_append_text rfl (.tmp 66) (.tmp 69) rfl (by rfl) (ht3.alloc (.cells #[.string y] 9)) (by simp; omega) (by rfl) (cell_one_new _ _ _) (by rw [hn.out]; omega) ?_)
          intro v4 w4 ht4 hg4
          have hg4' : (w3.alloc (.cells #[.string y] 9)).grownBy w4 (some g) := hg4
          have hq4 := (QAt.below hq3 ((Below.refl w3.heap.size w3).alloc (Nat.le_refl _) (.cells #[.string y] 9)) hq3.lt).grown hg4' (fun e => by injection e with e; omega)
          have hb4 := (hb3.alloc hbs3 (.cells #[.string y] 9)).grown hg4' (by simp; omega) (fun q e => by injection e with e; omega)
          have hl1 : (ss ++ [y]).length = n + 1 := by rw [List.length_append, hn.out]; rfl
          obtain ⟨g5, o5, cap5, hv5, _, _, _⟩ := ht4.shape
          rw [hl1] at hv5
          subst hv5
          clear ht3 hN3 hb3 d1 hq3 hg4 hg4'
          go_wp2_with fail
          refine (qlen_v hq4 (Lib.hid hl1)).mono ?_
          rintro e w' ⟨rfl, rfl⟩
          go_wp2_with fail
          go_roundw
          case rel => first | exact ⟨k + 1, _, by omega, by go_num, ht4, hq4, hb4⟩ | ((repeat apply Exists.intro); exact ⟨⟨k + 1, _, by omega, by go_num, ht4, hq4, hb4⟩, rfl⟩)
          case measure => simp [intOf]; omega
        · have hnd' : decide ((n : Int) < d) = false := decide_eq_false (by omega)
          have hnd2 : n = d := by omega
          replace hn := Lib.hid hn
          go_wp2_with fail
          generalize wo.alloc (.cells #[.int .i64 0, .string y] 66) = w2 at *
          refine (qpush_no hqN (by rw [hn.out]; exact hnd2) y).mono ?_
          rintro e w3 ⟨rfl, hb3'⟩
          replace hnd2 := Lib.hid hnd2
          have hq3 := hqN.below hb3' hqN.lt
          have ht3 := htN.below hb3'
          have hb3 := hbN.trans (hb3'.mono hbN.size)
          clear hqN htN hN hbN hb3' c0 c1
          go_wp2_with fail
          refine (qlen_v hq3 (Lib.hid hn.out)).mono ?_
          rintro e w' ⟨rfl, rfl⟩
          go_wp2_with fail
          go_roundw
          case rel => first | exact ⟨k + 1, _, by omega, by go_num, ht3, hq3, hb3⟩ | ((repeat apply Exists.intro); exact ⟨⟨k + 1, _, by omega, by go_num, ht3, hq3, hb3⟩, rfl⟩)
          case measure => simp [intOf]; omega
      by_cases h1 : x = 1
      · subst h1
        have hx0 : ((1 : Int) == 0) = false := rfl
        have hx1 : ((1 : Int) == 1) = true := rfl
        cases ss with
        | nil =>
          have hn0 : n = 0 := hn.symm
          subst hn0
          clear hn
          go_wp2_with fail
          generalize wo.alloc (.cells #[.int .i64 1, .string y] 66) = w2 at *
          refine (qpop_none hqN).mono ?_
          rintro e w' ⟨rfl, rfl⟩
          clear hN c0 c1
          go_wp2_with fail
          refine (qlen_v hqN (Lib.hid rfl)).mono ?_
          rintro e w' ⟨rfl, rfl⟩
          go_wp2_with fail
          go_roundw
          case rel => first | exact ⟨k + 1, _, by omega, by go_num, htN, hqN, hbN⟩ | ((repeat apply Exists.intro); exact ⟨⟨k + 1, _, by omega, by go_num, htN, hqN, hbN⟩, rfl⟩)
          case measure => simp [intOf]; omega
        | cons p r =>
          obtain ⟨m, hm⟩ : ∃ m, r.length = m := ⟨_, rfl⟩
          have hnm : n = m + 1 := by rw [← hn, List.length_cons, hm]
          subst hnm
          replace hn := Lib.hid hn
          go_wp2_with fail
          generalize wo.alloc (.cells #[.int .i64 1, .string y] 66) = w2 at *
          refine (qpop_yes hqN).mono ?_
          rintro e w3 ⟨rfl, hq3, hg3⟩
          have ht3 := htN.grown hg3 (by omega)
          have hb3 := hbN.grown hg3 hbN.size (fun q e => by injection e with e; omega)
          clear hqN htN hN hbN hg3 c0 c1
          rw [← hm] at ht3
          have e0 := ht3.cell
          have htt := ht3.tail (if cap = 1 then o else o + 1) rfl
          rw [hm] at htt
          clear ht3
          have hpp : (p.toList == p.toList) = true := beq_self_eq_true _
          replace hm := Lib.hid hm
          by_cases hc1 : cap = 1
          · subst hc1
            rw [if_pos rfl] at htt
            obtain rfl : m = 0 := by omega
            have htt : TRow w3 (gq + 1) (.slice (some ⟨g, o, none⟩) 0 0) r := htt
            go_wp2_with fail
            refine (qlen_v hq3 (Lib.hid hm.out)).mono ?_
            rintro e w' ⟨rfl, rfl⟩
            go_wp2_with fail
            go_roundw
            case rel => first | exact ⟨k + 1, _, by omega, by go_num, htt, hq3, hb3⟩ | ((repeat apply Exists.intro); exact ⟨⟨k + 1, _, by omega, by go_num, htt, hq3, hb3⟩, rfl⟩)
            case measure => simp [intOf]; omega
          · rw [if_neg hc1] at htt
            go_wp2_with fail
            refine (qlen_v hq3 (Lib.hid hm.out)).mono ?_
            rintro e w' ⟨rfl, rfl⟩
            go_wp2_with fail
            go_roundw
            case rel => first | exact ⟨k + 1, _, by omega, by go_num, htt, hq3, hb3⟩ | ((repeat apply Exists.intro); exact ⟨⟨k + 1, _, by omega, by go_num, htt, hq3, hb3⟩, rfl⟩)
            case measure => simp [intOf]; omega
      by_cases h2 : x = 2
      · subst h2
        have hx0 : ((2 : Int) == 0) = false := rfl
        have hx1 : ((2 : Int) == 1) = false := rfl
        have hx2 : ((2 : Int) == 2) = true := rfl
        replace hn := Lib.hid hn
        go_wp2_with fail
        generalize wo.alloc (.cells #[.int .i64 2, .string y] 66) = w2 at *
        refine (qclone_any hqN).mono ?_
        rintro e w3 ⟨rfl, hc3, hb3', hz3⟩
        have hq3 := hqN.below hb3' hqN.lt
        have ht3 := htN.below hb3'
        have hN3 := hN.below hb3' hN.lt
        have hb3 := hbN.trans (hb3'.mono hbN.size)
        obtain ⟨gc, hgc⟩ : ∃ g, w2.heap.size = g := ⟨_, rfl⟩
        have hgcl : gx < gc := by rw [← hgc]; exact hN.lt
        have hgcg := (htN.shape)
        rw [hgc] at hc3 ⊢
        have hne1 : some gc ≠ some gq := fun e => by injection e with e; omega
        have hne2 : some gc ≠ some gx := fun e => by injection e with e; omega
        have hne3 : some gc ≠ some g := fun e => by injection e with e; omega
        replace hne1 := Lib.hid hne1
        replace hne2 := Lib.hid hne2
        replace hne3 := Lib.hid hne3
        replace hgc := Lib.hid hgc
        clear hqN htN hN hbN hb3' c0 c1 hz3 hgcg
        go_wp2_with fail
        refine (qlen_v hc3 hn).mono ?_
        rintro e w' ⟨rfl, rfl⟩
        have d1 := hN3.cell (j := 1) rfl
        go_wp2_with fail
        refine (qpush_some hc3 y).mono ?_
        rintro e w4 ⟨b4, l4, rfl, hc4, hg4⟩
        have hq4 := hq3.grown hg4 hne1.out
        have ht4 := trow_grown ht3 hg4 (by omega)
        have hb4 := hb3.grown hg4 hb3.size (fun q e => by injection e with e; omega)
        clear hc3 hq3 ht3 hb3 hN3 hg4 d1
        go_wp2_with fail
        refine (qpop_some hc4).mono ?_
        rintro e w5 ⟨s5, b5, l5, rfl, hc5, hg5⟩
        have hq5 := hq4.grown hg5 hne1.out
        have ht5 := trow_grown ht4 hg5 (by omega)
        have hb5 := hb4.grown hg5 hb4.size (fun q e => by injection e with e; omega)
        clear hc4 hq4 ht4 hb4 hg5 hc5
        go_wp2_with fail
        refine (qlen_v hq5 (Lib.hid hn.out)).mono ?_
        rintro e w' ⟨rfl, rfl⟩
        go_wp2_with fail
        go_roundw
        case rel => first | exact ⟨k + 1, _, by omega, by go_num, ht5, hq5, hb5⟩ | ((repeat apply Exists.intro); exact ⟨⟨k + 1, _, by omega, by go_num, ht5, hq5, hb5⟩, rfl⟩)
        case measure => simp [intOf]; omega
      have hx0 : (x == 0) = false := by rw [beq_eq_false_iff_ne]; exact h0
      have hx1 : (x == 1) = false := by rw [beq_eq_false_iff_ne]; exact h1
      have hx2 : (x == 2) = false := by rw [beq_eq_false_iff_ne]; exact h2
      replace hn := Lib.hid hn
      replace h0 := Lib.hid h0
      replace h1 := Lib.hid h1
      replace h2 := Lib.hid h2
      go_wp2_with fail
      generalize wo.alloc (.cells #[.int .i64 x, .string y] 66) = w2 at *
      clear hN c0 c1
      refine (qlen_v hqN (Lib.hid hn.out)).mono ?_
      rintro e w' ⟨rfl, rfl⟩
      go_wp2_with fail
      go_roundw
      case rel => first | exact ⟨k + 1, _, by omega, by go_num, htN, hqN, hbN⟩ | ((repeat apply Exists.intro); exact ⟨⟨k + 1, _, by omega, by go_num, htN, hqN, hbN⟩, rfl⟩)
      case measure => simp [intOf]; omega
    · have hlt' : ¬ (k : Int) < mlen := by omega
      go_wp2_with fail
      refine (ffixed_any wr).mono ?_
      rintro e w2 ⟨rfl, hb2⟩
      have hb3 := hb.trans (hb2.mono hb.size)
      go_wp2_with fail
      go_ret
      exact ⟨rfl, hb3⟩
theorem walk (W : World) {mo : Option Addr} {mlen mcap : Nat} {ms : List (Int × ByteArray)} {d : Int} (hms : FOpsIn W mo mlen ms) (hml : mlen ≤ 9223372036854775807) :
    Calls Try.prog 9 #[.int .i64 d, .slice mo mlen mcap] W fun e w' => e = .returned (.bool true) ∧ Below W.heap.size W w' := by
  by_cases hd : d < 1 ∨ 8 < d
  · exact walk_no W hd
  · obtain ⟨n, rfl⟩ := Int.eq_ofNat_of_zero_le (show 0 ≤ d by omega)
    exact walk_yes W hms hml (by omega) (by omega)
end Go.Proofs.Ytmmkopdijmplcaa.fque
