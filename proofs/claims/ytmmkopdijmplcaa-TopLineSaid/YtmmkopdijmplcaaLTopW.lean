/-
  The walk of TopLine: whatever is sent, however it is turned, with whatever noise, within the reach, the call returns true.
-/
import Derived.Test.YtmmkopdijmplcaaLFixed
import Derived.Test.YtmmkopdijmplcaaLAdd
import Derived.Test.YtmmkopdijmplcaaFBackW
import Derived.Deep.CutBlock
import Derived.Deep.RegionHeld3
set_option linter.unusedVariables false
set_option linter.unusedSectionVars false
namespace Go.Proofs.Ytmmkopdijmplcaa.topl
open Go.RowKit Base HH FF fback ln RH
theorem PairsIn.below {w w' : World} {ao : Option Addr} {len : Nat} {ps : List (Int × Int)} (h : PairsIn w ao len ps) (hb : Below w.heap.size w w') : PairsIn w' ao len ps := by
  refine ⟨h.1, fun k hk => ?_⟩
  obtain ⟨a, e, hl, c0, c1⟩ := h.2 k hk
  exact ⟨a, e, Nat.lt_of_lt_of_le hl hb.size, (hb.cell (p := a.add (k * 2)) (by rw [ln.add_block]; exact hl)).trans c0, (hb.cell (p := ⟨(a.add (k * 2)).block, (a.add (k * 2)).off + 1, none⟩) (by rw [ln.add_block]; exact hl)).trans c1⟩
/-- a row of points in some block that is there -/
def PIn (w : World) (g n cap : Nat) (xs : List (Nat × Nat)) : Prop := ∃ B, PRow w B (.slice (some ⟨g, 0, none⟩) n cap) n xs
theorem PIn.lt {w : World} {g n cap : Nat} {xs : List (Nat × Nat)} (h : PIn w g n cap xs) : g < w.heap.size := by
  obtain ⟨B, h⟩ := h
  obtain ⟨g', c', e, _, _, hl⟩ := h.lt
  injection e with e1
  injection e1 with e1
  injection e1 with e1
  omega
theorem PIn.below {w w' : World} {g n cap : Nat} {xs : List (Nat × Nat)} (h : PIn w g n cap xs) (hb : Below w.heap.size w w') : PIn w' g n cap xs := by
  obtain ⟨B, h⟩ := h
  exact ⟨B, h.below hb⟩
theorem PIn.cells {w : World} {g n cap : Nat} {xs : List (Nat × Nat)} (h : PIn w g n cap xs) : ∀ j u, (xs.map cv)[j]? = some u → w.cell? ⟨g, j, none⟩ = some u := by
  obtain ⟨B, h⟩ := h
  exact PRow.cells h
theorem PIn.of {w : World} {B n : Nat} {v : Value} {xs : List (Nat × Nat)} (h : PRow w B v n xs) : ∃ g cap, v = .slice (some ⟨g, 0, none⟩) n cap ∧ PIn w g n cap xs := by
  obtain ⟨g, c, rfl, _⟩ := h.lt
  exact ⟨g, c, rfl, B, h⟩
/-- a row of noise in some block that is there -/
def NIn (w : World) (g n : Nat) (ys : List (Nat × Nat)) : Prop := g < w.heap.size ∧ ∀ j, j < n → w.cell? ⟨g, j, none⟩ = some (cv (ys.getD j (0, 0)))
theorem NIn.below {w w' : World} {g n : Nat} {ys : List (Nat × Nat)} (h : NIn w g n ys) (hb : Below w.heap.size w w') : NIn w' g n ys :=
  ⟨Nat.lt_of_lt_of_le h.1 hb.size, fun j hj => (hb.cell (p := ⟨g, j, none⟩) h.1).trans (h.2 j hj)⟩
section
variable {x : ByteArray} {nn r : Nat} (hnn : 1 + 2 * x.size = nn) (hx : x.size ≤ 250) (hr4 : r < 4)
include hnn hx hr4
theorem turn_c {w : World} {g cap : Nat} (h : PIn w g nn cap (sendL x.data.toList)) {tu : Int} (hr : bits .and .i64 tu 3 = (r : Int)) :
    Calls Try.prog 24 #[.slice (some ⟨g, 0, none⟩) nn cap, .int .i64 tu] w fun e w' => ∃ g' c', e = .returned (.slice (some ⟨g', 0, none⟩) nn c') ∧ PIn w' g' nn c' (ln.turned x.data.toList r) ∧ Below w.heap.size w w' := by
  have hl : (sendL x.data.toList).length = nn := by rw [sendL_length]; show 1 + 2 * x.data.size = nn; exact hnn
  refine (turn_v (xs := sendL x.data.toList) hl (by omega) (by omega) h.lt h.cells hr hr4).mono fun e w' => ?_
  rintro ⟨v', rfl, hP, hb⟩
  have e : mapTo (fun _ => turnP r) (sendL x.data.toList) nn = ln.turned x.data.toList r := by unfold ln.turned; rw [← hnn]; rfl
  rw [e] at hP
  obtain ⟨g', c', rfl, hP'⟩ := PIn.of hP
  exact ⟨g', c', rfl, hP', hb⟩
theorem add_c {w : World} {g cap gn cn len : Nat} {ps : List (Int × Int)} (h : PIn w g nn cap (ln.turned x.data.toList r)) (hpl : ps.length = len) (hlen : len * 16 ≤ 140737488355327) (hN : NIn w gn len (ps.map nPt)) :
    Calls Try.prog 23 #[.slice (some ⟨g, 0, none⟩) nn cap, .slice (some ⟨gn, 0, none⟩) len cn] w fun e w' => ∃ g' c', e = .returned (.slice (some ⟨g', 0, none⟩) nn c') ∧ PIn w' g' nn c' (outL x.data.toList r ps (min nn len)) ∧ Below w.heap.size w w' := by
  have hl : (ln.turned x.data.toList r).length = nn := by rw [turned_length]; show 1 + 2 * x.data.size = nn; exact hnn
  have hz : x.data.toList.length = x.size := rfl
  refine (add_v (xs := ln.turned x.data.toList r) hl (by omega) (by omega) h.lt h.cells (ys := ps.map nPt) (by omega) hN.1 hN.2 (f := addF ps) rfl (fun i hi => outL_sums _ r ps (by omega) (by omega))).mono fun e w' => ?_
  rintro ⟨v', rfl, hP, hb⟩
  obtain ⟨g', c', rfl, hP'⟩ := PIn.of hP
  exact ⟨g', c', rfl, hP', hb⟩
theorem recv_c {w : World} {g cap len : Nat} {ps : List (Int × Int)} (hpl : ps.length = len) (h : PIn w g nn cap (outL x.data.toList r ps (min nn len))) :
    Calls Try.prog 22 #[.slice (some ⟨g, 0, none⟩) nn cap] w fun e w' => e = .returned (.tuple #[.string x, .int .i64 0]) ∧ Below w.heap.size w w' := by
  have hz : x.data.toList.length = x.size := rfl
  have h1 := receive_v (m := x.size) (k := r) (r := (4 - r) % 4) (l := x.data.toList) (by rw [outL_length, hz]; exact hnn) hnn (by omega) h.lt h.cells hr4 rfl (outL_pilot _ r ps (by omega)) rfl (fun j hj => outL_says x.data.toList hr4 ps (by omega) (by omega)) (cap := cap)
  rw [str_of x] at h1
  exact h1
end
theorem noise_c {w : World} {ao : Option Addr} {len cap : Nat} {ps : List (Int × Int)} (hps : PairsIn w ao len ps) (hlen : len * 16 ≤ 140737488355327) :
    Calls Try.prog 25 #[.slice ao len cap] w fun e w' => ∃ g c, e = .returned (.slice (some ⟨g, 0, none⟩) len c) ∧ NIn w' g len (ps.map nPt) ∧ Below w.heap.size w w' := by
  refine (noise_v hps hlen).mono fun e w' => ?_
  rintro ⟨v', rfl, ⟨g, c, rfl, h1, h2⟩, hb⟩
  exact ⟨g, c, rfl, ⟨h1, h2⟩, hb⟩
set_option maxRecDepth 100000 in
set_option maxHeartbeats 4000000 in
theorem walk_no (W : World) {key p : ByteArray} {level epoch seq tu : Int} {nz : Value} (hk : key.size ≤ 288230376151711743) (hE : Frm.encE level epoch seq p.data.toList ≠ 0) :
    Calls Try.prog 4 #[.agg #[.string key, .int .i64 level, .int .i64 epoch, .int .i64 seq, .string p, .int .i64 tu, nz]] W fun e w' => e = .returned (.bool true) ∧ Below W.heap.size W w' := by
  obtain ⟨ec, hec⟩ : ∃ ec, Frm.encE level epoch seq p.data.toList = ec := ⟨_, rfl⟩
  have hx : Hid (str (Frm.encS key.data.toList level epoch seq p.data.toList) = ⟨#[]⟩) := congrArg str (Frm.encS_no hE)
  rw [hec] at hE
  have hE' : (ec != 0) = true := by rw [bne_iff_ne]; exact hE
  replace hE := Lib.hid hE
  replace hec := Lib.hid hec
  have hbN := (Below.refl W.heap.size W).alloc (Nat.le_refl _) (.cells #[.string key, .int .i64 level, .int .i64 epoch, .int .i64 seq, .string p, .int .i64 tu, nz] 24)
  have hNs := Row.new W [.string key, .int .i64 level, .int .i64 epoch, .int .i64 seq, .string p, .int .i64 tu, nz] 24
  go_enter Try.func4, Try.ntmps4
  have c0 := hNs.cell (j := 0) rfl
  have c1 := hNs.cell (j := 1) rfl
  have c2 := hNs.cell (j := 2) rfl
  have c3 := hNs.cell (j := 3) rfl
  have c4 := hNs.cell (j := 4) rfl
  go_wp2_with fail
  generalize W.alloc (.cells #[.string key, .int .i64 level, .int .i64 epoch, .int .i64 seq, .string p, .int .i64 tu, nz] 24) = w1 at *
  (with_reducible refine (enc_any hk hx hec).mono ?_)
  rintro e w3 ⟨rfl, hb3'⟩
  have hb3 := hbN.trans (hb3'.mono hbN.size)
  clear c0 c1 c2 c3 c4
  go_wp2_with fail
  refine (lfixed_any w3).mono ?_
  rintro e w4 ⟨rfl, hb4'⟩
  have hb4 := hb3.trans (hb4'.mono hb3.size)
  go_wp2_with fail
  go_ret
  exact ⟨rfl, hb4⟩
set_option maxRecDepth 100000 in
set_option maxHeartbeats 8000000 in
theorem walk_yes (W : World) {key p x : ByteArray} {lev ep sq r : Nat} {tu : Int} {ao : Option Addr} {len cap : Nat} {ps : List (Int × Int)} (hk : key.size ≤ 288230376151711743) (hok : Ok key p x lev ep sq) (hps : PairsIn W ao len ps) (hlen : len * 16 ≤ 140737488355327) (hr : bits .and .i64 tu 3 = (r : Int)) (hr4 : r < 4) :
    Calls Try.prog 4 #[.agg #[.string key, .int .i64 lev, .int .i64 ep, .int .i64 sq, .string p, .int .i64 tu, .slice ao len cap]] W fun e w' => e = .returned (.bool true) ∧ Below W.heap.size W w' := by
  have zx := hok.size hk
  have hpz := hok.hp
  have D1 := Lib.hid (fun w => hok.dec hk w)
  have D2 := Lib.hid (fun w => hok.other hk w (level := (lev : Int)) (epoch := (ep : Int) - 1) (by omega))
  have D3 := Lib.hid (fun w => hok.other hk w (level := (lev : Int) - 1) (epoch := (ep : Int)) (by omega))
  have hE := Lib.hid (fun w => hok.enc hk w)
  have l8 := hok.hl
  have l62 := hok.he
  have hw1 : IntKind.i64.wrap ((ep : Int) - 1) = (ep : Int) - 1 := IntWalk.i64_in _ (by omega)
  have hw2 : IntKind.i64.wrap ((lev : Int) - 1) = (lev : Int) - 1 := IntWalk.i64_in _ (by omega)
  have zl : x.data.toList.length = x.size := rfl
  have hxs : x.size ≤ 250 := by omega
  clear hok
  obtain ⟨nx, hnx⟩ : ∃ n, x.size = n := ⟨_, rfl⟩
  have hbN := (Below.refl W.heap.size W).alloc (Nat.le_refl _) (.cells #[.string key, .int .i64 lev, .int .i64 ep, .int .i64 sq, .string p, .int .i64 tu, .slice ao len cap] 24)
  have hNs := Row.new W [.string key, .int .i64 lev, .int .i64 ep, .int .i64 sq, .string p, .int .i64 tu, .slice ao len cap] 24
  obtain ⟨gs, hgs⟩ : ∃ g, W.heap.size = g := ⟨_, rfl⟩
  go_enter Try.func4, Try.ntmps4
  have c0 := hNs.cell (j := 0) rfl
  have c1 := hNs.cell (j := 1) rfl
  have c2 := hNs.cell (j := 2) rfl
  have c3 := hNs.cell (j := 3) rfl
  have c4 := hNs.cell (j := 4) rfl
  go_wp2_with fail
  generalize W.alloc (.cells #[.string key, .int .i64 lev, .int .i64 ep, .int .i64 sq, .string p, .int .i64 tu, .slice ao len cap] 24) = w1 at *
  (with_reducible refine (hE.out _).mono ?_)
  rintro e w3 ⟨rfl, hb3'⟩
  have hNs3 := hNs.below hb3' hNs.lt
  have hb3 := hbN.trans (hb3'.mono hbN.size)
  clear c0 c1 c2 c3 c4 hE hNs hbN hb3'
  go_wp2_with fail
  (with_reducible refine (send_v (s := x) (w := w3) (by omega)).mono ?_)
  rintro e w4 ⟨v4, rfl, hP4, hb4'⟩
  have hNs4 := hNs3.below hb4' hNs3.lt
  have hb4 := hb3.trans (hb4'.mono hb3.size)
  obtain ⟨nn, hnn⟩ : ∃ n, 1 + 2 * x.size = n := ⟨_, rfl⟩
  rw [hnn] at hP4
  obtain ⟨g4, cp4, rfl, hI4⟩ := PIn.of hP4
  clear hP4
  have hps4 := PairsIn.below hps hb4
  have hne : ((nn : Int) != 1 + 2 * (x.size : Int)) = false := by rw [bne_eq_false_iff_eq]; omega
  have hxx : (x.toList == x.toList) = true := beq_self_eq_true _
  have hpp : (p.toList == p.toList) = true := beq_self_eq_true _
  have hss : ((sq : Int) == (sq : Int)) = true := beq_self_eq_true _
  clear hNs3 hb3 hb4' hps
  replace hnn := Lib.hid hnn
  replace hxs := Lib.hid hxs
  replace hr := Lib.hid hr
  replace hr4 := Lib.hid hr4
  replace hlen := Lib.hid hlen
  have hpl := Lib.hid hps4.1
  rw [hgs] at hNs4
  have hgW : W.heap.size ≤ gs := by omega
  replace hgs := Lib.hid hgs
  have hNd := hNs4.drew
  have hbd := (Below.refl w4.heap.size w4).drew
  have hPd := hI4.below hbd
  have hpsd := PairsIn.below hps4 hbd
  have c5 := hNd.cell (j := 5) rfl
  have c6 := hNd.cell (j := 6) rfl
  go_wp2_with fail
  go_region_held3 (fun w' => w'.cell? ⟨gs, 5, none⟩ = some (.int .i64 tu) ∧ w'.cell? ⟨gs, 6, none⟩ = some (.slice ao len cap))
    (first | exact ⟨c5, c6⟩ | exact ⟨hN5.cell rfl, hN5.cell rfl⟩ | exact ⟨hN6.cell rfl, hN6.cell rfl⟩ | exact ⟨hN7.cell rfl, hN7.cell rfl⟩ | exact ⟨hN8.cell rfl, hN8.cell rfl⟩)
    (first
      | (go_at_call 22; (with_reducible refine (recv_c hnn.out hxs.out hr4.out hpl.out hP7).mono ?_); rintro e w8 ⟨rfl, hb8⟩; have hN8 := hN7.below hb8 hN7.lt; have hB8 := hB7.trans (hb8.mono hB7.size))
      | (go_at_call 23; (with_reducible refine (add_c hnn.out hxs.out hr4.out hP6 hpl.out hlen.out hQ6).mono ?_); rintro e w7 ⟨g7, cp7, rfl, hP7, hb7⟩; have hN7 := hN6.below hb7 hN6.lt; have hB7 := hB6.trans (hb7.mono hB6.size))
      | (go_at_call 24; (with_reducible refine (turn_c hnn.out hxs.out hr4.out hPd hr.out).mono ?_); rintro e w5 ⟨g5, cp5, rfl, hP5, hb5⟩; have hN5 := hNd.below hb5 hNd.lt; have hB5 := hbd.trans (hb5.mono hbd.size); have hps5 := PairsIn.below hpsd hb5)
      | (go_at_call 25; (with_reducible refine (noise_c hps5 hlen.out).mono ?_); rintro e w6 ⟨g6, cp6, rfl, hQ6, hb6⟩; have hN6 := hN5.below hb6 hN5.lt; have hB6 := hB5.trans (hb6.mono hB5.size); have hP6 := hP5.below hb6)
      | (go_at_call 25; (with_reducible refine (noise_c hpsd hlen.out).mono ?_); rintro e w5 ⟨g5, cp5, rfl, hQ5, hb5⟩; have hN5 := hNd.below hb5 hNd.lt; have hB5 := hbd.trans (hb5.mono hbd.size); have hP5 := hPd.below hb5)
      | (go_at_call 24; (with_reducible refine (turn_c hnn.out hxs.out hr4.out hP5 hr.out).mono ?_); rintro e w6 ⟨g6, cp6, rfl, hP6, hb6⟩; have hN6 := hN5.below hb6 hN5.lt; have hB6 := hB5.trans (hb6.mono hB5.size); have hQ6 := hQ5.below hb6))
  all_goals
    clear hbd hb5 hb6 hb7 hb8 hB5 hB6 hB7 hN5 hN6 hN7 hNd hNs4 c5 c6 hI4 hPd hP6 hP7 hQ6 hps4 hpsd hnn hlen hr
    have hb8 := hb4.trans (hB8.mono hb4.size)
    clear hb4 hB8
    have c0 := hN8.cell (j := 0) rfl
    have c1 := hN8.cell (j := 1) rfl
    have c2 := hN8.cell (j := 2) rfl
    go_wp2_with fail
    (with_reducible refine (D1.out _).mono ?_)
    rintro e w9 ⟨rfl, hb9'⟩
    have hN9 := hN8.below hb9' hN8.lt
    have hb9 := hb8.trans (hb9'.mono hb8.size)
    clear hN8 hb8 hb9' c0 c1 c2
    have c0 := hN9.cell (j := 0) rfl
    have c1 := hN9.cell (j := 1) rfl
    have c2 := hN9.cell (j := 2) rfl
    go_wp2_with fail
    (with_reducible refine (D2.out _).mono ?_)
    rintro e w10 ⟨rfl, hb10'⟩
    have hN10 := hN9.below hb10' hN9.lt
    have hb10 := hb9.trans (hb10'.mono hb9.size)
    clear hN9 hb9 hb10' c0 c1 c2
    have c0 := hN10.cell (j := 0) rfl
    have c1 := hN10.cell (j := 1) rfl
    have c2 := hN10.cell (j := 2) rfl
    go_wp2_with fail
    (with_reducible refine (D3.out _).mono ?_)
    rintro e w11 ⟨rfl, hb11'⟩
    have hN11 := hN10.below hb11' hN10.lt
    have hb11 := hb10.trans (hb11'.mono hb10.size)
    clear hN10 hb10 hb11' c0 c1 c2
    have c3 := hN11.cell (j := 3) rfl
    have c4 := hN11.cell (j := 4) rfl
    go_wp2_with fail
    refine (lfixed_any w11).mono ?_
    rintro e w12 ⟨rfl, hb12'⟩
    have hb12 := hb11.trans (hb12'.mono hb11.size)
    go_wp2_with fail
    go_ret
    exact ⟨rfl, hb12⟩
theorem walk (W : World) {key p : ByteArray} {level epoch seq tu : Int} {ao : Option Addr} {len cap : Nat} {ps : List (Int × Int)} (hk : key.size ≤ 140737488355327) (hps : PairsIn W ao len ps) (hlen : len * 16 ≤ 140737488355327) :
    Calls Try.prog 4 #[.agg #[.string key, .int .i64 level, .int .i64 epoch, .int .i64 seq, .string p, .int .i64 tu, .slice ao len cap]] W fun e w' => e = .returned (.bool true) ∧ Below W.heap.size W w' := by
  by_cases hE : Frm.encE level epoch seq p.data.toList = 0
  · obtain ⟨hf, hp, _⟩ := Frm.encS_yes (key := key.data.toList) hE
    unfold Frm.fine Frm.most at hf
    obtain ⟨a1, a2, a3, a4, a5, a6⟩ := hf
    obtain ⟨lev, rfl⟩ := Int.eq_ofNat_of_zero_le a1
    obtain ⟨ep, rfl⟩ := Int.eq_ofNat_of_zero_le a3
    obtain ⟨sq, rfl⟩ := Int.eq_ofNat_of_zero_le a5
    have hok : Ok key p (str (Frm.whole key.data.toList lev ep sq p.data.toList)) lev ep sq := ⟨by omega, by omega, by omega, hp, rfl⟩
    obtain ⟨r, hr4, hr⟩ := turn_is tu
    exact walk_yes W (by omega) hok hps hlen hr hr4
  · exact walk_no W (by omega) hE
end Go.Proofs.Ytmmkopdijmplcaa.topl
