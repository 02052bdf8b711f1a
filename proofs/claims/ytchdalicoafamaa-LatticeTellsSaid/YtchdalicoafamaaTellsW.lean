/-
  The walk of LatticeTells: for every number of levels, every pairs that are within the reach and every two numbers asked of the call returns true.
-/
import Derived.Test.YtchdalicoafamaaRows
import Derived.Test.YtchdalicoafamaaBase
import Derived.Test.YtchdalicoafamaaLat
import Derived.Test.YtchdalicoafamaaClosed
import Derived.Test.YtchdalicoafamaaLattice
import Derived.Test.YtchdalicoafamaaLists
import Derived.Test.YtchdalicoafamaaMake
import Derived.Test.YtchdalicoafamaaSame
import Derived.Test.YtchdalicoafamaaJoins
import Derived.Test.YtchdalicoafamaaFixedL
import Derived.Test.YtchdalicoafamaaArgsL
import Derived.Test.YtchdalicoafamaaLawsW
import Derived.Test.YtchdalicoafamaaAppend
import Derived.Test.YtchdalicoafamaaLies
import Derived.Test.YtchdalicoafamaaRefP
import Derived.Test.YtchdalicoafamaaRefL
import Derived.Test.YtchdalicoafamaaRefN
import Derived.Test.YtchdalicoafamaaRefT
import Derived.Test.YtchdalicoafamaaTellsP
import Derived.Deep.QuietTactic
import Derived.BigQuiet
import Derived.WalkSmall
import Derived.ChangeKeysEq
import Derived.Deep.Slices
import Derived.OpenShut
import Derived.Deep.LoopGhost
import Derived.Deep.CutRange
import Derived.Deep.RegionLaw
import Derived.Deep.RegionHeld3
namespace Go.Proofs.Ytchdalicoafamaa.tells
open Go.RowKit Base Go.ChangeShapes Go.WideShapes
open laws (flows_q join_q meet_q top_q bottom_q eq_yes eq_no ne0)
theorem rin_grow {w w1 : World} {g n gf cf q : Nat} {r : Nat → Nat} {f : Lat.Rel} (h : RIn w g n gf cf r f) (hg : w.grownBy w1 (some q)) (h1 : g ≠ q) (h2 : gf ≠ q) (h3 : ∀ k, k < n → r k ≠ q) : RIn w1 g n gf cf r f where
  num := (World.cell?_of_block (a := ⟨g, 0, none⟩) (hg.block g h.ltg (by simpa using h1))).trans h.num
  tab := (World.cell?_of_block (a := ⟨g, 1, none⟩) (hg.block g h.ltg (by simpa using h1))).trans h.tab
  row := fun k hk => (World.cell?_of_block (a := ⟨gf, k, none⟩) (hg.block gf h.ltf (by simpa using h2))).trans (h.row k hk)
  bit := fun k j hk hj => (World.cell?_of_block (a := ⟨r k, j, none⟩) (hg.block _ (h.ltr k hk) (by simpa using h3 k hk))).trans (h.bit k j hk hj)
  free := fun k j hk hj => (World.frozen?_of_block (a := ⟨r k, j, none⟩) (hg.block _ (h.ltr k hk) (by simpa using h3 k hk))).trans (h.free k j hk hj)
  ne := h.ne
  inj := h.inj
  ltg := Nat.lt_of_lt_of_le h.ltg hg.size
  ltf := Nat.lt_of_lt_of_le h.ltf hg.size
  ltr := fun k hk => Nat.lt_of_lt_of_le (h.ltr k hk) hg.size
theorem lat_grow {w w1 : World} {g n q : Nat} {u d : Nat → BitVec 8} (h : LatAt w g n u d) (hg : w.grownBy w1 (some q)) (h1 : g ≠ q) : LatAt w1 g n u d :=
  ⟨(hg.block g h.lt (by simpa using h1)).trans h.blk, h.le8⟩
theorem samePairs_v {w : World} {ao bo : Option Addr} {la lb ca cb : Nat} {xs : List (Int × Int)} (hx : PairsIn w ao la xs) (hy : PairsIn w bo lb xs) (hm : la ≤ maxLen) :
    Calls Try.prog 19 #[.slice ao la ca, .slice bo lb cb] w fun e w' => ∃ k, e = .returned (.bool true) ∧ w' = w.drewN k :=
  (samePairs_any w hx hy hm).mono fun _ _ ⟨h1, k, h2⟩ => ⟨k, by rw [h1, decide_eq_true rfl], h2⟩
theorem same_v {w : World} {ao bo : Option Addr} {la lb ca cb : Nat} {xs : List Int} (hx : IntsIn w ao la xs) (hy : IntsIn w bo lb xs) (hm : la ≤ maxLen) :
    Calls Try.prog 25 #[.slice ao la ca, .slice bo lb cb] w fun e w' => ∃ k, e = .returned (.bool true) ∧ w' = w.drewN k :=
  (same_any w hx hy hm).mono fun _ _ ⟨h1, k, h2⟩ => ⟨k, by rw [h1, decide_eq_true rfl], h2⟩
theorem levels_s {w : World} {g n : Nat} {u d : Nat → BitVec 8} (h : LatAt w g n u d) : Calls Try.prog 28 #[.pointer (some ⟨g, 0, none⟩)] w fun e w' => e = .returned (.int .i64 (n : Int)) ∧ w = w' :=
  (levels_any h).mono fun _ _ h => ⟨h.1, h.2.symm⟩
theorem rmade_no {w w' : World} {n : Int} {ps : List (Int × Int)} {e : Ending} (h : RMade w n ps e w') (h0 : Lat.newE n ps ≠ 0) :
    e = .returned (.tuple #[.pointer none, .int .i64 (Lat.newE n ps)]) ∧ Below w.heap.size w w' := by
  obtain ⟨p, rfl, hb, h⟩ := h
  rcases h with ⟨_, rfl⟩ | ⟨h1, _⟩
  · exact ⟨rfl, hb⟩
  · exact absurd h1 h0
theorem rmade_ok {w w' : World} {n : Nat} {ps : List (Int × Int)} {e : Ending} (h : RMade w n ps e w') (h0 : Lat.newE n ps = 0) :
    ∃ g gf cf r f, e = .returned (.tuple #[.pointer (some ⟨g, 0, none⟩), .int .i64 0]) ∧ Below w.heap.size w w' ∧ RIn w' g n gf cf r f ∧ (∀ a b, a < n → b < n → f a b = Lat.bt (Lat.up n ps) a b) ∧ w.heap.size ≤ g ∧ w.heap.size ≤ gf ∧ ∀ k, k < n → w.heap.size ≤ r k := by
  obtain ⟨p, rfl, hb, h⟩ := h
  rcases h with ⟨h1, _⟩ | ⟨_, g, gf, cf, r, f, rfl, hA, hf, h3, h4, h5⟩
  · exact absurd h0 h1
  · simp only [Int.toNat_natCast] at hA hf h5
    exact ⟨g, gf, cf, r, f, by rw [h0], hb, hA, hf, h3, h4, h5⟩
set_option maxHeartbeats 20000000 in
set_option maxRecDepth 8000 in
theorem walk_no (W : World) {n : Int} {ao : Option Addr} {len cap : Nat} {ps : List (Int × Int)} (hps : PairsIn W ao len ps) (hm : len * 16 ≤ 140737488355327) (x y : Int) (h0 : Lat.newE n ps ≠ 0) :
    Calls Try.prog 8 #[.int .i64 n, .slice ao len cap, .agg #[.int .i64 x, .int .i64 y]] W fun e w' => e = .returned (.bool true) ∧ Below W.heap.size W w' := by
  have hlen := hps.1
  have hb0 := (Below.refl W.heap.size W).alloc (Nat.le_refl _) (.cells #[.int .i64 x, .int .i64 y] 33)
  have hps0 := hps.below hb0 (Nat.le_refl _)
  have hB0 := hb0.size
  go_enter Try.func8, Try.ntmps8
  go_wp2_with (at_builtin; refine wpList_append_pairs rfl (.tmp 22) (.tmp 23) rfl rfl (PRow.empty_at (base := W.heap.size) (W.alloc (.cells #[.int .i64 x, .int .i64 y] 33)) (by simp) (by simp)) ?c1 rfl (hps0.alloc (.cells #[] 33)) ?c2 ?_)
  case c1 => first | omega | (simp <;> omega)
  case c2 => first | omega | (simp <;> omega)
  intro v3 w3 h3 hgr3
  have hb3 := (hb0.alloc hB0 (.cells #[] 33)).grown hgr3 (by first | omega | (simp <;> omega)) (fun k e => by cases e; first | exact hB0 | simp)
  have hps3 := hps.below hb3 (Nat.le_refl _)
  obtain ⟨ap, cp, rfl, hlc, hcm, hpo, hlies⟩ := h3.form hlen
  clear hgr3 h3 hps0 hb0 hB0
  have ht := ne0 h0
  go_wp2_with fail
  refine (lnew_any w3 hpo).mono ?_
  rintro e w4 hm4
  obtain ⟨rfl, hb4⟩ := made_no hm4 rfl h0
  have hpo4 := hpo.below hb4 (Nat.le_refl _)
  have hps4 := hps3.below hb4 (Nat.le_refl _)
  replace hb4 := hb3.trans (hb4.mono hb3.size)
  clear hm4 hpo hps3 hb3
  go_wp2_with fail
  refine (rlnew_any w4 hps4).mono ?_
  rintro e w5 hm5
  obtain ⟨rfl, hb5⟩ := rmade_no hm5 h0
  have hpo5 := hpo4.below hb5 (Nat.le_refl _)
  have hps5 := hps4.below hb5 (Nat.le_refl _)
  replace hb5 := hb4.trans (hb5.mono hb4.size)
  clear hm5 hpo4 hps4 hb4
  generalize Lat.newE n ps = ec at *
  go_wp2_with fail
  refine (lfixed_any w5).mono ?_
  rintro e w6 ⟨rfl, hb6⟩
  have hpo6 := hpo5.below hb6 (Nat.le_refl _)
  have hps6 := hps5.below hb6 (Nat.le_refl _)
  replace hb6 := hb5.trans (hb6.mono hb5.size)
  go_wp2_with fail
  refine (samePairs_v hpo6 hps6 (Nat.le_trans hlc hcm)).mono ?_
  rintro e w7 ⟨q, rfl, rfl⟩
  go_wp2_with fail
  go_ret
  exact ⟨rfl, below_drewN hb6 q⟩
theorem prow_own {w : World} {B : Nat} {ap : Option Addr} {len cp : Nat} {ps : List (Int × Int)} (h : PRow w B (.slice ap len cp) ps) (hl : ps.length = len) (hB : B < w.heap.size) :
    ∃ q, B ≤ q ∧ q < w.heap.size ∧ (0 < len → ap = some ⟨q, 0, none⟩ ∧ ∃ cur, w.heap[q]? = some (.cells cur 33 (0, 0)) ∧ len * 2 ≤ cur.size) := by
  rcases h.2 with ⟨_, h0⟩ | ⟨g, cap, cur, hv, hb, hg, hnc, _, hs, _⟩
  · exact ⟨B, Nat.le_refl _, hB, fun h => by omega⟩
  · cases hv
    exact ⟨g, hb, (Array.getElem?_eq_some_iff.1 hg).1, fun _ => ⟨rfl, cur, hg, by rw [hs]; omega⟩⟩
theorem blk_cell {w : World} {q len : Nat} {cur : Array Value} (h : w.heap[q]? = some (.cells cur 33 (0, 0))) (hl : len * 2 ≤ cur.size) {j : Nat} (hj : j < len * 2) : (∃ v, w.cell? ⟨q, j, none⟩ = some v) ∧ w.frozen? ⟨q, j, none⟩ = false := by
  unfold World.cell? World.frozen?
  rw [h]
  exact ⟨⟨cur[j]'(by omega), by simp⟩, by simp⟩
theorem blk_set {w : World} {q : Nat} {cur : Array Value} (h : w.heap[q]? = some (.cells cur 33 (0, 0))) (j : Nat) (v : Value) : ∃ cur', (w.setCell ⟨q, j, none⟩ v).heap[q]? = some (.cells cur' 33 (0, 0)) ∧ cur'.size = cur.size :=
  ⟨cur.setIfInBounds j v, by simp [World.setCell, Array.getElem?_modify, h], by simp⟩
theorem grown_set {w w1 : World} {b o : Nat} {v : Value} (h : w.grownBy w1 (some b)) : w.grownBy (w1.setCell ⟨b, o, none⟩ v) (some b) :=
  ⟨h.os, h.tape, h.output, by simpa [World.setCell] using h.size, fun k hk hne => (Below.heap_setCell w1 ⟨b, o, none⟩ v k (by rintro rfl; exact hne rfl)).trans (h.block k hk hne)⟩
theorem ints_own {w : World} {B : Nat} {ap : Option Addr} {len cp : Nat} {xs : List Value} (h : w.ownsRow B 3 1 (.slice ap len cp) len xs) :
    0 < len → ∃ q, B ≤ q ∧ q < w.heap.size ∧ ap = some ⟨q, 0, none⟩ ∧ ∃ cur, w.heap[q]? = some (.cells cur 3 (0, 0)) ∧ len ≤ cur.size := by
  intro h0
  rcases h.2 with ⟨_, h1⟩ | ⟨g, cap, cur, hv, hb, hg, hnc, _, hs, _⟩
  · omega
  · cases hv
    exact ⟨g, hb, (Array.getElem?_eq_some_iff.1 hg).1, rfl, cur, hg, by rw [hs]; omega⟩
theorem iblk_cell {w : World} {q len : Nat} {cur : Array Value} (h : w.heap[q]? = some (.cells cur 3 (0, 0))) (hl : len ≤ cur.size) {j : Nat} (hj : j < len) : (∃ v, w.cell? ⟨q, j, none⟩ = some v) ∧ w.frozen? ⟨q, j, none⟩ = false := by
  unfold World.cell? World.frozen?
  rw [h]
  exact ⟨⟨cur[j]'(by omega), by simp⟩, by simp⟩
theorem iblk_set {w : World} {q : Nat} {cur : Array Value} (h : w.heap[q]? = some (.cells cur 3 (0, 0))) (j : Nat) (v : Value) : ∃ cur', (w.setCell ⟨q, j, none⟩ v).heap[q]? = some (.cells cur' 3 (0, 0)) ∧ cur'.size = cur.size :=
  ⟨cur.setIfInBounds j v, by simp [World.setCell, Array.getElem?_modify, h], by simp⟩
set_option maxHeartbeats 40000000 in
set_option maxRecDepth 8000 in
theorem walk_yes (W : World) {n : Nat} {ao : Option Addr} {len cap : Nat} {ps : List (Int × Int)} (hps : PairsIn W ao len ps) (hm : len * 16 ≤ 140737488355327) (x y : Int) (h0 : Lat.newE n ps = 0) :
    Calls Try.prog 8 #[.int .i64 n, .slice ao len cap, .agg #[.int .i64 x, .int .i64 y]] W fun e w' => e = .returned (.bool true) ∧ Below W.heap.size W w' := by
  have hlen := hps.1
  have hok := Lat.ok_of h0
  have hb0 := (Below.refl W.heap.size W).alloc (Nat.le_refl _) (.cells #[.int .i64 x, .int .i64 y] 33)
  have hps0 := hps.below hb0 (Nat.le_refl _)
  have hB0 := hb0.size
  have xx : (W.alloc (.cells #[.int .i64 x, .int .i64 y] 33)).cell? ⟨W.heap.size, 0, none⟩ = some (.int .i64 x) := World.cell?_alloc_new W _ _ 0
  have yy : (W.alloc (.cells #[.int .i64 x, .int .i64 y] 33)).cell? ⟨W.heap.size, 1, none⟩ = some (.int .i64 y) := World.cell?_alloc_new W _ _ 1
  go_enter Try.func8, Try.ntmps8
  go_wp2_with (at_builtin; refine wpList_append_pairs rfl (.tmp 22) (.tmp 23) rfl rfl (PRow.empty_at (base := W.heap.size + 1) (W.alloc (.cells #[.int .i64 x, .int .i64 y] 33)) (by simp) (by simp)) ?c1 rfl (hps0.alloc (.cells #[] 33)) ?c2 ?_)
  case c1 => first | omega | (simp <;> omega)
  case c2 => first | omega | (simp <;> omega)
  intro v3 w3 h3 hgr3
  have hb3 := (hb0.alloc hB0 (.cells #[] 33)).grown hgr3 (by first | omega | (simp <;> omega)) (fun k e => by cases e; first | exact hB0 | simp)
  have hb3' := ((Below.refl (W.heap.size + 1) (W.alloc (.cells #[.int .i64 x, .int .i64 y] 33))).alloc (by simp) (.cells #[] 33)).grown hgr3 (by first | omega | (simp <;> omega)) (fun k e => by cases e; first | exact Nat.le_refl _ | simp)
  replace xx := (hb3'.cell (p := ⟨W.heap.size, 0, none⟩) (Nat.lt_succ_self _)).trans xx
  replace yy := (hb3'.cell (p := ⟨W.heap.size, 1, none⟩) (Nat.lt_succ_self _)).trans yy
  have hps3 := hps.below hb3 (Nat.le_refl _)
  obtain ⟨ap, cp, rfl, hlc, hcm, hpo, hlies⟩ := h3.form hlen
  obtain ⟨q, hq1, hq2, hq3⟩ := prow_own h3 hlen (by have := hgr3.size; simp at this; omega)
  clear hgr3 h3 hps0 hb0 hB0 hb3' hlies
  go_wp2_with fail
  refine (lnew_any w3 hpo).mono ?_
  rintro e w4 hm4
  obtain ⟨g, rfl, hb4, hg4, hA⟩ := made_ok hm4 h0
  have hpo4 := hpo.below hb4 (Nat.le_refl _)
  have hps4 := hps3.below hb4 (Nat.le_refl _)
  have hbq4 := hb4.block q hq2
  have hl4 := hb4.size
  replace xx := (hb4.cell (p := ⟨W.heap.size, 0, none⟩) (by show W.heap.size < _; omega)).trans xx
  replace yy := (hb4.cell (p := ⟨W.heap.size, 1, none⟩) (by show W.heap.size < _; omega)).trans yy
  replace hb4 := hb3.trans (hb4.mono hb3.size)
  clear hm4 hpo hps3 hb3
  go_wp2_with fail
  refine (rlnew_any w4 hps4).mono ?_
  rintro e w5 hm5
  obtain ⟨gx, gf, cf, r, f, rfl, hb5, hX, hf, x1, x2, x3⟩ := rmade_ok hm5 h0
  have hpo5 := hpo4.below hb5 (Nat.le_refl _)
  have hps5 := hps4.below hb5 (Nat.le_refl _)
  have hbq5 := hb5.block q (by omega)
  have hl5 := hb5.size
  have hA5 := hA.below hb5 hA.lt
  replace xx := (hb5.cell (p := ⟨W.heap.size, 0, none⟩) (by show W.heap.size < _; omega)).trans xx
  replace yy := (hb5.cell (p := ⟨W.heap.size, 1, none⟩) (by show W.heap.size < _; omega)).trans yy
  replace hb5 := hb4.trans (hb5.mono hb4.size)
  clear hm5 hpo4 hps4 hb4 hA h0
  go_wp2_with fail
  refine (lfixed_any w5).mono ?_
  rintro e w6 ⟨rfl, hb6⟩
  have hpo6 := hpo5.below hb6 (Nat.le_refl _)
  have hps6 := hps5.below hb6 (Nat.le_refl _)
  have hbq6 := hb6.block q (by omega)
  have hl6 := hb6.size
  have hA := hA5.below hb6 hA5.lt
  replace hX := hX.below hb6 (Nat.le_refl _)
  replace xx := (hb6.cell (p := ⟨W.heap.size, 0, none⟩) (by show W.heap.size < _; omega)).trans xx
  replace yy := (hb6.cell (p := ⟨W.heap.size, 1, none⟩) (by show W.heap.size < _; omega)).trans yy
  replace hb6 := hb5.trans (hb6.mono hb5.size)
  clear hb5 hpo5 hps5 hA5
  go_wp2_with fail
  refine (samePairs_v hpo6 hps6 (Nat.le_trans hlc hcm)).mono ?_
  rintro e w7 ⟨q7, rfl, rfl⟩
  replace hA := hA.drewN q7
  replace hX := hX.drewN q7
  replace xx : (w6.drewN q7).cell? ⟨W.heap.size, 0, none⟩ = some (.int .i64 x) := xx
  replace yy : (w6.drewN q7).cell? ⟨W.heap.size, 1, none⟩ = some (.int .i64 y) := yy
  replace hb6 := below_drewN hb6 q7
  have hq4 : 0 < len → ap = some ⟨q, 0, none⟩ ∧ ∃ cur, (w6.drewN q7).heap[q]? = some (.cells cur 33 (0, 0)) ∧ len * 2 ≤ cur.size := fun h => ⟨(hq3 h).1, (hq3 h).2.imp fun cur hc => ⟨((hbq6.trans hbq5).trans hbq4).trans hc.1, hc.2⟩⟩
  have hqw : q < (w6.drewN q7).heap.size := by show q < w6.heap.size; omega
  have hgq : g ≠ q := by omega
  have hxq : gx ≠ q := by omega
  have hfq : gf ≠ q := by omega
  have hrq : ∀ k, k < n → r k ≠ q := fun k hk => by have := x3 k hk; omega
  clear hq3 hbq6 hbq5 hbq4 x1 x2 x3 hg4 hpo6 hps6 hps hl4 hl5 hl6
  have hq5 : W.heap.size < q := by omega
  clear hq2 hq1
  generalize w6.drewN q7 = w6 at *
  have HOK := Lib.hid hok
  have HF := Lib.hid hf
  have HD : Hid (Lat.down n (Lat.up n ps) = Lat.down n (Lat.up n ps)) := rfl
  clear hok hf HD
  have h8 := HOK.out.le8
  go_wp2_with fail
  go_loopw [12] (fun i wx => ∃ k : Nat, k ≤ len ∧ i = .int .i64 k ∧ w6.grownBy wx (some q) ∧ (0 < len → ∃ cur, wx.heap[q]? = some (.cells cur 33 (0, 0)) ∧ len * 2 ≤ cur.size)) (fun i _ => len - (intOf i).toNat)
  case atStart => exact ⟨0, Nat.zero_le _, rfl, World.grownBy.refl _ _, fun h => (hq4 h).2⟩
  case round =>
    obtain ⟨k, hk, rfl, hgr, hcur⟩ := hrel
    by_cases hlt : k < len
    · have hklt : (k : Int) < len := by omega
      obtain ⟨rfl, _⟩ := hq4 (by omega)
      obtain ⟨cur, hc1, hc2⟩ := hcur (by omega)
      obtain ⟨⟨v0, y0⟩, z0⟩ := blk_cell hc1 hc2 (j := k * 2) (by omega)
      obtain ⟨⟨v1, y1⟩, z1⟩ := blk_cell hc1 hc2 (j := k * 2 + 1) (by omega)
      obtain ⟨cur1, hd1, hd2⟩ := blk_set hc1 (k * 2) (.int .i64 (-1))
      obtain ⟨cur2, he1, he2⟩ := blk_set hd1 (k * 2 + 1) (.int .i64 (-1))
      have hgr2 := grown_set (o := k * 2 + 1) (v := .int .i64 (-1)) (grown_set (o := k * 2) (v := .int .i64 (-1)) hgr)
      go_wp2_with fail
      go_roundw
      case rel => exact ⟨k + 1, by omega, by go_num, hgr2, fun _ => ⟨cur2, he1, by omega⟩⟩
      case measure => simp [intOf]; omega
    · obtain rfl : k = len := by omega
      have hklt : ¬ ((k : Int) < k) := by omega
      replace hA := lat_grow hA hgr hgq
      replace hX := rin_grow hX hgr hxq hfq hrq
      replace xx := hgr.cell xx (fun e => by have h : W.heap.size = q := Option.some.inj e; omega)
      replace yy := hgr.cell yy (fun e => by have h : W.heap.size = q := Option.some.inj e; omega)
      have hb8 := hb6.grown hgr hb6.size (fun k e => by have := Option.some.inj e; omega)
      have hWl : W.heap.size < wr.heap.size := by have := hgr.size; omega
      clear hgr hcur hq4 hb6 hlt hk hgq hxq hfq hrq hqw hq5
      have HJ : Hid (∀ s t : Int, Lat.flowsR n f s t = Lat.flowsR n (Lat.bt (Lat.up n ps)) s t) := fun s t => Lat.flowsR_congr HF.out s t
      have HM : Hid (∀ s t : Int, Lat.flowsR n f t s = Lat.flowsR n (fun a b => Lat.bt (Lat.up n ps) b a) s t) := fun s t => Lat.tells_flip HF.out s t
      have HD : Hid (∀ s t : Int, Lat.joinR n (fun a b => Lat.bt (Lat.up n ps) b a) s t = Lat.joinF n (Lat.down n (Lat.up n ps)) s t) := fun s t => Lat.tells_down HOK.out rfl s t
      generalize Lat.up n ps = u at *
      generalize Lat.down n u = d at *
      have c0 := hX.num
      obtain ⟨w8, hw8⟩ : ∃ w8 : World, w8 = wr := ⟨_, rfl⟩
      go_wp2_with fail
      go_loopw [13] (fun i wx => ∃ a : Int, -1 ≤ a ∧ a ≤ n + 2 ∧ i = .int .i64 a ∧ Below w8.heap.size w8 wx) (fun i _ => (n + 2 - intOf i).toNat)
      case atStart => exact ⟨-1, by omega, by omega, rfl, by rw [hw8]; exact Below.refl _ _⟩
      case round =>
        subst hw8
        obtain ⟨a, ha0, ha1, rfl, hba⟩ := hrel
        have hXa := hX.below hba (Nat.le_refl _)
        have ca := hXa.num
        by_cases hlta : a ≤ n + 1
        · go_wp2_with fail
          obtain ⟨wo, hwo⟩ : ∃ wo : World, wo = wr := ⟨_, rfl⟩
          go_loopw [14] (fun i wx => ∃ b : Int, -1 ≤ b ∧ b ≤ n + 2 ∧ i = .int .i64 b ∧ Below w8.heap.size w8 wx) (fun i _ => (n + 2 - intOf i).toNat)
          case atStart => exact ⟨-1, by omega, by omega, rfl, hba⟩
          case round =>
            clear hba hXa ca hwo wo
            obtain ⟨b, hb0, hb1, rfl, hbb⟩ := hrel
            have hA1 := hA.below hbb hA.lt
            have hX1 := hX.below hbb (Nat.le_refl _)
            have xx1 := (hbb.cell (p := ⟨W.heap.size, 0, none⟩) hWl).trans xx
            have yy1 := (hbb.cell (p := ⟨W.heap.size, 1, none⟩) hWl).trans yy
            have cb := hX1.num
            by_cases hltb : b ≤ n + 1
            · go_upto_if 94 with fail
              go_cut [15] from 78 to 135 (fun s15 wx => ∃ p : Int, s15 = .int .i64 p ∧ wx = wr)
              case first =>
                by_cases hna : (n : Int) < a
                · go_wp2_with fail
                  go_meet
                  case rel => exact ⟨x, rfl, rfl⟩
                · go_wp2_with fail
                  go_meet
                  case rel => exact ⟨a, rfl, rfl⟩
              case rest =>
                obtain ⟨p, rfl, hwc⟩ := hcut
                subst hwc
                go_upto_if 102 with fail
                go_cut [16] from 78 to 135 (fun s16 wx => ∃ t : Int, s16 = .int .i64 t ∧ wx = wc)
                case first =>
                  by_cases hnb : (n : Int) < b
                  · go_wp2_with fail
                    go_meet
                    case rel => exact ⟨y, rfl, rfl⟩
                  · go_wp2_with fail
                    go_meet
                    case rel => exact ⟨b, rfl, rfl⟩
                case rest =>
                  obtain ⟨t, rfl, hwd⟩ := hcut
                  subst hwd
                  clear xx1 yy1
                  obtain ⟨z, fr⟩ : ∃ z, Lat.flowsB n u p t = z := ⟨_, rfl⟩
                  have f1 := Lib.hid ((Lat.tells_flows HF.out p t).trans fr)
                  replace fr := Lib.hid fr
                  obtain ⟨j, f2⟩ : ∃ z, Lat.joinF n u p t = z := ⟨_, rfl⟩
                  have f3 := Lib.hid ((Lat.joinR_is (Lat.pre_ok HOK.out) p t).trans f2)
                  replace f2 := Lib.hid f2
                  obtain ⟨m, f4⟩ : ∃ z, Lat.joinF n d p t = z := ⟨_, rfl⟩
                  have f5 := Lib.hid ((HD.out p t).trans f4)
                  replace f4 := Lib.hid f4
                  cases z with
                  | true =>
                    go_wp2_with fail
                    refine (flows_s hA1 fr.out).mono ?_
                    rintro e w' ⟨rfl, rfl⟩
                    go_wp2_with fail
                    refine (rlflows_any hX1 f1.out).mono ?_
                    rintro e w' ⟨rfl, rfl⟩
                    go_wp2_with fail
                    refine (join_q hA1 f2.out).mono ?_
                    rintro e w' ⟨q1, rfl, rfl⟩
                    go_wp2_with fail
                    refine (rljoin_any (hX1.drewN _) h8 HJ.out f3.out).mono ?_
                    rintro e w' ⟨rfl, rfl⟩
                    go_wp2_with fail
                    refine (meet_q (hA1.drewN _) f4.out).mono ?_
                    rintro e w' ⟨q2, rfl, rfl⟩
                    go_wp2_with fail
                    refine (rlmeet_any (hX1.drewN _) h8 HM.out f5.out).mono ?_
                    rintro e w' ⟨rfl, rfl⟩
                    go_wp2_with fail
                    go_roundw
                    case rel => exact ⟨b + 1, by omega, by omega, by go_num, below_drewN hbb _⟩
                    case measure => simp [intOf]; omega
                  | false =>
                    go_wp2_with fail
                    refine (flows_s hA1 fr.out).mono ?_
                    rintro e w' ⟨rfl, rfl⟩
                    go_wp2_with fail
                    refine (rlflows_any hX1 f1.out).mono ?_
                    rintro e w' ⟨rfl, rfl⟩
                    go_wp2_with fail
                    refine (join_q hA1 f2.out).mono ?_
                    rintro e w' ⟨q1, rfl, rfl⟩
                    go_wp2_with fail
                    refine (rljoin_any (hX1.drewN _) h8 HJ.out f3.out).mono ?_
                    rintro e w' ⟨rfl, rfl⟩
                    go_wp2_with fail
                    refine (meet_q (hA1.drewN _) f4.out).mono ?_
                    rintro e w' ⟨q2, rfl, rfl⟩
                    go_wp2_with fail
                    refine (rlmeet_any (hX1.drewN _) h8 HM.out f5.out).mono ?_
                    rintro e w' ⟨rfl, rfl⟩
                    go_wp2_with fail
                    go_roundw
                    case rel => exact ⟨b + 1, by omega, by omega, by go_num, below_drewN hbb _⟩
                    case measure => simp [intOf]; omega
            · clear xx1 yy1 hA1
              have hnl := listTo_le n u a n
              have hdl := listTo_le n d a n
              obtain ⟨wz, hwz⟩ : ∃ wz : World, wz = wr := ⟨_, rfl⟩
              go_wp2_with fail
              go_loopw [17] (fun i wx => ∃ t : Nat, t ≤ 2 ∧ i = .int .i64 t ∧ Below w8.heap.size w8 wx) (fun i _ => 2 - (intOf i).toNat)
              case atStart => exact ⟨0, by omega, rfl, hbb⟩
              case round =>
                clear hbb hwz wz
                obtain ⟨t, ht, rfl, hbt⟩ := hrel
                by_cases hltt : t < 2
                · have htl : (t : Int) < 2 := by omega
                  have hA1 := hA.below hbt hA.lt
                  have hX1 := hX.below hbt (Nat.le_refl _)
                  have hBt := hbt.size
                  go_wp2_with fail
                  refine (above_any hA1 a).mono ?_
                  rintro e w1 ⟨v1, rfl, ho1, hb1⟩
                  have hA2 := hA1.below hb1 hA1.lt
                  replace hX1 := hX1.below hb1 (Nat.le_refl _)
                  have hB1 := hb1.size
                  replace hb1 := hbt.trans (hb1.mono hBt)
                  obtain ⟨p1, c1, rfl, m1, i1⟩ := ints_of_owns ho1
                  have o1 := ints_own ho1
                  clear ho1
                  go_wp2_with fail
                  refine (below_any hA2 a).mono ?_
                  rintro e w2 ⟨v2, rfl, ho2, hb2⟩
                  replace hX1 := hX1.below hb2 (Nat.le_refl _)
                  replace i1 := i1.below hb2 (Nat.le_refl _)
                  have hB2 := hb2.size
                  have hq2 := hb2.block
                  replace hb2 := hb1.trans (hb2.mono (Nat.le_trans hBt hB1))
                  obtain ⟨p2, c2, rfl, m2, i2⟩ := ints_of_owns ho2
                  have o2 := ints_own ho2
                  clear ho2 hA2 hb1 hA1
                  go_wp2_with fail
                  refine (rlabove_any hX1 h8 (a := a) (fun b hb => rfl)).mono ?_
                  rintro e w3 ⟨v3, rfl, ho3, hb3⟩
                  rw [Lat.tells_above HF.out] at ho3
                  replace hX1 := hX1.below hb3 (Nat.le_refl _)
                  replace i1 := i1.below hb3 (Nat.le_refl _)
                  replace i2 := i2.below hb3 (Nat.le_refl _)
                  have hB3 := hb3.size
                  have hq3 := hb3.block
                  replace hb3 := hb2.trans (hb3.mono (Nat.le_trans hBt (Nat.le_trans hB1 hB2)))
                  obtain ⟨p3, c3, rfl, _, i3⟩ := ints_of_owns ho3
                  clear ho3 hb2
                  go_wp2_with fail
                  refine (same_v i1 i3 m1).mono ?_
                  rintro e w4 ⟨k1, rfl, rfl⟩
                  replace hX1 := hX1.drewN k1
                  replace i2 : IntsIn (w3.drewN k1) p2 (listTo n d a n).length _ := i2
                  replace hb3 := below_drewN hb3 k1
                  replace hB3 : w2.heap.size ≤ (w3.drewN k1).heap.size := hB3
                  replace hq3 : ∀ k, k < w2.heap.size → (w3.drewN k1).heap[k]? = w2.heap[k]? := hq3
                  clear i1 i3
                  generalize w3.drewN k1 = w3 at *
                  go_wp2_with fail
                  refine (rlbelow_any hX1 h8 (a := a) (fun b hb => rfl)).mono ?_
                  rintro e w4 ⟨v4, rfl, ho4, hb4⟩
                  rw [Lat.tells_below HOK.out HF.out] at ho4
                  replace i2 := i2.below hb4 (Nat.le_refl _)
                  have hB4 := hb4.size
                  have hq4 := hb4.block
                  replace hb4 := hb3.trans (hb4.mono (Nat.le_trans hBt (Nat.le_trans hB1 (Nat.le_trans hB2 hB3))))
                  obtain ⟨p4, c4, rfl, _, i4⟩ := ints_of_owns ho4
                  clear ho4 hb3 hX1
                  go_wp2_with fail
                  refine (same_v i2 i4 m2).mono ?_
                  rintro e w5 ⟨k2, rfl, rfl⟩
                  replace hb4 := below_drewN hb4 k2
                  replace hB4 : w3.heap.size ≤ (w4.drewN k2).heap.size := hB4
                  replace hq4 : ∀ k, k < w3.heap.size → (w4.drewN k2).heap[k]? = w3.heap[k]? := hq4
                  clear i2 i4
                  generalize w4.drewN k2 = w4 at *
                  have O1 : Hid (0 < (listTo n u a n).length → ∃ q, w8.heap.size ≤ q ∧ q < w1.heap.size ∧ p1 = some ⟨q, 0, none⟩ ∧ ∃ cur, w4.heap[q]? = some (.cells cur 3 (0, 0)) ∧ (listTo n u a n).length ≤ cur.size) := fun h => by
                    obtain ⟨q, e1, e2, e3, cur, e4, e5⟩ := o1 h
                    exact ⟨q, by omega, e2, e3, cur, by rw [hq4 q (by omega), hq3 q (by omega), hq2 q (by omega)]; exact e4, e5⟩
                  have O2 : Hid (0 < (listTo n d a n).length → ∃ q, w1.heap.size ≤ q ∧ q < w2.heap.size ∧ p2 = some ⟨q, 0, none⟩ ∧ ∃ cur, w4.heap[q]? = some (.cells cur 3 (0, 0)) ∧ (listTo n d a n).length ≤ cur.size) := fun h => by
                    obtain ⟨q, e1, e2, e3, cur, e4, e5⟩ := o2 h
                    exact ⟨q, e1, e2, e3, cur, by rw [hq4 q (by omega), hq3 q (by omega)]; exact e4, e5⟩
                  clear o1 o2 hq2 hq3 hq4 hbt hB2 hB3 hB4
                  generalize listTo n u a n = L1 at *
                  generalize listTo n d a n = L2 at *
                  go_wp2_with fail
                  go_loopw [20] (fun i wx => ∃ k : Nat, k ≤ L1.length ∧ i = .int .i64 k ∧ Below w8.heap.size w8 wx ∧ Hid (0 < L1.length → ∃ q, w8.heap.size ≤ q ∧ q < w1.heap.size ∧ p1 = some ⟨q, 0, none⟩ ∧ ∃ cur, wx.heap[q]? = some (.cells cur 3 (0, 0)) ∧ L1.length ≤ cur.size) ∧ Hid (0 < L2.length → ∃ q, w1.heap.size ≤ q ∧ q < w2.heap.size ∧ p2 = some ⟨q, 0, none⟩ ∧ ∃ cur, wx.heap[q]? = some (.cells cur 3 (0, 0)) ∧ L2.length ≤ cur.size)) (fun i _ => L1.length - (intOf i).toNat)
                  case atStart => exact ⟨0, Nat.zero_le _, rfl, hb4, O1, O2⟩
                  case round =>
                    clear hb4 O1 O2
                    obtain ⟨k, hk, rfl, hbk, O1, O2⟩ := hrel
                    by_cases hlk : k < L1.length
                    · have hlk' : (k : Int) < L1.length := by omega
                      obtain ⟨q, e1, e2, rfl, cur, e4, e5⟩ := O1.out (by omega)
                      obtain ⟨⟨v0, y0⟩, z0⟩ := iblk_cell e4 e5 (j := k) hlk
                      obtain ⟨cur2, g1, g2⟩ := iblk_set e4 k (.int .i64 (-1))
                      have hb5 := hbk.setCell (p := ⟨q, k, none⟩) e1 (.int .i64 (-1))
                      have O1' : Hid (0 < L1.length → ∃ q', w8.heap.size ≤ q' ∧ q' < w1.heap.size ∧ some (⟨q, 0, none⟩ : Addr) = some ⟨q', 0, none⟩ ∧ ∃ cur, (wr.setCell ⟨q, k, none⟩ (.int .i64 (-1))).heap[q']? = some (.cells cur 3 (0, 0)) ∧ L1.length ≤ cur.size) := fun _ => ⟨q, e1, e2, rfl, cur2, g1, by omega⟩
                      have O2' : Hid (0 < L2.length → ∃ q', w1.heap.size ≤ q' ∧ q' < w2.heap.size ∧ p2 = some ⟨q', 0, none⟩ ∧ ∃ cur, (wr.setCell ⟨q, k, none⟩ (.int .i64 (-1))).heap[q']? = some (.cells cur 3 (0, 0)) ∧ L2.length ≤ cur.size) := fun h => by
                        obtain ⟨q', f1, f2, f3, cur', f4, f5⟩ := O2.out h
                        exact ⟨q', f1, f2, f3, cur', (Below.heap_setCell wr ⟨q, k, none⟩ _ q' (by show q' ≠ q; omega)).trans f4, f5⟩
                      clear O1 O2 hbk e4 e5 g1
                      go_wp2_with fail
                      go_roundw
                      case rel => exact ⟨k + 1, by omega, by go_num, hb5, O1', O2'⟩
                      case measure => simp [intOf]; omega
                    · have hlk' : ¬ ((k : Int) < L1.length) := by omega
                      clear O1
                      go_wp2_with fail
                      go_loopw [21] (fun i wx => ∃ k : Nat, k ≤ L2.length ∧ i = .int .i64 k ∧ Below w8.heap.size w8 wx ∧ Hid (0 < L2.length → ∃ q, w1.heap.size ≤ q ∧ q < w2.heap.size ∧ p2 = some ⟨q, 0, none⟩ ∧ ∃ cur, wx.heap[q]? = some (.cells cur 3 (0, 0)) ∧ L2.length ≤ cur.size)) (fun i _ => L2.length - (intOf i).toNat)
                      case atStart => exact ⟨0, Nat.zero_le _, rfl, hbk, O2⟩
                      case round =>
                        clear hbk O2
                        obtain ⟨m, hm0, rfl, hbk, O2⟩ := hrel
                        by_cases hlm : m < L2.length
                        · have hlm' : (m : Int) < L2.length := by omega
                          obtain ⟨q, e1, e2, rfl, cur, e4, e5⟩ := O2.out (by omega)
                          obtain ⟨⟨v0, y0⟩, z0⟩ := iblk_cell e4 e5 (j := m) hlm
                          obtain ⟨cur2, g1, g2⟩ := iblk_set e4 m (.int .i64 (-1))
                          have hb5 := hbk.setCell (p := ⟨q, m, none⟩) (by show w8.heap.size ≤ q; omega) (.int .i64 (-1))
                          have O2' : Hid (0 < L2.length → ∃ q', w1.heap.size ≤ q' ∧ q' < w2.heap.size ∧ some (⟨q, 0, none⟩ : Addr) = some ⟨q', 0, none⟩ ∧ ∃ cur, (wr.setCell ⟨q, m, none⟩ (.int .i64 (-1))).heap[q']? = some (.cells cur 3 (0, 0)) ∧ L2.length ≤ cur.size) := fun _ => ⟨q, e1, e2, rfl, cur2, g1, by omega⟩
                          clear O2 hbk e4 e5 g1
                          go_wp2_with fail
                          go_roundw
                          case rel => exact ⟨m + 1, by omega, by go_num, hb5, O2'⟩
                          case measure => simp [intOf]; omega
                        · have hlm' : ¬ ((m : Int) < L2.length) := by omega
                          go_wp2_with fail
                          go_roundw
                          case rel => exact ⟨t + 1, by omega, by go_num, hbk⟩
                          case measure => simp [intOf]; omega
                · have htl : ¬ ((t : Int) < 2) := by omega
                  go_wp2_with fail
                  go_roundw
                  case rel => exact ⟨a + 1, by omega, by omega, by go_num, hbt⟩
                  case measure => simp [intOf]; omega
        · have hltN : ¬ (a ≤ (n : Int) + 1) := hlta
          have hAr := hA.below hba hA.lt
          have hAd := hAr.drew
          have hXd := hXa.drew
          have cd : wr.drew.cell? ⟨gx, 0, none⟩ = some (.int .i64 (n : Int)) := ca
          have hbd := hba.drew
          obtain ⟨t, et⟩ : ∃ t, Lat.endF n d (Lat.allF n) = t := ⟨_, rfl⟩
          obtain ⟨z, ez⟩ : ∃ z, Lat.endF n u (Lat.allF n) = z := ⟨_, rfl⟩
          have hv1 : Hid (((List.range n).find? fun c => d c == Lat.allF n).elim (-1) (fun c : Nat => (c : Int)) = t) := et
          have hv2 : Hid (((List.range n).find? fun c => u c == Lat.allF n).elim (-1) (fun c : Nat => (c : Int)) = z) := ez
          have hp1 : Hid (∀ a : Nat, a < n → decide (((List.range n).filter fun b : Nat => Lat.flowsR n f (b : Int) (a : Int)).length = n) = (d a == Lat.allF n)) := fun a ha => Lat.tells_top HOK.out HF.out a ha
          have hp2 : Hid (∀ a : Nat, a < n → decide (((List.range n).filter fun b : Nat => Lat.flowsR n f (a : Int) (b : Int)).length = n) = (u a == Lat.allF n)) := fun a ha => Lat.tells_bottom HOK.out HF.out a ha
          have hpp : Hid (∀ a b : Nat, a < n → b < n → Lat.betw f a b n = !Lat.pairB u d a b) := fun a b ha hb => Lat.tells_pairs HOK.out HF.out a b ha hb
          replace et := Lib.hid et
          replace ez := Lib.hid ez
          go_upto_region 39 with fail
          go_region_law (first
            | (go_simp
               go_at_call 28
               refine (levels_s hAd).mono ?_
               rintro e w' ⟨rfl, rfl⟩)
            | (go_simp
               go_at_call 13
               refine (top_q hAd et.out).mono ?_
               rintro e w' ⟨q1, rfl, rfl⟩
               have hA1 := hAr.drewN (1 + q1)
               have hX1 := hXa.drewN (1 + q1)
               have hb1 := below_drewN hba (1 + q1))
            | (go_simp
               go_at_call 29
               refine (rltop_any hX1 h8 hp1.out hv1.out).mono ?_
               rintro e w2 ⟨rfl, hb2⟩
               have hA2 := hA1.below hb2 hA1.lt
               have hX2 := hX1.below hb2 (Nat.le_refl _)
               replace hb2 := hb1.trans (hb2.mono hb1.size)
               clear hA1 hX1 hb1)
            | (go_simp
               go_at_call 14
               refine (bottom_q hA2 ez.out).mono ?_
               rintro e w' ⟨q2, rfl, rfl⟩
               have hA3 := hA2.drewN q2
               have hX3 := hX2.drewN q2
               have hb3 := below_drewN hb2 q2
               clear hA2 hX2 hb2)
            | (go_simp
               go_at_call 30
               refine (rlbottom_any hX3 h8 hp2.out hv2.out).mono ?_
               rintro e w4 ⟨rfl, hb4⟩
               have hA4 := hA3.below hb4 hA3.lt
               have hX4 := hX3.below hb4 (Nat.le_refl _)
               replace hb4 := hb3.trans (hb4.mono hb3.size)
               clear hA3 hX3 hb3)
            | (go_simp
               go_at_call 17
               refine (pairs_any hA4).mono ?_
               rintro e w5 ⟨v5, rfl, ho5, hb5⟩
               have hX5 := hX4.below hb5 (Nat.le_refl _)
               replace hb5 := hb4.trans (hb5.mono hb4.size)
               obtain ⟨p5, c5, rfl, m5, i5⟩ := pairs_of_owns ho5
               clear hA4 hX4 hb4 ho5)
            | (go_simp
               go_at_call 31
               refine (rlpairs_any hX5 h8 hpp.out).mono ?_
               rintro e w6 ⟨v6, rfl, ho6, hb6⟩
               have i6 := i5.below hb6 (Nat.le_refl _)
               replace hb6 := hb5.trans (hb6.mono hb5.size)
               obtain ⟨p6, c6, rfl, m6, j6⟩ := pairs_of_owns ho6
               clear hX5 hb5 ho6 i5)
            | (go_simp
               go_at_call 19
               refine (samePairs_v i6 j6 m5).mono ?_
               rintro e w7 ⟨q7, rfl, rfl⟩
               have hb7 := below_drewN hb6 q7))
          all_goals
            go_wp2_with fail
            go_ret
            exact ⟨rfl, hb8.trans (hb7.mono hb8.size)⟩
theorem walk (W : World) {n : Int} {ao : Option Addr} {len cap : Nat} {ps : List (Int × Int)} (hps : PairsIn W ao len ps) (hm : len * 16 ≤ 140737488355327) (x y : Int) :
    Calls Try.prog 8 #[.int .i64 n, .slice ao len cap, .agg #[.int .i64 x, .int .i64 y]] W fun e w' => e = .returned (.bool true) ∧ Below W.heap.size W w' := by
  by_cases h : Lat.newE n ps = 0
  · obtain ⟨m, rfl⟩ := Int.eq_ofNat_of_zero_le (show 0 ≤ n by have := (Lat.newE_zero h).1; omega)
    exact walk_yes W hps hm x y h
  · exact walk_no W hps hm x y h
end Go.Proofs.Ytchdalicoafamaa.tells
