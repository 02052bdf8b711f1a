/-
  The document's New: for every number of levels and every pairs it returns the lattice that they make, or the error that they earn; no condition.
-/
import Derived.Test.YtchdalicoafamaaRows
import Derived.Test.YtchdalicoafamaaBase
import Derived.Test.YtchdalicoafamaaLat
import Derived.Test.YtchdalicoafamaaClosed
import Derived.Test.YtchdalicoafamaaLattice
import Derived.Test.YtchdalicoafamaaLists
import Derived.Test.YtchdalicoafamaaMake
import Derived.Test.YtchdalicoafamaaSame
import Derived.Test.YtchdalicoafamaaRefP
import Derived.Test.YtchdalicoafamaaRefL
import Derived.Deep.QuietTactic
import Derived.BigQuiet
import Derived.WalkSmall
import Derived.ChangeKeysEq
import Derived.Deep.LoopGhost
import Derived.Deep.CutRange
import Derived.StillTailTactics
import Derived.OwnWalk
import Derived.Deep.AppendLies
namespace Go.Proofs.Ytchdalicoafamaa
open Go.RowKit Base
theorem infoBool : (Try.prog.info? 4).map (fun i => (i.zero, i.size, i.bytes)) = some (some (.bool false), 1, 1) := by kernel_rfl
theorem infoBools : (Try.prog.info? 54).map (fun i => (i.zero, i.size, i.bytes)) = some (some (.slice none 0 0), 1, 24) := by kernel_rfl
/-- what the document's New leaves: a lattice in memory, or an error -/
def RMade (w : World) (n : Int) (ps : List (Int × Int)) (e : Ending) (w' : World) : Prop :=
  ∃ p : Option Addr, e = .returned (.tuple #[.pointer p, .int .i64 (Lat.newE n ps)]) ∧ Below w.heap.size w w' ∧
    ((Lat.newE n ps ≠ 0 ∧ p = none) ∨ (Lat.newE n ps = 0 ∧ ∃ g gf cf r f, p = some ⟨g, 0, none⟩ ∧ RIn w' g n.toNat gf cf r f ∧ (∀ a b, a < n.toNat → b < n.toNat → f a b = Lat.bt (Lat.up n.toNat ps) a b) ∧ w.heap.size ≤ g ∧ w.heap.size ≤ gf ∧ ∀ k, k < n.toNat → w.heap.size ≤ r k))
set_option maxHeartbeats 2000000 in
set_option maxRecDepth 8000 in
theorem rnew_size (w : World) {n : Int} {ao : Option Addr} {len cap : Nat} {ps : List (Int × Int)} (hps : PairsIn w ao len ps) (h : n < 1 ∨ 8 < n ∨ 64 < ps.length) :
    Calls Try.prog 18 #[.int .i64 n, .slice ao len cap] w (RMade w n ps) := by
  have HE := Lib.hid (Lat.newE_size h)
  have HM : Hid (∀ w', Below w.heap.size w w' → RMade w n ps (.returned (.tuple #[.pointer none, .int .i64 40])) w') := fun w' hb => ⟨none, by rw [HE.out], hb, .inl ⟨by rw [HE.out]; decide, rfl⟩⟩
  have hlen := hps.1
  by_cases h1 : n < 1
  · clear h hps
    go_enter Try.func18, Try.ntmps18
    go_wp2
    go_ret2
    exact HM.out _ (Below.refl _ _)
  · by_cases h2 : 8 < n
    · clear h hps
      go_enter Try.func18, Try.ntmps18
      go_wp2
      go_ret2
      exact HM.out _ (Below.refl _ _)
    · have h3 : 64 < len := by omega
      clear h hps
      have h3' : (64 : Int) < len := by omega
      go_enter Try.func18, Try.ntmps18
      go_wp2
      go_ret2
      exact HM.out _ (Below.refl _ _)
/-- the table while it is being made -/
structure Rows2 (W w : World) (n a : Nat) (v : Value) (r : Nat → Nat) : Prop where
  g : w.heap[W.heap.size]? = some (.cells #[.int .i64 (n : Int), v] 42 (0, 0))
  own : w.ownsRow (W.heap.size + 1) 54 1 v a ((List.range a).map fun k => .slice (some ⟨r k, 0, none⟩) n n)
  row : ∀ k, k < a → ∃ cs, w.heap[r k]? = some (.cells cs 4 (0, 0)) ∧ ∀ j, j < n → cs[j]? = some (.bool (decide (k = j)))
  rlt : ∀ k, k < a → W.heap.size < r k
  ne : ∀ k, k < a → v.ownBlock ≠ some (r k)
  inj : ∀ k l, k < a → l < a → r k = r l → k = l
  bel : Below W.heap.size W w
theorem made_bools (n : Nat) : ∀ j, j < n → (madeCells #[.bool false] n)[j]? = some (.bool false) := fun j hj => by
  unfold madeCells
  simp [hj, Nat.mod_one]
theorem made_row (n a : Nat) : ∀ j, j < n → ((madeCells #[.bool false] n).setIfInBounds a (.bool true))[j]? = some (.bool (decide (a = j))) := fun j hj => by
  rw [Array.getElem?_setIfInBounds]
  by_cases e : a = j
  · rw [if_pos e, if_pos (by rw [size_madeCells]; omega), decide_eq_true e]
  · rw [if_neg e, made_bools n j hj, decide_eq_false e]
theorem Rows2.lt {W w : World} {n a : Nat} {v : Value} {r : Nat → Nat} (h : Rows2 W w n a v r) : W.heap.size < w.heap.size := (Array.getElem?_eq_some_iff.1 h.g).1
theorem Rows2.cell {W w : World} {n a : Nat} {v : Value} {r : Nat → Nat} (h : Rows2 W w n a v r) : w.cell? ⟨W.heap.size, 0, none⟩ = some (.int .i64 (n : Int)) ∧ w.cell? ⟨W.heap.size, 1, none⟩ = some v := by
  unfold World.cell?
  rw [h.g]
  exact ⟨rfl, rfl⟩
theorem block_setCell {w : World} {p : Addr} {x : Value} {k : Nat} (h : k ≠ p.block) : (w.setCell p x).heap[k]? = w.heap[k]? := Below.heap_setCell w p x k h
/-- one row more -/
theorem Rows2.step {W w w3 : World} {n a : Nat} {v : Value} {r : Nat → Nat} (h : Rows2 W w n a v r) {cs : Array Value} (hcs : ∀ j, j < n → cs[j]? = some (.bool (decide (a = j))))
    {o : Obj} {b cap : Nat} (hown : w3.ownsRow (W.heap.size + 1) 54 1 (.slice (some ⟨b, 0, none⟩) (a + 1) cap) (a + 1) (((List.range a).map fun k => .slice (some ⟨r k, 0, none⟩) n n) ++ [.slice (some ⟨w.heap.size, 0, none⟩) n n]))
    (hgr : ((w.alloc (.cells cs 4)).alloc o).grownBy w3 v.ownBlock) (hat : v.ownBlock = some b ∨ b = w.heap.size + 2) :
    Rows2 W (w3.setCell ⟨W.heap.size, 1, none⟩ (.slice (some ⟨b, 0, none⟩) (a + 1) cap)) n (a + 1) (.slice (some ⟨b, 0, none⟩) (a + 1) cap) (fun k => if k = a then w.heap.size else r k) := by
  have hlt := h.lt
  have hvb : ∀ k, v.ownBlock = some k → W.heap.size < k ∧ k < w.heap.size := fun k e => by
    have := World.ownsRow.lt h.own k e
    omega
  have hold : ∀ k, k < w.heap.size → v.ownBlock ≠ some k → w3.heap[k]? = w.heap[k]? := fun k hk hne => by
    rw [hgr.block k (by simp; omega) (fun e => hne e.symm)]
    rw [Below.heap_alloc _ _ _ (by simp; omega), Below.heap_alloc _ _ _ hk]
  have hnew : w3.heap[w.heap.size]? = some (.cells cs 4 (0, 0)) := by
    rw [hgr.block w.heap.size (by simp; omega) (fun e => by have := hvb _ e.symm; omega)]
    rw [Below.heap_alloc _ _ _ (by simp)]
    exact heap_alloc_new w _
  have hbg : W.heap.size < b := by
    rcases hat with e | e
    · exact (hvb _ e).1
    · omega
  refine ⟨?_, ?_, ?_, ?_, ?_, ?_, ?_⟩
  · have hg : w3.heap[W.heap.size]? = some (.cells #[.int .i64 (n : Int), v] 42 (0, 0)) := (hold _ hlt fun e => by have := hvb _ e; omega).trans h.g
    simp [World.setCell, Array.getElem?_modify, hg]
  · have hbl : (w3.setCell ⟨W.heap.size, 1, none⟩ (.slice (some ⟨b, 0, none⟩) (a + 1) cap)).heap[b]? = w3.heap[b]? := block_setCell (by show b ≠ W.heap.size; omega)
    have e : (List.range (a + 1)).map (fun k => Value.slice (some ⟨(if k = a then w.heap.size else r k), 0, none⟩) n n) = ((List.range a).map fun k => .slice (some ⟨r k, 0, none⟩) n n) ++ [.slice (some ⟨w.heap.size, 0, none⟩) n n] := by
      rw [List.range_succ, List.map_append]
      congr 1
      · apply List.map_congr_left
        intro k hk
        have := List.mem_range.1 hk
        rw [if_neg (by omega)]
      · simp
    rw [e]
    obtain ⟨h1, h2⟩ := hown
    refine ⟨h1, ?_⟩
    rcases h2 with ⟨hv, _⟩ | ⟨g', cap', cur, hv, hb, hh, hr⟩
    · cases hv
    · cases hv
      exact .inr ⟨b, cap, cur, rfl, hb, hbl.trans hh, hr⟩
  · intro k hk
    by_cases e : k = a
    · subst e
      rw [if_pos rfl]
      exact ⟨cs, (block_setCell (by show w.heap.size ≠ W.heap.size; omega)).trans hnew, hcs⟩
    · rw [if_neg e]
      obtain ⟨cs', h1, h2⟩ := h.row k (by omega)
      have h3 := h.rlt k (by omega)
      exact ⟨cs', ((block_setCell (by show r k ≠ W.heap.size; omega)).trans (hold _ (Array.getElem?_eq_some_iff.1 h1).1 (h.ne k (by omega)))).trans h1, h2⟩
  · intro k hk
    by_cases e : k = a
    · rw [if_pos e]; exact hlt
    · rw [if_neg e]; exact h.rlt k (by omega)
  · intro k hk he
    have he : b = (if k = a then w.heap.size else r k) := Option.some.inj he
    by_cases e : k = a
    · rw [if_pos e] at he
      rcases hat with e' | e'
      · have := hvb _ e'; omega
      · omega
    · rw [if_neg e] at he
      rcases hat with e' | e'
      · exact h.ne k (by omega) (by rw [e', he])
      · obtain ⟨cs', h1, _⟩ := h.row k (by omega)
        have := (Array.getElem?_eq_some_iff.1 h1).1
        omega
  · intro k l hk hl he
    have hrk : ∀ k, k < a → r k < w.heap.size := fun k hk => by
      obtain ⟨cs', h1, _⟩ := h.row k hk
      exact (Array.getElem?_eq_some_iff.1 h1).1
    by_cases e : k = a <;> by_cases e' : l = a
    · omega
    · rw [if_pos e, if_neg e'] at he; have := hrk l (by omega); omega
    · rw [if_neg e, if_pos e'] at he; have := hrk k (by omega); omega
    · rw [if_neg e, if_neg e'] at he; exact h.inj k l (by omega) (by omega) he
  · have hb1 := ((h.bel.alloc h.bel.size (.cells cs 4)).alloc (by have := h.bel.size; simp; omega) o).grown hgr (by have := h.bel.size; simp; omega) (fun k e => Nat.le_of_lt (hvb k e).1)
    exact hb1.setCell (p := ⟨W.heap.size, 1, none⟩) (Nat.le_refl _) _
theorem Rows2.done {W w : World} {n : Nat} {v : Value} {r : Nat → Nat} (h : Rows2 W w n n v r) (hn : 1 ≤ n) : ∃ gf cf, v = .slice (some ⟨gf, 0, none⟩) n cf ∧ W.heap.size < gf ∧ RIn w W.heap.size n gf cf r (fun k j => decide (k = j)) := by
  rcases h.own.2 with ⟨_, h0⟩ | ⟨gf, cf, cur, rfl, hb, hh, _, _, _, _⟩
  · omega
  · obtain ⟨ao, cap', hv', _, hc⟩ := owns_cells h.own
    cases hv'
    obtain ⟨c0, c1⟩ := h.cell
    refine ⟨gf, cf, rfl, by omega, c0, c1, fun k hk => ?_, fun k j hk hj => ?_, fun k j hk hj => ?_, fun k hk => ⟨?_, ?_⟩, h.inj, h.lt, (Array.getElem?_eq_some_iff.1 hh).1, fun k hk => ?_⟩
    · obtain ⟨g', e, _, _, hk'⟩ := hc k (by omega)
      cases e
      rw [hk', List.getElem?_map, List.getElem?_range hk]
      rfl
    · obtain ⟨cs, h1, h2⟩ := h.row k hk
      unfold World.cell?
      simp only [h1]
      exact h2 j hj
    · obtain ⟨cs, h1, h2⟩ := h.row k hk
      unfold World.frozen?
      simp [h1]
    · have := h.rlt k hk; omega
    · intro e
      exact h.ne k hk (by rw [e]; rfl)
    · obtain ⟨cs, h1, _⟩ := h.row k hk
      exact (Array.getElem?_eq_some_iff.1 h1).1
theorem Rows2.kept {W w w3 : World} {n a : Nat} {v : Value} {r : Nat → Nat} (h : Rows2 W w n a v r) {o o' : Obj} (hgr : ((w.alloc o).alloc o').grownBy w3 v.ownBlock) :
    w3.cell? ⟨W.heap.size, 1, none⟩ = some v ∧ w3.frozen? ⟨W.heap.size, 1, none⟩ = false := by
  have hlt := h.lt
  have hb : w3.heap[W.heap.size]? = some (.cells #[.int .i64 (n : Int), v] 42 (0, 0)) := by
    rw [hgr.block _ (by simp; omega) (fun e => by have := World.ownsRow.lt h.own _ e.symm; omega)]
    rw [Below.heap_alloc _ _ _ (by simp; omega), Below.heap_alloc _ _ _ hlt]
    exact h.g
  unfold World.cell? World.frozen?
  rw [hb]
  exact ⟨rfl, rfl⟩
/-- while what follows is passed on -/
structure QR (n : Nat) (ps : List (Int × Int)) (C : Nat) (f : Lat.Rel) (mb : Bool) (a b c : Nat) : Prop where
  lo : Lat.Lo n ps f
  hi : Lat.Hi n (Lat.up n ps) f
  le : Lat.cntR n f ≤ C
  lt : mb = true → Lat.cntR n f < C
  tr : mb = false → Lat.TrTo n f a b c
theorem QR.start {n : Nat} {ps : List (Int × Int)} {f : Lat.Rel} (h : Lat.Lo n ps f) (k : Lat.Hi n (Lat.up n ps) f) : QR n ps (Lat.cntR n f) f false 0 0 0 :=
  ⟨h, k, Nat.le_refl _, (fun h => by cases h), fun _ => Lat.TrTo.start n f⟩
theorem QR.next {n : Nat} {ps : List (Int × Int)} {C : Nat} {f : Lat.Rel} {mb : Bool} {a b c : Nat} (h : QR n ps C f mb a b c) (hq : f a b = true → f b c = true → f a c = true) : QR n ps C f mb a b (c + 1) :=
  ⟨h.lo, h.hi, h.le, h.lt, fun e => (h.tr e).next hq⟩
theorem QR.row {n : Nat} {ps : List (Int × Int)} {C : Nat} {f : Lat.Rel} {mb : Bool} {a b : Nat} (h : QR n ps C f mb a b n) : QR n ps C f mb a (b + 1) 0 := ⟨h.lo, h.hi, h.le, h.lt, fun e => (h.tr e).row⟩
theorem QR.col {n : Nat} {ps : List (Int × Int)} {C : Nat} {f : Lat.Rel} {mb : Bool} {a : Nat} (h : QR n ps C f mb a n 0) : QR n ps C f mb (a + 1) 0 0 := ⟨h.lo, h.hi, h.le, h.lt, fun e => (h.tr e).col⟩
theorem QR.set {n : Nat} {ps : List (Int × Int)} {C : Nat} {f : Lat.Rel} {mb : Bool} {a b c : Nat} (h : QR n ps C f mb a b c) (h8 : n ≤ 8) (ha : a < n) (hb : b < n) (hc : c < n) (h1 : f a b = true) (h2 : f b c = true) (h3 : f a c = false) (x y z : Nat) : QR n ps C (Lat.setR f a c) true x y z := by
  have hl := Lat.cnt_set ha hc h3
  exact ⟨h.lo.set a c, h.hi.set (Lat.clo_trans _ a b c (by omega) (by omega) (h.hi a b ha hb h1) (h.hi b c hb hc h2)), Nat.le_trans (Nat.le_of_lt hl) h.le, fun _ => Nat.lt_of_lt_of_le hl h.le, fun e => by cases e⟩
set_option maxHeartbeats 40000000 in
set_option maxRecDepth 8000 in
theorem rnew_rest (W : World) {n : Nat} {ao : Option Addr} {len cap : Nat} {ps : List (Int × Int)} (hps : PairsIn W ao len ps) (hn : 1 ≤ n) (h8 : n ≤ 8) (hl : len ≤ 64) :
    Calls Try.prog 18 #[.int .i64 (n : Int), .slice ao len cap] W (RMade W n ps) := by
  have hlen := hps.1
  have hpsW := hps
  have hsz : ¬ ((n : Int) < 1 ∨ 8 < (n : Int) ∨ 64 < ps.length) := by omega
  have HSZ := Lib.hid hsz
  clear hsz
  have HM : Hid (∀ w', Below W.heap.size W w' → ∀ e : Int, e ≠ 0 → Lat.newE n ps = e → RMade W n ps (.returned (.tuple #[.pointer none, .int .i64 e])) w') := fun w' hb e h0 he => ⟨none, by rw [he], hb, .inl ⟨by rw [he]; exact h0, rfl⟩⟩
  go_enter Try.func18, Try.ntmps18
  go_wp2_with fail
  have hb0 := (Below.refl W.heap.size W).alloc (Nat.le_refl _) (.cells #[.int .i64 (n : Int), .slice none 0 0] 42)
  have hg0 := heap_alloc_new W (.cells #[.int .i64 (n : Int), .slice none 0 0] 42)
  replace hps := hps.below hb0 (Nat.le_refl _)
  generalize W.alloc (.cells #[.int .i64 (n : Int), .slice none 0 0] 42) = w0 at *
  have c0 : w0.cell? ⟨W.heap.size, 0, none⟩ = some (.int .i64 (n : Int)) := by
    unfold World.cell?
    rw [hg0]
    rfl
  go_loopw [7] (fun i wr => ∃ k : Nat, k ≤ len ∧ i = .int .i64 k ∧ wr = w0 ∧ Hid (∀ i, i < k → Lat.okP n (ps.getD i (0, 0)) = true)) (fun i _ => len - (intOf i).toNat)
  case atStart => exact ⟨0, Nat.zero_le _, rfl, rfl, fun i hi => absurd hi (Nat.not_lt_zero _)⟩
  case round =>
    obtain ⟨k, hk, rfl, hwr, hok⟩ := hrel
    subst hwr
    by_cases hlt : k < len
    · have hkl : (k : Int) < len := by omega
      obtain ⟨p, rfl, hpb, cx, cy⟩ := hps.2 k hlt
      have HBAD : Hid (Lat.okP n (ps.getD k (0, 0)) = false → Lat.newE n ps = 41) := fun hb => Lat.newE_pair HSZ.out (by omega) hb
      obtain ⟨⟨x, y⟩, hq⟩ : ∃ q, ps.getD k (0, 0) = q := ⟨_, rfl⟩
      rw [hq] at cx cy HBAD
      change wr.cell? (p.add (k * 2)) = some (.int .i64 x) at cx
      change wr.cell? ⟨(p.add (k * 2)).block, (p.add (k * 2)).off + 1, none⟩ = some (.int .i64 y) at cy
      have HQ := Lib.hid hq
      clear hq
      by_cases hx : 0 ≤ x ∧ x < n
      · have k1 := Lib.hid (decide_eq_true hx)
        by_cases hy : 0 ≤ y ∧ y < n
        · have k2 := Lib.hid (decide_eq_true hy)
          have HN : Hid (∀ i, i < k + 1 → Lat.okP n (ps.getD i (0, 0)) = true) := fun i hi => by
            by_cases e : i = k
            · rw [e, HQ.out]; unfold Lat.okP; exact decide_eq_true ⟨hx.1, hx.2, hy.1, hy.2⟩
            · exact hok.out i (by omega)
          clear hx hy HBAD
          go_wp2_with fail
          refine (rllevel_any _ c0 k1.out).mono ?_
          rintro e w' ⟨rfl, rfl⟩
          go_wp2_with fail
          refine (rllevel_any _ c0 k2.out).mono ?_
          rintro e w' ⟨rfl, rfl⟩
          go_wp2_with fail
          go_roundw
          case rel => exact ⟨k + 1, by omega, by go_num, by trivial, HN⟩
          case measure => simp [intOf]; omega
        · have k2 := Lib.hid (decide_eq_false hy)
          have HE := Lib.hid (HBAD.out (by unfold Lat.okP; exact decide_eq_false fun h => hy ⟨h.2.2.1, h.2.2.2⟩))
          clear hx hy HBAD
          go_wp2_with fail
          refine (rllevel_any _ c0 k1.out).mono ?_
          rintro e w' ⟨rfl, rfl⟩
          go_wp2_with fail
          refine (rllevel_any _ c0 k2.out).mono ?_
          rintro e w' ⟨rfl, rfl⟩
          go_wp2_with fail
          go_ret2
          exact HM.out _ hb0 41 (by decide) HE.out
      · have k1 := Lib.hid (decide_eq_false hx)
        have HE := Lib.hid (HBAD.out (by unfold Lat.okP; exact decide_eq_false fun h => hx ⟨h.1, h.2.1⟩))
        clear hx HBAD
        go_wp2_with fail
        refine (rllevel_any _ c0 k1.out).mono ?_
        rintro e w' ⟨rfl, rfl⟩
        go_wp2_with fail
        go_ret2
        exact HM.out _ hb0 41 (by decide) HE.out
    · obtain rfl : k = len := by omega
      have hkl : ¬ ((k : Int) < k) := by omega
      have hall : ps.all (Lat.okP n) = true := by
        rw [List.all_eq_true]
        intro p hp
        obtain ⟨i, hi, rfl⟩ := List.getElem_of_mem hp
        have := hok.out i (by omega)
        rwa [List.getD_eq_getElem?_getD, List.getElem?_eq_getElem hi] at this
      have HALL := Lib.hid hall
      clear hok hlt hk hall
      go_wp2_with fail
      go_loopw [8] (fun i wx => ∃ a : Nat, a ≤ n ∧ i = .int .i64 a ∧ ∃ v r, Rows2 W wx n a v r) (fun i _ => n - (intOf i).toNat)
      case atStart => exact ⟨0, Nat.zero_le _, rfl, .slice none 0 0, fun _ => 0, hg0, World.ownsRow_nil _ _ _ _, fun k hk => absurd hk (Nat.not_lt_zero _), fun k hk => absurd hk (Nat.not_lt_zero _), fun k hk => absurd hk (Nat.not_lt_zero _), fun k l hk => absurd hk (Nat.not_lt_zero _), hb0⟩
      case round =>
        obtain ⟨a, ha, rfl, v, r, hR⟩ := hrel
        by_cases hlt : a < n
        · have halt : (a : Int) < n := by omega
          obtain ⟨i0, hi, hz0, hz1, hz2⟩ := info_parts infoBool
          have hmk := fun w => run_make (P := Try.prog) w 54 4 i0 _ Try.underlying54 hi hz0 .i64 .i64 (n : Int) (n : Int) (by omega) (Int.le_refl _) (by rw [hz2]; omega) (by omega)
          have hmb := made_bools n a hlt
          have hlt2 := hR.lt
          obtain ⟨c0, c1⟩ := hR.cell
          obtain ⟨i1, hi1, hz10, hz11, hz12⟩ := info_parts infoBools
          have c2 : (wr.alloc (.cells ((madeCells #[.bool false] n).setIfInBounds a (.bool true)) 4)).cell? ⟨W.heap.size, 1, none⟩ = some v := (World.cell?_of_block (a := ⟨W.heap.size, 1, none⟩) (Below.heap_alloc wr _ _ hlt2)).trans c1
          go_wp2_with (at_builtin; refine wpList_append_lies _ rfl (.tmp 71) (.tmp 73) 40 rfl (W.heap.size + 1) 54 i1 (.slice none 0 0) 1 24 Try.underlying40 hi1 hz10 hz11 hz12 rfl (by decide) v a _ rfl ((hR.own.alloc _).alloc _) ⟨wr.heap.size + 1, 0, none⟩ 1 1 [.slice (some ⟨wr.heap.size, 0, none⟩) n n] rfl rfl ?c1 ?c2 (by decide) ?c3 ?c4 ?c5 (wr.heap.size + 2) ?c6 ?_)
          case c1 => exact World.news_of_block (cs := #[.slice (some ⟨wr.heap.size, 0, none⟩) n n]) (by
            have h := heap_alloc_new (wr.alloc (.cells ((madeCells #[.bool false] n).setIfInBounds a (.bool true)) 4)) (.cells #[.slice (some ⟨wr.heap.size, 0, none⟩) n n] 54)
            rw [World.size_alloc] at h
            exact h)
          case c2 => exact one_cell _ rfl
          case c3 => unfold maxLen; omega
          case c4 => omega
          case c5 => simp; omega
          case c6 => simp
          intro b cb w3 hown hgr hat hbl
          have hR2 := hR.step (made_row n a) hown hgr hat
          obtain ⟨c3, f3⟩ := hR.kept hgr
          clear hown hgr hat hR hmk hmb c0 c1 c2
          go_wp2_with fail
          go_roundw
          case rel => exact ⟨a + 1, by omega, by go_num, _, _, hR2⟩
          case measure => simp [intOf]; omega
        · obtain rfl : a = n := by omega
          have halt : ¬ ((a : Int) < a) := by omega
          obtain ⟨gf, cf, rfl, hgf, hA0⟩ := hR.done hn
          have hb := hR.bel
          have hrl := hR.rlt
          clear hR hlt ha
          have hgW := Nat.le_refl W.heap.size
          generalize hg : W.heap.size = g at hA0 hgf hrl hgW
          go_wp2_with fail
          go_loopw [10] (fun i wx => ∃ k' : Nat, k' ≤ k ∧ i = .int .i64 k' ∧ ∃ f, RIn wx g a gf cf r f ∧ Below W.heap.size W wx ∧ Hid ((∀ a', a' < a → f a' a' = true) ∧ (∀ i, i < k' → f (ps.getD i (0, 0)).1.toNat (ps.getD i (0, 0)).2.toNat = true) ∧ Lat.Hi a (Lat.up a ps) f)) (fun i _ => k - (intOf i).toNat)
          case atStart => exact ⟨0, Nat.zero_le _, rfl, _, hA0, hb, fun x hx => decide_eq_true rfl, fun i hi => absurd hi (Nat.not_lt_zero _), fun x y hx hy hxy => by
            rw [of_decide_eq_true hxy]
            exact Lat.up_refl h8 hy⟩
          case round =>
            clear hA0 hb
            obtain ⟨m, hm, rfl, f, hA, hb, hf⟩ := hrel
            by_cases hlt : m < k
            · have hmk : (m : Int) < k := by omega
              have hpsr := hpsW.below hb (Nat.le_refl _)
              obtain ⟨p, rfl, hpb, cx, cy⟩ := hpsr.2 m hlt
              have HU : Hid (Lat.bt (Lat.up a ps) (ps.getD m (0, 0)).1.toNat (ps.getD m (0, 0)).2.toNat = true ∧ (0 ≤ (ps.getD m (0, 0)).1 ∧ (ps.getD m (0, 0)).1.toNat < a ∧ 0 ≤ (ps.getD m (0, 0)).2 ∧ (ps.getD m (0, 0)).2.toNat < a)) := by
                have hmem : ps.getD m (0, 0) ∈ ps := by
                  rw [List.getD_eq_getElem?_getD, List.getElem?_eq_getElem (by omega)]
                  exact List.getElem_mem _
                exact ⟨Lat.up_has h8 HALL.out hmem, Lat.okP_lt (List.all_eq_true.1 HALL.out _ hmem)⟩
              obtain ⟨⟨x, y⟩, hq⟩ : ∃ q, ps.getD m (0, 0) = q := ⟨_, rfl⟩
              rw [hq] at cx cy
              have hU := HU.out
              rw [hq] at hU
              obtain ⟨hup, hx0, hx1, hy0, hy1⟩ := hU
              obtain ⟨x, rfl⟩ := Int.eq_ofNat_of_zero_le hx0
              obtain ⟨y, rfl⟩ := Int.eq_ofNat_of_zero_le hy0
              rw [Int.toNat_natCast] at hx1 hy1
              simp only [Int.toNat_natCast] at hup
              change wr.cell? (p.add (m * 2)) = some (.int .i64 (x : Int)) at cx
              change wr.cell? ⟨(p.add (m * 2)).block, (p.add (m * 2)).off + 1, none⟩ = some (.int .i64 (y : Int)) at cy
              have HQ := Lib.hid hq
              clear hq HU hx0 hy0
              have hx2 : (x : Int) < a := by omega
              have hy2 : (y : Int) < a := by omega
              have HN : Hid ((∀ a', a' < a → Lat.setR f x y a' a' = true) ∧ (∀ i, i < m + 1 → Lat.setR f x y (ps.getD i (0, 0)).1.toNat (ps.getD i (0, 0)).2.toNat = true) ∧ Lat.Hi a (Lat.up a ps) (Lat.setR f x y)) := by
                refine ⟨fun a' h => Lat.setR_le (hf.out.1 a' h), fun i hi => ?_, hf.out.2.2.set hup⟩
                by_cases e : i = m
                · rw [e, HQ.out]
                  simp only [Int.toNat_natCast]
                  unfold Lat.setR
                  rw [if_pos ⟨rfl, rfl⟩]
                · exact Lat.setR_le (hf.out.2.1 i (by omega))
              have d1 := hA.tab
              have d2 := hA.row x hx1
              have d3 := hA.bit x y hx1 hy1
              have d4 := hA.free x y hx1 hy1
              have hA2 := hA.drew.set hx1 hy1
              have hb2 := hb.drew.setCell (p := ⟨r x, y, none⟩) (by have := hrl x hx1; show W.heap.size ≤ r x; omega) (.bool true)
              clear hA hb hup hf hpsr
              go_upto_region 18 with fail
              go_still_tail 17, (by kernel_rfl)
              change wpList _ _ _ _ _ wr.drew
              go_wp2_with fail
              go_roundw
              case rel => exact ⟨m + 1, by omega, by go_num, _, hA2, hb2, HN⟩
              case measure => simp [intOf]; omega
            · obtain rfl : m = k := by omega
              have hmk : ¬ ((m : Int) < m) := by omega
              have hLo : Lat.Lo a ps f := by
                refine ⟨hf.out.1, fun p hp => ?_⟩
                obtain ⟨i, hi, rfl⟩ := List.getElem_of_mem hp
                have := hf.out.2.1 i (by omega)
                rwa [List.getD_eq_getElem?_getD, List.getElem?_eq_getElem hi] at this
              have hHi := hf.out.2.2
              clear hf hlt hm
              go_wp2_with fail
              go_loopg [11] (1 + Lat.cntR a f) (fun N s wx => ∃ f' mb, RIn wx g a gf cf r f' ∧ Below W.heap.size W wx ∧ Lat.Lo a ps f' ∧ Lat.Hi a (Lat.up a ps) f' ∧ s = .bool mb ∧ N = (if mb then 1 + Lat.cntR a f' else 0) ∧ (mb = false → Lat.TrTo a f' a 0 0))
              case atStart => exact ⟨f, true, hA, hb, hLo, hHi, rfl, by simp, fun h => by cases h⟩
              case round =>
                clear hA hb hLo hHi
                obtain ⟨f1, mb1, hA, hb, hLo, hHi, rfl, hN, hT⟩ := hrel
                cases mb1 with
                | true =>
                  have hQ := QR.start hLo hHi
                  generalize hC : Lat.cntR a f1 = C at *
                  clear hLo hHi hT hC
                  go_wp2_with fail
                  go_loopw [11, 12] (fun s i wx => ∃ x : Nat, x ≤ a ∧ i = .int .i64 x ∧ ∃ f' mb, s = .bool mb ∧ RIn wx g a gf cf r f' ∧ Below W.heap.size W wx ∧ QR a ps C f' mb x 0 0) (fun _ i _ => a - (intOf i).toNat)
                  case atStart => exact ⟨0, Nat.zero_le _, rfl, f1, false, rfl, hA, hb, hQ⟩
                  case round =>
                    clear hA hb hQ
                    obtain ⟨x, hx, rfl, f2, mb2, rfl, hA, hb, hQ⟩ := hrel
                    by_cases hlx : x < a
                    · have hlx' : (x : Int) < a := by omega
                      go_wp2_with fail
                      go_loopw [11, 13] (fun s i wx => ∃ y : Nat, y ≤ a ∧ i = .int .i64 y ∧ ∃ f' mb, s = .bool mb ∧ RIn wx g a gf cf r f' ∧ Below W.heap.size W wx ∧ QR a ps C f' mb x y 0) (fun _ i _ => a - (intOf i).toNat)
                      case atStart => exact ⟨0, Nat.zero_le _, rfl, f2, mb2, rfl, hA, hb, hQ⟩
                      case round =>
                        clear hA hb hQ
                        obtain ⟨y, hy, rfl, f3, mb3, rfl, hA, hb, hQ⟩ := hrel
                        by_cases hly : y < a
                        · have hly' : (y : Int) < a := by omega
                          go_wp2_with fail
                          go_loopw [11, 14] (fun s i wx => ∃ z : Nat, z ≤ a ∧ i = .int .i64 z ∧ ∃ f' mb, s = .bool mb ∧ RIn wx g a gf cf r f' ∧ Below W.heap.size W wx ∧ QR a ps C f' mb x y z) (fun _ i _ => a - (intOf i).toNat)
                          case atStart => exact ⟨0, Nat.zero_le _, rfl, f3, mb3, rfl, hA, hb, hQ⟩
                          case round =>
                            clear hA hb hQ
                            obtain ⟨z, hz, rfl, f, mb, rfl, hA, hb, hQ⟩ := hrel
                            by_cases hlz : z < a
                            · have hlz' : (z : Int) < a := by omega
                              have d1 := hA.tab
                              have d2 := hA.row x hlx
                              have d3 := hA.row y hly
                              have d4 := hA.bit x y hlx hly
                              have d5 := hA.bit y z hly hlz
                              have d6 := hA.bit x z hlx hlz
                              have d7 := hA.free x z hlx hlz
                              cases e1 : f x y with
                              | false =>
                                rw [e1] at d4
                                replace hQ := hQ.next fun h => by rw [e1] at h; cases h
                                clear e1
                                go_wp2_with fail
                                go_roundw
                                case rel => exact ⟨z + 1, by omega, by go_num, f, mb, rfl, hA, hb, hQ⟩
                                case measure => simp [intOf]; omega
                              | true =>
                                rw [e1] at d4
                                cases e2 : f y z with
                                | false =>
                                  rw [e2] at d5
                                  replace hQ := hQ.next fun _ h => by rw [e2] at h; cases h
                                  clear e1 e2
                                  go_wp2_with fail
                                  go_roundw
                                  case rel => exact ⟨z + 1, by omega, by go_num, f, mb, rfl, hA, hb, hQ⟩
                                  case measure => simp [intOf]; omega
                                | true =>
                                  rw [e2] at d5
                                  cases e3 : f x z with
                                  | true =>
                                    rw [e3] at d6
                                    replace hQ := hQ.next fun _ _ => e3
                                    clear e1 e2 e3
                                    go_wp2_with fail
                                    go_roundw
                                    case rel => exact ⟨z + 1, by omega, by go_num, f, mb, rfl, hA, hb, hQ⟩
                                    case measure => simp [intOf]; omega
                                  | false =>
                                    rw [e3] at d6
                                    replace hQ := hQ.set h8 hlx hly hlz e1 e2 e3 x y (z + 1)
                                    replace hA := hA.set hlx hlz
                                    replace hb := hb.setCell (p := ⟨r x, z, none⟩) (by have := hrl x hlx; show W.heap.size ≤ r x; omega) (.bool true)
                                    clear e1 e2 e3
                                    go_wp2_with fail
                                    go_roundw
                                    case rel => exact ⟨z + 1, by omega, by go_num, _, true, rfl, hA, hb, hQ⟩
                                    case measure => simp [intOf]; omega
                            · obtain rfl : z = a := by omega
                              have hlz' : ¬ ((z : Int) < z) := by omega
                              go_wp2_with fail
                              go_roundw
                              case rel => exact ⟨y + 1, by omega, by go_num, f, mb, rfl, hA, hb, hQ.row⟩
                              case measure => simp [intOf]; omega
                        · obtain rfl : y = a := by omega
                          have hly' : ¬ ((y : Int) < y) := by omega
                          go_wp2_with fail
                          go_roundw
                          case rel => exact ⟨x + 1, by omega, by go_num, f3, mb3, rfl, hA, hb, hQ.col⟩
                          case measure => simp [intOf]; omega
                    · obtain rfl : x = a := by omega
                      have hlx' : ¬ ((x : Int) < x) := by omega
                      go_wp2_with fail
                      go_roundg (if mb2 = true then 1 + Lat.cntR x f2 else 0)
                      case measure =>
                        cases mb2 with
                        | true => have := hQ.lt rfl; simp; omega
                        | false => simp; omega
                      case rel => exact ⟨f2, mb2, hA, hb, hQ.lo, hQ.hi, rfl, rfl, hQ.tr⟩
                | false =>
                  have HFU := Lib.hid (Lat.closed_is h8 HALL.out hLo hHi (hT rfl))
                  clear hLo hHi hT hN
                  have hall := HALL.out
                  have hpre := Lat.pre_up h8 hall
                  have hsz := HSZ.out
                  generalize hU : Lat.up a ps = u at *
                  have HU := Lib.hid hU
                  have HPRE := Lib.hid hpre
                  have HLB : Hid (∀ x, x < a → Lat.loopBad a u (Lat.down a u) x = true → Lat.newE a ps = 42) := fun x hx h => Lat.newE_loop hsz hall hx (by rw [hU]; exact h)
                  have HJB : Hid ((∀ x, x < a → Lat.loopBad a u (Lat.down a u) x = false) → ∀ x y, x < a → y < a → Lat.joinBad a u (Lat.down a u) x y = true → Lat.newE a ps = 43) := fun hl x y hx hy h => Lat.newE_join hsz hall (by rw [hU]; exact hl) hx hy (by rw [hU]; exact h)
                  have HOKE : Hid ((∀ x, x < a → Lat.loopBad a u (Lat.down a u) x = false) → (∀ x y, x < a → y < a → Lat.joinBad a u (Lat.down a u) x y = false) → Lat.newE a ps = 0) := fun hl hj => Lat.newE_ok hsz hall (by rw [hU]; exact hl) (by rw [hU]; exact hj)
                  clear hU hpre hall hsz
                  have hwr : ∃ wz : World, wz = wr := ⟨_, rfl⟩
                  obtain ⟨wz, hwz⟩ := hwr
                  go_wp2_with fail
                  go_loopw [15] (fun i wx => ∃ x : Nat, x ≤ a ∧ i = .int .i64 x ∧ wx = wz ∧ Hid (∀ x', x' < x → Lat.loopBad a u (Lat.down a u) x' = false)) (fun i _ => a - (intOf i).toNat)
                  case atStart => exact ⟨0, Nat.zero_le _, rfl, hwz.symm, fun x hx => absurd hx (Nat.not_lt_zero _)⟩
                  case round =>
                    subst hwz
                    obtain ⟨x, hx, rfl, hwx, hlb⟩ := hrel
                    subst hwx
                    by_cases hlx : x < a
                    · have hlx' : (x : Int) < a := by omega
                      obtain ⟨wy, hwy⟩ : ∃ wy : World, wy = wr := ⟨_, rfl⟩
                      go_wp2_with fail
                      go_loopw [16] (fun i wx => ∃ y : Nat, y ≤ a ∧ i = .int .i64 y ∧ wx = wy ∧ Hid (∀ y', y' < y → (decide (x ≠ y') && (Lat.bt u x y' && Lat.bt u y' x)) = false)) (fun i _ => a - (intOf i).toNat)
                      case atStart => exact ⟨0, Nat.zero_le _, rfl, hwy.symm, fun x hx => absurd hx (Nat.not_lt_zero _)⟩
                      case round =>
                        subst hwy
                        obtain ⟨y, hy, rfl, hwx, hno⟩ := hrel
                        subst hwx
                        by_cases hly : y < a
                        · have hly' : (y : Int) < a := by omega
                          have d1 := hA.tab
                          have d2 := hA.row x hlx
                          have d3 := hA.row y hly
                          have d4 := hA.bit x y hlx hly
                          have d5 := hA.bit y x hly hlx
                          rw [HFU.out x y hlx hly] at d4
                          rw [HFU.out y x hly hlx] at d5
                          by_cases hxy : x = y
                          · have hne : ((x : Int) != (y : Int)) = false := by rw [hxy]; exact bne_self_eq_false _
                            have HN : Hid (∀ y', y' < y + 1 → (decide (x ≠ y') && (Lat.bt u x y' && Lat.bt u y' x)) = false) := fun y' h => by
                              by_cases e : y' = y
                              · rw [e, decide_eq_false (fun h => h hxy)]; rfl
                              · exact hno.out y' (by omega)
                            clear hxy d4 d5
                            go_wp2_with fail
                            go_roundw
                            case rel => exact ⟨y + 1, by omega, by go_num, by trivial, HN⟩
                            case measure => simp [intOf]; omega
                          · have hne : ((x : Int) != (y : Int)) = true := by rw [bne_iff_ne]; omega
                            cases e1 : Lat.bt u x y with
                            | false =>
                              rw [e1] at d4
                              have HN : Hid (∀ y', y' < y + 1 → (decide (x ≠ y') && (Lat.bt u x y' && Lat.bt u y' x)) = false) := fun y' h => by
                                by_cases e : y' = y
                                · rw [e, e1]; simp
                                · exact hno.out y' (by omega)
                              clear hxy e1 d5
                              go_wp2_with fail
                              go_roundw
                              case rel => exact ⟨y + 1, by omega, by go_num, by trivial, HN⟩
                              case measure => simp [intOf]; omega
                            | true =>
                              rw [e1] at d4
                              cases e2 : Lat.bt u y x with
                              | false =>
                                rw [e2] at d5
                                have HN : Hid (∀ y', y' < y + 1 → (decide (x ≠ y') && (Lat.bt u x y' && Lat.bt u y' x)) = false) := fun y' h => by
                                  by_cases e : y' = y
                                  · rw [e, e2]; simp
                                  · exact hno.out y' (by omega)
                                clear hxy e1 e2
                                go_wp2_with fail
                                go_roundw
                                case rel => exact ⟨y + 1, by omega, by go_num, by trivial, HN⟩
                                case measure => simp [intOf]; omega
                              | true =>
                                rw [e2] at d5
                                have HE := Lib.hid (HLB.out x hlx (by
                                  rw [Lat.loop_is HPRE.out hlx, List.any_eq_true]
                                  exact ⟨y, List.mem_range.2 hly, by rw [e1, e2]; simp [hxy]⟩))
                                clear hxy e1 e2
                                go_wp2_with fail
                                go_ret2
                                exact HM.out _ hb 42 (by decide) HE.out
                        · obtain rfl : y = a := by omega
                          have hly' : ¬ ((y : Int) < y) := by omega
                          have HN : Hid (∀ x', x' < x + 1 → Lat.loopBad y u (Lat.down y u) x' = false) := fun x' h => by
                            by_cases e : x' = x
                            · rw [e, Lat.loop_is HPRE.out hlx]
                              exact Lat.any_false fun b hb => hno.out b hb
                            · exact hlb.out x' (by omega)
                          go_wp2_with fail
                          go_roundw
                          case rel => exact ⟨x + 1, by omega, by go_num, by trivial, HN⟩
                          case measure => simp [intOf]; omega
                    · obtain rfl : x = a := by omega
                      have hlx' : ¬ ((x : Int) < x) := by omega
                      have HJ := Lib.hid (HJB.out hlb.out)
                      have HO := Lib.hid (HOKE.out hlb.out)
                      have HFJ : Hid (∀ p q : Int, Lat.flowsR x f1 p q = Lat.flowsR x (Lat.bt u) p q) := fun p q => Lat.flowsR_congr HFU.out p q
                      have HFM : Hid (∀ p q : Int, Lat.flowsR x f1 q p = Lat.flowsR x (fun s t => Lat.bt u t s) p q) := fun p q => by
                        rw [Lat.flowsR_congr HFU.out]
                        unfold Lat.flowsR
                        congr 1
                        rw [decide_eq_decide]
                        omega
                      clear HLB HJB HOKE hlb hlx hx
                      obtain ⟨wz, hwz⟩ : ∃ wy : World, wy = wr := ⟨_, rfl⟩
                      go_wp2_with fail
                      go_loopw [17] (fun i wx => ∃ p : Nat, p ≤ x ∧ i = .int .i64 p ∧ wx = wz ∧ Hid (∀ p' q', p' < p → q' < x → Lat.joinBad x u (Lat.down x u) p' q' = false)) (fun i _ => x - (intOf i).toNat)
                      case atStart => exact ⟨0, Nat.zero_le _, rfl, hwz.symm, fun p' q' h => absurd h (Nat.not_lt_zero _)⟩
                      case round =>
                        subst hwz
                        obtain ⟨p, hp, rfl, hwx, hjb⟩ := hrel
                        subst hwx
                        by_cases hlp : p < x
                        · have hlp' : (p : Int) < x := by omega
                          obtain ⟨wy, hwy⟩ : ∃ wy : World, wy = wr := ⟨_, rfl⟩
                          go_wp2_with fail
                          go_loopw [18] (fun i wx => ∃ q : Nat, q ≤ x ∧ i = .int .i64 q ∧ wx = wy ∧ Hid (∀ q', q' < q → Lat.joinBad x u (Lat.down x u) p q' = false)) (fun i _ => x - (intOf i).toNat)
                          case atStart => exact ⟨0, Nat.zero_le _, rfl, hwy.symm, fun q' h => absurd h (Nat.not_lt_zero _)⟩
                          case round =>
                            subst hwy
                            obtain ⟨q, hq, rfl, hwx, hno⟩ := hrel
                            subst hwx
                            by_cases hlq : q < x
                            · have hlq' : (q : Int) < x := by omega
                              have HB : Hid (Lat.joinBad x u (Lat.down x u) p q = decide (Lat.joinF x u p q < 0 ∨ Lat.joinF x (Lat.down x u) p q < 0)) := rfl
                              have ej := Lat.joinR_is HPRE.out p q
                              have em := Lat.meetR_is HPRE.out p q
                              obtain ⟨j, hj⟩ : ∃ j, Lat.joinF x u p q = j := ⟨_, rfl⟩
                              obtain ⟨m', hm'⟩ : ∃ j, Lat.joinF x (Lat.down x u) p q = j := ⟨_, rfl⟩
                              replace HB := Lib.hid (HB.out.trans (by rw [hj, hm']))
                              rw [hj] at ej
                              rw [hm'] at em
                              clear hj hm'
                              replace ej := Lib.hid ej
                              replace em := Lib.hid em
                              have HN : Hid (¬ (j < 0 ∨ m' < 0) → ∀ q', q' < q + 1 → Lat.joinBad x u (Lat.down x u) p q' = false) := fun hn q' h => by
                                by_cases e : q' = q
                                · rw [e, HB.out]; exact decide_eq_false hn
                                · exact hno.out q' (by omega)
                              have HE : Hid (j < 0 ∨ m' < 0 → Lat.newE x ps = 43) := fun h => HJ.out p q hlp hlq (by rw [HB.out]; exact decide_eq_true h)
                              by_cases hj0 : j < 0
                              · have HE2 := Lib.hid (HE.out (.inl hj0))
                                go_wp2_with fail
                                refine (rljoin_any hA h8 HFJ.out ej.out).mono ?_
                                rintro e w' ⟨rfl, rfl⟩
                                go_wp2_with fail
                                go_ret2
                                exact HM.out _ hb 43 (by decide) HE2.out
                              · by_cases hm0 : m' < 0
                                · have HE2 := Lib.hid (HE.out (.inr hm0))
                                  go_wp2_with fail
                                  refine (rljoin_any hA h8 HFJ.out ej.out).mono ?_
                                  rintro e w' ⟨rfl, rfl⟩
                                  go_wp2_with fail
                                  refine (rlmeet_any hA h8 HFM.out em.out).mono ?_
                                  rintro e w' ⟨rfl, rfl⟩
                                  go_wp2_with fail
                                  go_ret2
                                  exact HM.out _ hb 43 (by decide) HE2.out
                                · have HN2 := Lib.hid (HN.out (by omega))
                                  go_wp2_with fail
                                  refine (rljoin_any hA h8 HFJ.out ej.out).mono ?_
                                  rintro e w' ⟨rfl, rfl⟩
                                  go_wp2_with fail
                                  refine (rlmeet_any hA h8 HFM.out em.out).mono ?_
                                  rintro e w' ⟨rfl, rfl⟩
                                  go_wp2_with fail
                                  go_roundw
                                  case rel => exact ⟨q + 1, by omega, by go_num, by trivial, HN2⟩
                                  case measure => simp [intOf]; omega
                            · obtain rfl : q = x := by omega
                              have hlq' : ¬ ((q : Int) < q) := by omega
                              have HN : Hid (∀ p' q', p' < p + 1 → q' < q → Lat.joinBad q u (Lat.down q u) p' q' = false) := fun p' q' h h' => by
                                by_cases e : p' = p
                                · rw [e]; exact hno.out q' h'
                                · exact hjb.out p' q' (by omega) h'
                              go_wp2_with fail
                              go_roundw
                              case rel => exact ⟨p + 1, by omega, by go_num, by trivial, HN⟩
                              case measure => simp [intOf]; omega
                        · obtain rfl : p = x := by omega
                          have hlp' : ¬ ((p : Int) < p) := by omega
                          have HE := Lib.hid (HO.out fun s t hs ht => hjb.out s t hs ht)
                          go_wp2_with fail
                          go_ret2
                          exact ⟨some ⟨g, 0, none⟩, by rw [HE.out]; rfl, hb, .inr ⟨HE.out, g, gf, cf, r, f1, rfl, hA, by rw [Int.toNat_natCast, HU.out]; exact HFU.out, by omega, by omega, fun k hk => by have := hrl k (by simpa using hk); omega⟩⟩
theorem rlnew_any (w : World) {n : Int} {ao : Option Addr} {len cap : Nat} {ps : List (Int × Int)} (hps : PairsIn w ao len ps) :
    Calls Try.prog 18 #[.int .i64 n, .slice ao len cap] w (RMade w n ps) := by
  by_cases h : n < 1 ∨ 8 < n ∨ 64 < ps.length
  · exact rnew_size w hps h
  · obtain ⟨m, rfl⟩ := Int.eq_ofNat_of_zero_le (show 0 ≤ n by omega)
    have := hps.1
    exact rnew_rest w hps (by omega) (by omega) (by omega)
end Go.Proofs.Ytchdalicoafamaa
