/-
  Same and SamePairs of the reference: for any two lists they return whether these are one; no condition.
-/
import Derived.Test.YtchdalicoafamaaRows
import Derived.Test.YtchdalicoafamaaBase
import Derived.Test.YtchdalicoafamaaLat
import Derived.Test.YtchdalicoafamaaClosed
import Derived.Test.YtchdalicoafamaaLattice
import Derived.Test.YtchdalicoafamaaLists
import Derived.Test.YtchdalicoafamaaMake
import Derived.Deep.QuietTactic
import Derived.BigQuiet
import Derived.WalkSmall
import Derived.ChangeKeysEq
import Derived.Deep.LoopGhost
namespace Go.Proofs.Ytchdalicoafamaa
open Go.RowKit Base
/-- the slice's ints are xs, in blocks that are there -/
def IntsIn (w : World) (ao : Option Addr) (len : Nat) (xs : List Int) : Prop :=
  xs.length = len ∧ ∀ k, k < len → ∃ a, ao = some a ∧ a.block < w.heap.size ∧ w.cell? (a.add k) = some (.int .i64 (xs.getD k 0))
theorem IntsIn.below {w w' : World} {B : Nat} {ao : Option Addr} {len : Nat} {xs : List Int} (h : IntsIn w ao len xs) (hb : Below B w w') (hB : w.heap.size ≤ B) : IntsIn w' ao len xs :=
  ⟨h.1, fun k hk => by
    obtain ⟨a, e, hl, hc⟩ := h.2 k hk
    exact ⟨a, e, by have := hb.size; omega, (hb.cell (p := a.add k) (by rw [add_block]; omega)).trans hc⟩⟩
theorem PairsIn.below {w w' : World} {B : Nat} {ao : Option Addr} {len : Nat} {xs : List (Int × Int)} (h : PairsIn w ao len xs) (hb : Below B w w') (hB : w.heap.size ≤ B) : PairsIn w' ao len xs :=
  ⟨h.1, fun k hk => by
    obtain ⟨a, e, hl, hc, hd⟩ := h.2 k hk
    exact ⟨a, e, by have := hb.size; omega, (hb.cell (p := a.add (k * 2)) (by rw [add_block]; omega)).trans hc, (hb.cell (p := ⟨(a.add (k * 2)).block, (a.add (k * 2)).off + 1, none⟩) (by rw [add_block]; omega)).trans hd⟩⟩
theorem ne_yes {x y : Int} (h : x ≠ y) : (x != y) = true := by rw [bne_iff_ne]; exact h
theorem ne_no {x y : Int} (h : x = y) : (x != y) = false := by rw [h]; exact bne_self_eq_false _
theorem list_eq {α : Type} {d : α} {xs ys : List α} (hl : xs.length = ys.length) (h : ∀ k, k < xs.length → xs.getD k d = ys.getD k d) : xs = ys := by
  apply List.ext_getElem hl
  intro k h1 h2
  have := h k h1
  rwa [List.getD_eq_getElem?_getD, List.getD_eq_getElem?_getD, List.getElem?_eq_getElem h1, List.getElem?_eq_getElem h2] at this
theorem eq_pair (x x' y y' : Int) (w : World) : (Op.equalIn 10000 33 (.agg #[.int .i64 x, .int .i64 x']) (.agg #[.int .i64 y, .int .i64 y'])).run Try.prog w = .ok (decide (x = y ∧ x' = y')) w := by
  obtain ⟨i0, hi, hz0, hz1, hz2⟩ := info_parts infoInt
  have hc : Try.prog.cellsOf 3 = 1 := by kernel_rfl
  rw [run_equalIn_array w 9999 (n := 2) (e := 3) (i := i0) _ _ Try.underlying33 hi, hc]
  have part0 : ∀ (a b : Int), (part 3 #[.int .i64 a, .int .i64 b] (0 * 1)).run Try.prog w = .ok (.int .i64 a) w := fun a b => run_part_plain w (by kernel_rfl) rfl
  have part1 : ∀ (a b : Int), (part 3 #[.int .i64 a, .int .i64 b] (1 * 1)).run Try.prog w = .ok (.int .i64 b) w := fun a b => run_part_plain w (by kernel_rfl) rfl
  rw [show List.range 2 = [0, 1] from rfl, Op.eqItems]
  simp only [Sem.run_bind, part0, Result.andThen_ok]
  rw [run_equalIn_int w 9998 3 .i64 .i64 _ _ Try.underlying3]
  by_cases h : x = y
  · simp only [h, Result.andThen_ok, beq_self_eq_true, Bool.not_true, Bool.false_eq_true, if_false]
    rw [Op.eqItems]
    simp only [Sem.run_bind, part1, Result.andThen_ok]
    rw [run_equalIn_int w 9998 3 .i64 .i64 _ _ Try.underlying3]
    by_cases h' : x' = y'
    · simp [h', Op.eqItems]
    · simp [h']
  · simp [h]
set_option maxHeartbeats 1000000 in
theorem same_any (w : World) {ao bo : Option Addr} {la lb ca cb : Nat} {xs ys : List Int} (hx : IntsIn w ao la xs) (hy : IntsIn w bo lb ys) (hm : la ≤ maxLen) :
    Calls Try.prog 25 #[.slice ao la ca, .slice bo lb cb] w fun e w' => e = .returned (.bool (decide (xs = ys))) ∧ ∃ k, w' = w.drewN k := by
  unfold maxLen at hm
  by_cases hl : la = lb
  · subst hl
    have hx1 := hx.1
    have hy1 := hy.1
    go_enter Try.func25, Try.ntmps25
    go_wp2
    go_loopw [5] (fun i wr => ∃ k : Nat, k ≤ la ∧ i = .int .i64 k ∧ (∃ q, wr = w.drewN q) ∧ Hid (∀ i, i < k → xs.getD i 0 = ys.getD i 0)) (fun i _ => la - (intOf i).toNat)
    case atStart => exact ⟨0, Nat.zero_le _, rfl, ⟨0, rfl⟩, fun i hi => absurd hi (Nat.not_lt_zero _)⟩
    case round =>
      obtain ⟨k, hk, rfl, ⟨q, rfl⟩, hno⟩ := hrel
      by_cases hlt : k < la
      · obtain ⟨a, rfl, _, cx⟩ := hx.2 k hlt
        obtain ⟨b, rfl, _, cy⟩ := hy.2 k hlt
        have HGET : ∃ x y, xs.getD k 0 = x ∧ ys.getD k 0 = y := ⟨_, _, rfl, rfl⟩
        obtain ⟨x, y, hqx, hqy⟩ := HGET
        rw [hqx] at cx
        rw [hqy] at cy
        have HX := Lib.hid hqx
        have HY := Lib.hid hqy
        clear hqx hqy
        by_cases e : x = y
        · have ht := ne_no e
          have HE := Lib.hid e
          clear e
          go_wp2_with fail
          go_quiet (fail)
          go_wp2
          go_roundw
          case rel => exact ⟨k + 1, by omega, by go_num, ⟨_, rfl⟩, fun r hr => by
            by_cases e : r = k
            · rw [e, HX.out, HY.out, HE.out]
            · exact hno.out r (by omega)⟩
          case measure => simp [intOf]; omega
        · have ht := ne_yes e
          have HE : Hid (decide (xs = ys) = false) := decide_eq_false fun h => e (by rw [← HX.out, ← HY.out, h])
          clear e
          go_wp2_with fail
          go_quiet (fail)
          go_wp2
          go_ret
          exact ⟨by rw [HE.out]; rfl, _, World.drewN_drewN _ _ _⟩
      · obtain rfl : k = la := by omega
        have HE : Hid (decide (xs = ys) = true) := decide_eq_true (list_eq (d := 0) (by omega) fun i hi => hno.out i (by omega))
        go_wp2
        go_ret
        exact ⟨by rw [HE.out]; rfl, _, rfl⟩
  · have HE : Hid (decide (xs = ys) = false) := decide_eq_false fun h => hl (by rw [← hx.1, ← hy.1, h])
    have hl' : (la : Int) ≠ lb := by omega
    have ht := ne_yes hl'
    clear hx hy hl hl'
    go_enter Try.func25, Try.ntmps25
    go_wp2
    go_ret
    exact ⟨by rw [HE.out]; rfl, 0, rfl⟩
set_option maxHeartbeats 1000000 in
theorem samePairs_any (w : World) {ao bo : Option Addr} {la lb ca cb : Nat} {xs ys : List (Int × Int)} (hx : PairsIn w ao la xs) (hy : PairsIn w bo lb ys) (hm : la ≤ maxLen) :
    Calls Try.prog 19 #[.slice ao la ca, .slice bo lb cb] w fun e w' => e = .returned (.bool (decide (xs = ys))) ∧ ∃ k, w' = w.drewN k := by
  unfold maxLen at hm
  by_cases hl : la = lb
  · subst hl
    have hx1 := hx.1
    have hy1 := hy.1
    go_enter Try.func19, Try.ntmps19
    go_wp2
    go_loopw [5] (fun i wr => ∃ k : Nat, k ≤ la ∧ i = .int .i64 k ∧ (∃ q, wr = w.drewN q) ∧ Hid (∀ i, i < k → xs.getD i (0, 0) = ys.getD i (0, 0))) (fun i _ => la - (intOf i).toNat)
    case atStart => exact ⟨0, Nat.zero_le _, rfl, ⟨0, rfl⟩, fun i hi => absurd hi (Nat.not_lt_zero _)⟩
    case round =>
      obtain ⟨k, hk, rfl, ⟨q, rfl⟩, hno⟩ := hrel
      by_cases hlt : k < la
      · obtain ⟨a, rfl, _, cx, cx'⟩ := hx.2 k hlt
        obtain ⟨b, rfl, _, cy, cy'⟩ := hy.2 k hlt
        have HGET : ∃ x y, xs.getD k (0, 0) = x ∧ ys.getD k (0, 0) = y := ⟨_, _, rfl, rfl⟩
        obtain ⟨⟨x, x'⟩, ⟨y, y'⟩, hqx, hqy⟩ := HGET
        rw [hqx] at cx cx'
        rw [hqy] at cy cy'
        have HQ := fun w => eq_pair x x' y y' w
        have HX := Lib.hid hqx
        have HY := Lib.hid hqy
        clear hqx hqy
        by_cases e : x = y ∧ x' = y'
        · rw [decide_eq_true e] at HQ
          have HE : Hid ((x, x') = (y, y')) := by show _ = _; rw [e.1, e.2]
          clear e
          go_wp2_with fail
          go_quiet (fail)
          go_wp2
          go_roundw
          case rel => exact ⟨k + 1, by omega, by go_num, ⟨_, rfl⟩, fun r hr => by
            by_cases e : r = k
            · rw [e, HX.out, HY.out, HE.out]
            · exact hno.out r (by omega)⟩
          case measure => simp [intOf]; omega
        · rw [decide_eq_false e] at HQ
          have HE : Hid (decide (xs = ys) = false) := decide_eq_false fun h => e (by have h2 := HX.out; rw [h, HY.out] at h2; exact ⟨(congrArg Prod.fst h2).symm, (congrArg Prod.snd h2).symm⟩)
          clear e
          go_wp2_with fail
          go_quiet (fail)
          go_wp2
          go_ret
          exact ⟨by rw [HE.out]; rfl, _, World.drewN_drewN _ _ _⟩
      · obtain rfl : k = la := by omega
        have HE : Hid (decide (xs = ys) = true) := decide_eq_true (list_eq (d := (0, 0)) (by omega) fun i hi => hno.out i (by omega))
        go_wp2
        go_ret
        exact ⟨by rw [HE.out]; rfl, _, rfl⟩
  · have HE : Hid (decide (xs = ys) = false) := decide_eq_false fun h => hl (by rw [← hx.1, ← hy.1, h])
    have hl' : (la : Int) ≠ lb := by omega
    have ht := ne_yes hl'
    clear hx hy hl hl'
    go_enter Try.func19, Try.ntmps19
    go_wp2
    go_ret
    exact ⟨by rw [HE.out]; rfl, 0, rfl⟩
theorem add_zero_at (g k : Nat) : (⟨g, 0, none⟩ : Addr).add k = ⟨g, k, none⟩ := by unfold Addr.add; split <;> simp_all
theorem owns_cells {w : World} {base : Nat} {e : TypeId} {size : Nat} {v : Value} {n : Nat} {xs : List Value} (h : w.ownsRow base e size v n xs) :
    ∃ ao cap, v = .slice ao n cap ∧ n ≤ maxLen ∧ ∀ k, k < n * size → ∃ g, ao = some ⟨g, 0, none⟩ ∧ base ≤ g ∧ g < w.heap.size ∧ w.cell? ⟨g, k, none⟩ = xs[k]? := by
  obtain ⟨hl, h⟩ := h
  rcases h with ⟨rfl, rfl⟩ | ⟨g, cap, cur, rfl, hg, hb, hn, hm, hs, ht⟩
  · exact ⟨none, 0, rfl, Nat.zero_le _, fun k hk => by simp at hk⟩
  · refine ⟨_, cap, rfl, by omega, fun k hk => ⟨g, rfl, hg, (Array.getElem?_eq_some_iff.1 hb).1, ?_⟩⟩
    unfold World.cell?
    simp only [hb]
    rw [← ht, List.getElem?_take, if_pos hk]
    simp
theorem ints_of_owns {w : World} {base : Nat} {v : Value} {n : Nat} {l : List Nat} (h : w.ownsRow base 3 1 v n (l.map iv)) :
    ∃ ao cap, v = .slice ao n cap ∧ n ≤ maxLen ∧ IntsIn w ao n (l.map fun (k : Nat) => (k : Int)) := by
  have hl : l.length = n := by simpa using h.1
  obtain ⟨ao, cap, hv, hm, hc⟩ := owns_cells h
  refine ⟨ao, cap, hv, hm, by simpa using hl, fun k hk => ?_⟩
  obtain ⟨g, e, _, hg, hk'⟩ := hc k (by omega)
  refine ⟨_, e, hg, ?_⟩
  rw [add_zero_at, hk', List.getD_eq_getElem?_getD, List.getElem?_map, List.getElem?_map, List.getElem?_eq_getElem (by omega)]
  rfl
theorem flat_pv (l : List (Nat × Nat)) {k : Nat} (hk : k < l.length) : (l.flatMap pv)[k * 2]? = some (.int .i64 ((l.map fun p => ((p.1 : Int), (p.2 : Int))).getD k (0, 0)).1) ∧ (l.flatMap pv)[k * 2 + 1]? = some (.int .i64 ((l.map fun p => ((p.1 : Int), (p.2 : Int))).getD k (0, 0)).2) := by
  induction l generalizing k with
  | nil => simp at hk
  | cons p l ih =>
    cases k with
    | zero => exact ⟨rfl, rfl⟩
    | succ k =>
      have := ih (k := k) (by simpa using hk)
      rw [List.flatMap_cons]
      have e1 : (k + 1) * 2 = k * 2 + 1 + 1 := by omega
      rw [e1]
      exact this
theorem pairs_of_owns {w : World} {base : Nat} {v : Value} {n : Nat} {l : List (Nat × Nat)} (h : w.ownsRow base 33 2 v n (l.flatMap pv)) :
    ∃ ao cap, v = .slice ao n cap ∧ n ≤ maxLen ∧ PairsIn w ao n (l.map fun p => ((p.1 : Int), (p.2 : Int))) := by
  have hl : l.length = n := by have := h.1; rw [pairs_flat] at this; omega
  obtain ⟨ao, cap, hv, hm, hc⟩ := owns_cells h
  refine ⟨ao, cap, hv, hm, by simpa using hl, fun k hk => ?_⟩
  obtain ⟨g, e, _, hg, hk'⟩ := hc (k * 2) (by omega)
  obtain ⟨g', e', _, hg', hk''⟩ := hc (k * 2 + 1) (by omega)
  obtain rfl : g = g' := by rw [e] at e'; cases e'; rfl
  refine ⟨_, e, hg, ?_, ?_⟩
  · rw [add_zero_at, hk']; exact (flat_pv l (by omega)).1
  · rw [add_zero_at]; exact hk''.trans (flat_pv l (by omega)).2
theorem nil_pairs (w : World) : PairsIn w none 0 [] := ⟨rfl, fun _ hk => absurd hk (Nat.not_lt_zero _)⟩
/-- a list of pairs that has just been laid -/
theorem laid_pairs {w : World} {g : Nat} {cs : Array Value} {ty : TypeId} {q : Nat × Nat} {ps : List (Int × Int)} (hb : w.heap[g]? = some (.cells cs ty q))
    (h : ∀ k, k < ps.length → cs[k * 2]? = some (.int .i64 (ps.getD k (0, 0)).1) ∧ cs[k * 2 + 1]? = some (.int .i64 (ps.getD k (0, 0)).2)) : PairsIn w (some ⟨g, 0, none⟩) ps.length ps := by
  refine ⟨rfl, fun k hk => ⟨_, rfl, (Array.getElem?_eq_some_iff.1 hb).1, ?_, ?_⟩⟩
  · rw [add_zero_at]; unfold World.cell?; simp only [hb]; exact (h k hk).1
  · rw [add_zero_at]; unfold World.cell?; simp only [hb]; exact (h k hk).2
theorem laid_ints {w : World} {g : Nat} {cs : Array Value} {ty : TypeId} {q : Nat × Nat} {xs : List Int} (hb : w.heap[g]? = some (.cells cs ty q))
    (h : ∀ k, k < xs.length → cs[k]? = some (.int .i64 (xs.getD k 0))) : IntsIn w (some ⟨g, 0, none⟩) xs.length xs := by
  refine ⟨rfl, fun k hk => ⟨_, rfl, (Array.getElem?_eq_some_iff.1 hb).1, ?_⟩⟩
  rw [add_zero_at]; unfold World.cell?; simp only [hb]; exact h k hk
end Go.Proofs.Ytchdalicoafamaa
