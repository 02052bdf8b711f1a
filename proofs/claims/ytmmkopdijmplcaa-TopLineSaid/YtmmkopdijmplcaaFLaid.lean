/-
  laid of package frame: a list of up to four numbers, each of up to eight bytes, is laid as their bytes, one behind the other.
-/
import Derived.Test.YtmmkopdijmplcaaFWalk
import Derived.Deep.LoopGhost
import Derived.Maps.AppendAt
set_option linter.unusedVariables false
namespace Go.Proofs.Ytmmkopdijmplcaa.FF
open Go.RowKit Base HH
/-- numbers and their widths as cells -/
def flat (xs : List (Nat × Nat)) : List Value := xs.flatMap fun p => [.int .i64 (p.1 : Int), .int .i64 (p.2 : Int)]
/-- the bytes of the first k -/
def laidTo (xs : List (Nat × Nat)) (k : Nat) : List UInt8 := (xs.take k).flatMap fun p => bigTo p.1 p.2 p.2
theorem flat_at (xs : List (Nat × Nat)) {k : Nat} (h : k < xs.length) : (flat xs)[k * 2]? = some (.int .i64 ((xs[k]'h).1 : Int)) ∧ (flat xs)[k * 2 + 1]? = some (.int .i64 ((xs[k]'h).2 : Int)) := by
  induction xs generalizing k with
  | nil => cases h
  | cons x r ih =>
    cases k with
    | zero => exact ⟨rfl, rfl⟩
    | succ k =>
      have := ih (k := k) (by simpa using h)
      rw [Nat.succ_mul]
      exact this
theorem laidTo_succ (xs : List (Nat × Nat)) {k : Nat} (h : k < xs.length) : laidTo xs (k + 1) = laidTo xs k ++ bigTo (xs[k]'h).1 (xs[k]'h).2 (xs[k]'h).2 := by
  unfold laidTo
  rw [List.take_succ_eq_append_getElem h, List.flatMap_append]
  simp
theorem laidTo_length (xs : List (Nat × Nat)) (hx : ∀ p ∈ xs, p.1 < 9223372036854775808 ∧ p.2 ≤ 8) (k : Nat) (hk : k ≤ xs.length) : (laidTo xs k).length ≤ 8 * k := by
  induction k with
  | zero => simp [laidTo]
  | succ k ih =>
    rw [laidTo_succ xs (by omega), List.length_append, bigTo_length]
    have := (hx _ (List.getElem_mem (l := xs) (n := k) (by omega))).2
    have := ih (by omega)
    omega
set_option maxRecDepth 100000 in
set_option maxHeartbeats 2000000 in
theorem laid_any {w : World} {g cap : Nat} {xs : List (Nat × Nat)} (hr : Row w g 74 (flat xs)) (hx : ∀ p ∈ xs, p.1 < 9223372036854775808 ∧ p.2 ≤ 8) (h4 : xs.length ≤ 4) :
    Calls Try.prog 41 #[.slice (some ⟨g, 0, none⟩) xs.length cap] w fun e w' => e = .returned (.string (str (laidTo xs xs.length))) ∧ Below w.heap.size w w' := by
  obtain ⟨i0, hi, hz0, hz1, hz2⟩ := info_parts infoU8
  have hgl := hr.lt
  go_enter Try.func41, Try.ntmps41
  go_wp2_with fail
  go_loopw [3, 5, 6, 9] (fun v _ _ i wr => ∃ k : Nat, k ≤ xs.length ∧ i = .int .i64 k ∧ wr.ownsRow w.heap.size 5 1 v (laidTo xs k).length ((laidTo xs k).map bv) ∧ Below w.heap.size w wr) (fun _ _ _ i _ => xs.length - (intOf i).toNat)
  case atStart => exact ⟨0, Nat.zero_le _, rfl, World.ownsRow_nil _ _ _ _, Below.refl _ _⟩
  case round =>
    obtain ⟨k, hk, rfl, ho, hb⟩ := hrel
    have hbs := hb.size
    by_cases hlt : k < xs.length
    · have hlt' : (k : Int) < xs.length := by omega
      obtain ⟨ca, cb⟩ := flat_at xs hlt
      have hl8 := laidTo_length xs hx k hk
      have hls := laidTo_succ xs hlt
      obtain ⟨hn, hw8⟩ := hx _ (List.getElem_mem hlt)
      have hrr := hr.below hb hgl
      obtain ⟨n, hne⟩ : ∃ n, (xs[k]'hlt).1 = n := ⟨_, rfl⟩
      obtain ⟨m, hme⟩ : ∃ m, (xs[k]'hlt).2 = m := ⟨_, rfl⟩
      rw [hne] at ca hls hn
      rw [hme] at cb hls hw8
      have c0 := hrr.cell ca
      have c1 := hrr.cell cb
      obtain ⟨l0, hl0⟩ : ∃ l, laidTo xs k = l := ⟨_, rfl⟩
      obtain ⟨l1, hl1⟩ : ∃ l, laidTo xs (k + 1) = l := ⟨_, rfl⟩
      rw [hl0] at ho hl8 hls
      rw [hl1] at hls
      replace hl0 := Lib.hid hl0
      replace hl1 := Lib.hid hl1
      replace hne := Lib.hid hne
      replace hme := Lib.hid hme
      replace hls := Lib.hid hls
      obtain ⟨wo, hwo⟩ : ∃ wo : World, wo = wr := ⟨_, rfl⟩
      subst hwo
      obtain ⟨gx, hgx⟩ : ∃ gx, wo.heap.size = gx := ⟨_, rfl⟩
      have hN := Row.new wo [.int .i64 (n : Int), .int .i64 (m : Int)] 74
      have hoN := ho.alloc (.cells #[.int .i64 (n : Int), .int .i64 (m : Int)] 74)
      have hbN := hb.alloc hbs (.cells #[.int .i64 (n : Int), .int .i64 (m : Int)] 74)
      have hlo : ∀ q, u3.ownBlock = some q → q < gx := fun q hq => by have := (ho.lt q hq).2; omega
      have hsN : (wo.alloc (.cells #[.int .i64 (n : Int), .int .i64 (m : Int)] 74)).heap.size = gx + 1 := by simp; omega
      clear hr hrr ca cb ho hb
      go_wp2_with fail
      generalize wo.alloc (.cells #[.int .i64 (n : Int), .int .i64 (m : Int)] 74) = w1 at *
      rw [hgx] at hN
      replace hgx := Lib.hid hgx
      clear c0 c1 hbs
      go_loopw [3, 6] (fun v i wr => ∃ j : Nat, j ≤ m ∧ i = .int .i64 (m - 1 - j) ∧ wr.ownsRow w.heap.size 5 1 v (l0.length + j) ((l0.map bv) ++ (bigTo n m j).map bv) ∧ Row wr gx 74 [.int .i64 (n : Int), .int .i64 (m : Int)] ∧ (∀ q, v.ownBlock = some q → q ≠ gx) ∧ Below w.heap.size w wr) (fun _ i _ => (intOf i + 1).toNat)
      case atStart => exact ⟨0, Nat.zero_le _, by go_num, by rw [show bigTo n m 0 = [] from rfl, List.map_nil, List.append_nil]; exact hoN, hN, fun q hq => Nat.ne_of_lt (hlo q hq), hbN⟩
      case round =>
        clear hN hoN hlo hbN hsN
        obtain ⟨j, hj, rfl, ho, hN, hne2, hb⟩ := hrel
        have hbs := hb.size
        by_cases hjm : j < m
        · have hge : 0 ≤ (m : Int) - 1 - (j : Int) := by omega
          have HB : Hid (bv (b8 n (m - 1 - j)) = .int .u8 ((n : Int) / 2 ^ (8 * (m - 1 - j)) % 256)) := bv_b8 n (m - 1 - j)
          have d0 := hN.cell (j := 0) rfl
          have d1 := hN.cell (j := 1) rfl
          have hNl := hN.lt
          go_wp2_with (at_builtin; refine wpList_append_own_at _ rfl (.tmp 20) (.tmp 27) 82 rfl w.heap.size 5 i0 (.int .u8 0) 1 1 Try.underlying82 hi hz0 hz1 hz2 rfl (by decide) _ _ _ rfl (ho.alloc _) ⟨wr.heap.size, 0, none⟩ 1 1 [bv (b8 n (m - 1 - j))] rfl rfl ?c1 ?c2 ?c3 ?c4 ?c5 ?_)
          case c1 => rw [HB.out]; exact cell_one_new _ _ _
          case c2 => exact one_cell _ rfl
          case c3 => unfold maxLen; omega
          case c4 => omega
          case c5 => simp; omega
          intro v' w2 ho' hg' _ hat'
          first | rw [← bigTo_succ] at ho' | rw [List.append_assoc, ← bigTo_succ] at ho'
          have hb2 : Below w.heap.size w w2 := (hb.alloc (by omega) _).grown hg' (by simp; omega) (fun q hq => (ho.lt q hq).1)
          have hN2 := (hN.alloc (.cells #[.int .u8 ((n : Int) / 2 ^ (8 * (m - 1 - j)) % 256)] 5)).grown hg' (fun e => hne2 _ e rfl)
          have hne3 : ∀ q, v'.ownBlock = some q → q ≠ gx := fun q hq => by
            rcases hat' with e | e
            · exact hne2 q (e ▸ hq)
            · rw [hq] at e
              have e2 := Option.some.inj e
              first | omega | (simp at e2; omega) | (rw [World.size_alloc] at e2; omega)
          clear ho hg' hb HB hN hne2 hat' d0 d1
          go_wp2_with fail
          go_roundw
          case rel => first | exact ⟨j + 1, by omega, by go_num, ho', hN2, hne3, hb2⟩ | ((repeat apply Exists.intro); exact ⟨⟨j + 1, by omega, by go_num, ho', hN2, hne3, hb2⟩, rfl⟩)
          case measure => simp [intOf]; omega
        · obtain rfl : j = m := by omega
          have hge : ¬ 0 ≤ (j : Int) - 1 - (j : Int) := by omega
          have ho2 : wr.ownsRow w.heap.size 5 1 u3 (laidTo xs (k + 1)).length ((laidTo xs (k + 1)).map bv) := by
            rw [hl1.out, hls.out, List.map_append, List.length_append, bigTo_length]
            exact ho
          clear ho hN hne2
          go_wp2_with fail
          go_roundw
          case rel => first | exact ⟨k + 1, by omega, by go_num, ho2, hb⟩ | ((repeat apply Exists.intro); exact ⟨⟨k + 1, by omega, by go_num, ho2, hb⟩, rfl⟩)
          case measure => simp [intOf]; omega
    · obtain rfl : k = xs.length := by omega
      have hlt' : ¬ (xs.length : Int) < xs.length := by omega
      have hcv := run_back wr 82 9 5 Try.underlying82 Try.underlying5 Try.underlying9 ho
      go_wp2_with fail
      go_ret
      exact ⟨rfl, hb⟩
end Go.Proofs.Ytmmkopdijmplcaa.FF
