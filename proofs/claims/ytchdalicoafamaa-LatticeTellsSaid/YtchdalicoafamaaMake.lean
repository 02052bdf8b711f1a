/-
  New: for every number of levels and every pairs it returns the lattice that they make, or the error that they earn.
-/
import Derived.Test.YtchdalicoafamaaRows
import Derived.Test.YtchdalicoafamaaBase
import Derived.Test.YtchdalicoafamaaLat
import Derived.Test.YtchdalicoafamaaClosed
import Derived.Test.YtchdalicoafamaaLattice
import Derived.Test.YtchdalicoafamaaLists
import Derived.Deep.QuietTactic
import Derived.BigQuiet
import Derived.WalkSmall
import Derived.ChangeKeysEq
import Derived.Deep.LoopGhost
namespace Go.Proofs.Ytchdalicoafamaa
open Go.RowKit Base
/-- the slice's pairs are ps, in blocks that were there -/
def PairsIn (w : World) (ao : Option Addr) (len : Nat) (ps : List (Int × Int)) : Prop :=
  ps.length = len ∧ ∀ k, k < len → ∃ a, ao = some a ∧ a.block < w.heap.size ∧ w.cell? (a.add (k * 2)) = some (.int .i64 (ps.getD k (0, 0)).1) ∧ w.cell? ⟨(a.add (k * 2)).block, (a.add (k * 2)).off + 1, none⟩ = some (.int .i64 (ps.getD k (0, 0)).2)
/-- what New leaves: a lattice in new memory, or an error -/
def Made (w : World) (n : Int) (ps : List (Int × Int)) (e : Ending) (w' : World) : Prop :=
  ∃ p : Option Addr, e = .returned (.tuple #[.pointer p, .int .i64 (Lat.newE n ps)]) ∧ Below w.heap.size w w' ∧
    ((Lat.newE n ps ≠ 0 ∧ p = none) ∨ (Lat.newE n ps = 0 ∧ ∃ g, p = some ⟨g, 0, none⟩ ∧ w.heap.size ≤ g ∧ LatAt w' g n.toNat (Lat.up n.toNat ps) (Lat.down n.toNat (Lat.up n.toNat ps))))
theorem LatAt.rows {w : World} {g n : Nat} {u u' d : Nat → BitVec 8} (h : LatAt w g n u d) (e : ∀ i, i < 8 → u i = u' i) : LatAt w g n u' d := by
  refine ⟨?_, h.le8⟩
  have hb := h.blk
  unfold LatCells at hb ⊢
  rw [e 0 (by omega), e 1 (by omega), e 2 (by omega), e 3 (by omega), e 4 (by omega), e 5 (by omega), e 6 (by omega), e 7 (by omega)] at hb
  exact hb
theorem upd8 (v c : Nat → BitVec 8) (i : Nat) (hi : i < 8) : Lat.upd (Lat.upd (Lat.upd (Lat.upd (Lat.upd (Lat.upd (Lat.upd (Lat.upd v 0 (c 0)) 1 (c 1)) 2 (c 2)) 3 (c 3)) 4 (c 4)) 5 (c 5)) 6 (c 6)) 7 (c 7) i = c i := by
  unfold Lat.upd
  repeat' split
  all_goals first | (subst_vars; rfl) | omega
theorem loop_test {x y : BitVec 8} {a : Nat} (ha : a < 8) : (bits .and .u8 (x.toNat : Int) (y.toNat : Int) != ((2 : Int) ^ a % 256)) = decide (x &&& y ≠ Lat.one a) := by
  rw [and8, one8 a ha, bne, toNat_eq, ← decide_not]
theorem below_drewN {B : Nat} {a w : World} (h : Below B a w) (n : Nat) : Below B a (w.drewN n) := ⟨h.os, h.tape, h.output, h.size, h.block⟩
set_option maxHeartbeats 2000000 in
set_option maxRecDepth 8000 in
theorem new_size (w : World) {n : Int} {ao : Option Addr} {len cap : Nat} {ps : List (Int × Int)} (hps : PairsIn w ao len ps) (h : n < 1 ∨ 8 < n ∨ 64 < ps.length) :
    Calls Try.prog 10 #[.int .i64 n, .slice ao len cap] w (Made w n ps) := by
  have HE := Lib.hid (Lat.newE_size h)
  have HM : Hid (∀ w', Below w.heap.size w w' → Made w n ps (.returned (.tuple #[.pointer none, .int .i64 40])) w') := fun w' hb => ⟨none, by rw [HE.out], hb, .inl ⟨by rw [HE.out]; decide, rfl⟩⟩
  have hlen := hps.1
  by_cases h1 : n < 1
  · clear h hps
    go_enter Try.func10, Try.ntmps10
    go_wp2
    go_ret2
    exact HM.out _ (Below.refl _ _)
  · by_cases h2 : 8 < n
    · clear h hps
      go_enter Try.func10, Try.ntmps10
      go_wp2
      go_ret2
      exact HM.out _ (Below.refl _ _)
    · have h3 : 64 < len := by omega
      clear h hps
      have h3' : (64 : Int) < len := by omega
      go_enter Try.func10, Try.ntmps10
      go_wp2
      go_ret2
      exact HM.out _ (Below.refl _ _)
theorem add_block (a : Addr) (i : Nat) : (a.add i).block = a.block := by unfold Addr.add; split <;> rfl
set_option maxHeartbeats 2000000 in
set_option maxRecDepth 8000 in
theorem new_rest (w : World) {n : Nat} {ao : Option Addr} {len cap : Nat} {ps : List (Int × Int)} (hps : PairsIn w ao len ps) (hn : 1 ≤ n) (h8 : n ≤ 8) (hl : len ≤ 64) :
    Calls Try.prog 10 #[.int .i64 (n : Int), .slice ao len cap] w (Made w n ps) := by
  have hlen := hps.1
  have hsz : ¬ ((n : Int) < 1 ∨ 8 < (n : Int) ∨ 64 < ps.length) := by omega
  have HSZ := Lib.hid hsz
  clear hsz
  have HM : Hid (∀ w', Below w.heap.size w w' → ∀ e : Int, e ≠ 0 → Lat.newE n ps = e → Made w n ps (.returned (.tuple #[.pointer none, .int .i64 e])) w') := fun w' hb e h0 he => ⟨none, by rw [he], hb, .inl ⟨by rw [he]; exact h0, rfl⟩⟩
  go_enter Try.func10, Try.ntmps10
  go_wp2_with fail
  go_loopw [30] (fun i wr => ∃ a : Nat, a ≤ n ∧ i = .int .i64 a ∧ LatAt wr w.heap.size n (Lat.initTo a) Lat.zero ∧ Below w.heap.size w wr) (fun i _ => n - (intOf i).toNat)
  case atStart => exact ⟨0, Nat.zero_le _, rfl, ⟨heap_alloc_new w _, h8⟩, (Below.refl _ _).alloc (Nat.le_refl _) _⟩
  case round => 
    obtain ⟨a, ha, rfl, hA, hb⟩ := hrel
    by_cases hlt : a < n
    · have f1 := hA.free (1 + a)
      have hone := one8 a (by omega)
      have hA2 := (hA.setUp (show a < 8 by omega) (Lat.one a)).drew
      have hb2 := (hb.setCell (p := ⟨w.heap.size, 1 + a, none⟩) (Nat.le_refl _) (v8 (Lat.one a))).drew
      have HO := Lib.hid hone
      have c1 := hA.up (show a < 8 by omega)
      clear hone
      go_wp2_with fail
      go_region
      all_goals go_wp2
      all_goals go_roundw
      case rel => exact ⟨a + 1, by omega, by go_num, by rw [HO.out]; exact hA2, by rw [HO.out]; exact hb2⟩
      case measure => simp [intOf]; omega
    · obtain rfl : a = n := by omega
      clear hlt
      go_wp2_with fail
      clear ha
      obtain ⟨wi, rfl⟩ : ∃ wi : World, wi = wr := ⟨_, rfl⟩
      go_loopw [43] (fun i wr => ∃ k : Nat, k ≤ len ∧ i = .int .i64 k ∧ LatAt wr w.heap.size a (Lat.addTo (Lat.initTo a) (ps.take k)) Lat.zero ∧ Below w.heap.size w wr ∧ Hid (∀ i, i < k → Lat.okP a (ps.getD i (0, 0)) = true)) (fun i _ => len - (intOf i).toNat)
      case atStart => exact ⟨0, Nat.zero_le _, rfl, hA, hb, fun i hi => absurd hi (Nat.not_lt_zero _)⟩
      case round =>
        clear hA hb
        obtain ⟨k, hk, rfl, hA, hb, hok⟩ := hrel
        by_cases hlt : k < len
        · obtain ⟨p, rfl, hpb, cx0, cy0⟩ := hps.2 k hlt
          have HK : Hid (Lat.addTo (Lat.initTo a) (ps.take (k + 1)) = Lat.addP (Lat.addTo (Lat.initTo a) (ps.take k)) (ps.getD k (0, 0))) := Lat.addTo_snoc _ _ (by omega)
          have HBAD : Hid (Lat.okP a (ps.getD k (0, 0)) = false → Lat.newE a ps = 41) := fun hb => Lat.newE_pair HSZ.out (by omega) hb
          have cx := (hb.cell (p := p.add (k * 2)) (by rw [add_block]; exact hpb)).trans cx0
          have cy := (hb.cell (p := ⟨(p.add (k * 2)).block, (p.add (k * 2)).off + 1, none⟩) (by rw [add_block]; exact hpb)).trans cy0
          clear cx0 cy0
          have HGET : ∃ q, ps.getD k (0, 0) = q := ⟨_, rfl⟩
          obtain ⟨⟨x, y⟩, hq⟩ := HGET
          rw [hq] at HK HBAD cx cy
          have HQ := Lib.hid hq
          clear hq
          have hb1 := hb.alloc hb.size (.cells #[.int .i64 x, .int .i64 y] 33)
          have hA1 := hA.alloc (.cells #[.int .i64 x, .int .i64 y] 33)
          by_cases hx : 0 ≤ x ∧ x < a
          · obtain ⟨hx0, hx1⟩ := hx
            by_cases hy : 0 ≤ y ∧ y < a
            · obtain ⟨hy0, hy1⟩ := hy
              go_wp2_with fail
              refine (is_yes hA1 hx0 hx1).mono ?_; rintro e w' ⟨rfl, rfl⟩
              go_wp2_with fail
              refine (is_yes hA1 hy0 hy1).mono ?_; rintro e w' ⟨rfl, rfl⟩
              go_wp2_with fail
              obtain ⟨i, rfl⟩ := Int.eq_ofNat_of_zero_le hx0
              obtain ⟨j, rfl⟩ := Int.eq_ofNat_of_zero_le hy0
              have hW := hb.size
              have d0 : (wr.alloc (.cells #[.int .i64 (i : Int), .int .i64 (j : Int)] 33)).cell? ⟨wr.heap.size, 0, none⟩ = some (.int .i64 (i : Int)) := by unfold World.cell?; rw [heap_alloc_new]; rfl
              have d1 : (wr.alloc (.cells #[.int .i64 (i : Int), .int .i64 (j : Int)] 33)).cell? ⟨wr.heap.size, 1, none⟩ = some (.int .i64 (j : Int)) := by unfold World.cell?; rw [heap_alloc_new]; rfl
              generalize wr.alloc (.cells #[.int .i64 (i : Int), .int .i64 (j : Int)] 33) = w1 at *
              generalize wr.heap.size = W0 at *
              clear hA hb cx cy
              have hi : i < a := by omega
              have hj : j < a := by omega
              clear hx0 hx1 hy0 hy1
              generalize Lat.addTo (Lat.initTo a) (ps.take k) = x0 at HK hA1
              have f1 := hA1.free (1 + i)
              have c1 := hA1.up (show i < 8 by omega)
              have HO := Lib.hid (one8 j (by omega))
              have HB := Lib.hid (or8 (x0 i) (Lat.one j))
              have hA2 := (hA1.setUp (show i < 8 by omega) (x0 i ||| Lat.one j)).drew
              have hb2 := (hb1.setCell (p := ⟨w.heap.size, 1 + i, none⟩) (Nat.le_refl _) (v8 (x0 i ||| Lat.one j))).drew
              go_region
              all_goals go_wp2
              all_goals go_roundw
              case rel =>
                refine ⟨k + 1, by omega, by go_num, ?_, ?_, fun r hr => ?_⟩
                · rw [HO.out, HB.out, HK.out]; exact hA2
                · rw [HO.out, HB.out]; exact hb2
                · by_cases e : r = k
                  · rw [e, HQ.out]
                    show decide _ = true
                    rw [decide_eq_true]
                    show 0 ≤ (i : Int) ∧ (i : Int) < a ∧ 0 ≤ (j : Int) ∧ (j : Int) < a
                    omega
                  · exact hok.out r (by omega)
              case measure => simp [intOf]; omega
            · have hy' : y < 0 ∨ (a : Int) ≤ y := by omega
              have HY := Lib.hid hy'
              have HE := Lib.hid (HBAD.out (by show decide _ = false; rw [decide_eq_false]; show ¬ (0 ≤ x ∧ x < a ∧ 0 ≤ y ∧ y < a); omega))
              clear hy hy'
              go_wp2_with fail
              refine (is_yes hA1 hx0 hx1).mono ?_; rintro e w' ⟨rfl, rfl⟩
              go_wp2_with fail
              refine (is_no hA1 HY.out).mono ?_; rintro e w' ⟨rfl, rfl⟩
              go_wp2_with fail
              go_ret2
              exact HM.out _ hb1 41 (by decide) HE.out
          · have hx' : x < 0 ∨ (a : Int) ≤ x := by omega
            have HX := Lib.hid hx'
            have HE := Lib.hid (HBAD.out (by show decide _ = false; rw [decide_eq_false]; show ¬ (0 ≤ x ∧ x < a ∧ 0 ≤ y ∧ y < a); omega))
            clear hx hx'
            go_wp2_with fail
            refine (is_no hA1 HX.out).mono ?_; rintro e w' ⟨rfl, rfl⟩
            go_wp2_with fail
            go_ret2
            exact HM.out _ hb1 41 (by decide) HE.out
        · obtain rfl : k = len := by omega
          clear hlt
          have HALL : Hid (ps.all (Lat.okP a) = true) := Lat.all_ok fun i hi => hok.out i (by omega)
          have hpt : ps.take k = ps := List.take_of_length_le (by omega)
          rw [hpt] at hA
          clear hpt hok hps
          obtain ⟨v0, hv0⟩ : ∃ v, Lat.addTo (Lat.initTo a) ps = v := ⟨_, rfl⟩
          rw [hv0] at hA
          have HV0 : Hid (Lat.up a ps = Lat.clo v0) := by show _ = _; rw [← hv0]; rfl
          clear hv0
          have b0 := hA.up (a := 0) (by omega)
          have b1 := hA.up (a := 1) (by omega)
          have b2 := hA.up (a := 2) (by omega)
          have b3 := hA.up (a := 3) (by omega)
          have b4 := hA.up (a := 4) (by omega)
          have b5 := hA.up (a := 5) (by omega)
          have b6 := hA.up (a := 6) (by omega)
          have b7 := hA.up (a := 7) (by omega)
          simp only [Nat.reduceAdd] at b0 b1 b2 b3 b4 b5 b6 b7
          go_wp2_with fail
          go_at_call 33
          refine (closed_any v0 wr).mono ?_
          rintro e w1 ⟨rfl, hbc⟩
          have hb1 := hb.trans (hbc.mono hb.size)
          have hA1 := hA.below hbc hA.lt
          clear hA hb hbc b0 b1 b2 b3 b4 b5 b6 b7
          rw [← HV0.out]
          generalize hc : Lat.up a ps = c at *
          have HC := Lib.hid hc
          clear hc HV0
          have b0 := hA1.up (a := 0) (by omega)
          have f0 := hA1.free 1
          have b1 := hA1.up (a := 1) (by omega)
          have f1 := hA1.free 2
          have b2 := hA1.up (a := 2) (by omega)
          have f2 := hA1.free 3
          have b3 := hA1.up (a := 3) (by omega)
          have f3 := hA1.free 4
          have b4 := hA1.up (a := 4) (by omega)
          have f4 := hA1.free 5
          have b5 := hA1.up (a := 5) (by omega)
          have f5 := hA1.free 6
          have b6 := hA1.up (a := 6) (by omega)
          have f6 := hA1.free 7
          have b7 := hA1.up (a := 7) (by omega)
          have f7 := hA1.free 8
          simp only [Nat.reduceAdd] at b0 b1 b2 b3 b4 b5 b6 b7
          unfold A8
          go_wp2_with fail
          clear b0 b1 b2 b3 b4 b5 b6 b7 f0 f1 f2 f3 f4 f5 f6 f7
          have hA2 := (((((((hA1.setUp (a := 0) (by omega) (c 0)).setUp (a := 1) (by omega) (c 1)).setUp (a := 2) (by omega) (c 2)).setUp (a := 3) (by omega) (c 3)).setUp (a := 4) (by omega) (c 4)).setUp (a := 5) (by omega) (c 5)).setUp (a := 6) (by omega) (c 6)).setUp (a := 7) (by omega) (c 7)
          have hb2 := (((((((hb1.setCell (p := ⟨w.heap.size, 1, none⟩) (Nat.le_refl _) (v8 (c 0))).setCell (p := ⟨w.heap.size, 2, none⟩) (Nat.le_refl _) (v8 (c 1))).setCell (p := ⟨w.heap.size, 3, none⟩) (Nat.le_refl _) (v8 (c 2))).setCell (p := ⟨w.heap.size, 4, none⟩) (Nat.le_refl _) (v8 (c 3))).setCell (p := ⟨w.heap.size, 5, none⟩) (Nat.le_refl _) (v8 (c 4))).setCell (p := ⟨w.heap.size, 6, none⟩) (Nat.le_refl _) (v8 (c 5))).setCell (p := ⟨w.heap.size, 7, none⟩) (Nat.le_refl _) (v8 (c 6))).setCell (p := ⟨w.heap.size, 8, none⟩) (Nat.le_refl _) (v8 (c 7))
          have hA3 := hA2.rows (upd8 v0 c)
          clear hA1 hb1 hA2
          simp only [Nat.reduceAdd] at hA3
          generalize (((((((w1.setCell ⟨w.heap.size, 1, none⟩ (v8 (c 0))).setCell ⟨w.heap.size, 2, none⟩ (v8 (c 1))).setCell ⟨w.heap.size, 3, none⟩ (v8 (c 2))).setCell ⟨w.heap.size, 4, none⟩ (v8 (c 3))).setCell ⟨w.heap.size, 5, none⟩ (v8 (c 4))).setCell ⟨w.heap.size, 6, none⟩ (v8 (c 5))).setCell ⟨w.heap.size, 7, none⟩ (v8 (c 6))).setCell ⟨w.heap.size, 8, none⟩ (v8 (c 7)) = w2 at *
          obtain ⟨wj, rfl⟩ : ∃ wj : World, wj = w2 := ⟨_, rfl⟩
          go_loopw [83] (fun i wr => ∃ x : Nat, x ≤ a ∧ i = .int .i64 x ∧ LatAt wr w.heap.size a c (Lat.dTo a c x) ∧ Below w.heap.size w wr) (fun i _ => a - (intOf i).toNat)
          case atStart => exact ⟨0, Nat.zero_le _, rfl, hA3, hb2⟩
          case round =>
            clear hA3 hb2
            obtain ⟨x, hx, rfl, hA, hb⟩ := hrel
            by_cases hlt : x < a
            · go_wp2_with fail
              obtain ⟨wo, rfl⟩ : ∃ wo : World, wo = wr := ⟨_, rfl⟩
              go_loopw [87] (fun i wr => ∃ y : Nat, y ≤ a ∧ i = .int .i64 y ∧ LatAt wr w.heap.size a c (Lat.dRow c (Lat.dTo a c x) x y) ∧ Below w.heap.size w wr) (fun i _ => a - (intOf i).toNat)
              case atStart => exact ⟨0, Nat.zero_le _, rfl, hA, hb⟩
              case round =>
                clear hA hb
                obtain ⟨y, hy, rfl, hA, hb⟩ := hrel
                by_cases hlty : y < a
                · have HS : Hid (Lat.dRow c (Lat.dTo a c x) x (y + 1) = Lat.dStp c (Lat.dRow c (Lat.dTo a c x) x y) x y) := rfl
                  generalize Lat.dRow c (Lat.dTo a c x) x y = d at HS hA
                  have cu := hA.up (show x < 8 by omega)
                  cases hbit : (c x).getLsbD y with
                  | true =>
                    have ht := bit8_yes hbit
                    have HE : Hid (Lat.dStp c d x y = Lat.upd d y (d y ||| Lat.one x)) := by show _ = _; unfold Lat.dStp; rw [if_pos hbit]
                    clear hbit
                    have cd := hA.down (show y < 8 by omega)
                    have fd := hA.free (9 + y)
                    have HO := Lib.hid (one8 x (by omega))
                    have HB := Lib.hid (or8 (d y) (Lat.one x))
                    have hA2 := (hA.setDown (show y < 8 by omega) (d y ||| Lat.one x)).drew
                    have hb2 := (hb.setCell (p := ⟨w.heap.size, 9 + y, none⟩) (Nat.le_refl _) (v8 (d y ||| Lat.one x))).drew
                    go_wp2_with fail
                    go_region
                    all_goals go_wp2
                    all_goals go_roundw
                    case rel => exact ⟨y + 1, by omega, by go_num, by rw [HS.out, HE.out, HO.out, HB.out]; exact hA2, by rw [HO.out, HB.out]; exact hb2⟩
                    case measure => simp [intOf]; omega
                  | false =>
                    have ht := bit8_no hbit
                    have HE : Hid (Lat.dStp c d x y = d) := by show _ = _; unfold Lat.dStp; rw [if_neg (by rw [hbit]; decide)]
                    clear hbit
                    go_wp2_with fail
                    go_roundw
                    case rel => exact ⟨y + 1, by omega, by go_num, by rw [HS.out, HE.out]; exact hA, hb⟩
                    case measure => simp [intOf]; omega
                · obtain rfl : y = a := by omega
                  go_wp2_with fail
                  go_roundw
                  case rel => exact ⟨x + 1, by omega, by go_num, hA, hb⟩
                  case measure => simp [intOf]; omega
            · obtain rfl : x = a := by omega
              have HD : Hid (Lat.dTo x c x = Lat.down x c) := rfl
              generalize Lat.dTo x c x = d at HD hA
              clear hlt
              go_wp2_with fail
              clear hx
              obtain ⟨wl, rfl⟩ : ∃ wl : World, wl = wr := ⟨_, rfl⟩
              go_loopw [115] (fun i wr => ∃ y : Nat, y ≤ x ∧ i = .int .i64 y ∧ LatAt wr w.heap.size x c d ∧ Below w.heap.size w wr ∧ Hid (∀ i, i < y → Lat.loopBad x c d i = false)) (fun i _ => x - (intOf i).toNat)
              case atStart => exact ⟨0, Nat.zero_le _, rfl, hA, hb, fun i hi => absurd hi (Nat.not_lt_zero _)⟩
              case round =>
                clear hA hb
                obtain ⟨y, hy, rfl, hA, hb, hno⟩ := hrel
                by_cases hlty : y < x
                · have cu := hA.up (show y < 8 by omega)
                  have cd := hA.down (show y < 8 by omega)
                  have ht := loop_test (x := c y) (y := d y) (a := y) (by omega)
                  cases hl : Lat.loopBad x c d y with
                  | true =>
                    have HE : Hid (Lat.newE x ps = 42) := Lat.newE_loop HSZ.out HALL.out (a := y) hlty (by rw [HC.out, ← HD.out]; exact hl)
                    unfold Lat.loopBad at hl
                    rw [hl] at ht
                    clear hl
                    go_wp2_with fail
                    go_quiet (fail)
                    go_wp2_with fail
                    go_ret2
                    exact HM.out _ (below_drewN hb _) 42 (by decide) HE.out
                  | false =>
                    have HN := Lib.hid hl
                    unfold Lat.loopBad at hl
                    rw [hl] at ht
                    clear hl
                    go_wp2_with fail
                    go_quiet (fail)
                    go_wp2_with fail
                    go_roundw
                    case rel => exact ⟨y + 1, by omega, by go_num, hA.drewN _, ⟨hb.os, hb.tape, hb.output, hb.size, hb.block⟩, fun r hr => by
                      by_cases e : r = y
                      · rw [e]; exact HN.out
                      · exact hno.out r (by omega)⟩
                    case measure => simp [intOf]; omega
                · obtain rfl : y = x := by omega
                  clear hlty
                  go_wp2_with fail
                  clear hy
                  obtain ⟨wq, rfl⟩ : ∃ wq : World, wq = wr := ⟨_, rfl⟩
                  go_loopw [136] (fun i wr => ∃ x : Nat, x ≤ y ∧ i = .int .i64 x ∧ LatAt wr w.heap.size y c d ∧ Below w.heap.size w wr ∧ Hid (∀ i j, i < x → j < y → Lat.joinBad y c d i j = false)) (fun i _ => y - (intOf i).toNat)
                  case atStart => exact ⟨0, Nat.zero_le _, rfl, hA, hb, fun i j hi => absurd hi (Nat.not_lt_zero _)⟩
                  case round =>
                    clear hA hb
                    obtain ⟨x, hx, rfl, hA, hb, hno2⟩ := hrel
                    by_cases hlt : x < y
                    · go_wp2_with fail
                      obtain ⟨wo, rfl⟩ : ∃ wo : World, wo = wr := ⟨_, rfl⟩
                      go_loopw [140] (fun i wr => ∃ z : Nat, z ≤ y ∧ i = .int .i64 z ∧ LatAt wr w.heap.size y c d ∧ Below w.heap.size w wr ∧ Hid (∀ j, j < z → Lat.joinBad y c d x j = false)) (fun i _ => y - (intOf i).toNat)
                      case atStart => exact ⟨0, Nat.zero_le _, rfl, hA, hb, fun i hi => absurd hi (Nat.not_lt_zero _)⟩
                      case round =>
                        clear hA hb
                        obtain ⟨z, hz, rfl, hA, hb, hno3⟩ := hrel
                        by_cases hltz : z < y
                        · have HBAD : Hid (Lat.joinBad y c d x z = true → Lat.newE y ps = 43) := fun hb => Lat.newE_join HSZ.out HALL.out (fun i hi => by rw [HC.out, ← HD.out]; exact hno.out i hi) hlt hltz (by rw [HC.out, ← HD.out]; exact hb)
                          have HDEF : Hid (Lat.joinBad y c d x z = decide (Lat.joinF y c x z < 0 ∨ Lat.joinF y d x z < 0)) := rfl
                          by_cases hj1 : Lat.joinF y c x z < 0
                          · have HE := Lib.hid (HBAD.out (by rw [HDEF.out]; exact decide_eq_true (.inl hj1)))
                            go_wp2_with fail
                            refine (join_any hA x z).mono ?_; rintro e w' ⟨rfl, q1, rfl⟩
                            go_wp2_with fail
                            go_ret2
                            exact HM.out _ (below_drewN hb _) 43 (by decide) HE.out
                          · by_cases hj2 : Lat.joinF y d x z < 0
                            · have HE := Lib.hid (HBAD.out (by rw [HDEF.out]; exact decide_eq_true (.inr hj2)))
                              go_wp2_with fail
                              refine (join_any hA x z).mono ?_; rintro e w' ⟨rfl, q1, rfl⟩
                              go_wp2_with fail
                              refine (meet_any (hA.drewN _) x z).mono ?_; rintro e w' ⟨rfl, q2, rfl⟩
                              go_wp2_with fail
                              go_ret2
                              exact HM.out _ (below_drewN hb _) 43 (by decide) HE.out
                            · have HN : Hid (Lat.joinBad y c d x z = false) := by show _ = _; rw [HDEF.out]; exact decide_eq_false (by omega)
                              go_wp2_with fail
                              refine (join_any hA x z).mono ?_; rintro e w' ⟨rfl, q1, rfl⟩
                              go_wp2_with fail
                              refine (meet_any (hA.drewN _) x z).mono ?_; rintro e w' ⟨rfl, q2, rfl⟩
                              go_wp2_with fail
                              go_roundw
                              case rel => exact ⟨z + 1, by omega, by go_num, hA.drewN _, ⟨hb.os, hb.tape, hb.output, hb.size, hb.block⟩, fun r hr => by
                                by_cases e : r = z
                                · rw [e]; exact HN.out
                                · exact hno3.out r (by omega)⟩
                              case measure => simp [intOf]; omega
                        · obtain rfl : z = y := by omega
                          go_wp2_with fail
                          go_roundw
                          case rel => exact ⟨x + 1, by omega, by go_num, hA, hb, fun i j hi hj => by
                                by_cases e : i = x
                                · rw [e]; exact hno3.out j hj
                                · exact hno2.out i j (by omega) hj⟩
                          case measure => simp [intOf]; omega
                    · obtain rfl : x = y := by omega
                      have HE : Hid (Lat.newE x ps = 0) := Lat.newE_ok HSZ.out HALL.out (fun i hi => by rw [HC.out, ← HD.out]; exact hno.out i hi) (fun i j hi hj => by rw [HC.out, ← HD.out]; exact hno2.out i j hi hj)
                      have HR : Hid (Made w x ps (.returned (.tuple #[.pointer (some ⟨w.heap.size, 0, none⟩), .int .i64 0])) wr) := ⟨_, by rw [HE.out], hb, .inr ⟨HE.out, _, rfl, Nat.le_refl _, by rw [Int.toNat_natCast, HC.out, ← HD.out]; exact hA⟩⟩
                      go_wp2_with fail
                      go_ret2
                      exact HR.out
set_option maxHeartbeats 400000 in
theorem lnew_any (w : World) {n : Int} {ao : Option Addr} {len cap : Nat} {ps : List (Int × Int)} (hps : PairsIn w ao len ps) :
    Calls Try.prog 10 #[.int .i64 n, .slice ao len cap] w (Made w n ps) := by
  by_cases h : n < 1 ∨ 8 < n ∨ 64 < ps.length
  · exact new_size w hps h
  · obtain ⟨m, rfl⟩ := Int.eq_ofNat_of_zero_le (show 0 ≤ n by omega)
    have := hps.1
    exact new_rest w hps (by omega) (by omega) (by omega)
end Go.Proofs.Ytchdalicoafamaa
