/-
  The document's lattice in memory; its Flows, Join and Meet: for every lattice they return what its rows say; no condition.
-/
import Derived.Test.YtchdalicoafamaaRows
import Derived.Test.YtchdalicoafamaaBase
import Derived.Test.YtchdalicoafamaaLat
import Derived.Test.YtchdalicoafamaaClosed
import Derived.Test.YtchdalicoafamaaLattice
import Derived.Test.YtchdalicoafamaaLists
import Derived.Test.YtchdalicoafamaaMake
import Derived.Test.YtchdalicoafamaaSame
import Derived.Test.YtchdalicoafamaaRefP
import Derived.Deep.QuietTactic
import Derived.BigQuiet
import Derived.WalkSmall
import Derived.ChangeKeysEq
import Derived.Deep.LoopGhost
import Derived.Deep.CutRange
import Derived.StillTailTactics
import Derived.OwnWalk
namespace Go.Proofs.Ytchdalicoafamaa
open Go.RowKit Base
/-- a lattice of the document at g: its table at gf, its rows at r -/
structure RIn (w : World) (g n gf cf : Nat) (r : Nat → Nat) (f : Lat.Rel) : Prop where
  num : w.cell? ⟨g, 0, none⟩ = some (.int .i64 (n : Int))
  tab : w.cell? ⟨g, 1, none⟩ = some (.slice (some ⟨gf, 0, none⟩) n cf)
  row : ∀ k, k < n → w.cell? ⟨gf, k, none⟩ = some (.slice (some ⟨r k, 0, none⟩) n n)
  bit : ∀ k j, k < n → j < n → w.cell? ⟨r k, j, none⟩ = some (.bool (f k j))
  free : ∀ k j, k < n → j < n → w.frozen? ⟨r k, j, none⟩ = false
  ne : ∀ k, k < n → r k ≠ g ∧ r k ≠ gf
  inj : ∀ k l, k < n → l < n → r k = r l → k = l
  ltg : g < w.heap.size
  ltf : gf < w.heap.size
  ltr : ∀ k, k < n → r k < w.heap.size
section
variable {w w1 : World} {g n gf cf : Nat} {r : Nat → Nat} {f : Lat.Rel}
theorem RIn.below {B : Nat} (h : RIn w g n gf cf r f) (hb : Below B w w1) (hB : w.heap.size ≤ B) : RIn w1 g n gf cf r f where
  num := (hb.cell (p := ⟨g, 0, none⟩) (Nat.lt_of_lt_of_le h.ltg hB)).trans h.num
  tab := (hb.cell (p := ⟨g, 1, none⟩) (Nat.lt_of_lt_of_le h.ltg hB)).trans h.tab
  row := fun k hk => (hb.cell (p := ⟨gf, k, none⟩) (Nat.lt_of_lt_of_le h.ltf hB)).trans (h.row k hk)
  bit := fun k j hk hj => (hb.cell (p := ⟨r k, j, none⟩) (Nat.lt_of_lt_of_le (h.ltr k hk) hB)).trans (h.bit k j hk hj)
  free := fun k j hk hj => (World.frozen?_of_block (a := ⟨r k, j, none⟩) (hb.block _ (Nat.lt_of_lt_of_le (h.ltr k hk) hB))).trans (h.free k j hk hj)
  ne := h.ne
  inj := h.inj
  ltg := Nat.lt_of_lt_of_le h.ltg hb.size
  ltf := Nat.lt_of_lt_of_le h.ltf hb.size
  ltr := fun k hk => Nat.lt_of_lt_of_le (h.ltr k hk) hb.size
theorem RIn.drewN (h : RIn w g n gf cf r f) (q : Nat) : RIn (w.drewN q) g n gf cf r f := ⟨h.num, h.tab, h.row, h.bit, h.free, h.ne, h.inj, h.ltg, h.ltf, h.ltr⟩
theorem RIn.drew (h : RIn w g n gf cf r f) : RIn w.drew g n gf cf r f := ⟨h.num, h.tab, h.row, h.bit, h.free, h.ne, h.inj, h.ltg, h.ltf, h.ltr⟩
theorem RIn.set (h : RIn w g n gf cf r f) {a c : Nat} (ha : a < n) (hc : c < n) : RIn (w.setCell ⟨r a, c, none⟩ (.bool true)) g n gf cf r (Lat.setR f a c) := by
  have hsz : (w.setCell ⟨r a, c, none⟩ (.bool true)).heap.size = w.heap.size := World.size_setCell _ _ _
  have oth : ∀ p : Addr, p.block ≠ r a → (w.setCell ⟨r a, c, none⟩ (.bool true)).cell? p = w.cell? p := fun p hp => World.cell?_of_block (Below.heap_setCell w ⟨r a, c, none⟩ _ p.block hp)
  refine ⟨?_, ?_, ?_, ?_, ?_, h.ne, h.inj, by rw [hsz]; exact h.ltg, by rw [hsz]; exact h.ltf, fun k hk => by rw [hsz]; exact h.ltr k hk⟩
  · rw [oth _ fun e => (h.ne a ha).1 e.symm]; exact h.num
  · rw [oth _ fun e => (h.ne a ha).1 e.symm]; exact h.tab
  · intro k hk
    rw [oth _ fun e => (h.ne a ha).2 e.symm]; exact h.row k hk
  · intro k j hk hj
    unfold Lat.setR
    by_cases e : k = a
    · subst e
      by_cases ej : j = c
      · subst ej
        rw [if_pos ⟨rfl, rfl⟩]
        exact World.cell?_setCell_same _ _ _ (h.bit k j hk hj)
      · rw [if_neg (fun h => ej h.2), World.cell?_setCell_other _ _ _ _ (fun e => ej (by cases e; rfl))]
        exact h.bit k j hk hj
    · rw [if_neg (fun h => e h.1), oth _ (fun e' => e (h.inj k a hk ha e'))]
      exact h.bit k j hk hj
  · intro k j hk hj
    rw [World.frozen?_setCell]
    exact h.free k j hk hj
end
theorem rllevel_any (w : World) {g n : Nat} (c0 : w.cell? ⟨g, 0, none⟩ = some (.int .i64 (n : Int))) {a : Int} {r : Bool} (hr : decide (0 ≤ a ∧ a < n) = r) :
    Calls Try.prog 36 #[.pointer (some ⟨g, 0, none⟩), .int .i64 a] w fun e w' => e = .returned (.bool r) ∧ w = w' := by
  subst hr
  by_cases h0 : 0 ≤ a
  · by_cases h1 : a < n
    · rw [decide_eq_true ⟨h0, h1⟩]
      go_enter Try.func36, Try.ntmps36
      go_wp2
      go_ret
      exact ⟨rfl, rfl⟩
    · rw [decide_eq_false fun h => h1 h.2]
      go_enter Try.func36, Try.ntmps36
      go_wp2
      go_ret
      exact ⟨rfl, rfl⟩
  · rw [decide_eq_false fun h => h0 h.1]
    go_enter Try.func36, Try.ntmps36
    go_wp2
    go_ret
    exact ⟨rfl, rfl⟩
section
variable {w : World} {g n gf cf : Nat} {r : Nat → Nat} {f : Lat.Rel}
set_option maxHeartbeats 1000000 in
theorem rlflows_any (h : RIn w g n gf cf r f) {a b : Int} {v : Bool} (hv : Lat.flowsR n f a b = v) :
    Calls Try.prog 20 #[.pointer (some ⟨g, 0, none⟩), .int .i64 a, .int .i64 b] w fun e w' => e = .returned (.bool v) ∧ w = w' := by
  subst hv
  have c0 := h.num
  by_cases ha : 0 ≤ a ∧ a < n
  · by_cases hb : 0 ≤ b ∧ b < n
    · obtain ⟨x, rfl⟩ := Int.eq_ofNat_of_zero_le ha.1
      obtain ⟨y, rfl⟩ := Int.eq_ofNat_of_zero_le hb.1
      have hx : x < n := by omega
      have hy : y < n := by omega
      have hx' : (x : Int) < n := by omega
      have hy' : (y : Int) < n := by omega
      rw [Lat.flowsR_in hx hy]
      have c1 := h.tab
      have c2 := h.row x hx
      have c3 := h.bit x y hx hy
      generalize f x y = fv at *
      have k1 := Lib.hid (decide_eq_true ha)
      have k2 := Lib.hid (decide_eq_true hb)
      clear ha hb hx hy
      go_enter Try.func20, Try.ntmps20
      go_wp2_with fail
      refine (rllevel_any w c0 k1.out).mono ?_
      rintro e w' ⟨rfl, rfl⟩
      go_wp2_with fail
      refine (rllevel_any w c0 k2.out).mono ?_
      rintro e w' ⟨rfl, rfl⟩
      go_wp2_with fail
      go_ret
      exact ⟨rfl, rfl⟩
    · rw [Lat.flowsR_out (by omega)]
      have k1 := Lib.hid (decide_eq_true ha)
      have k2 := Lib.hid (decide_eq_false hb)
      clear ha hb
      go_enter Try.func20, Try.ntmps20
      go_wp2_with fail
      refine (rllevel_any w c0 k1.out).mono ?_
      rintro e w' ⟨rfl, rfl⟩
      go_wp2_with fail
      refine (rllevel_any w c0 k2.out).mono ?_
      rintro e w' ⟨rfl, rfl⟩
      go_wp2_with fail
      go_ret
      exact ⟨rfl, rfl⟩
  · rw [Lat.flowsR_out (by omega)]
    have k1 := Lib.hid (decide_eq_false ha)
    clear ha
    go_enter Try.func20, Try.ntmps20
    go_wp2_with fail
    refine (rllevel_any w c0 k1.out).mono ?_
    rintro e w' ⟨rfl, rfl⟩
    go_wp2_with fail
    go_ret
    exact ⟨rfl, rfl⟩
end
section
variable {w : World} {g n gf cf : Nat} {r : Nat → Nat} {f : Lat.Rel}
set_option maxHeartbeats 8000000 in
theorem rljoin_any (h : RIn w g n gf cf r f) {a b v : Int} {F : Lat.Rel} (hm : n ≤ 8) (hF : ∀ x y : Int, Lat.flowsR n f x y = Lat.flowsR n F x y) (hv : Lat.joinR n F a b = v) :
    Calls Try.prog 21 #[.pointer (some ⟨g, 0, none⟩), .int .i64 a, .int .i64 b] w fun e w' => e = .returned (.int .i64 v) ∧ w = w' := by
  subst hv
  have c0 := h.num
  have HF := Lib.hid hF
  clear hF
  go_enter Try.func21, Try.ntmps21
  go_wp2_with fail
  go_loopw [7] (fun i wr => ∃ c : Nat, c ≤ n ∧ i = .int .i64 c ∧ wr = w ∧ Hid (∀ x, x < c → Lat.leastR n F a b x = false)) (fun i _ => n - (intOf i).toNat)
  case atStart => exact ⟨0, Nat.zero_le _, rfl, rfl, fun x hx => absurd hx (Nat.not_lt_zero _)⟩
  case round =>
    obtain ⟨c, hc, rfl, hwr, hno⟩ := hrel
    subst hwr
    by_cases hlt : c < n
    · have hlt' : (c : Int) < n := by omega
      obtain ⟨wc0, hwc0⟩ : ∃ x : World, x = wr := ⟨_, rfl⟩
      go_upto_region 4 with fail
      go_cut [8] from 10 to 54 (fun s8 wx => s8 = .bool (Lat.boundR n F a b c) ∧ wx = wr)
      case first =>
        have HB : Hid (Lat.boundR n F a b c = (Lat.flowsR n F a c && Lat.flowsR n F b c)) := rfl
        obtain ⟨p, hp⟩ : ∃ p, Lat.flowsR n F a c = p := ⟨_, rfl⟩
        obtain ⟨q, hq⟩ : ∃ q, Lat.flowsR n F b c = q := ⟨_, rfl⟩
        replace HB := Lib.hid (HB.out.trans (by rw [hp, hq]))
        rw [← HF.out] at hp hq
        replace hp := Lib.hid hp
        replace hq := Lib.hid hq
        cases p with
        | true =>
          go_wp2_with fail
          refine (rlflows_any h hp.out).mono ?_
          rintro e w' ⟨rfl, rfl⟩
          go_wp2_with fail
          refine (rlflows_any h hq.out).mono ?_
          rintro e w' ⟨rfl, rfl⟩
          go_wp2_with fail
          go_meet
          case rel => exact ⟨by rw [HB.out]; simp, rfl⟩
        | false =>
          go_wp2_with fail
          refine (rlflows_any h hp.out).mono ?_
          rintro e w' ⟨rfl, rfl⟩
          go_wp2_with fail
          go_meet
          case rel => exact ⟨by rw [HB.out]; simp, rfl⟩
      case rest =>
        obtain ⟨rfl, hwx⟩ := hcut
        subst hwx
        have HL : Hid (Lat.leastR n F a b c = (Lat.boundR n F a b c && (List.range n).all fun d => !Lat.badR n F a b c d)) := rfl
        obtain ⟨B, hB⟩ : ∃ B, Lat.boundR n F a b c = B := ⟨_, rfl⟩
        replace HL := Lib.hid (HL.out.trans (by rw [hB]))
        rw [hB]
        clear hB
        go_wp2_with fail
        obtain ⟨wo, hwo⟩ : ∃ x : World, x = wc := ⟨_, rfl⟩
        go_loopw [8, 9] (fun s i wx => ∃ d : Nat, d ≤ n ∧ i = .int .i64 d ∧ s = .bool (B && (List.range d).all fun d => !Lat.badR n F a b c d) ∧ wx = wo) (fun _ i _ => n - (intOf i).toNat)
        case atStart => exact ⟨0, Nat.zero_le _, rfl, by simp, hwo.symm⟩
        case round =>
          obtain ⟨d, hd, rfl, rfl, hwx⟩ := hrel
          subst hwo
          subst hwx
          by_cases hltd : d < n
          · have hltd' : (d : Int) < n := by omega
            have HD : Hid (Lat.badR n F a b c d = ((Lat.flowsR n F a d && Lat.flowsR n F b d) && !Lat.flowsR n F c d)) := rfl
            obtain ⟨p, hp⟩ : ∃ p, Lat.flowsR n F a d = p := ⟨_, rfl⟩
            obtain ⟨q, hq⟩ : ∃ q, Lat.flowsR n F b d = q := ⟨_, rfl⟩
            obtain ⟨s, hs⟩ : ∃ s, Lat.flowsR n F c d = s := ⟨_, rfl⟩
            replace HD := Lib.hid (HD.out.trans (by rw [hp, hq, hs]))
            rw [← HF.out] at hp hq hs
            replace hp := Lib.hid hp
            replace hq := Lib.hid hq
            replace hs := Lib.hid hs
            cases p with
            | false =>
              go_wp2_with fail
              refine (rlflows_any h hp.out).mono ?_
              rintro e w' ⟨rfl, rfl⟩
              go_wp2_with fail
              go_roundw
              case rel => exact ⟨d + 1, by omega, by go_num, by rw [Lat.all_to, HD.out]; simp, by trivial⟩
              case measure => simp [intOf]; omega
            | true =>
              cases q with
              | false =>
                go_wp2_with fail
                refine (rlflows_any h hp.out).mono ?_
                rintro e w' ⟨rfl, rfl⟩
                go_wp2_with fail
                refine (rlflows_any h hq.out).mono ?_
                rintro e w' ⟨rfl, rfl⟩
                go_wp2_with fail
                go_roundw
                case rel => exact ⟨d + 1, by omega, by go_num, by rw [Lat.all_to, HD.out]; simp, by trivial⟩
                case measure => simp [intOf]; omega
              | true =>
                cases s with
                | true =>
                  go_wp2_with fail
                  refine (rlflows_any h hp.out).mono ?_
                  rintro e w' ⟨rfl, rfl⟩
                  go_wp2_with fail
                  refine (rlflows_any h hq.out).mono ?_
                  rintro e w' ⟨rfl, rfl⟩
                  go_wp2_with fail
                  refine (rlflows_any h hs.out).mono ?_
                  rintro e w' ⟨rfl, rfl⟩
                  go_wp2_with fail
                  go_roundw
                  case rel => exact ⟨d + 1, by omega, by go_num, by rw [Lat.all_to, HD.out]; simp, by trivial⟩
                  case measure => simp [intOf]; omega
                | false =>
                  go_wp2_with fail
                  refine (rlflows_any h hp.out).mono ?_
                  rintro e w' ⟨rfl, rfl⟩
                  go_wp2_with fail
                  refine (rlflows_any h hq.out).mono ?_
                  rintro e w' ⟨rfl, rfl⟩
                  go_wp2_with fail
                  refine (rlflows_any h hs.out).mono ?_
                  rintro e w' ⟨rfl, rfl⟩
                  go_wp2_with fail
                  go_roundw
                  case rel => exact ⟨d + 1, by omega, by go_num, by rw [Lat.all_to, HD.out]; simp, by trivial⟩
                  case measure => simp [intOf]; omega
          · obtain rfl : d = n := by omega
            have hltd' : ¬ ((d : Int) < d) := by omega
            obtain ⟨L, hL⟩ : ∃ L, Lat.leastR d F a b c = L := ⟨_, rfl⟩
            rw [← HL.out, hL]
            clear HL
            cases L with
            | true =>
              have HE := Lib.hid (Lat.joinR_hit hlt hL hno.out)
              clear hL
              go_wp2_with fail
              go_ret
              exact ⟨ret_int HE.out.symm, rfl⟩
            | false =>
              have HN : Hid (∀ x, x < c + 1 → Lat.leastR d F a b x = false) := fun x hx => by
                by_cases e : x = c
                · rw [e]; exact hL
                · exact hno.out x (by omega)
              clear hL
              go_wp2_with fail
              go_roundw
              case rel => exact ⟨c + 1, by omega, by go_num, by trivial, HN⟩
              case measure => simp [intOf]; omega
    · obtain rfl : c = n := by omega
      have HE := Lib.hid (Lat.joinR_miss hno.out)
      have hlt' : ¬ ((c : Int) < c) := by omega
      go_wp2_with fail
      go_ret
      exact ⟨ret_int HE.out.symm, rfl⟩
end
section
variable {w : World} {g n gf cf : Nat} {r : Nat → Nat} {f : Lat.Rel}
set_option maxHeartbeats 8000000 in
theorem rlmeet_any (h : RIn w g n gf cf r f) {a b v : Int} {F : Lat.Rel} (hm : n ≤ 8) (hF : ∀ x y : Int, Lat.flowsR n f y x = Lat.flowsR n F x y) (hv : Lat.joinR n F a b = v) :
    Calls Try.prog 22 #[.pointer (some ⟨g, 0, none⟩), .int .i64 a, .int .i64 b] w fun e w' => e = .returned (.int .i64 v) ∧ w = w' := by
  subst hv
  have c0 := h.num
  have HF := Lib.hid hF
  clear hF
  go_enter Try.func22, Try.ntmps22
  go_wp2_with fail
  go_loopw [7] (fun i wr => ∃ c : Nat, c ≤ n ∧ i = .int .i64 c ∧ wr = w ∧ Hid (∀ x, x < c → Lat.leastR n F a b x = false)) (fun i _ => n - (intOf i).toNat)
  case atStart => exact ⟨0, Nat.zero_le _, rfl, rfl, fun x hx => absurd hx (Nat.not_lt_zero _)⟩
  case round =>
    obtain ⟨c, hc, rfl, hwr, hno⟩ := hrel
    subst hwr
    by_cases hlt : c < n
    · have hlt' : (c : Int) < n := by omega
      obtain ⟨wc0, hwc0⟩ : ∃ x : World, x = wr := ⟨_, rfl⟩
      go_upto_region 4 with fail
      go_cut [8] from 10 to 54 (fun s8 wx => s8 = .bool (Lat.boundR n F a b c) ∧ wx = wr)
      case first =>
        have HB : Hid (Lat.boundR n F a b c = (Lat.flowsR n F a c && Lat.flowsR n F b c)) := rfl
        obtain ⟨p, hp⟩ : ∃ p, Lat.flowsR n F a c = p := ⟨_, rfl⟩
        obtain ⟨q, hq⟩ : ∃ q, Lat.flowsR n F b c = q := ⟨_, rfl⟩
        replace HB := Lib.hid (HB.out.trans (by rw [hp, hq]))
        rw [← HF.out] at hp hq
        replace hp := Lib.hid hp
        replace hq := Lib.hid hq
        cases p with
        | true =>
          go_wp2_with fail
          refine (rlflows_any h hp.out).mono ?_
          rintro e w' ⟨rfl, rfl⟩
          go_wp2_with fail
          refine (rlflows_any h hq.out).mono ?_
          rintro e w' ⟨rfl, rfl⟩
          go_wp2_with fail
          go_meet
          case rel => exact ⟨by rw [HB.out]; simp, rfl⟩
        | false =>
          go_wp2_with fail
          refine (rlflows_any h hp.out).mono ?_
          rintro e w' ⟨rfl, rfl⟩
          go_wp2_with fail
          go_meet
          case rel => exact ⟨by rw [HB.out]; simp, rfl⟩
      case rest =>
        obtain ⟨rfl, hwx⟩ := hcut
        subst hwx
        have HL : Hid (Lat.leastR n F a b c = (Lat.boundR n F a b c && (List.range n).all fun d => !Lat.badR n F a b c d)) := rfl
        obtain ⟨B, hB⟩ : ∃ B, Lat.boundR n F a b c = B := ⟨_, rfl⟩
        replace HL := Lib.hid (HL.out.trans (by rw [hB]))
        rw [hB]
        clear hB
        go_wp2_with fail
        obtain ⟨wo, hwo⟩ : ∃ x : World, x = wc := ⟨_, rfl⟩
        go_loopw [8, 9] (fun s i wx => ∃ d : Nat, d ≤ n ∧ i = .int .i64 d ∧ s = .bool (B && (List.range d).all fun d => !Lat.badR n F a b c d) ∧ wx = wo) (fun _ i _ => n - (intOf i).toNat)
        case atStart => exact ⟨0, Nat.zero_le _, rfl, by simp, hwo.symm⟩
        case round =>
          obtain ⟨d, hd, rfl, rfl, hwx⟩ := hrel
          subst hwo
          subst hwx
          by_cases hltd : d < n
          · have hltd' : (d : Int) < n := by omega
            have HD : Hid (Lat.badR n F a b c d = ((Lat.flowsR n F a d && Lat.flowsR n F b d) && !Lat.flowsR n F c d)) := rfl
            obtain ⟨p, hp⟩ : ∃ p, Lat.flowsR n F a d = p := ⟨_, rfl⟩
            obtain ⟨q, hq⟩ : ∃ q, Lat.flowsR n F b d = q := ⟨_, rfl⟩
            obtain ⟨s, hs⟩ : ∃ s, Lat.flowsR n F c d = s := ⟨_, rfl⟩
            replace HD := Lib.hid (HD.out.trans (by rw [hp, hq, hs]))
            rw [← HF.out] at hp hq hs
            replace hp := Lib.hid hp
            replace hq := Lib.hid hq
            replace hs := Lib.hid hs
            cases p with
            | false =>
              go_wp2_with fail
              refine (rlflows_any h hp.out).mono ?_
              rintro e w' ⟨rfl, rfl⟩
              go_wp2_with fail
              go_roundw
              case rel => exact ⟨d + 1, by omega, by go_num, by rw [Lat.all_to, HD.out]; simp, by trivial⟩
              case measure => simp [intOf]; omega
            | true =>
              cases q with
              | false =>
                go_wp2_with fail
                refine (rlflows_any h hp.out).mono ?_
                rintro e w' ⟨rfl, rfl⟩
                go_wp2_with fail
                refine (rlflows_any h hq.out).mono ?_
                rintro e w' ⟨rfl, rfl⟩
                go_wp2_with fail
                go_roundw
                case rel => exact ⟨d + 1, by omega, by go_num, by rw [Lat.all_to, HD.out]; simp, by trivial⟩
                case measure => simp [intOf]; omega
              | true =>
                cases s with
                | true =>
                  go_wp2_with fail
                  refine (rlflows_any h hp.out).mono ?_
                  rintro e w' ⟨rfl, rfl⟩
                  go_wp2_with fail
                  refine (rlflows_any h hq.out).mono ?_
                  rintro e w' ⟨rfl, rfl⟩
                  go_wp2_with fail
                  refine (rlflows_any h hs.out).mono ?_
                  rintro e w' ⟨rfl, rfl⟩
                  go_wp2_with fail
                  go_roundw
                  case rel => exact ⟨d + 1, by omega, by go_num, by rw [Lat.all_to, HD.out]; simp, by trivial⟩
                  case measure => simp [intOf]; omega
                | false =>
                  go_wp2_with fail
                  refine (rlflows_any h hp.out).mono ?_
                  rintro e w' ⟨rfl, rfl⟩
                  go_wp2_with fail
                  refine (rlflows_any h hq.out).mono ?_
                  rintro e w' ⟨rfl, rfl⟩
                  go_wp2_with fail
                  refine (rlflows_any h hs.out).mono ?_
                  rintro e w' ⟨rfl, rfl⟩
                  go_wp2_with fail
                  go_roundw
                  case rel => exact ⟨d + 1, by omega, by go_num, by rw [Lat.all_to, HD.out]; simp, by trivial⟩
                  case measure => simp [intOf]; omega
          · obtain rfl : d = n := by omega
            have hltd' : ¬ ((d : Int) < d) := by omega
            obtain ⟨L, hL⟩ : ∃ L, Lat.leastR d F a b c = L := ⟨_, rfl⟩
            rw [← HL.out, hL]
            clear HL
            cases L with
            | true =>
              have HE := Lib.hid (Lat.joinR_hit hlt hL hno.out)
              clear hL
              go_wp2_with fail
              go_ret
              exact ⟨ret_int HE.out.symm, rfl⟩
            | false =>
              have HN : Hid (∀ x, x < c + 1 → Lat.leastR d F a b x = false) := fun x hx => by
                by_cases e : x = c
                · rw [e]; exact hL
                · exact hno.out x (by omega)
              clear hL
              go_wp2_with fail
              go_roundw
              case rel => exact ⟨c + 1, by omega, by go_num, by trivial, HN⟩
              case measure => simp [intOf]; omega
    · obtain rfl : c = n := by omega
      have HE := Lib.hid (Lat.joinR_miss hno.out)
      have hlt' : ¬ ((c : Int) < c) := by omega
      go_wp2_with fail
      go_ret
      exact ⟨ret_int HE.out.symm, rfl⟩
end
end Go.Proofs.Ytchdalicoafamaa
