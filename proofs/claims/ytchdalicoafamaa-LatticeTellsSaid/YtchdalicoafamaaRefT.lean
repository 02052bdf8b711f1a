/-
  The document's Above, Below, Top, Bottom and Pairs: for every lattice of the document's they return what its rows say; no condition.
-/
import Derived.Test.YtchdalicoafamaaRows
import Derived.Test.YtchdalicoafamaaBase
import Derived.Test.YtchdalicoafamaaLat
import Derived.Test.YtchdalicoafamaaClosed
import Derived.Test.YtchdalicoafamaaLattice
import Derived.Test.YtchdalicoafamaaLists
import Derived.Test.YtchdalicoafamaaMake
import Derived.Test.YtchdalicoafamaaSame
import Derived.Test.YtchdalicoafamaaRefP
import Derived.Test.YtchdalicoafamaaRefL
import Derived.Test.YtchdalicoafamaaPairsP
import Derived.Test.YtchdalicoafamaaAppend
import Derived.Deep.QuietTactic
import Derived.BigQuiet
import Derived.WalkSmall
import Derived.ChangeKeysEq
import Derived.Deep.LoopGhost
import Derived.Deep.CutRange
import Derived.Deep.RegionLaw
import Derived.StillTailTactics
import Derived.OwnWalk
namespace Go.Proofs.Ytchdalicoafamaa
open Go.RowKit Base
set_option maxHeartbeats 2000000 in
theorem rlabove_any {w : World} {g n gf cf : Nat} {r : Nat → Nat} {f : Lat.Rel} (h : RIn w g n gf cf r f) (h8 : n ≤ 8) {a : Int} {P : Nat → Bool} (hP : ∀ b : Nat, b < n → Lat.flowsR n f a (b : Int) = P b) :
    Calls Try.prog 26 #[.pointer (some ⟨g, 0, none⟩), .int .i64 a] w fun e w' => ∃ v, e = .returned v ∧ w'.ownsRow w.heap.size 3 1 v ((List.range n).filter P).length (((List.range n).filter P).map iv) ∧ Below w.heap.size w w' := by
  obtain ⟨i0, hi, hz0, hz1, hz2⟩ := info_parts infoInt
  have HP := Lib.hid hP
  clear hP
  have hgl := h.ltg
  go_enter Try.func26, Try.ntmps26
  go_wp2_with fail
  have hb0 := (Below.refl w.heap.size w).alloc (Nat.le_refl _) (.cells #[] 3)
  have ho0 : (w.alloc (.cells #[] 3)).ownsRow w.heap.size 3 1 (.slice (some ⟨w.heap.size, 0, none⟩) 0 0) 0 [] := World.ownsRow_made w #[] 0 (Nat.le_refl _) (Nat.zero_le _) rfl
  generalize w.alloc (.cells #[] 3) = w0 at *
  go_loopw [5, 6] (fun v i wr => ∃ k : Nat, k ≤ n ∧ i = .int .i64 k ∧ wr.ownsRow w.heap.size 3 1 v ((List.range k).filter P).length (((List.range k).filter P).map iv) ∧ Below w.heap.size w wr) (fun _ i _ => n - (intOf i).toNat)
  case atStart => exact ⟨0, Nat.zero_le _, rfl, ho0, hb0⟩
  case round =>
    clear ho0 hb0
    obtain ⟨k, hk, rfl, hown, hbel⟩ := hrel
    have hr := h.below hbel (Nat.le_refl _)
    have c0 := hr.num
    by_cases hlt : k < n
    · have hlt' : (k : Int) < n := by omega
      obtain ⟨q, hq⟩ : ∃ q, P k = q := ⟨_, rfl⟩
      have hfl := Lib.hid ((HP.out k hlt).trans hq)
      have hle : ((List.range k).filter P).length ≤ k := by
        have := List.length_filter_le P (List.range k)
        simpa using this
      have HS : Hid ((List.range (k + 1)).filter P = (List.range k).filter P ++ (if q = true then [k] else [])) := by
        show _ = _
        rw [List.range_succ, List.filter_append]
        cases q <;> simp [hq]
      clear hq
      cases q with
      | true =>
        go_wp2_with fail
        refine (rlflows_any hr hfl.out).mono ?_
        rintro e w' ⟨rfl, rfl⟩
        have hbs := hbel.size
        go_wp2_with (at_builtin; refine wpList_append_own _ rfl (.tmp 20) (.tmp 22) 43 rfl w.heap.size 3 i0 (.int .i64 0) 1 8 Try.underlying43 hi hz0 hz1 hz2 rfl (by decide) _ _ _ rfl (hown.alloc _) ⟨wr.heap.size, 0, none⟩ 1 1 [iv k] rfl rfl ?c1 ?c2 ?c3 ?c4 ?c5 ?_)
        case c1 => exact cell_one_new _ _ _
        case c2 => exact one_cell _ rfl
        case c3 => unfold maxLen; omega
        case c4 => omega
        case c5 => simp; omega
        intro v' w2 hown' hgrow _
        have hbel' : Below w.heap.size w w2 := (hbel.alloc hbel.size _).grown hgrow (by simp; omega) (fun g' hg' => (hown.lt g' hg').1)
        have hown2 : w2.ownsRow w.heap.size 3 1 v' ((List.range (k + 1)).filter P).length (((List.range (k + 1)).filter P).map iv) := by
          have e := HS.out
          simp only [if_true] at e
          rw [e, List.length_append, List.map_append]
          exact hown'
        clear hown hgrow hbel hown' hr c0
        go_wp2
        go_roundw
        case rel => exact ⟨k + 1, by omega, by go_num, hown2, hbel'⟩
        case measure => simp [intOf]; omega
      | false =>
        go_wp2_with fail
        refine (rlflows_any hr hfl.out).mono ?_
        rintro e w' ⟨rfl, rfl⟩
        go_wp2_with fail
        go_roundw
        case rel => exact ⟨k + 1, by omega, by go_num, by rw [HS.out]; simpa using hown, hbel⟩
        case measure => simp [intOf]; omega
    · obtain rfl : k = n := by omega
      have hlt' : ¬ ((k : Int) < k) := by omega
      go_wp2
      go_ret
      exact ⟨_, rfl, hown, hbel⟩
set_option maxHeartbeats 2000000 in
theorem rlbelow_any {w : World} {g n gf cf : Nat} {r : Nat → Nat} {f : Lat.Rel} (h : RIn w g n gf cf r f) (h8 : n ≤ 8) {a : Int} {P : Nat → Bool} (hP : ∀ b : Nat, b < n → Lat.flowsR n f (b : Int) a = P b) :
    Calls Try.prog 27 #[.pointer (some ⟨g, 0, none⟩), .int .i64 a] w fun e w' => ∃ v, e = .returned v ∧ w'.ownsRow w.heap.size 3 1 v ((List.range n).filter P).length (((List.range n).filter P).map iv) ∧ Below w.heap.size w w' := by
  obtain ⟨i0, hi, hz0, hz1, hz2⟩ := info_parts infoInt
  have HP := Lib.hid hP
  clear hP
  have hgl := h.ltg
  go_enter Try.func27, Try.ntmps27
  go_wp2_with fail
  have hb0 := (Below.refl w.heap.size w).alloc (Nat.le_refl _) (.cells #[] 3)
  have ho0 : (w.alloc (.cells #[] 3)).ownsRow w.heap.size 3 1 (.slice (some ⟨w.heap.size, 0, none⟩) 0 0) 0 [] := World.ownsRow_made w #[] 0 (Nat.le_refl _) (Nat.zero_le _) rfl
  generalize w.alloc (.cells #[] 3) = w0 at *
  go_loopw [5, 6] (fun v i wr => ∃ k : Nat, k ≤ n ∧ i = .int .i64 k ∧ wr.ownsRow w.heap.size 3 1 v ((List.range k).filter P).length (((List.range k).filter P).map iv) ∧ Below w.heap.size w wr) (fun _ i _ => n - (intOf i).toNat)
  case atStart => exact ⟨0, Nat.zero_le _, rfl, ho0, hb0⟩
  case round =>
    clear ho0 hb0
    obtain ⟨k, hk, rfl, hown, hbel⟩ := hrel
    have hr := h.below hbel (Nat.le_refl _)
    have c0 := hr.num
    by_cases hlt : k < n
    · have hlt' : (k : Int) < n := by omega
      obtain ⟨q, hq⟩ : ∃ q, P k = q := ⟨_, rfl⟩
      have hfl := Lib.hid ((HP.out k hlt).trans hq)
      have hle : ((List.range k).filter P).length ≤ k := by
        have := List.length_filter_le P (List.range k)
        simpa using this
      have HS : Hid ((List.range (k + 1)).filter P = (List.range k).filter P ++ (if q = true then [k] else [])) := by
        show _ = _
        rw [List.range_succ, List.filter_append]
        cases q <;> simp [hq]
      clear hq
      cases q with
      | true =>
        go_wp2_with fail
        refine (rlflows_any hr hfl.out).mono ?_
        rintro e w' ⟨rfl, rfl⟩
        have hbs := hbel.size
        go_wp2_with (at_builtin; refine wpList_append_own _ rfl (.tmp 20) (.tmp 22) 43 rfl w.heap.size 3 i0 (.int .i64 0) 1 8 Try.underlying43 hi hz0 hz1 hz2 rfl (by decide) _ _ _ rfl (hown.alloc _) ⟨wr.heap.size, 0, none⟩ 1 1 [iv k] rfl rfl ?c1 ?c2 ?c3 ?c4 ?c5 ?_)
        case c1 => exact cell_one_new _ _ _
        case c2 => exact one_cell _ rfl
        case c3 => unfold maxLen; omega
        case c4 => omega
        case c5 => simp; omega
        intro v' w2 hown' hgrow _
        have hbel' : Below w.heap.size w w2 := (hbel.alloc hbel.size _).grown hgrow (by simp; omega) (fun g' hg' => (hown.lt g' hg').1)
        have hown2 : w2.ownsRow w.heap.size 3 1 v' ((List.range (k + 1)).filter P).length (((List.range (k + 1)).filter P).map iv) := by
          have e := HS.out
          simp only [if_true] at e
          rw [e, List.length_append, List.map_append]
          exact hown'
        clear hown hgrow hbel hown' hr c0
        go_wp2
        go_roundw
        case rel => exact ⟨k + 1, by omega, by go_num, hown2, hbel'⟩
        case measure => simp [intOf]; omega
      | false =>
        go_wp2_with fail
        refine (rlflows_any hr hfl.out).mono ?_
        rintro e w' ⟨rfl, rfl⟩
        go_wp2_with fail
        go_roundw
        case rel => exact ⟨k + 1, by omega, by go_num, by rw [HS.out]; simpa using hown, hbel⟩
        case measure => simp [intOf]; omega
    · obtain rfl : k = n := by omega
      have hlt' : ¬ ((k : Int) < k) := by omega
      go_wp2
      go_ret
      exact ⟨_, rfl, hown, hbel⟩
set_option maxHeartbeats 2000000 in
theorem rltop_any {w : World} {g n gf cf : Nat} {r : Nat → Nat} {f : Lat.Rel} (h : RIn w g n gf cf r f) (h8 : n ≤ 8) {p : Nat → Bool} {v : Int} (hp : ∀ a : Nat, a < n → decide (((List.range n).filter fun b : Nat => Lat.flowsR n f (b : Int) (a : Int)).length = n) = p a) (hv : ((List.range n).find? p).elim (-1) (fun c : Nat => (c : Int)) = v) :
    Calls Try.prog 29 #[.pointer (some ⟨g, 0, none⟩)] w fun e w' => e = .returned (.int .i64 v) ∧ Below w.heap.size w w' := by
  have HP := Lib.hid hp
  have HV := Lib.hid hv
  clear hp hv
  go_enter Try.func29, Try.ntmps29
  go_wp2_with fail
  go_loopw [3] (fun i wr => ∃ k : Nat, k ≤ n ∧ i = .int .i64 k ∧ Below w.heap.size w wr ∧ Hid (∀ c, c < k → p c = false)) (fun i _ => n - (intOf i).toNat)
  case atStart => exact ⟨0, Nat.zero_le _, rfl, Below.refl _ _, fun c hc => absurd hc (Nat.not_lt_zero _)⟩
  case round =>
    obtain ⟨k, hk, rfl, hbel, hno⟩ := hrel
    have hr := h.below hbel (Nat.le_refl _)
    have c0 := hr.num
    by_cases hlt : k < n
    · have hlt' : (k : Int) < n := by omega
      obtain ⟨L, hL⟩ : ∃ L, (List.range n).filter (fun b : Nat => Lat.flowsR n f (b : Int) (k : Int)) = L := ⟨_, rfl⟩
      have hpk := HP.out k hlt
      rw [hL] at hpk
      replace hL := Lib.hid hL
      have cd : wr.drew.cell? ⟨g, 0, none⟩ = some (.int .i64 (n : Int)) := c0
      have hbs := hbel.size
      go_upto_region 4 with fail
      go_cut [15, 20] from 4 to 21 (fun s15 s20 wx => s20 = .bool (decide (L.length = n)) ∧ Below w.heap.size w wx)
      case first =>
        have hn8 : (L.length : Int) = (L.length : Int) := rfl
        have ht : ((L.length : Int) == (n : Int)) = decide (L.length = n) := by
          rw [Bool.eq_iff_iff, beq_iff_eq, decide_eq_true_eq]
          omega
        go_region_law (first
          | (go_simp
             go_at_call 27
             refine (rlbelow_any hr.drew h8 (fun b hb => rfl)).mono ?_
             rintro e w2 ⟨v2, rfl, hown, hb2⟩
             rw [hL.out] at hown
             obtain ⟨ao, c2, rfl, _, _⟩ := ints_of_owns hown
             have cd2 : w2.cell? ⟨g, 0, none⟩ = some (.int .i64 (n : Int)) := (hb2.cell (p := ⟨g, 0, none⟩) hr.ltg).trans c0
             have hb3 := hbel.trans ((show Below wr.heap.size wr w2 from ⟨hb2.os, hb2.tape, hb2.output, hb2.size, hb2.block⟩).mono hbs)
             clear hown hb2))
        all_goals
          go_wp2_with fail
          go_meet
          case rel => exact ⟨by rw [hpk], hb3⟩
      case rest =>
        obtain ⟨rfl, hb3⟩ := hcut
        rw [hpk]
        clear hr c0 cd hbel
        obtain ⟨q, hq⟩ : ∃ q, p k = q := ⟨_, rfl⟩
        cases q with
        | true =>
          have HE : Hid (((List.range n).find? p).elim (-1) (fun c : Nat => (c : Int)) = (k : Int)) := by
            have : (List.range n).find? p = some k := by
              rw [List.find?_range_eq_some]
              exact ⟨hq, by simpa using hlt, fun c hc => by simpa using hno.out c hc⟩
            show _ = _
            rw [this]
            rfl
          rw [hq]
          clear hq
          go_wp2_with fail
          go_ret
          exact ⟨ret_int (HE.out.symm.trans HV.out), hb3⟩
        | false =>
          have HN : Hid (∀ c, c < k + 1 → p c = false) := fun c hc => by
            by_cases e : c = k
            · rw [e]; exact hq
            · exact hno.out c (by omega)
          rw [hq]
          clear hq
          go_wp2_with fail
          go_roundw
          case rel => exact ⟨k + 1, by omega, by go_num, hb3, HN⟩
          case measure => simp [intOf]; omega
    · obtain rfl : k = n := by omega
      have hlt' : ¬ ((k : Int) < k) := by omega
      have HE : Hid (((List.range k).find? p).elim (-1) (fun c : Nat => (c : Int)) = -1) := by
        have : (List.range k).find? p = none := by
          rw [List.find?_eq_none]
          intro c hc
          rw [hno.out c (List.mem_range.1 hc)]
          decide
        show _ = _
        rw [this]
        rfl
      go_wp2
      go_ret
      exact ⟨ret_int (HE.out.symm.trans HV.out), hbel⟩
set_option maxHeartbeats 2000000 in
theorem rlbottom_any {w : World} {g n gf cf : Nat} {r : Nat → Nat} {f : Lat.Rel} (h : RIn w g n gf cf r f) (h8 : n ≤ 8) {p : Nat → Bool} {v : Int} (hp : ∀ a : Nat, a < n → decide (((List.range n).filter fun b : Nat => Lat.flowsR n f (a : Int) (b : Int)).length = n) = p a) (hv : ((List.range n).find? p).elim (-1) (fun c : Nat => (c : Int)) = v) :
    Calls Try.prog 30 #[.pointer (some ⟨g, 0, none⟩)] w fun e w' => e = .returned (.int .i64 v) ∧ Below w.heap.size w w' := by
  have HP := Lib.hid hp
  have HV := Lib.hid hv
  clear hp hv
  go_enter Try.func30, Try.ntmps30
  go_wp2_with fail
  go_loopw [3] (fun i wr => ∃ k : Nat, k ≤ n ∧ i = .int .i64 k ∧ Below w.heap.size w wr ∧ Hid (∀ c, c < k → p c = false)) (fun i _ => n - (intOf i).toNat)
  case atStart => exact ⟨0, Nat.zero_le _, rfl, Below.refl _ _, fun c hc => absurd hc (Nat.not_lt_zero _)⟩
  case round =>
    obtain ⟨k, hk, rfl, hbel, hno⟩ := hrel
    have hr := h.below hbel (Nat.le_refl _)
    have c0 := hr.num
    by_cases hlt : k < n
    · have hlt' : (k : Int) < n := by omega
      obtain ⟨L, hL⟩ : ∃ L, (List.range n).filter (fun b : Nat => Lat.flowsR n f (k : Int) (b : Int)) = L := ⟨_, rfl⟩
      have hpk := HP.out k hlt
      rw [hL] at hpk
      replace hL := Lib.hid hL
      have cd : wr.drew.cell? ⟨g, 0, none⟩ = some (.int .i64 (n : Int)) := c0
      have hbs := hbel.size
      go_upto_region 4 with fail
      go_cut [15, 20] from 4 to 21 (fun s15 s20 wx => s20 = .bool (decide (L.length = n)) ∧ Below w.heap.size w wx)
      case first =>
        have hn8 : (L.length : Int) = (L.length : Int) := rfl
        have ht : ((L.length : Int) == (n : Int)) = decide (L.length = n) := by
          rw [Bool.eq_iff_iff, beq_iff_eq, decide_eq_true_eq]
          omega
        go_region_law (first
          | (go_simp
             go_at_call 26
             refine (rlabove_any hr.drew h8 (fun b hb => rfl)).mono ?_
             rintro e w2 ⟨v2, rfl, hown, hb2⟩
             rw [hL.out] at hown
             obtain ⟨ao, c2, rfl, _, _⟩ := ints_of_owns hown
             have cd2 : w2.cell? ⟨g, 0, none⟩ = some (.int .i64 (n : Int)) := (hb2.cell (p := ⟨g, 0, none⟩) hr.ltg).trans c0
             have hb3 := hbel.trans ((show Below wr.heap.size wr w2 from ⟨hb2.os, hb2.tape, hb2.output, hb2.size, hb2.block⟩).mono hbs)
             clear hown hb2))
        all_goals
          go_wp2_with fail
          go_meet
          case rel => exact ⟨by rw [hpk], hb3⟩
      case rest =>
        obtain ⟨rfl, hb3⟩ := hcut
        rw [hpk]
        clear hr c0 cd hbel
        obtain ⟨q, hq⟩ : ∃ q, p k = q := ⟨_, rfl⟩
        cases q with
        | true =>
          have HE : Hid (((List.range n).find? p).elim (-1) (fun c : Nat => (c : Int)) = (k : Int)) := by
            have : (List.range n).find? p = some k := by
              rw [List.find?_range_eq_some]
              exact ⟨hq, by simpa using hlt, fun c hc => by simpa using hno.out c hc⟩
            show _ = _
            rw [this]
            rfl
          rw [hq]
          clear hq
          go_wp2_with fail
          go_ret
          exact ⟨ret_int (HE.out.symm.trans HV.out), hb3⟩
        | false =>
          have HN : Hid (∀ c, c < k + 1 → p c = false) := fun c hc => by
            by_cases e : c = k
            · rw [e]; exact hq
            · exact hno.out c (by omega)
          rw [hq]
          clear hq
          go_wp2_with fail
          go_roundw
          case rel => exact ⟨k + 1, by omega, by go_num, hb3, HN⟩
          case measure => simp [intOf]; omega
    · obtain rfl : k = n := by omega
      have hlt' : ¬ ((k : Int) < k) := by omega
      have HE : Hid (((List.range k).find? p).elim (-1) (fun c : Nat => (c : Int)) = -1) := by
        have : (List.range k).find? p = none := by
          rw [List.find?_eq_none]
          intro c hc
          rw [hno.out c (List.mem_range.1 hc)]
          decide
        show _ = _
        rw [this]
        rfl
      go_wp2
      go_ret
      exact ⟨ret_int (HE.out.symm.trans HV.out), hbel⟩
/-- does something stand between, or is it no pair at all? -/
def Lat.betwP (f : Lat.Rel) (a b c : Nat) : Bool := (decide (c ≠ a) && decide (c ≠ b)) && (f a c && f c b)
def Lat.betw (f : Lat.Rel) (a b k : Nat) : Bool := (decide (a = b) || !f a b) || (List.range k).any (Lat.betwP f a b)
theorem Lat.betw_next (f : Lat.Rel) (a b k : Nat) : Lat.betw f a b (k + 1) = (Lat.betw f a b k || Lat.betwP f a b k) := by
  unfold Lat.betw
  rw [List.range_succ, List.any_append, ← Bool.or_assoc]
  simp
set_option maxHeartbeats 20000000 in
set_option maxRecDepth 8000 in
theorem rlpairs_any {w : World} {g n gf cf : Nat} {r : Nat → Nat} {f : Lat.Rel} {u d : Nat → BitVec 8} (h : RIn w g n gf cf r f) (h8 : n ≤ 8) (hP : ∀ a b : Nat, a < n → b < n → Lat.betw f a b n = !Lat.pairB u d a b) :
    Calls Try.prog 31 #[.pointer (some ⟨g, 0, none⟩)] w fun e w' => ∃ v, e = .returned v ∧ w'.ownsRow w.heap.size 33 2 v (Lat.pairsTo n u d n).length ((Lat.pairsTo n u d n).flatMap pv) ∧ Below w.heap.size w w' := by
  obtain ⟨i0, hi, hz0, hz1, hz2⟩ := info_parts infoPair
  have HP := Lib.hid hP
  clear hP
  go_enter Try.func31, Try.ntmps31
  go_wp2_with fail
  have hb0 := (Below.refl w.heap.size w).alloc (Nat.le_refl _) (.cells #[] 33)
  have ho0 : (w.alloc (.cells #[] 33)).ownsRow w.heap.size 33 2 (.slice (some ⟨w.heap.size, 0, none⟩) 0 0) 0 [] := World.ownsRow_made w #[] 0 (Nat.le_refl _) (Nat.zero_le _) rfl
  generalize w.alloc (.cells #[] 33) = w0 at *
  go_loopw [3, 4] (fun v i wr => ∃ a : Nat, a ≤ n ∧ i = .int .i64 a ∧ wr.ownsRow w.heap.size 33 2 v (Lat.pairsTo n u d a).length ((Lat.pairsTo n u d a).flatMap pv) ∧ Below w.heap.size w wr) (fun _ i _ => n - (intOf i).toNat)
  case atStart => exact ⟨0, Nat.zero_le _, rfl, ho0, hb0⟩
  case round =>
    clear ho0 hb0
    obtain ⟨a, ha, rfl, hown, hbel⟩ := hrel
    have hr := h.below hbel (Nat.le_refl _)
    have c0 := hr.num
    by_cases hlt : a < n
    · have hlt' : (a : Int) < n := by omega
      have hL0 : Hid (Lat.pairsTo n u d a ++ Lat.rowPairs u d a 0 = Lat.pairsTo n u d a) := by show _ = _; simp [Lat.rowPairs]
      go_wp2_with fail
      obtain ⟨wo, rfl⟩ : ∃ wo : World, wo = wr := ⟨_, rfl⟩
      go_loopw [3, 5] (fun v i wr3 => ∃ b : Nat, b ≤ n ∧ i = .int .i64 b ∧ wr3.ownsRow w.heap.size 33 2 v (Lat.pairsTo n u d a ++ Lat.rowPairs u d a b).length ((Lat.pairsTo n u d a ++ Lat.rowPairs u d a b).flatMap pv) ∧ Below w.heap.size w wr3) (fun _ i _ => n - (intOf i).toNat)
      case atStart => exact ⟨0, Nat.zero_le _, rfl, by rw [hL0.out]; exact hown, hbel⟩
      case round =>
        clear hown hbel hr c0 hL0
        obtain ⟨b, hb, rfl, hown, hbel⟩ := hrel
        have hr := h.below hbel (Nat.le_refl _)
        have c0 := hr.num
        by_cases hltb : b < n
        · have hltb' : (b : Int) < n := by omega
          have hle1 := Lat.pairsTo_le n u d a
          have hle2 := Lat.rowPairs_le u d a b
          have hmul : a * n ≤ 64 := Nat.le_trans (Nat.mul_le_mul (show a ≤ 8 by omega) h8) (by omega)
          have hll : (Lat.pairsTo n u d a ++ Lat.rowPairs u d a b).length ≤ 72 := by rw [List.length_append]; omega
          have d1 := hr.tab
          have d2 := hr.row a hlt
          have d4 := hr.bit a b hlt hltb
          have HB0 : Hid (Lat.betw f a b 0 = (decide (a = b) || !f a b)) := by show _ = _; unfold Lat.betw; simp
          obtain ⟨fab, hfab⟩ : ∃ q, f a b = q := ⟨_, rfl⟩
          rw [hfab] at d4
          replace HB0 := Lib.hid (HB0.out.trans (by rw [hfab]))
          replace hfab := Lib.hid hfab
          have hpr := HP.out a b hlt hltb
          go_upto_region 8 with fail
          go_cut [6] from 17 to 91 (fun s6 wx => s6 = .bool (Lat.betw f a b 0) ∧ wx = wr)
          case first =>
            by_cases hab : a = b
            · have t0 : ((a : Int) == (b : Int)) = true := by rw [hab]; exact beq_self_eq_true _
              replace HB0 := Lib.hid (HB0.out.trans (by rw [decide_eq_true hab, Bool.true_or]))
              clear hab
              go_wp2_with fail
              go_meet
              case rel => exact ⟨by rw [HB0.out], rfl⟩
            · have t0 : ((a : Int) == (b : Int)) = false := by rw [beq_eq_false_iff_ne]; omega
              replace HB0 := Lib.hid (HB0.out.trans (by rw [decide_eq_false hab, Bool.false_or]))
              clear hab
              cases fab with
              | true =>
                go_wp2_with fail
                go_meet
                case rel => exact ⟨by rw [HB0.out]; rfl, rfl⟩
              | false =>
                go_wp2_with fail
                go_meet
                case rel => exact ⟨by rw [HB0.out]; rfl, rfl⟩
          case rest =>
            obtain ⟨rfl, hwc⟩ := hcut
            subst hwc
            clear d4 HB0 hfab
            obtain ⟨wz, hwz⟩ : ∃ wz : World, wz = wc := ⟨_, rfl⟩
            obtain ⟨m0, hm0⟩ : ∃ q, Lat.betw f a b 0 = q := ⟨_, rfl⟩
            have HM0 := Lib.hid hm0
            rw [hm0]
            clear hm0
            go_wp2_with fail
            go_loopw [6, 7] (fun s i wx => ∃ k : Nat, k ≤ n ∧ i = .int .i64 k ∧ ∃ m, s = .bool m ∧ Hid (Lat.betw f a b k = m) ∧ wx = wz) (fun _ i _ => n - (intOf i).toNat)
            case atStart => exact ⟨0, Nat.zero_le _, rfl, m0, rfl, HM0, hwz.symm⟩
            case round =>
              subst hwz
              obtain ⟨k, hk, rfl, m, rfl, hm, hwx⟩ := hrel
              subst hwx
              clear HM0
              by_cases hltk : k < n
              · have hltk' : (k : Int) < n := by omega
                have d3 := hr.row k hltk
                have d5 := hr.bit a k hlt hltk
                have d6 := hr.bit k b hltk hltb
                have HN := Lib.hid (Lat.betw_next f a b k)
                replace HN := Lib.hid (HN.out.trans (by rw [hm.out]))
                have HQ : Hid (Lat.betwP f a b k = ((decide (k ≠ a) && decide (k ≠ b)) && (f a k && f k b))) := rfl
                obtain ⟨p, hp⟩ : ∃ q, f a k = q := ⟨_, rfl⟩
                obtain ⟨q, hq⟩ : ∃ q, f k b = q := ⟨_, rfl⟩
                rw [hp] at d5
                rw [hq] at d6
                replace HQ := Lib.hid (HQ.out.trans (by rw [hp, hq]))
                clear hp hq
                cases m with
                | true =>
                  clear d5 d6
                  go_wp2_with fail
                  go_roundw
                  case rel => exact ⟨k + 1, by omega, by go_num, true, rfl, by show _ = _; rw [HN.out]; rfl, by trivial⟩
                  case measure => simp [intOf]; omega
                | false =>
                  by_cases hka : k = a
                  · have t1 : ((k : Int) != (a : Int)) = false := by rw [hka]; exact bne_self_eq_false _
                    replace HQ := Lib.hid (HQ.out.trans (by rw [decide_eq_false (fun h => h hka), Bool.false_and, Bool.false_and]))
                    clear hka d5 d6
                    go_wp2_with fail
                    go_roundw
                    case rel => exact ⟨k + 1, by omega, by go_num, false, rfl, by show _ = _; rw [HN.out, HQ.out]; rfl, by trivial⟩
                    case measure => simp [intOf]; omega
                  · have t1 : ((k : Int) != (a : Int)) = true := by rw [bne_iff_ne]; omega
                    by_cases hkb : k = b
                    · have t2 : ((k : Int) != (b : Int)) = false := by rw [hkb]; exact bne_self_eq_false _
                      replace HQ := Lib.hid (HQ.out.trans (by rw [decide_eq_false (p := k ≠ b) (fun h => h hkb), Bool.and_false, Bool.false_and]))
                      clear hka hkb d5 d6
                      go_wp2_with fail
                      go_roundw
                      case rel => exact ⟨k + 1, by omega, by go_num, false, rfl, by show _ = _; rw [HN.out, HQ.out]; rfl, by trivial⟩
                      case measure => simp [intOf]; omega
                    · have t2 : ((k : Int) != (b : Int)) = true := by rw [bne_iff_ne]; omega
                      replace HQ := Lib.hid (HQ.out.trans (by rw [decide_eq_true (p := k ≠ a) hka, decide_eq_true (p := k ≠ b) hkb, Bool.true_and, Bool.true_and]))
                      clear hka hkb
                      cases p with
                      | false =>
                        clear d6
                        go_wp2_with fail
                        go_roundw
                        case rel => exact ⟨k + 1, by omega, by go_num, false, rfl, by show _ = _; rw [HN.out, HQ.out]; rfl, by trivial⟩
                        case measure => simp [intOf]; omega
                      | true =>
                        cases q with
                        | false =>
                          go_wp2_with fail
                          go_roundw
                          case rel => exact ⟨k + 1, by omega, by go_num, false, rfl, by show _ = _; rw [HN.out, HQ.out]; rfl, by trivial⟩
                          case measure => simp [intOf]; omega
                        | true =>
                          go_wp2_with fail
                          go_roundw
                          case rel => exact ⟨k + 1, by omega, by go_num, true, rfl, by show _ = _; rw [HN.out, HQ.out]; rfl, by trivial⟩
                          case measure => simp [intOf]; omega
              · obtain rfl : k = n := by omega
                have hltk' : ¬ ((k : Int) < k) := by omega
                rw [hm.out] at hpr
                clear d1 d2
                cases hp : Lat.pairB u d a b with
                | true =>
                  rw [hp] at hpr
                  subst hpr
                  have HR := Lib.hid (Lat.rowPairs_yes hp)
                  clear hp hm hr c0
                  have hbs := hbel.size
                  generalize hLL : Lat.pairsTo k u d a ++ Lat.rowPairs u d a b = L at *
                  have HLL := Lib.hid hLL
                  clear hLL
                  have cz := (h.below hbel (Nat.le_refl _)).num
                  go_wp2_with (at_builtin; refine wpList_append_own _ rfl (.tmp 86) (.tmp 90) 22 rfl w.heap.size 33 i0 (.agg #[.int .i64 0, .int .i64 0]) 2 16 Try.underlying22 hi hz0 hz1 hz2 rfl (by decide) _ _ _ rfl (hown.alloc _) ⟨wr.heap.size, 0, none⟩ 1 1 [iv a, iv b] rfl rfl ?c1 ?c2 ?c3 ?c4 ?c5 ?_)
                  case c1 => first | exact fun j u h => h | exact cell_two_new _ _ _ _
                  case c2 => exact ⟨rfl, rfl⟩
                  case c3 => unfold maxLen; omega
                  case c4 => omega
                  case c5 => first | omega | (simp; omega)
                  intro v' w3 hown' hgrow _
                  have hbel' : Below w.heap.size w w3 := (hbel.alloc hbel.size _).grown hgrow (by simp; omega) (fun g' hg' => (hown.lt g' hg').1)
                  have HN : Hid (Lat.pairsTo k u d a ++ Lat.rowPairs u d a (b + 1) = L ++ [(a, b)]) := by show _ = _; rw [HR.out, ← List.append_assoc, HLL.out]
                  have hown2 : w3.ownsRow w.heap.size 33 2 v' (L ++ [(a, b)]).length ((L ++ [(a, b)]).flatMap pv) := by
                    rw [List.length_append, List.flatMap_append]
                    exact hown'
                  clear hown hown' hgrow hbel cz
                  go_wp2
                  go_roundw
                  case rel => exact ⟨b + 1, by omega, by go_num, by rw [HN.out]; exact hown2, hbel'⟩
                  case measure => simp [intOf]; omega
                | false =>
                  rw [hp] at hpr
                  subst hpr
                  have HN : Hid (Lat.rowPairs u d a (b + 1) = Lat.rowPairs u d a b) := Lat.rowPairs_no hp
                  clear hp hm
                  go_wp2_with fail
                  go_roundw
                  case rel => exact ⟨b + 1, by omega, by go_num, by rw [HN.out]; exact hown, hbel⟩
                  case measure => simp [intOf]; omega
        · obtain rfl : b = n := by omega
          have hltb' : ¬ ((b : Int) < b) := by omega
          have HN : Hid (Lat.pairsTo b u d (a + 1) = Lat.pairsTo b u d a ++ Lat.rowPairs u d a b) := Lat.pairsTo_succ _ _ _ _
          go_wp2
          go_roundw
          case rel => exact ⟨a + 1, by omega, by go_num, by rw [HN.out]; exact hown, hbel⟩
          case measure => simp [intOf]; omega
    · obtain rfl : a = n := by omega
      have hlt' : ¬ ((a : Int) < a) := by omega
      go_wp2
      go_ret
      exact ⟨_, rfl, hown, hbel⟩
end Go.Proofs.Ytchdalicoafamaa
