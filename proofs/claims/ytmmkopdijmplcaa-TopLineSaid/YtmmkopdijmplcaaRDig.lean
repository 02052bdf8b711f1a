/-
  times, above and Root of the document's hash: for digits in memory and small numbers the calls return what they say.
-/
import Derived.Test.YtmmkopdijmplcaaRPlain
import Derived.Test.YtmmkopdijmplcaaHMac
import Derived.Laws.MakeOwn
import Derived.StillTailTactics
import Derived.Deep.QuietTactic
import Derived.BigQuiet
set_option linter.unusedVariables false
set_option maxRecDepth 100000
namespace Go.Proofs.Ytmmkopdijmplcaa.RH
open Go.RowKit Base HH
def u64c (n : Nat) : Value := .int .u64 (n : Int)
theorem bel_drewN {B : Nat} {w w1 : World} (h : Below B w w1) (n : Nat) : Below B w (w1.drewN n) := ⟨h.os, h.tape, h.output, h.size, h.block⟩
theorem infoU64 : (Try.prog.info? 111).map (fun i => (i.zero, i.size, i.bytes)) = some (some (.int .u64 0), 1, 8) := by kernel_rfl
/-- the slice's digits are ds, in a block that was there -/
def DigIn (w : World) (a : Addr) (len : Nat) (ds : List Nat) : Prop :=
  ds.length = len ∧ a.block < w.heap.size ∧ ∀ k, k < len → w.cell? (a.add k) = some (u64c (ds.getD k 0))
theorem add_blk (a : Addr) (k : Nat) : (a.add k).block = a.block := by unfold Addr.add; split <;> rfl
theorem DigIn.below {w w' : World} {B : Nat} {a : Addr} {len : Nat} {xs : List Nat} (h : DigIn w a len xs) (hb : Below B w w') (hB : w.heap.size ≤ B) : DigIn w' a len xs :=
  ⟨h.1, by have := hb.size; have := h.2.1; omega, fun k hk => (hb.cell (p := a.add k) (by have := h.2.1; rw [add_blk]; omega)).trans (h.2.2 k hk)⟩
theorem DigIn.at_ {w : World} {a : Addr} {len : Nat} {xs : List Nat} (h : DigIn w a len xs) {k : Nat} (hk : k < len) : w.cell? (a.add k) = some (.int .u64 (xs.getD k 0 : Nat)) := h.2.2 k hk
theorem DigIn.row {w : World} {g : Nat} {xs : List Nat} {rest : List Value} (h : Row w g 111 (xs.map u64c ++ rest)) : DigIn w ⟨g, 0, none⟩ xs.length xs :=
  ⟨rfl, h.lt, fun k hk => by
    rw [Addr.add_mid, Nat.zero_add]
    refine h.cell ?_
    rw [List.getElem?_append_left (by rw [List.length_map]; exact hk), List.getElem?_map, List.getElem?_eq_getElem hk, getD_is hk]
    rfl⟩
theorem digs_cell {w : World} {g : Nat} {xs : List Nat} (h : Row w g 111 (xs.map u64c)) {k : Nat} (hk : k < xs.length) : w.cell? ⟨g, k, none⟩ = some (.int .u64 (xs.getD k 0 : Nat)) := by
  refine h.cell ?_
  rw [List.getElem?_map, List.getElem?_eq_getElem hk, getD_is hk]
  rfl
theorem digs_set {w : World} {g : Nat} {xs : List Nat} (h : Row w g 111 (xs.map u64c)) (k d : Nat) : Row (w.setCell ⟨g, k, none⟩ (.int .u64 (d : Int))) g 111 ((xs.set k d).map u64c) := by
  have := h.set k (u64c d)
  rw [← List.map_set] at this
  exact this
set_option maxHeartbeats 4000000 in
theorem times_any {w : World} {a b : Addr} {la lb ca cb : Nat} {xs ys : List Nat} (ha : DigIn w a la xs) (hb : DigIn w b lb ys) (hsa : small xs) (hsb : small ys) (hla : la ≤ 100) (hlb : lb ≤ 100) :
    Calls Try.prog 84 #[.slice (some a) la ca, .slice (some b) lb cb] w fun e w' => ∃ ds, e = .returned (.slice (some ⟨w.heap.size, 0, none⟩) (la + lb) (la + lb)) ∧ DigIn w' ⟨w.heap.size, 0, none⟩ (la + lb) ds ∧ small ds ∧ valD ds = valD xs * valD ys ∧ Below w.heap.size w w' := by
  obtain ⟨i0, hi, hz0, hz1, hz2⟩ := info_parts infoU64
  have hal := ha.1
  have hbl := hb.1
  have hmk : (Instr.makeSlice 134 (.int .i64 ((la : Int) + lb)) (.int .i64 ((la : Int) + lb))).run Try.prog w = .ok (.slice (some ⟨w.heap.size, 0, none⟩) (la + lb) (la + lb)) (w.alloc (.cells ((List.replicate (xs.length + ys.length) 0).map u64c).toArray 111)) := by
    have h := run_make (P := Try.prog) w 134 111 i0 (.int .u64 0) Try.underlying134 hi hz0 .i64 .i64 ((la : Int) + lb) ((la : Int) + lb) (by omega) (Int.le_refl _) (by rw [hz2]; omega) (by omega)
    rw [h]
    have e : ((la : Int) + lb).toNat = la + lb := by omega
    rw [e, hz1, hal, hbl]
    have e2 : (madeCells (Value.int .u64 0).cells ((la + lb) * 1)) = ((List.replicate (la + lb) 0).map u64c).toArray := by
      apply Array.ext'
      rw [Nat.mul_one]
      have h3 := toList_madeCells_one (.int .u64 0) (la + lb)
      rw [List.map_replicate]
      exact h3
    rw [e2]
  have h0 := outer_start xs ys
  obtain ⟨g, hg⟩ : ∃ g, w.heap.size = g := ⟨_, rfl⟩
  have hR0 := Row.new w ((List.replicate (xs.length + ys.length) 0).map u64c) 111
  have hb0 := (Below.refl w.heap.size w).alloc (Nat.le_refl _) (.cells ((List.replicate (xs.length + ys.length) 0).map u64c).toArray 111)
  generalize List.replicate (xs.length + ys.length) 0 = out0 at *
  rw [hg] at hR0 hmk
  have hgW : w.heap.size ≤ g := by omega
  replace hg := Lib.hid hg
  go_enter Try.func84, Try.ntmps84
  go_wp2_with fail
  generalize w.alloc (.cells (out0.map u64c).toArray 111) = w1 at *
  clear hmk
  go_loopw [6, 7, 8] (fun vi _ _ wr => ∃ (i : Nat) (out : List Nat), i ≤ la ∧ vi = .int .i64 i ∧ Outer xs ys i out ∧ Row wr g 111 (out.map u64c) ∧ Below w.heap.size w wr) (fun vi _ _ _ => la - (intOf vi).toNat)
  case atStart => exact ⟨0, out0, Nat.zero_le _, rfl, h0, hR0, hb0⟩
  case round =>
    clear h0 hR0 hb0
    obtain ⟨i, out1, hia, rfl, hO, hR, hbw⟩ := hrel
    have hbs := hbw.size
    by_cases hlt : i < la
    · have hlt' : (i : Int) < la := by omega
      obtain ⟨V0, hV0⟩ : ∃ V, valD out1 = V := ⟨_, rfl⟩
      have hI0 := inner_start hO
      rw [hV0] at hI0
      have hO1 := Lib.hid hO
      replace hV0 := Lib.hid hV0
      replace hal := Lib.hid hal
      replace hbl := Lib.hid hbl
      clear hO
      go_wp2_with fail
      obtain ⟨wo, hwo⟩ : ∃ wo : World, wo = wr := ⟨_, rfl⟩
      subst hwo
      go_loopw [7, 8] (fun vc vk wr => ∃ (k c : Nat) (out : List Nat), k ≤ lb ∧ vk = .int .i64 k ∧ vc = .int .u64 c ∧ Inner xs ys i k V0 out c ∧ Row wr g 111 (out.map u64c) ∧ Below w.heap.size w wr) (fun _ vk _ => lb - (intOf vk).toNat)
      case atStart => exact ⟨0, 0, out1, Nat.zero_le _, rfl, rfl, hI0, hR, hbw⟩
      case round =>
        clear hI0 hR hbw hbs
        obtain ⟨k, c, out, hkb, rfl, rfl, hI, hR, hbw⟩ := hrel
        by_cases hkl : k < lb
        · have hkl' : (k : Int) < lb := by omega
          have hol : out.length = la + lb := by rw [hI.1, hal.out, hbl.out]
          obtain ⟨hS1, hI2⟩ := inner_step hsa hsb (by rw [hal.out]; exact hlt) (by rw [hbl.out]; exact hkl) hI
          have co := digs_cell hR (k := i + k) (by omega)
          have fo := hR.free (i + k)
          have ca := (ha.below hbw (Nat.le_refl _)).at_ hlt
          have cb := (hb.below hbw (Nat.le_refl _)).at_ hkl
          have ox := small_getD hI.2.1 (i + k)
          have ax := small_getD hsa i
          have bx := small_getD hsb k
          have hc16 := hI.2.2.1
          have hR2 := digs_set hR (i + k)
          have hab : xs.getD i 0 * ys.getD k 0 ≤ 65535 * 65535 := Nat.mul_le_mul (by omega) (by omega)
          obtain ⟨xy, hxy⟩ : ∃ xy, xs.getD i 0 * ys.getD k 0 = xy := ⟨_, rfl⟩
          have hxy' : ((xs.getD i 0 : Nat) : Int) * ((ys.getD k 0 : Nat) : Int) = (xy : Int) := by rw [← hxy, Int.natCast_mul]
          rw [hxy] at hS1 hI2 hab
          generalize out.getD (i + k) 0 = o at *
          generalize xs.getD i 0 = x at *
          generalize ys.getD k 0 = y at *
          replace hxy := Lib.hid hxy
          obtain ⟨S, hS⟩ : ∃ S, c + (o + xy) = S := ⟨_, rfl⟩
          rw [hS] at hS1 hI2
          have hSi : (c : Int) + ((o : Int) + (xy : Int)) = (S : Int) := by omega
          have hAnd : bits .and .u64 (S : Int) 65535 = ((S % 65536 : Nat) : Int) := by
            rw [show (65535 : Int) = ((65535 : Nat) : Int) from rfl, u64_and_nat _ _ (by omega) (by decide), show 65535 = 2 ^ 16 - 1 from rfl, Nat.and_two_pow_sub_one_eq_mod]
          replace hS := Lib.hid hS
          have hI3 := Lib.hid hI2
          have hol2 := Lib.hid hol
          clear hI2 hol
          have w1' : IntKind.i64.wrap ((i : Int) + (k : Int)) = (i : Int) + (k : Int) := IntWalk.i64_in _ (by omega)
          have w2' : (0 : Int) ≤ (i : Int) + (k : Int) := by omega
          have w3' : (i : Int) + (k : Int) < (la : Int) + (lb : Int) := by omega
          have w4' : ((i : Int) + (k : Int)).toNat = i + k := by omega
          clear hI hR2
          go_wp2_with fail
          go_quiet (fail)
          replace hR := hR.drewN nq
          replace hbw := (bel_drewN hbw nq)
          clear co fo ca cb
          have hR3 := digs_set hR (i + k) (S % 65536)
          have hb3 := hbw.setCell (p := ⟨g, i + k, none⟩) hgW (.int .u64 ((S % 65536 : Nat) : Int))
          generalize wr.drewN nq = wq at *
          have co := digs_cell hR (k := i + k) (by rw [hol2.out]; omega)
          have fo := hR.free (i + k)
          go_wp2_with fail
          go_roundw
          case rel => first | exact ⟨k + 1, S / 65536, _, by omega, by go_num, rfl, hI3.out, hR3, hb3⟩ | ((repeat apply Exists.intro); exact ⟨⟨k + 1, S / 65536, _, by omega, by go_num, rfl, hI3.out, hR3, hb3⟩, rfl⟩)
          case measure => simp [intOf]; omega
        · obtain rfl : k = lb := by omega
          have hkl' : ¬ (k : Int) < k := by omega
          have hI2 := hI
          rw [← hbl.out] at hI2
          have hV := hV0.out
          rw [← hV] at hI2
          have hO2 := Lib.hid (outer_step (by rw [hal.out]; exact hlt) hO1.out hI2)
          rw [hbl.out] at hO2
          have hol : out.length = la + k := by rw [hI.1, hal.out, hbl.out]
          have co := digs_cell hR (k := i + k) (by omega)
          have fo := hR.free (i + k)
          have hR3 := digs_set hR (i + k) c
          have hb3 := hbw.setCell (p := ⟨g, i + k, none⟩) hgW (.int .u64 (c : Int))
          have w1' : IntKind.i64.wrap ((i : Int) + (k : Int)) = (i : Int) + (k : Int) := IntWalk.i64_in _ (by omega)
          have w2' : (0 : Int) ≤ (i : Int) + (k : Int) := by omega
          have w3' : (i : Int) + (k : Int) < (la : Int) + (k : Int) := by omega
          have w4' : ((i : Int) + (k : Int)).toNat = i + k := by omega
          replace hol := Lib.hid hol
          clear hI hI2 hV
          generalize out.getD (i + k) 0 = o at *
          go_wp2_with fail
          go_roundw
          case rel => first | exact ⟨i + 1, _, by omega, by go_num, hO2.out, hR3, hb3⟩ | ((repeat apply Exists.intro); exact ⟨⟨i + 1, _, by omega, by go_num, hO2.out, hR3, hb3⟩, rfl⟩)
          case measure => simp [intOf]; omega
    · obtain rfl : i = la := by omega
      have hlt' : ¬ (i : Int) < i := by omega
      rw [← hal] at hO
      obtain ⟨e1, e2, e3⟩ := outer_end hO
      have hD : DigIn wr ⟨g, 0, none⟩ (i + lb) out1 := by
        have h := DigIn.row (rest := []) (by rw [List.append_nil]; exact hR)
        rw [e1, hal, hbl] at h
        exact h
      replace e1 := Lib.hid e1
      replace e3 := Lib.hid e3
      go_wp2_with fail
      go_ret
      exact ⟨by rw [hg.out]; rfl, out1, by rw [hg.out]; exact hD, e2, e3.out, hbw⟩
set_option maxHeartbeats 2000000 in
theorem above_any {w : World} {a : Addr} {len cap p n : Nat} {ds : List Nat} (hd : DigIn w a len ds) (hs : small ds) (hp : p < 65536) (hn : 2 * n < len) (hlen : len ≤ 100) {B : Bool} (hB : Hid (decide (p * 65536 ^ (2 * n) < valD ds) = B)) :
    Calls Try.prog 85 #[.slice (some a) len cap, .int .u64 p, .int .i64 n] w fun e w' => e = .returned (.bool B) ∧ w = w' := by
  have hdl := Lib.hid hd.1
  have htv := Lib.hid (tgt_val (p := p) hn)
  have hts := tgt_small (n := n) (len := len) hp
  go_enter Try.func85, Try.ntmps85
  go_wp2_with fail
  go_loop [7, 8] (fun vi _ => ∃ m : Nat, m ≤ len ∧ vi = .int .i64 ((m : Int) - 1) ∧ ∀ j, m ≤ j → ds.getD j 0 = (tgt p n len).getD j 0) (fun vi _ => (intOf vi + 1).toNat)
  case atStart => exact ⟨len, Nat.le_refl _, rfl, fun j hj => by
    rw [List.getD_eq_getElem?_getD, List.getD_eq_getElem?_getD, List.getElem?_eq_none (by rw [hdl.out]; exact hj), List.getElem?_eq_none (by rw [tgt_length]; exact hj)]⟩
  case round =>
    obtain ⟨m, hml, rfl, hup⟩ := hrel
    replace hup := Lib.hid hup
    cases m with
    | zero =>
      have h0 : ¬ (0 : Int) ≤ ((0 : Nat) : Int) - 1 := by omega
      have hBf : B = false := by
        rw [← hB.out, ← htv.out]
        have := all_same (a := ds) (b := tgt p n len) (by rw [hdl.out, tgt_length]) (fun j => hup.out j (Nat.zero_le _))
        rw [this]
        exact decide_eq_false (Nat.lt_irrefl _)
      subst hBf
      go_wp2_with fail
      go_ret
      exact ⟨rfl, rfl⟩
    | succ i =>
      have e : (((i + 1 : Nat) : Int) - 1) = (i : Int) := by omega
      rw [e]
      have hil : i < len := hml
      have hil' : (i : Int) < len := by omega
      have hi0 : (0 : Int) ≤ (i : Int) := by omega
      have c0 := hd.at_ hil
      have ht := tgt_at (p := p) (n := n) hil
      have dx := small_getD hs i
      have hdec := Lib.hid (decided (a := ds) (b := tgt p n len) (by rw [hdl.out, tgt_length]) hs hts (i := i) (by rw [hdl.out]; exact hil) (fun j hj => hup.out j hj))
      have hup2 : ds.getD i 0 = (tgt p n len).getD i 0 → Hid (∀ j, i ≤ j → ds.getD j 0 = (tgt p n len).getD j 0) := fun he => Lib.hid fun j hj => by
        rcases Nat.lt_or_ge i j with h1 | h1
        · exact hup.out j h1
        · obtain rfl : j = i := by omega
          exact he
      generalize hdd : ds.getD i 0 = d at *
      generalize htt : (tgt p n len).getD i 0 = t at *
      replace hdd := Lib.hid hdd
      replace htt := Lib.hid htt
      replace e := Lib.hid e
      have t64 : t < 65536 := by rw [ht]; split <;> omega
      have hret : Hid (d ≠ t → decide (t < d) = B) := by
        show _ → _
        intro hne
        rw [← hB.out, ← htv.out]
        have h1 := hdec.out hne
        by_cases h2 : t < d
        · rw [decide_eq_true h2, decide_eq_true (h1.1 h2)]
        · rw [decide_eq_false h2, decide_eq_false (fun h => h2 (h1.2 h))]
      replace hup2 := Lib.hid hup2
      by_cases h2n : i = 2 * n
      · rw [if_pos h2n] at ht
        have hb : ((i : Int) == 2 * (n : Int)) = true := by rw [beq_iff_eq]; omega
        subst ht
        replace h2n := Lib.hid h2n
        by_cases hne : d = t
        · have hq : ((d : Int) != (t : Int)) = false := by rw [bne_eq_false_iff_eq]; omega
          have hu := hup2.out hne
          replace hne := Lib.hid hne
          go_wp2_with fail
          go_round
          case rel => first | exact ⟨i, by omega, by go_num, hu.out⟩ | ((repeat apply Exists.intro); exact ⟨⟨i, by omega, by go_num, hu.out⟩, rfl⟩)
          case measure => simp [intOf] <;> omega
        · have hq : ((d : Int) != (t : Int)) = true := by rw [bne_iff_ne]; omega
          have hr := Lib.hid (hret.out hne)
          replace hne := Lib.hid hne
          go_wp2_with fail
          go_ret
          exact ⟨by rw [← hr.out]; rfl, rfl⟩
      · rw [if_neg h2n] at ht
        have hb : ((i : Int) == 2 * (n : Int)) = false := by rw [beq_eq_false_iff_ne]; omega
        subst ht
        replace h2n := Lib.hid h2n
        by_cases hne : d = 0
        · subst hne
          have hu := hup2.out rfl
          go_wp2_with fail
          go_round
          case rel => first | exact ⟨i, by omega, by go_num, hu.out⟩ | ((repeat apply Exists.intro); exact ⟨⟨i, by omega, by go_num, hu.out⟩, rfl⟩)
          case measure => simp [intOf] <;> omega
        · have hq : ((d : Int) != 0) = true := by rw [bne_iff_ne]; omega
          have hr := Lib.hid (hret.out hne)
          replace hne := Lib.hid hne
          go_wp2_with fail
          go_ret
          exact ⟨by rw [← hr.out]; rfl, rfl⟩
end Go.Proofs.Ytmmkopdijmplcaa.RH
