/-
  Rows of bits in memory; closed: whatever eight rows it is handed, the call returns what they come to by passing on what follows; no condition.
-/
import Derived.Test.YtchdalicoafamaaRows
import Derived.Test.YtchdalicoafamaaBase
import Derived.Test.YtchdalicoafamaaLat
import Derived.Deep.QuietTactic
import Derived.BigQuiet
import Derived.ChangeKeysEq
import Derived.Deep.LoopGhost
namespace Go.Proofs.Ytchdalicoafamaa
open Go.RowKit Base
/-! ### rows of bits in memory -/
abbrev v8 (x : BitVec 8) : Value := .int .u8 (x.toNat : Int)
def A8 (u : Nat → BitVec 8) : Array Value := #[v8 (u 0), v8 (u 1), v8 (u 2), v8 (u 3), v8 (u 4), v8 (u 5), v8 (u 6), v8 (u 7)]
/-- block b is the eight rows u -/
def Arr (w : World) (b : Nat) (u : Nat → BitVec 8) : Prop := w.heap[b]? = some (.cells (A8 u) 46 (0, 0))

theorem A8_get (u : Nat → BitVec 8) {a : Nat} (h : a < 8) : (A8 u)[a]? = some (v8 (u a)) := by
  match a, h with
  | 0, _ => rfl
  | 1, _ => rfl
  | 2, _ => rfl
  | 3, _ => rfl
  | 4, _ => rfl
  | 5, _ => rfl
  | 6, _ => rfl
  | 7, _ => rfl
theorem A8_set (u : Nat → BitVec 8) {a : Nat} (h : a < 8) (x : BitVec 8) : (A8 u).setIfInBounds a (v8 x) = A8 (Lat.upd u a x) := by
  match a, h with
  | 0, _ => rfl
  | 1, _ => rfl
  | 2, _ => rfl
  | 3, _ => rfl
  | 4, _ => rfl
  | 5, _ => rfl
  | 6, _ => rfl
  | 7, _ => rfl
section
variable {w w1 : World} {b : Nat} {u : Nat → BitVec 8}
theorem Arr.lt (h : Arr w b u) : b < w.heap.size := (Array.getElem?_eq_some_iff.1 h).1
theorem Arr.cell (h : Arr w b u) {a : Nat} (ha : a < 8) : w.cell? ⟨b, a, none⟩ = some (v8 (u a)) := by
  unfold Arr at h
  rw [World.cell?]
  simp [h, A8_get u ha]
theorem Arr.free (h : Arr w b u) (a : Nat) : w.frozen? ⟨b, a, none⟩ = false := by
  unfold Arr at h
  rw [World.frozen?]
  simp [h]
theorem Arr.set (h : Arr w b u) {a : Nat} (ha : a < 8) (x : BitVec 8) : Arr (w.setCell ⟨b, a, none⟩ (v8 x)) b (Lat.upd u a x) := by
  unfold Arr at h ⊢
  rw [← A8_set u ha]
  simp [World.setCell, Array.getElem?_modify, h]
theorem Arr.other (h : Arr w b u) {p : Addr} (hp : b ≠ p.block) (v : Value) : Arr (w.setCell p v) b u := (Below.heap_setCell w p v b hp).trans h
theorem Arr.drew (h : Arr w b u) : Arr w.drew b u := h
theorem Arr.drewN (h : Arr w b u) (n : Nat) : Arr (w.drewN n) b u := h
theorem Arr.alloc (h : Arr w b u) (o : Obj) : Arr (w.alloc o) b u := (Below.heap_alloc w o b h.lt).trans h
theorem Arr.below {B : Nat} (h : Arr w b u) (hb : Below B w w1) (hB : b < B) : Arr w1 b u := (hb.block b hB).trans h
end

/-- the operations on rows of eight bits -/
theorem or8 (x y : BitVec 8) : bits .or .u8 (x.toNat : Int) (y.toNat : Int) = ((x ||| y).toNat : Int) := by
  rw [u8_or_nat _ _ x.isLt y.isLt, BitVec.toNat_or]
theorem and8 (x y : BitVec 8) : bits .and .u8 (x.toNat : Int) (y.toNat : Int) = ((x &&& y).toNat : Int) := by
  rw [u8_and_nat _ _ x.isLt y.isLt, BitVec.toNat_and]
theorem bit8 (x : BitVec 8) (j : Nat) : bits .and .u8 ((x.toNat : Int) / 2 ^ j) (1 : Int) = if x.getLsbD j then 1 else 0 := by
  have h1 : (1 : Int) = ((1#8).toNat : Int) := rfl
  have h2 : ((x.toNat : Int) / 2 ^ j) = ((x >>> j).toNat : Int) := by
    rw [BitVec.toNat_ushiftRight, Nat.shiftRight_eq_div_pow]
    simp
  rw [h2, h1, and8]
  have e : (x >>> j) &&& 1#8 = if x.getLsbD j then 1#8 else 0#8 := by
    apply BitVec.eq_of_getLsbD_eq
    intro i hi
    rw [BitVec.getLsbD_and, BitVec.getLsbD_ushiftRight]
    rcases i with _ | i
    · cases x.getLsbD j <;> simp
    · cases x.getLsbD j <;> simp [BitVec.getLsbD_one]
  rw [e]
  cases x.getLsbD j <;> rfl
theorem bit8_yes {x : BitVec 8} {j : Nat} (h : x.getLsbD j = true) : (bits .and .u8 ((x.toNat : Int) / 2 ^ j) (1 : Int) == (1 : Int)) = true := by rw [bit8, h]; rfl
theorem bit8_no {x : BitVec 8} {j : Nat} (h : x.getLsbD j = false) : (bits .and .u8 ((x.toNat : Int) / 2 ^ j) (1 : Int) == (1 : Int)) = false := by rw [bit8, h]; rfl

/-- are the eight rows the same? -/
def eq8 (x v : Nat → BitVec 8) : Bool := (List.range 8).all fun i => decide (x i = v i)
theorem eq8_iff (x v : Nat → BitVec 8) : eq8 x v = true ↔ ∀ i, i < 8 → x i = v i := by
  unfold eq8
  rw [List.all_eq_true]
  simp
theorem infoU8 : (Try.prog.info? 5).map (fun i => (i.zero, i.size, i.bytes)) = some (some (.int .u8 0), 1, 1) := by kernel_rfl
theorem toNat_eq (a b : BitVec 8) : ((a.toNat : Int) == (b.toNat : Int)) = decide (a = b) := by
  rw [Bool.eq_iff_iff]
  simp only [beq_iff_eq, decide_eq_true_eq]
  constructor
  · intro h; exact BitVec.eq_of_toNat_eq (by omega)
  · intro h; rw [h]

theorem eqItems8 (x v : Nat → BitVec 8) (w : World) : ∀ (n k : Nat), n + k = 8 → (∀ i, i < k → x i = v i) →
    (Op.eqItems 9999 5 1 (A8 x) (A8 v) (List.range' k n)).run Try.prog w = .ok (eq8 x v) w
  | 0, k, hk, h => by
    have e : eq8 x v = true := by rw [eq8_iff]; intro i hi; exact h i (by omega)
    rw [e]
    rfl
  | n + 1, k, hk, h => by
    have hk8 : k < 8 := by omega
    have part8 : ∀ (u : Nat → BitVec 8), (part 5 (A8 u) (k * 1)).run Try.prog w = .ok (v8 (u k)) w := fun u => run_part_plain w (by kernel_rfl) (by rw [Nat.mul_one]; exact A8_get u hk8)
    rw [List.range'_succ, Op.eqItems]
    simp only [Sem.run_bind, part8, Result.andThen_ok]
    rw [run_equalIn_int w 9998 5 .u8 .u8 _ _ Try.underlying5, toNat_eq]
    simp only [Result.andThen_ok]
    by_cases e : x k = v k
    · simp only [e, decide_true, Bool.not_true, Bool.false_eq_true, if_false]
      exact eqItems8 x v w n (k + 1) (by omega) (fun i hi => by
        by_cases hi' : i = k
        · rw [hi', e]
        · exact h i (by omega))
    · have e2 : eq8 x v = false := by
        rw [← Bool.not_eq_true, eq8_iff]
        exact fun h2 => e (h2 k hk8)
      rw [e2]
      simp [e]
theorem eq_arr (x v : Nat → BitVec 8) (w : World) : (Op.equalIn 10000 46 (.agg (A8 x)) (.agg (A8 v))).run Try.prog w = .ok (eq8 x v) w := by
  obtain ⟨i0, hi, hz0, hz1, hz2⟩ := info_parts infoU8
  have hc : Try.prog.cellsOf 5 = 1 := by kernel_rfl
  rw [run_equalIn_array w 9999 (n := 8) (e := 5) (i := i0) _ _ Try.underlying46 hi, hc, List.range_eq_range']
  exact eqItems8 x v w 8 0 rfl (fun i hi => absurd hi (Nat.not_lt_zero _))
set_option maxHeartbeats 1000000 in
theorem closed_any (u : Nat → BitVec 8) (w : World) : Calls Try.prog 33 #[.agg (A8 u)] w fun e w' => e = .returned (.agg (A8 (Lat.clo u))) ∧ Below w.heap.size w w' := by
  go_enter Try.func33, Try.ntmps33
  go_wp2_with fail
  go_loopg [3] (2041 - Lat.weight u) (fun n p wr => ∃ k : Nat, n = 2041 - Lat.weight (Lat.passN k u) ∧ Arr wr w.heap.size (Lat.passN k u) ∧ Arr wr (w.heap.size + 1) (fun _ => 0#8) ∧ Below w.heap.size w wr)
  case atStart => 
    refine ⟨0, rfl, ?_, ?_, ?_⟩
    · exact Arr.alloc (u := u) (heap_alloc_new w _) _
    · have h := heap_alloc_new (w.alloc (.cells (A8 u) 46)) (.cells (A8 (fun _ => 0#8)) 46)
      rw [World.size_alloc] at h
      exact h
    · exact ((Below.refl _ _).alloc (Nat.le_refl _) _).alloc (by simp) _
  case round =>
    obtain ⟨k, hn, hA, hR, hb⟩ := hrel
    obtain ⟨v, hv⟩ : ∃ v, Lat.passN k u = v := ⟨_, rfl⟩
    rw [hv] at hA hn
    have HV := Lib.hid hv
    clear hv
    have a0 := hA.cell (a := 0) (by omega)
    have a1 := hA.cell (a := 1) (by omega)
    have a2 := hA.cell (a := 2) (by omega)
    have a3 := hA.cell (a := 3) (by omega)
    have a4 := hA.cell (a := 4) (by omega)
    have a5 := hA.cell (a := 5) (by omega)
    have a6 := hA.cell (a := 6) (by omega)
    have a7 := hA.cell (a := 7) (by omega)
    go_wp2_with fail
    have hsz := hb.size
    have hlt2 := hR.lt
    have hW1 : Arr (wr.alloc (.cells (A8 v) 46)) wr.heap.size v := heap_alloc_new wr _
    have hA1 := hA.alloc (.cells (A8 v) 46)
    have hR1 := hR.alloc (.cells (A8 v) 46)
    have hb1 := hb.alloc hb.size (.cells (A8 v) 46)
    clear a0 a1 a2 a3 a4 a5 a6 a7 hA hR hb
    generalize hw0 : wr.heap.size = W0 at *
    have hne : w.heap.size ≠ W0 := by omega
    have hne2 : w.heap.size + 1 ≠ W0 := by omega
    clear hw0 hsz
    change Code.wp _ _ _ _ (wr.alloc (.cells (A8 v) 46))
    generalize wr.alloc (.cells (A8 v) 46) = w1 at *
    clear wr
    go_loopw [7] (fun i wr => ∃ a : Nat, a ≤ 8 ∧ i = .int .i64 a ∧ Arr wr w.heap.size (Lat.passTo v a) ∧ Arr wr W0 v ∧ Arr wr (w.heap.size + 1) (fun _ => 0#8) ∧ Below w.heap.size w wr) (fun i _ => 8 - (intOf i).toNat)
    case atStart => exact ⟨0, by omega, rfl, hA1, hW1, hR1, hb1⟩
    case round =>
      clear hA1 hW1 hR1 hb1
      obtain ⟨a, ha, rfl, hA, hW, hR, hb⟩ := hrel
      by_cases hlt : a < 8
      · go_wp2_with fail
        go_loopw [10] (fun i wr3 => ∃ b : Nat, b ≤ 8 ∧ i = .int .i64 b ∧ Arr wr3 w.heap.size (Lat.rowTo (Lat.passTo v a) a b) ∧ Arr wr3 W0 v ∧ Arr wr3 (w.heap.size + 1) (fun _ => 0#8) ∧ Below w.heap.size w wr3) (fun i _ => 8 - (intOf i).toNat)
        case atStart => exact ⟨0, by omega, rfl, hA, hW, hR, hb⟩
        case round =>
          clear hA hW hR hb
          obtain ⟨b, hbl, rfl, hA, hW, hR, hb⟩ := hrel
          by_cases hlb : b < 8
          · have HS : Hid (Lat.rowTo (Lat.passTo v a) a (b + 1) = Lat.stp (Lat.rowTo (Lat.passTo v a) a b) a b) := rfl
            generalize Lat.rowTo (Lat.passTo v a) a b = x at HS hA
            have ca := hA.cell hlt
            have cb := hA.cell hlb
            have fa := hA.free a
            cases hbit : (x a).getLsbD b with
            | true =>
              have ht := bit8_yes hbit
              have HE : Hid (Lat.stp x a b = Lat.upd x a (x a ||| x b)) := by show _ = _; unfold Lat.stp; rw [if_pos hbit]
              clear hbit
              have hA2 := (hA.set hlt (x a ||| x b)).drew
              have hW2 := (hW.other (p := ⟨w.heap.size, a, none⟩) (fun e => hne e.symm) (v8 (x a ||| x b))).drew
              have hR2 := (hR.other (p := ⟨w.heap.size, a, none⟩) (by simp) (v8 (x a ||| x b))).drew
              have hb2 := (hb.setCell (p := ⟨w.heap.size, a, none⟩) (Nat.le_refl _) (v8 (x a ||| x b))).drew
              have HO := Lib.hid (or8 (x a) (x b))
              go_wp2
              go_region
              all_goals go_wp2
              all_goals go_roundw
              case rel => exact ⟨b + 1, by omega, by go_num, by rw [HS.out, HE.out, HO.out]; exact hA2, by rw [HO.out]; exact hW2, by rw [HO.out]; exact hR2, by rw [HO.out]; exact hb2⟩
              case measure => simp [intOf]; omega
            | false =>
              have ht := bit8_no hbit
              have HE : Hid (Lat.stp x a b = x) := by show _ = _; unfold Lat.stp; rw [if_neg (by rw [hbit]; decide)]
              clear hbit
              go_wp2
              go_roundw
              case rel => exact ⟨b + 1, by omega, by go_num, by rw [HS.out, HE.out]; exact hA, hW, hR, hb⟩
              case measure => simp [intOf]; omega
          · obtain rfl : b = 8 := by omega
            go_wp2
            go_roundw
            case rel => exact ⟨a + 1, by omega, by go_num, hA, hW, hR, hb⟩
            case measure => simp [intOf]; omega
      · obtain rfl : a = 8 := by omega
        have HX : Hid (Lat.passTo v 8 = Lat.pass v) := rfl
        generalize Lat.passTo v 8 = x at hA HX
        have a0 := hA.cell (a := 0) (by omega)
        have b0 := hW.cell (a := 0) (by omega)
        have a1 := hA.cell (a := 1) (by omega)
        have b1 := hW.cell (a := 1) (by omega)
        have a2 := hA.cell (a := 2) (by omega)
        have b2 := hW.cell (a := 2) (by omega)
        have a3 := hA.cell (a := 3) (by omega)
        have b3 := hW.cell (a := 3) (by omega)
        have a4 := hA.cell (a := 4) (by omega)
        have b4 := hW.cell (a := 4) (by omega)
        have a5 := hA.cell (a := 5) (by omega)
        have b5 := hW.cell (a := 5) (by omega)
        have a6 := hA.cell (a := 6) (by omega)
        have b6 := hW.cell (a := 6) (by omega)
        have a7 := hA.cell (a := 7) (by omega)
        have b7 := hW.cell (a := 7) (by omega)
        have HQ := eq_arr x v wr
        unfold A8 at HQ
        cases heq : eq8 x v with
        | true =>
          rw [heq] at HQ
          have hx : x = Lat.clo u := by
            have h8 := (eq8_iff x v).1 heq
            have hp : Lat.pass v = v := Lat.pass_ext fun i hi => by rw [← HX.out, h8 i hi]
            have hv := HV.out
            have := Lat.clo_of_fixed (u := u) (k := k) (by rw [hv, hp])
            rw [← this, hv, HX.out, hp]
          have HC := Lib.hid hx
          clear hx heq
          have r0 := hR.cell (a := 0) (by omega)
          have f0 := hR.free 0
          have r1 := hR.cell (a := 1) (by omega)
          have f1 := hR.free 1
          have r2 := hR.cell (a := 2) (by omega)
          have f2 := hR.free 2
          have r3 := hR.cell (a := 3) (by omega)
          have f3 := hR.free 3
          have r4 := hR.cell (a := 4) (by omega)
          have f4 := hR.free 4
          have r5 := hR.cell (a := 5) (by omega)
          have f5 := hR.free 5
          have r6 := hR.cell (a := 6) (by omega)
          have f6 := hR.free 6
          have r7 := hR.cell (a := 7) (by omega)
          have f7 := hR.free 7
          go_wp2_with fail
          refine bodyPost_ret (v := .agg #[v8 (x 0), v8 (x 1), v8 (x 2), v8 (x 3), v8 (x 4), v8 (x 5), v8 (x 6), v8 (x 7)]) (by simp [results, Try.results33, go_sem, r0, r1, r2, r3, r4, r5, r6, r7]) rfl ⟨by rw [← HC.out]; rfl, ?_⟩
          exact (((((((hb.setCell (p := ⟨w.heap.size + 1, 0, none⟩) (by simp) _).setCell (p := ⟨w.heap.size + 1, 1, none⟩) (by simp) _).setCell (p := ⟨w.heap.size + 1, 2, none⟩) (by simp) _).setCell (p := ⟨w.heap.size + 1, 3, none⟩) (by simp) _).setCell (p := ⟨w.heap.size + 1, 4, none⟩) (by simp) _).setCell (p := ⟨w.heap.size + 1, 5, none⟩) (by simp) _).setCell (p := ⟨w.heap.size + 1, 6, none⟩) (by simp) _).setCell (p := ⟨w.heap.size + 1, 7, none⟩) (by simp) _
        | false =>
          rw [heq] at HQ
          have hlt : Lat.weight v < Lat.weight x := by
            have hne : Lat.pass v ≠ v := fun e => by
              have : eq8 x v = true := by rw [eq8_iff, HX.out, e]; intro _ _; rfl
              rw [heq] at this; cases this
            have := Lat.weight_pass hne
            rw [HX.out]; exact this
          have hle := Lat.weight_le x
          clear heq
          go_wp2_with fail
          go_roundg (2041 - Lat.weight x)
          case measure => omega
          case rel => exact ⟨k + 1, by show _ = 2041 - Lat.weight (Lat.pass (Lat.passN k u)); rw [HV.out, HX.out], by show Arr _ _ (Lat.pass (Lat.passN k u)); rw [HV.out, ← HX.out]; exact hA, hR, hb⟩
end Go.Proofs.Ytchdalicoafamaa
