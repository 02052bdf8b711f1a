/-
  The state behind a block of 64 bytes: the call returns it and makes new memory only; the block and the numbers K are there.
-/
import Derived.Test.YtmmkopdijmplcaaHRnd
import Derived.Deep.MidRow
import Derived.Laws.Rows
namespace Go.Proofs.Ytmmkopdijmplcaa.HH
open Go.RowKit Base
theorem below_drewN {B : Nat} {w w1 : World} (h : Below B w w1) (n : Nat) : Below B w (w1.drewN n) := ⟨h.os, h.tape, h.output, h.size, h.block⟩
def zero8 : List Value := [w32 0#32, w32 0#32, w32 0#32, w32 0#32, w32 0#32, w32 0#32, w32 0#32, w32 0#32]
theorem ror_s (x : BitVec 32) (n : Nat) (h0 : 0 < n) (h1 : n < 32) (w : World) : Calls Try.prog 80 #[.int .u32 (x.toNat : Int), .int .i64 (n : Int)] w fun e w' => e = .returned (.int .u32 ((Sha.ror x n).toNat : Int)) ∧ w' = w :=
  (ror_any x n h0 h1 w).mono fun _ _ ⟨he, hw⟩ => ⟨he, hw.symm⟩
set_option maxRecDepth 100000 in
set_option maxHeartbeats 20000000 in
theorem next_any {w : World} {s : Sha.St} {blk : List UInt8} {bB off cap kg : Nat} (hl : blk.length = 64) (hc : 64 ≤ cap) (hblk : ∀ j, j < 64 → w.cell? ⟨bB, off + j, none⟩ = some (bv (blk.getD j 0))) (hk : Row w kg 123 (Sha.keyL.map w32)) :
   Calls Try.prog 71 #[.agg (stA s), .slice (some ⟨bB, off, none⟩) 64 cap, .pointer (some ⟨kg, 0, none⟩)] w fun e w' => e = .returned (.agg (stA (Sha.next s blk))) ∧ Below w.heap.size w w' := by
  have hblt : bB < w.heap.size := World.block_lt_of_cell? w _ (hblk 0 (by omega))
  have hklt := hk.lt
  go_enter Try.func71, Try.ntmps71
  go_wp2_with (first
    | (refine wpList_allocIs rfl 123 rfl _ rfl (w.heap.size + 2) (by simp) (.cells zeroK 123) (by kernel_rfl) ?_))
  have hS := ((Row.new w (stA s).toList 119).alloc (.cells #[w32 0#32, w32 0#32, w32 0#32, w32 0#32, w32 0#32, w32 0#32, w32 0#32, w32 0#32] 119)).alloc (.cells zeroK 123)
  have hR := (Row.new (w.alloc (.cells (stA s) 119)) zero8 119).alloc (.cells zeroK 123)
  have hW := (Row.new ((w.alloc (.cells (stA s) 119)).alloc (.cells #[w32 0#32, w32 0#32, w32 0#32, w32 0#32, w32 0#32, w32 0#32, w32 0#32, w32 0#32] 119)) zeroK.toList 123)
  have hb3 := (((Below.refl w.heap.size w).alloc (Nat.le_refl _) (.cells (stA s) 119)).alloc (by simp) (.cells #[w32 0#32, w32 0#32, w32 0#32, w32 0#32, w32 0#32, w32 0#32, w32 0#32, w32 0#32] 119)).alloc (by simp; omega) (.cells zeroK 123)
  rw [World.size_alloc] at hR
  rw [World.size_alloc, World.size_alloc, show w.heap.size + 1 + 1 = w.heap.size + 2 from rfl] at hW
  rw [show zeroK.toList = wC blk 0 from by kernel_rfl] at hW
  change Row (((w.alloc (.cells (stA s) 119)).alloc (.cells #[.int .u32 0, .int .u32 0, .int .u32 0, .int .u32 0, .int .u32 0, .int .u32 0, .int .u32 0, .int .u32 0] 119)).alloc (.cells zeroK 123)) _ _ _ at hS hR hW
  change Below _ _ (((w.alloc (.cells (stA s) 119)).alloc (.cells #[.int .u32 0, .int .u32 0, .int .u32 0, .int .u32 0, .int .u32 0, .int .u32 0, .int .u32 0, .int .u32 0] 119)).alloc (.cells zeroK 123)) at hb3
  generalize ((w.alloc (.cells (stA s) 119)).alloc (.cells #[.int .u32 0, .int .u32 0, .int .u32 0, .int .u32 0, .int .u32 0, .int .u32 0, .int .u32 0, .int .u32 0] 119)).alloc (.cells zeroK 123) = w0 at *
  go_loopw [20] (fun i wr => ∃ k : Nat, k ≤ 16 ∧ i = .int .i64 k ∧ Row wr (w.heap.size + 2) 123 (wC blk k) ∧ Row wr w.heap.size 119 (stA s).toList ∧ Row wr (w.heap.size + 1) 119 zero8 ∧ Below w.heap.size w wr) (fun i _ => 16 - (intOf i).toNat)
  case atStart => exact ⟨0, Nat.zero_le _, rfl, hW, hS, hR, hb3⟩
  case round =>
    clear hW hS hR hb3
    obtain ⟨k, hk16, rfl, hW, hS, hR, hb⟩ := hrel
    by_cases hlt : k < 16
    · have hlt' : (k : Int) < 16 := by omega
      have c1 := hW.cell (wC_old blk (show k < 64 by omega))
      have f1 := hW.free k
      obtain ⟨l4, hl4⟩ : ∃ l4, (blk.drop (4 * k)).take 4 = l4 := ⟨_, rfl⟩
      have hlen4 : l4.length = 4 := by rw [← hl4, List.length_take, List.length_drop]; omega
      have HWV : Hid ((num64 l4).toNat % 4294967296 = (Sha.wv blk k).toNat) := by
        show _ = _
        rw [wv_low blk hlt, ← be4_num, hl4, BitVec.toNat_setWidth]
      have hconv : (convert 82 9 (.slice (some ⟨bB, off + 4 * k, none⟩) 4 (cap - 4 * k))).run Try.prog wr = .ok (.string (str l4)) wr := by
        have := run_convert_bytes_back (P := Try.prog) wr 82 9 5 ⟨bB, off + 4 * k, none⟩ (cap - 4 * k) l4 Try.underlying82 Try.underlying5 Try.underlying9 (fun j hj => by
          rw [Addr.add_mid, hb.cell (p := ⟨bB, off + 4 * k + j, none⟩) hblt, Nat.add_assoc, hblk (4 * k + j) (by omega)]
          have e : blk.getD (4 * k + j) 0 = l4[j] := by
            subst hl4
            rw [List.getElem_take, List.getElem_drop, List.getD_eq_getElem?_getD, List.getElem?_eq_getElem (by omega)]
            rfl
          rw [e]
          rfl)
        rw [hlen4] at this
        exact this
      replace hl4 := Lib.hid hl4
      go_wp2_with fail
      refine (value_any (str l4) wr (by rw [str_size, hlen4]; unfold maxLen; omega)).mono ?_
      rintro e w' ⟨rfl, rfl⟩
      rw [str_toList]
      generalize num64 l4 = X at *
      go_wp2_with fail
      have hst : Value.int .u32 ((X.toNat : Int) % 4294967296) = w32 (Sha.wv blk k) := by
        unfold w32
        rw [← HWV.out]
        rfl
      go_roundw
      case rel => exact ⟨k + 1, by omega, by go_num, by rw [hst, ← wC_set]; exact hW.set k _, hS.other (by show _ ≠ _; simp) _, hR.other (by show _ ≠ _; simp) _, hb.setCell (by show _ ≤ w.heap.size + 2; omega) _⟩
      case measure => simp [intOf]; omega
    · obtain rfl : k = 16 := by omega
      clear hlt
      go_wp2_with fail
      obtain ⟨wo, rfl⟩ : ∃ wo : World, wo = wr := ⟨_, rfl⟩
      go_loopw [10] (fun i wr => ∃ k : Nat, 16 ≤ k ∧ k ≤ 64 ∧ i = .int .i64 k ∧ Row wr (w.heap.size + 2) 123 (wC blk k) ∧ Row wr w.heap.size 119 (stA s).toList ∧ Row wr (w.heap.size + 1) 119 zero8 ∧ Below w.heap.size w wr) (fun i _ => 64 - (intOf i).toNat)
      case atStart => exact ⟨16, Nat.le_refl _, by omega, rfl, hW, hS, hR, hb⟩
      case round =>
        clear hW hS hR hb
        obtain ⟨k, hk16, hk64, rfl, hW, hS, hR, hb⟩ := hrel
        by_cases hlt : k < 64
        · have hlt' : (k : Int) < 64 := by omega
          have hge' : (16 : Int) ≤ k := by omega
          have c1 := hW.cell (wC_old blk hlt)
          have f1 := hW.free k
          have c2 := hW.cell (wC_get blk (show k - 2 < k by omega) (by omega))
          have c7 := hW.cell (wC_get blk (show k - 7 < k by omega) (by omega))
          have c15 := hW.cell (wC_get blk (show k - 15 < k by omega) (by omega))
          have c16 := hW.cell (wC_get blk (show k - 16 < k by omega) (by omega))
          simp only [w32] at c1 c2 c7 c15 c16
          go_wp2_with fail
          go_quiet (fail)
          go_wp2_with fail
          replace c1 : (wr.drewN nq).cell? ⟨w.heap.size + 2, k, none⟩ = _ := c1
          replace f1 : (wr.drewN nq).frozen? ⟨w.heap.size + 2, k, none⟩ = _ := f1
          replace c7 : (wr.drewN nq).cell? ⟨w.heap.size + 2, k - 7, none⟩ = _ := c7
          replace c16 : (wr.drewN nq).cell? ⟨w.heap.size + 2, k - 16, none⟩ = _ := c16
          replace hW := hW.drewN nq
          replace hS := hS.drewN nq
          replace hR := hR.drewN nq
          replace hb := below_drewN hb nq
          generalize wr.drewN nq = wr at *
          have hwv := wv_high blk hk16
          generalize Sha.wv blk (k - 2) = x2 at *
          generalize Sha.wv blk (k - 7) = x7 at *
          generalize Sha.wv blk (k - 15) = x15 at *
          generalize Sha.wv blk (k - 16) = x16 at *
          replace hwv := Lib.hid hwv
          clear c2 c15
          have e16 : IntKind.i64.wrap ((k : Int) - 16) = (k : Int) - 16 := IntWalk.i64_in _ (by omega)
          have p16 : (16 : Int) ≤ (k : Int) := by omega
          have q16 : (k : Int) - 16 < 64 := by omega
          have t16 : ((k : Int) - 16).toNat = k - 16 := by omega
          have e7 : IntKind.i64.wrap ((k : Int) - 7) = (k : Int) - 7 := IntWalk.i64_in _ (by omega)
          have p7 : (7 : Int) ≤ (k : Int) := by omega
          have q7 : (k : Int) - 7 < 64 := by omega
          have t7 : ((k : Int) - 7).toNat = k - 7 := by omega
          refine wp_region_still_tail 33 (by kernel_rfl) (by kernel_rfl) ?_
          simp only [List.take_succ_cons, List.take_zero, List.drop_succ_cons, List.drop_zero]
          repeat still_step
          still_call (ror_s x15 7 (by decide) (by decide) _)
          repeat still_step
          still_call (ror_s x15 18 (by decide) (by decide) _)
          repeat still_step
          still_call (ror_s x2 17 (by decide) (by decide) _)
          repeat still_step
          still_call (ror_s x2 19 (by decide) (by decide) _)
          repeat still_step
          refine wpStill_nil ?_
          go_wp2_with fail
          rw [new_word, ← hwv.out]
          have hW2 := (hW.set k (w32 (Sha.wv blk k))).drew
          have hS2 := (hS.other (p := ⟨w.heap.size + 2, k, none⟩) (by show _ ≠ _; simp) (w32 (Sha.wv blk k))).drew
          have hR2 := (hR.other (p := ⟨w.heap.size + 2, k, none⟩) (by show _ ≠ _; simp) (w32 (Sha.wv blk k))).drew
          have hb2 := (hb.setCell (p := ⟨w.heap.size + 2, k, none⟩) (by show _ ≤ w.heap.size + 2; omega) (w32 (Sha.wv blk k))).drew
          rw [wC_set] at hW2
          generalize (wr.setCell ⟨w.heap.size + 2, k, none⟩ (w32 (Sha.wv blk k))).drew = w2 at *
          go_roundw
          case rel => first | exact ⟨k + 1, by omega, by omega, by go_num, hW2, hS2, hR2, hb2⟩ | ((repeat apply Exists.intro); exact ⟨⟨k + 1, by omega, by omega, by go_num, hW2, hS2, hR2, hb2⟩, rfl⟩)
          case measure => simp [intOf]; omega
        · obtain rfl : k = 64 := by omega
          clear hlt
          go_wp2_with (first
            | (refine wpList_load_row rfl 119 _ rfl w.heap.size rfl 119 _ (0, 0) _ hS Try.underlying119 rfl (by kernel_rfl) ?_)
            | (refine wpList_allocIs rfl 119 rfl _ rfl wr.heap.size rfl (.cells zero8.toArray 119) (by kernel_rfl) ?_)
            | (refine wpList_store_rowTo rfl _ _ _ rfl rfl wr.heap.size (stA s) rfl rfl 119 zero8.toArray (heap_alloc_new wr _) (by kernel_rfl) rfl (by kernel_rfl) ?_))
          have hgv : w.heap.size + 2 < wr.heap.size := hW.lt
          have hV1 : Row ((wr.alloc (.cells zero8.toArray 119)).setRow wr.heap.size (stA s)) wr.heap.size 119 (stA (rnds s blk 0)).toList := setRow_heap _ _ _ _ 119 _ (heap_alloc_new wr _)
          have keep : ∀ {g t xs}, g < wr.heap.size → Row wr g t xs → Row ((wr.alloc (.cells zero8.toArray 119)).setRow wr.heap.size (stA s)) g t xs := fun {g t xs} hg h => (setRow_other _ _ _ _ (by omega)).trans (h.alloc _)
          have hW1 := keep hgv hW
          have hS1 := keep (by omega) hS
          have hR1 := keep (by omega) hR
          have hb1 : Below w.heap.size w ((wr.alloc (.cells zero8.toArray 119)).setRow wr.heap.size (stA s)) := below_setRow (hb.alloc hb.size _) (by omega) _
          clear keep hW hS hR hb
          generalize (wr.alloc (.cells zero8.toArray 119)).setRow wr.heap.size (stA s) = w1 at *
          generalize wr.heap.size = gv at *
          go_loopw [82] (fun i wr => ∃ k : Nat, k ≤ 64 ∧ i = .int .i64 k ∧ Row wr gv 119 (stA (rnds s blk k)).toList ∧ Row wr (w.heap.size + 2) 123 (wC blk 64) ∧ Row wr w.heap.size 119 (stA s).toList ∧ Row wr (w.heap.size + 1) 119 zero8 ∧ Below w.heap.size w wr) (fun i _ => 64 - (intOf i).toNat)
          case atStart => exact ⟨0, Nat.zero_le _, rfl, hV1, hW1, hS1, hR1, hb1⟩
          case round =>
            clear hW1 hS1 hR1 hb1 hV1
            obtain ⟨k, hk64', rfl, hV, hW, hS, hR, hb⟩ := hrel
            by_cases hlt : k < 64
            · have hlt' : (k : Int) < 64 := by omega
              have hkc : Sha.keyL[k]? = some (Sha.key k) := by
                unfold Sha.key
                rw [List.getD_eq_getElem?_getD, List.getElem?_eq_getElem (show k < Sha.keyL.length from hlt)]
                rfl
              have ck := (hk.below hb hklt).cell (j := k) (v := w32 (Sha.key k)) (by rw [List.getElem?_map, hkc]; rfl)
              have cw := hW.cell (wC_get blk hlt hlt)
              have HR : Hid (rnds s blk (k + 1) = Sha.rnd (rnds s blk k) (Sha.key k) (Sha.wv blk k)) := rfl
              generalize Sha.key k = kk at *
              generalize Sha.wv blk k = ww at *
              generalize rnds s blk k = st at *
              obtain ⟨va, vb, vc, vd, ve, vf, vg, vh⟩ := st
              rw [rnd_is] at HR
              have c0 := hV.cell (j := 0) (v := w32 va) rfl
              have c1 := hV.cell (j := 1) (v := w32 vb) rfl
              have c2 := hV.cell (j := 2) (v := w32 vc) rfl
              have c4 := hV.cell (j := 4) (v := w32 ve) rfl
              have c5 := hV.cell (j := 5) (v := w32 vf) rfl
              have c6 := hV.cell (j := 6) (v := w32 vg) rfl
              have c7 := hV.cell (j := 7) (v := w32 vh) rfl
              simp only [w32] at c0 c1 c2 c4 c5 c6 c7 ck cw
              have hsg : IntKind.u32.signed = false := rfl
              have hmx : IntKind.u32.max = 4294967295 := rfl
              go_wp2_with fail
              go_quiet (fail)
              go_wp2_with fail
              replace ck : (wr.drewN nq).cell? _ = _ := ck
              replace cw : (wr.drewN nq).cell? _ = _ := cw
              replace c0 : (wr.drewN nq).cell? _ = _ := c0
              replace c1 : (wr.drewN nq).cell? _ = _ := c1
              replace c2 : (wr.drewN nq).cell? _ = _ := c2
              replace c4 : (wr.drewN nq).cell? _ = _ := c4
              replace c5 : (wr.drewN nq).cell? _ = _ := c5
              replace c6 : (wr.drewN nq).cell? _ = _ := c6
              replace c7 : (wr.drewN nq).cell? _ = _ := c7
              replace hV := hV.drewN nq
              replace hW := hW.drewN nq
              replace hS := hS.drewN nq
              replace hR := hR.drewN nq
              replace hb := below_drewN hb nq
              generalize wr.drewN nq = wr at *
              go_quiet ((go_at_call 80; exact Calls.quiet_of_same (ror_s _ _ (by decide) (by decide) _)))
              go_wp2_with fail
              first | rw [round_t] | rw [round_t']
              generalize tt ve vf vg vh kk ww = tq at *
              replace c0 : (wr.drewN nq).cell? _ = _ := c0
              replace c1 : (wr.drewN nq).cell? _ = _ := c1
              replace c2 : (wr.drewN nq).cell? _ = _ := c2
              replace hV := hV.drewN nq
              replace hW := hW.drewN nq
              replace hS := hS.drewN nq
              replace hR := hR.drewN nq
              replace hb := below_drewN hb nq
              clear c4 c5 c6 c7 ck cw
              generalize wr.drewN nq = wr at *
              go_quiet ((go_at_call 80; exact Calls.quiet_of_same (ror_s _ _ (by decide) (by decide) _)))
              go_wp2_with fail
              rw [round_u]
              generalize uu va vb vc = uq at *
              replace hV := hV.drewN nq
              replace hW := hW.drewN nq
              replace hS := hS.drewN nq
              replace hR := hR.drewN nq
              replace hb := below_drewN hb nq
              clear c0 c1 c2
              generalize wr.drewN nq = wr at *
              have hcs : ∀ j v, ([va, vb, vc, vd, ve, vf, vg].map w32)[j]? = some v → wr.drew.cell? ((⟨gv, 0, none⟩ : Addr).add j) = some v := fun j v hj => by
                have hj7 : j < 7 := (List.getElem?_eq_some_iff.1 hj).1
                rw [Addr.add_mid, Nat.zero_add]
                refine hV.drew.cell ?_
                rw [← hj]
                rcases (by omega : j = 0 ∨ j = 1 ∨ j = 2 ∨ j = 3 ∨ j = 4 ∨ j = 5 ∨ j = 6) with rfl | rfl | rfl | rfl | rfl | rfl | rfl <;> rfl
              have hone : ∀ v ∈ [va, vb, vc, vd, ve, vf, vg].map w32, v.oneCell' = true := fun v hv => by
                obtain ⟨x, _, rfl⟩ := List.mem_map.1 hv
                rfl
              have hbd : Below gv wr.drew wr.drew := Below.refl _ _
              go_region_law (refine step_copy_splice rfl (.tmp 151) (.tmp 152) 115 115 rfl 117 rfl (by kernel_rfl) _ _ _ _ _ _ rfl rfl gv 1 _ 119 hV ([va, vb, vc, vd, ve, vf, vg].map w32) rfl (fun _ => ⟨rfl, _, rfl, hcs⟩) (Nat.le_refl 8) hone gv wr.drew hbd (Nat.le_refl _) ?_; intro w4 hg4 hb4)
              replace hV : Row w4 gv 119 ([va, va, vb, vc, vd, ve, vf, vg].map w32) := hg4.out
              replace hW := hW.drew.below hb4 hgv
              replace hS := hS.drew.below hb4 (by omega)
              replace hR := hR.drew.below hb4 (by omega)
              replace hb := hb.drew.trans (hb4.mono (by omega))
              clear hg4 hb4 hcs hone hbd
              have c4 := hV.cell (j := 4) (v := w32 vd) rfl
              have f4 := hV.free 4
              have c0 := hV.cell (j := 0) (v := w32 va) rfl
              have f0 := hV.free 0
              simp only [w32] at c4 c0
              go_wp2_with fail
              rw [x32_add vd tq, x32_add tq uq]
              have hV2 := (hV.set 4 (w32 (vd + tq))).set 0 (w32 (tq + uq))
              have hW2 := (hW.other (p := ⟨gv, 4, none⟩) (by show _ ≠ gv; omega) (w32 (vd + tq))).other (p := ⟨gv, 0, none⟩) (by show _ ≠ gv; omega) (w32 (tq + uq))
              have hS2 := (hS.other (p := ⟨gv, 4, none⟩) (by show _ ≠ gv; omega) (w32 (vd + tq))).other (p := ⟨gv, 0, none⟩) (by show _ ≠ gv; omega) (w32 (tq + uq))
              have hR2 := (hR.other (p := ⟨gv, 4, none⟩) (by show _ ≠ gv; omega) (w32 (vd + tq))).other (p := ⟨gv, 0, none⟩) (by show _ ≠ gv; omega) (w32 (tq + uq))
              have hb2 := (hb.setCell (p := ⟨gv, 4, none⟩) (by show _ ≤ gv; omega) (w32 (vd + tq))).setCell (p := ⟨gv, 0, none⟩) (by show _ ≤ gv; omega) (w32 (tq + uq))
              change Row _ gv _ [w32 (tq + uq), w32 va, w32 vb, w32 vc, w32 (vd + tq), w32 ve, w32 vf, w32 vg] at hV2
              go_roundw
              case rel => exact ⟨k + 1, by omega, by go_num, by rw [HR.out]; exact hV2, hW2, hS2, hR2, hb2⟩
              case measure => simp [intOf]; omega
            · obtain rfl : k = 64 := by omega
              clear hlt
              go_wp2_with fail
              rw [addC_zero _ s] at hV
              obtain ⟨wp, rfl⟩ : ∃ wp : World, wp = wr := ⟨_, rfl⟩
              go_loopw [164] (fun i wr => ∃ k : Nat, k ≤ 8 ∧ i = .int .i64 k ∧ Row wr gv 119 (addC (rnds s blk 64) s k) ∧ Row wr w.heap.size 119 (stA s).toList ∧ Row wr (w.heap.size + 1) 119 zero8 ∧ Below w.heap.size w wr) (fun i _ => 8 - (intOf i).toNat)
              case atStart => exact ⟨0, Nat.zero_le _, rfl, hV, hS, hR, hb⟩
              case round =>
                clear hV hW hS hR hb
                obtain ⟨k, hk8, rfl, hV, hS, hR, hb⟩ := hrel
                by_cases hlt : k < 8
                · have hlt' : (k : Int) < 8 := by omega
                  have cv := hV.drew.cell (addC_old (rnds s blk 64) s hlt)
                  have fv := hV.drew.free k
                  have cs := hS.drew.cell (stA_at s hlt)
                  have hst := addC_set (rnds s blk 64) s k
                  generalize stg (rnds s blk 64) k = xa at *
                  generalize stg s k = xb at *
                  simp only [w32] at cv cs
                  go_wp2_with fail
                  replace hst := Lib.hid hst
                  go_still_tail 8, (by kernel_rfl)
                  go_wp2_with fail
                  rw [x32_add xa xb]
                  have hV2 := hV.drew.set k (w32 (xa + xb))
                  rw [hst.out] at hV2
                  have hS2 := hS.drew.other (p := ⟨gv, k, none⟩) (by show _ ≠ gv; omega) (w32 (xa + xb))
                  have hR2 := hR.drew.other (p := ⟨gv, k, none⟩) (by show _ ≠ gv; omega) (w32 (xa + xb))
                  have hb2 := hb.drew.setCell (p := ⟨gv, k, none⟩) (by show _ ≤ gv; omega) (w32 (xa + xb))
                  go_roundw
                  case rel => first | exact ⟨k + 1, by omega, by go_num, hV2, hS2, hR2, hb2⟩ | ((repeat apply Exists.intro); exact ⟨⟨k + 1, by omega, by go_num, hV2, hS2, hR2, hb2⟩, rfl⟩)
                  case measure => simp [intOf]; omega
                · obtain rfl : k = 8 := by omega
                  clear hlt
                  obtain ⟨fin, hfin⟩ : ∃ fin, Sha.next s blk = fin := ⟨_, rfl⟩
                  rw [addC_all, ← next_is, hfin] at hV
                  replace hfin := Lib.hid hfin
                  go_wp2_with (first
                    | (refine wpList_load_row rfl 119 _ rfl gv rfl 119 _ (0, 0) _ hV Try.underlying119 rfl (by kernel_rfl) ?_)
                    | (refine wpList_store_rowTo rfl _ _ _ rfl rfl (w.heap.size + 1) (stA fin) rfl rfl 119 zero8.toArray hR (by kernel_rfl) rfl (by kernel_rfl) ?_))
                  exact bodyPost_ret (v := .agg (stA fin)) (results_cell_row Try.results71 _ _ (w.heap.size + 1) 119 _ (0, 0) _ rfl (setRow_heap _ _ _ _ 119 _ hR) Try.underlying119 rfl (by kernel_rfl)) rfl ⟨by rw [hfin.out], below_setRow hb (by omega) _⟩
theorem next_u {w : World} {s t : Sha.St} {blk : List UInt8} {bB off cap kg : Nat} (hl : blk.length = 64) (hc : 64 ≤ cap) (hblk : ∀ j, j < 64 → w.cell? ⟨bB, off + j, none⟩ = some (bv (blk.getD j 0))) (hk : Row w kg 123 (Sha.keyL.map w32)) (ht : Hid (Sha.next s blk = t)) :
   Calls Try.prog 71 #[.agg #[.int .u32 (s.a.toNat : Int), .int .u32 (s.b.toNat : Int), .int .u32 (s.c.toNat : Int), .int .u32 (s.d.toNat : Int), .int .u32 (s.e.toNat : Int), .int .u32 (s.f.toNat : Int), .int .u32 (s.g.toNat : Int), .int .u32 (s.h.toNat : Int)], .slice (some ⟨bB, off, none⟩) 64 cap, .pointer (some ⟨kg, 0, none⟩)] w fun e w' =>
     e = .returned (.agg #[.int .u32 (t.a.toNat : Int), .int .u32 (t.b.toNat : Int), .int .u32 (t.c.toNat : Int), .int .u32 (t.d.toNat : Int), .int .u32 (t.e.toNat : Int), .int .u32 (t.f.toNat : Int), .int .u32 (t.g.toNat : Int), .int .u32 (t.h.toNat : Int)]) ∧ Below w.heap.size w w' := by
  have h := next_any (s := s) hl hc hblk hk
  rw [ht.out] at h
  exact h
end Go.Proofs.Ytmmkopdijmplcaa.HH
