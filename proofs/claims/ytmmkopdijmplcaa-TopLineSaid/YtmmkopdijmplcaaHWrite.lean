/-
  Write: whatever the hash and the text (together no longer than an int holds), the hash then holds the text behind what it held.
-/
import Derived.Test.YtmmkopdijmplcaaHHold
import Derived.Test.YtmmkopdijmplcaaHNext
import Derived.Deep.RegionLaw
import Derived.Deep.LoopGhost
namespace Go.Proofs.Ytmmkopdijmplcaa.HH
open Go.RowKit Base
theorem grow_below {w w1 w2 : World} {row : Option Nat} (h : w.grownBy w1 row) (hb : Below w1.heap.size w1 w2) : w.grownBy w2 row :=
  ⟨hb.os.trans h.os, hb.tape.trans h.tape, hb.output.trans h.output, Nat.le_trans h.size hb.size, fun k hk hne => (hb.block k (Nat.lt_of_lt_of_le hk h.size)).trans (h.block k hk hne)⟩
theorem grow_trans {w w1 w2 : World} {row : Option Nat} (h : w.grownBy w1 row) (k : w1.grownBy w2 row) : w.grownBy w2 row :=
  ⟨k.os.trans h.os, k.tape.trans h.tape, k.output.trans h.output, Nat.le_trans h.size k.size, fun i hi hne => (k.block i (Nat.lt_of_lt_of_le hi h.size) hne).trans (h.block i hi hne)⟩
theorem grow_of_below {w w1 : World} (h : Below w.heap.size w w1) (row : Option Nat) : w.grownBy w1 row := ⟨h.os, h.tape, h.output, h.size, fun i hi _ => h.block i hi⟩
theorem grow_drewN (w : World) (n : Nat) (row : Option Nat) : w.grownBy (w.drewN n) row := ⟨rfl, rfl, rfl, Nat.le_refl _, fun _ _ _ => rfl⟩
theorem hgrow_set {w w1 : World} {b : Nat} (h : w.grownBy w1 (some b)) (o : Nat) (v : Value) : w.grownBy (w1.setCell ⟨b, o, none⟩ v) (some b) :=
  ⟨h.os, h.tape, h.output, by simpa [World.setCell] using h.size, fun k hk hne => (Below.heap_setCell w1 ⟨b, o, none⟩ v k (by rintro rfl; exact hne rfl)).trans (h.block k hk hne)⟩
theorem Row.at_set {w : World} {g : Nat} {t : TypeId} {xs : List Value} (h : Row w g t xs) {b : Nat} (hne : b ≠ g) (o : Nat) (v : Value) : Row (w.setCell ⟨b, o, none⟩ v) g t xs := h.other (p := ⟨b, o, none⟩) (Ne.symm hne) v
def szOf : Value → Nat
  | .string r => r.size
  | _ => 0
set_option maxRecDepth 100000 in
set_option maxHeartbeats 4000000 in
theorem write_any {w : World} {g : Nat} {l : List UInt8} (h : HashAt w g l) (s : ByteArray) (hs : l.length + s.size ≤ 4611686018427387904) :
    Calls Try.prog 62 #[.pointer (some ⟨g, 0, none⟩), .string s] w fun e w' => e = .returned undef ∧ HashAt w' g (l ++ s.data.toList) ∧ w.grownBy w' (some g) := by
  have hglt : g < w.heap.size := by obtain ⟨B, _, hR⟩ := h; exact hR.lt
  go_enter Try.func62, Try.ntmps62
  go_wp2_with fail
  refine (keys_any w).mono ?_
  rintro e w1 ⟨rfl, hb1⟩
  have hk1 : Row ((w1.alloc (.cells zeroK 123)).setRow w1.heap.size keyA) w1.heap.size 123 (Sha.keyL.map w32) := setRow_heap _ _ _ _ 123 _ (heap_alloc_new w1 _)
  have hb2 : Below w.heap.size w ((w1.alloc (.cells zeroK 123)).setRow w1.heap.size keyA) := below_setRow (hb1.alloc hb1.size _) hb1.size _
  have hgk : g ≠ w1.heap.size := by have := hb1.size; omega
  go_wp2_with (first
    | (refine wpList_allocIs rfl 123 rfl _ rfl w1.heap.size rfl (.cells zeroK 123) (by kernel_rfl) ?_)
    | (refine wpList_store_rowTo rfl _ _ _ rfl rfl w1.heap.size keyA rfl rfl 123 zeroK (heap_alloc_new w1 _) (by kernel_rfl) rfl (by kernel_rfl) ?_))
  have hh : HashAt ((w1.alloc (.cells zeroK 123)).setRow w1.heap.size keyA) g l := by
    obtain ⟨B, hB, hR⟩ := h
    exact ⟨B, hB, hR.below hb2 hglt⟩
  have hg2 := grow_of_below hb2 (some g)
  clear h hb2 hb1
  generalize (w1.alloc (.cells zeroK 123)).setRow w1.heap.size keyA = w2 at *
  generalize w1.heap.size = kg at *
  go_frame
  go_loopw [1] (fun sv wr => ∃ (done : List UInt8) (r : ByteArray), sv = .string r ∧ s.data.toList = done ++ r.data.toList ∧ HashAt wr g (l ++ done) ∧ Row wr kg 123 (Sha.keyL.map w32) ∧ w.grownBy wr (some g)) (fun sv _ => szOf sv)
  case atStart => exact ⟨[], s, rfl, rfl, by rw [List.append_nil]; exact hh, hk1, hg2⟩
  case round =>
    clear hh hk1 hg2
    obtain ⟨done, r, rfl, hsr, ⟨B, hB, hR⟩, hk, hg⟩ := hrel
    have hlen : (l ++ done).length + r.size ≤ 4611686018427387904 := by
      have := congrArg List.length hsr
      rw [List.length_append] at this
      rw [List.length_append]
      change s.size = done.length + r.size at this
      omega
    obtain ⟨L, hL⟩ : ∃ L, l ++ done = L := ⟨_, rfl⟩
    rw [hL] at hB hR hlen
    obtain ⟨n0, hn0⟩ : ∃ n0, L.length = n0 := ⟨_, rfl⟩
    unfold hsC at hR
    have hkg2 := hg.size
    by_cases hr0 : r.size = 0
    · have hr : r.data.toList = [] := List.eq_nil_of_length_eq_zero hr0
      have hem : r.toList.isEmpty = true := by rw [ByteArray.toList_eq, hr]; rfl
      have hfin : HashAt wr g (l ++ s.data.toList) := by
        rw [hsr, hr, List.append_nil, hL]
        exact ⟨B, hB, hR⟩
      clear hsr hB hR hr
      go_wp2_with fail
      go_end0
      exact ⟨rfl, hfin, hg⟩
    · have hem : r.toList.isEmpty = false := by
        cases hl : r.toList with
        | nil =>
          exfalso
          rw [ByteArray.toList_eq] at hl
          exact hr0 (congrArg List.length hl)
        | cons => rfl
      obtain ⟨x, hx⟩ : ∃ x, n0 % 64 = x := ⟨_, rfl⟩
      obtain ⟨n, hn⟩ : ∃ n, Nat.min r.size (64 - x) = n := ⟨_, rfl⟩
      have hx64 : x < 64 := by omega
      have hn1 : n ≤ r.size := by rw [← hn]; exact Nat.min_le_left _ _
      have hn2 : n ≤ 64 - x := by rw [← hn]; exact Nat.min_le_right _ _
      have hn3 : 0 < n := by rw [← hn]; exact Nat.lt_min.2 ⟨by omega, by omega⟩
      have hxi : (n0 : Int) % 64 = (x : Int) := by omega
      have hxt : (n0 : Int).tmod 64 = (x : Int) := by
        rw [← hx]
        rfl
      have hxe : ¬ (64 = x) := by omega
      have hnb : n0 ≤ 4611686018427387904 := by omega
      have hs1 : (n0 : Int) + n ≤ 4611686018427387904 := by omega
      obtain ⟨cs, hcs⟩ : ∃ cs, r.data.toList.take n = cs := ⟨_, rfl⟩
      have hcl : cs.length = n := by rw [← hcs, List.length_take]; exact Nat.min_eq_left hn1
      rw [hn0] at hR
      generalize hst : Sha.run (n0 / 64) L = st at *
      have hBl := hB.len
      have c72 := hR.cell (hsG_size st hBl n0)
      have hR3 : Row (wr.drew.setRow g (splice (hsG st B n0) (8 + x) (cs.map bv)).toArray) g 122 (hsG st (splice B x cs) n0) := by
        rw [hsG_splice st n0 cs x (by omega)]
        exact row_setRow hR.drew _
      have hg3 : w.grownBy (wr.drew.setRow g (splice (hsG st B n0) (8 + x) (cs.map bv)).toArray) (some g) := grow_trans hg (grow_trans (grow_drewN wr 1 _) (grown_setRow wr.drew g _))
      have hk3 : Row (wr.drew.setRow g (splice (hsG st B n0) (8 + x) (cs.map bv)).toArray) kg 123 (Sha.keyL.map w32) := (setRow_other _ _ _ _ (Ne.symm hgk)).trans hk
      have hx0 : (0 : Int) ≤ x := by omega
      have hx63 : (x : Int) ≤ 64 := by omega
      have hx64i : (x : Int) < 64 := by omega
      replace hn := Lib.hid hn
      replace hx := Lib.hid hx
      replace hn0 := Lib.hid hn0
      replace hcs := Lib.hid hcs
      replace hL := Lib.hid hL
      replace hsr := Lib.hid hsr
      replace hcl := Lib.hid hcl
      replace hst := Lib.hid hst
      replace hBl := Lib.hid hBl
      have hfit : 8 + x + n ≤ (hsG st B n0).length := by rw [hsG_length st hBl.out]; omega
      have hcm : List.take n (r.data.toList.map bv) = cs.map bv := by rw [← List.map_take, hcs.out]
      replace hcm := Lib.hid hcm
      go_wp2_with fail
      go_region_law (refine step_copy_part rfl (.tmp 17) (.tmp 18) 82 9 rfl 5 rfl (by kernel_rfl) _ _ _ _ rfl _ rfl n hn.out _ 122 hR.drew hfit ?_)
      rw [hcm.out]
      generalize wr.drew.setRow g (splice (hsG st B n0) (8 + x) (cs.map bv)).toArray = w3 at *
      have hB3 : (splice B x cs).length = 64 := by
        have h1 := hBl.out
        have h2 := hcl.out
        rw [length_splice _ _ _ (by omega)]
        exact h1
      have hHx : Hid (x + n < 64 → Hs (L ++ cs) (splice B x cs) ∧ hsG st (splice B x cs) ((n0 : Int) + n) = hsC (L ++ cs) (splice B x cs)) := by
        intro hc
        have h1 := more_part (cs := cs) hB (by rw [hn0.out, hx.out, hcl.out]; exact hc)
        rw [hn0.out, hx.out, hst.out, List.length_append, hn0.out, hcl.out] at h1
        exact h1
      have hHy : Hid (x + n = 64 → Hs (L ++ cs) (splice B x cs) ∧ hsG (Sha.next st (splice B x cs)) (splice B x cs) ((n0 : Int) + n) = hsC (L ++ cs) (splice B x cs)) := by
        intro hc
        have h1 := more_full (cs := cs) hB (by rw [hn0.out, hx.out, hcl.out]; exact hc)
        rw [hn0.out, hx.out, hst.out, List.length_append, hn0.out, hcl.out] at h1
        exact h1
      have hsr2 : Hid (s.data.toList = (done ++ cs) ++ (r.extract n r.size).data.toList) := by
        show _ = _
        rw [hsr.out, List.append_assoc]
        congr 1
        rw [ByteArray.data_extract]
        simp only [Array.toList_extract, List.extract_eq_take_drop]
        rw [← hcs.out, List.take_of_length_le (l := r.data.toList.drop n) (by rw [List.length_drop]; exact Nat.le_refl _)]
        exact (List.take_append_drop n _).symm
      generalize splice B x cs = B3 at *
      have c3 := hR3.cell (hsG_size st hB3 n0)
      have f3 := hR3.free 72
      have hsz := szOf
      clear hR hg hk c72 hfit hcm hkg2
      have hR4 := hR3.set 72 (.int .i64 ((n0 : Int) + n))
      rw [hsG_setSize st hB3] at hR4
      have hg4 : w.grownBy (w3.setCell ⟨g, 72, none⟩ (.int .i64 ((n0 : Int) + n))) (some g) := grow_trans hg3 ⟨rfl, rfl, rfl, by simp [World.setCell], fun k _ hne => Below.heap_setCell _ _ _ _ (fun e => hne (by rw [e]))⟩
      have hk4 := hk3.other (p := ⟨g, 72, none⟩) (Ne.symm hgk) (.int .i64 ((n0 : Int) + n))
      have hni : (0 : Int) ≤ n := by omega
      have hnr : (n : Int) ≤ r.size := by omega
      have hs0 : (0 : Int) ≤ (n0 : Int) + n := by omega
      by_cases hc : x + n < 64
      · obtain ⟨h1, h2⟩ := hHx.out hc
        have ht2 : ((n0 : Int) + n).tmod 64 = ((x + n : Nat) : Int) := by
          have : (n0 + n) % 64 = x + n := by have := hx.out; omega
          rw [← this]
          rfl
        have ht3 : (((x + n : Nat) : Int) == 0) = false := by
          rw [beq_eq_false_iff_ne]
          omega
        generalize x + n = y at *
        replace h2 := Lib.hid h2
        go_wp2_with fail
        go_roundw
        case rel => exact ⟨done ++ cs, _, rfl, hsr2.out, ⟨B3, by rw [← List.append_assoc, hL.out]; exact h1, by rw [← List.append_assoc, hL.out, ← h2.out]; exact hR4⟩, hk4, hg4⟩
        case measure => simp [szOf]; omega
      · have hc2 : x + n = 64 := by omega
        obtain ⟨h1, h2⟩ := hHy.out hc2
        have ht2 : ((n0 : Int) + n).tmod 64 = 0 := by
          have : (n0 + n) % 64 = 0 := by have := hx.out; omega
          show (((n0 + n) % 64 : Nat) : Int) = 0
          rw [this]
          rfl
        obtain ⟨t, ht⟩ : ∃ t, Sha.next st B3 = t := ⟨_, rfl⟩
        rw [ht] at h2
        replace ht := Lib.hid ht
        replace h2 := Lib.hid h2
        clear hc hHx hHy
        go_wp2_with fail
        clear c3 f3 ht2 hR3 hg3 hk3 hc2
        generalize w3.setCell ⟨g, 72, none⟩ (Value.int .i64 ((n0 : Int) + n)) = w4 at *
        have d0 := hR4.drew.cell (hsG_state st B3 _ (show 0 < 8 by omega))
        have d1 := hR4.drew.cell (hsG_state st B3 _ (show 1 < 8 by omega))
        have d2 := hR4.drew.cell (hsG_state st B3 _ (show 2 < 8 by omega))
        have d3 := hR4.drew.cell (hsG_state st B3 _ (show 3 < 8 by omega))
        have d4 := hR4.drew.cell (hsG_state st B3 _ (show 4 < 8 by omega))
        have d5 := hR4.drew.cell (hsG_state st B3 _ (show 5 < 8 by omega))
        have d6 := hR4.drew.cell (hsG_state st B3 _ (show 6 < 8 by omega))
        have d7 := hR4.drew.cell (hsG_state st B3 _ (show 7 < 8 by omega))
        change _ = some (Value.int .u32 (st.a.toNat : Int)) at d0
        change _ = some (Value.int .u32 (st.b.toNat : Int)) at d1
        change _ = some (Value.int .u32 (st.c.toNat : Int)) at d2
        change _ = some (Value.int .u32 (st.d.toNat : Int)) at d3
        change _ = some (Value.int .u32 (st.e.toNat : Int)) at d4
        change _ = some (Value.int .u32 (st.f.toNat : Int)) at d5
        change _ = some (Value.int .u32 (st.g.toNat : Int)) at d6
        change _ = some (Value.int .u32 (st.h.toNat : Int)) at d7
        have hblk : ∀ j, j < 64 → w4.drew.cell? ⟨g, 8 + j, none⟩ = some (bv (B3.getD j 0)) := fun j hj => hR4.drew.cell (hsG_byte st hB3 _ hj)
        have hk6 := hk4.drew
        have hR6 := hR4.drew
        have hg6 := grow_trans hg4 (grow_drewN w4 1 _)
        change w.grownBy w4.drew _ at hg6
        replace hblk := Lib.hid hblk
        replace hB3 := Lib.hid hB3
        go_region_law (go_simp
                       go_at_call 71
                       refine (next_u hB3.out (Nat.le_refl 64) hblk.out hk6 ht).mono ?_
                       rintro e w5 ⟨rfl, hb5⟩
                       have hR7 := hR6.below hb5 hR6.lt
                       have hk7 := hk6.below hb5 hk6.lt
                       have hg7 := grow_below hg6 hb5
                       have e0 := hR7.cell (hsG_state st B3 _ (show 0 < 8 by omega))
                       have e1 := hR7.cell (hsG_state st B3 _ (show 1 < 8 by omega))
                       have e2 := hR7.cell (hsG_state st B3 _ (show 2 < 8 by omega))
                       have e3 := hR7.cell (hsG_state st B3 _ (show 3 < 8 by omega))
                       have e4 := hR7.cell (hsG_state st B3 _ (show 4 < 8 by omega))
                       have e5 := hR7.cell (hsG_state st B3 _ (show 5 < 8 by omega))
                       have e6 := hR7.cell (hsG_state st B3 _ (show 6 < 8 by omega))
                       have e7 := hR7.cell (hsG_state st B3 _ (show 7 < 8 by omega))
                       have v0 := hR7.free 0
                       have v1 := hR7.free 1
                       have v2 := hR7.free 2
                       have v3 := hR7.free 3
                       have v4 := hR7.free 4
                       have v5 := hR7.free 5
                       have v6 := hR7.free 6
                       have v7 := hR7.free 7)
        have hR8 := (((((((hR7.set 0 (w32 t.a)).set 1 (w32 t.b)).set 2 (w32 t.c)).set 3 (w32 t.d)).set 4 (w32 t.e)).set 5 (w32 t.f)).set 6 (w32 t.g)).set 7 (w32 t.h)
        rw [hsG_setState, h2.out] at hR8
        have hk8 := (((((((hk7.at_set hgk 0 (w32 t.a)).at_set hgk 1 (w32 t.b)).at_set hgk 2 (w32 t.c)).at_set hgk 3 (w32 t.d)).at_set hgk 4 (w32 t.e)).at_set hgk 5 (w32 t.f)).at_set hgk 6 (w32 t.g)).at_set hgk 7 (w32 t.h)
        have hg8 := hgrow_set (hgrow_set (hgrow_set (hgrow_set (hgrow_set (hgrow_set (hgrow_set (hgrow_set hg7 0 (w32 t.a)) 1 (w32 t.b)) 2 (w32 t.c)) 3 (w32 t.d)) 4 (w32 t.e)) 5 (w32 t.f)) 6 (w32 t.g)) 7 (w32 t.h)
        go_wp2_with fail
        go_roundw
        case rel => exact ⟨done ++ cs, _, rfl, hsr2.out, ⟨B3, by rw [← List.append_assoc, hL.out]; exact h1, by rw [← List.append_assoc, hL.out]; exact hR8⟩, hk8, hg8⟩
        case measure => simp [szOf]; omega
end Go.Proofs.Ytmmkopdijmplcaa.HH
