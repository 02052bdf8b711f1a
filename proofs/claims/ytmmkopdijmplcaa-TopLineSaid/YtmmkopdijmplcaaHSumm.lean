/-
  Sum of a hash: the sum of all that was written; the hash stays.
-/
import Derived.Test.YtmmkopdijmplcaaHSelf
namespace Go.Proofs.Ytmmkopdijmplcaa.HH
open Go.RowKit Base
theorem w4_big (x : BitVec 32) : bigTo x.toNat 4 4 = Sha.w4 x := by
  have h : ∀ i, i < 4 → b8 x.toNat i = UInt8.ofBitVec ((x >>> (8 * i)).setWidth 8) := by
    intro i _
    apply UInt8.toNat_inj.1
    unfold b8
    rw [UInt8.toNat_ofNat', UInt8.toNat_ofBitVec, BitVec.toNat_setWidth, BitVec.toNat_ushiftRight, Nat.shiftRight_eq_div_pow, Nat.mod_mod, Nat.pow_mul]
  show [b8 x.toNat 3, b8 x.toNat 2, b8 x.toNat 1, b8 x.toNat 0] = _
  rw [h 3 (by omega), h 2 (by omega), h 1 (by omega), h 0 (by omega)]
  rfl
def outTo (s : Sha.St) (j : Nat) : List UInt8 := (List.range j).flatMap fun i => Sha.w4 (stg s i)
theorem outTo_succ (s : Sha.St) (j : Nat) : outTo s (j + 1) = outTo s j ++ Sha.w4 (stg s j) := by
  unfold outTo
  rw [List.range_succ, List.flatMap_append]
  simp
theorem outTo_all (s : Sha.St) : outTo s 8 = Sha.out s := by
  show Sha.w4 s.a ++ (Sha.w4 s.b ++ (Sha.w4 s.c ++ (Sha.w4 s.d ++ (Sha.w4 s.e ++ (Sha.w4 s.f ++ (Sha.w4 s.g ++ (Sha.w4 s.h ++ []))))))) = _
  unfold Sha.out
  simp only [List.append_assoc, List.append_nil]
theorem noughts_lt (n : Nat) : Sha.noughts n < 64 := Nat.mod_lt _ (by decide)
theorem noughts_end (n : Nat) : (n + (1 + Sha.noughts n)) % 64 = 56 := by unfold Sha.noughts; omega
theorem noughts_not (n z : Nat) (h : z < Sha.noughts n) : (n + (1 + z)) % 64 ≠ 56 := by unfold Sha.noughts at h; omega
theorem pad_length (n : Nat) : (Sha.pad n).length = 1 + Sha.noughts n + 8 := by
  unfold Sha.pad Sha.be8
  simp
  omega
theorem owns_len {w : World} {B n : Nat} {v : Value} {xs : List Value} (h : w.ownsRow B 5 1 v (1 + n) xs) : ∃ g cap, v = .slice (some ⟨g, 0, none⟩) (1 + n) cap := by
  rcases h.2 with ⟨_, h0⟩ | ⟨g, cap, cur, hv, _⟩
  · omega
  · exact ⟨g, cap, hv⟩
theorem owns_of_row {w : World} {B g : Nat} {cur : List Value} (n cap : Nat) (h : Row w g 5 cur) (hB : B ≤ g) (hc : cur.length = cap) (hn : n ≤ cap) (hm : cap ≤ maxLen) : w.ownsRow B 5 1 (.slice (some ⟨g, 0, none⟩) n cap) n (cur.take n) :=
  ⟨by rw [List.length_take]; omega, .inr ⟨g, cap, cur.toArray, rfl, hB, h, hn, hm, by simpa using hc, by simp⟩⟩
def sixty : Array Value := Array.replicate 72 (.int .u8 0)
set_option maxRecDepth 100000 in
set_option maxHeartbeats 4000000 in
theorem summ_any {w : World} {g : Nat} {l : List UInt8} (h : HashAt w g l) (hln : l.length ≤ 1152921504606846975) :
    Calls Try.prog 63 #[.pointer (some ⟨g, 0, none⟩)] w fun e w' => e = .returned (.string (str (Sha.sha l))) ∧ Below w.heap.size w w' := by
  obtain ⟨i0, hi, hz0, hz1, hz2⟩ := info_parts infoU8
  obtain ⟨B, hB, hR⟩ := h
  have hglt := hR.lt
  have hl : (hsC l B).length = 73 := hsG_length _ hB.len _
  have c72 := hR.cell (hsG_size _ hB.len _)
  have h1 : (hsC l B).toArray.all (·.oneCell') = true := hsC_one l B
  have hsz : (Try.prog.info? 122).map (·.size) = some (hsC l B).toArray.size := by
    rw [List.size_toArray, hl]
    kernel_rfl
  have hzz : zeroH.size = (hsC l B).toArray.size := (show zeroH.size = 73 from rfl).trans (by rw [List.size_toArray, hl])
  go_enter Try.func63, Try.ntmps63
  obtain ⟨n, hn⟩ : ∃ n, l.length = n := ⟨_, rfl⟩
  rw [hn] at c72 hln
  replace hn := Lib.hid hn
  generalize hC : hsC l B = C at *
  have hRc : Row ((w.alloc (.cells zeroH 122)).setRow w.heap.size C.toArray) w.heap.size 122 C := setRow_heap _ _ _ _ 122 _ (heap_alloc_new w _)
  have hbc : Below w.heap.size w ((w.alloc (.cells zeroH 122)).setRow w.heap.size C.toArray) := below_setRow ((Below.refl _ _).alloc (Nat.le_refl _) _) (Nat.le_refl _) _
  have hzc : ((w.alloc (.cells zeroH 122)).setRow w.heap.size C.toArray).heap.size = w.heap.size + 1 := by simp [World.setRow]
  replace hC := Lib.hid hC
  replace hl := Lib.hid hl
  replace h1 := Lib.hid h1
  replace hsz := Lib.hid hsz
  replace hzz := Lib.hid hzz
  go_upto_region 2 with (first
    | (refine wpList_load_row rfl 122 _ rfl g rfl 122 _ (0, 0) _ hR Try.underlying122 rfl hsz.out ?_)
    | (refine wpList_allocIs rfl 122 rfl _ rfl w.heap.size rfl (.cells zeroH 122) (by kernel_rfl) ?_)
    | (refine wpList_store_rowTo rfl _ _ _ rfl rfl w.heap.size _ rfl rfl 122 zeroH (heap_alloc_new w _) hsz.out hzz.out h1.out ?_))
  have c1 := (hR.below hbc hglt).cell (v := .int .i64 (n : Int)) (j := 72) (by
    rw [← hC.out]
    have := hsG_size (Sha.run (l.length / 64) l) hB.len (l.length : Int)
    rw [hn.out] at this
    unfold hsC
    rw [hn.out]
    exact this)
  generalize (w.alloc (.cells zeroH 122)).setRow w.heap.size C.toArray = w1 at *
  have hmk : (Instr.makeSlice 82 (.int .i64 1) (.int .i64 72)).run Try.prog w1 = .ok (.slice (some ⟨w1.heap.size, 0, none⟩) 1 72) (w1.alloc (.cells sixty 5)) := by kernel_rfl
  go_upto_region 3 with fail
  have hR2 := Row.new w1 sixty.toList 5
  change Row (w1.alloc (.cells sixty 5)) _ _ _ at hR2
  have hc2 := hRc.alloc (.cells sixty 5)
  have hb2 := hbc.alloc hbc.size (.cells sixty 5)
  have c2 : (w1.alloc (.cells sixty 5)).cell? ⟨g, 72, none⟩ = _ := (((Below.refl w1.heap.size w1).alloc (Nat.le_refl _) (.cells sixty 5)).cell (p := ⟨g, 72, none⟩) (by show g < _; omega)).trans c1
  have hz2' : (w1.alloc (.cells sixty 5)).heap.size = w.heap.size + 2 := by rw [World.size_alloc, hzc]
  clear hmk hRc hbc c1 c72 hR
  generalize w1.alloc (.cells sixty 5) = w2 at *
  rw [hzc] at hR2
  replace hzc := Lib.hid hzc
  have e2 := hR2.cell (j := 0) (v := .int .u8 0) rfl
  have f2 := hR2.free 0
  have hR3 := hR2.set 0 (bv 128)
  have hc3 := hc2.at_set (b := w.heap.size + 1) (by simp) 0 (bv 128)
  have hb3 := hb2.setCell (p := ⟨w.heap.size + 1, 0, none⟩) (by show _ ≤ w.heap.size + 1; omega) (bv 128)
  have c3 := (World.cell?_setCell_other (w := w2) (a := ⟨w.heap.size + 1, 0, none⟩) (b := ⟨g, 72, none⟩) (v := bv 128) (fun e => by have e2 : w.heap.size + 1 = g := congrArg Addr.block e; omega)).trans c2
  have ho := owns_of_row (B := w.heap.size + 1) 1 72 hR3 (Nat.le_refl _) rfl (by decide) (by decide)
  clear hR2 hc2 hb2 hR3
  change World.ownsRow _ _ _ _ _ 1 [bv 128] at ho
  have hcl : ∀ w', Below (w.heap.size + 1) (w2.setCell ⟨w.heap.size + 1, 0, none⟩ (bv 128)) w' → w'.cell? ⟨g, 72, none⟩ = some (.int .i64 (n : Int)) ∧ Row w' w.heap.size 122 C := fun w' hb => ⟨(hb.cell (p := ⟨g, 72, none⟩) (by show g < _; omega)).trans c3, hc3.below hb (by omega)⟩
  replace hcl := Lib.hid hcl
  go_wp2_with fail
  change Code.wp _ _ _ _ (w2.setCell ⟨w.heap.size + 1, 0, none⟩ (bv 128))
  have hsz3 : w.heap.size + 2 ≤ (w2.setCell ⟨w.heap.size + 1, 0, none⟩ (bv 128)).heap.size := by simp [World.setCell]; omega
  clear c2 e2 f2 c3 hc3 hz2'
  generalize w2.setCell ⟨w.heap.size + 1, 0, none⟩ (bv 128) = w3 at *
  go_loopw [4] (fun v wr => ∃ z : Nat, z ≤ Sha.noughts n ∧ wr.ownsRow (w.heap.size + 1) 5 1 v (1 + z) (bv 128 :: List.replicate z (bv 0)) ∧ Below (w.heap.size + 1) w3 wr) (fun v _ => match v with | .slice _ m _ => 100 - m | _ => 100)
  case atStart => exact ⟨0, Nat.zero_le _, ho, Below.refl _ _⟩
  case round =>
    clear ho
    obtain ⟨z, hz, ho, hb4⟩ := hrel
    obtain ⟨c4, hc4⟩ := hcl.out wr hb4
    have hz64 := noughts_lt n
    obtain ⟨ge, cap, rfl⟩ := owns_len ho
    have hbs := hb4.size
    have hbs3 := hb3.size
    by_cases hlt : z < Sha.noughts n
    · have hne := noughts_not n z hlt
      have ht : ((n : Int) + ((1 : Int) + (z : Int))).tmod 64 ≠ 56 := by
        intro e
        apply hne
        have : (((n + (1 + z)) % 64 : Nat) : Int) = 56 := e
        omega
      go_wp2_with (at_builtin; refine wpList_append_own _ rfl (.tmp 23) (.tmp 24) 82 rfl (w.heap.size + 1) 5 i0 (.int .u8 0) 1 1 Try.underlying82 hi hz0 hz1 hz2 rfl (by decide) _ _ _ rfl (ho.alloc _) ⟨wr.heap.size, 0, none⟩ 1 1 [bv 0] rfl rfl ?c1 ?c2 ?c3 ?c4 ?c5 ?_)
      case c1 => exact cell_one_new _ _ _
      case c2 => exact one_cell _ rfl
      case c3 => unfold maxLen; omega
      case c4 => omega
      case c5 => simp; omega
      intro v' w4 ho4 hgrow _
      have hb5 : Below (w.heap.size + 1) w3 w4 := (hb4.alloc (by omega) _).grown hgrow (by simp; omega) (fun k hk => (ho.lt k hk).1)
      have hz1' : bv 128 :: List.replicate (z + 1) (bv 0) = bv 128 :: (List.replicate z (bv 0) ++ [bv 0]) := by rw [List.replicate_succ']
      have ho5 : w4.ownsRow (w.heap.size + 1) 5 1 v' (1 + (z + 1)) (bv 128 :: List.replicate (z + 1) (bv 0)) := by
        rw [hz1', ← Nat.add_assoc]
        exact ho4
      obtain ⟨g5, cap5, rfl⟩ := owns_len ho5
      clear ho4 hgrow ho hz1'
      go_wp2_with fail
      go_roundw
      case rel => exact ⟨z + 1, by omega, ho5, hb5⟩
      case measure => show 100 - (1 + (z + 1)) < 100 - (1 + z); omega
    · have hzn : Sha.noughts n = z := by omega
      have hend := noughts_end n
      rw [hzn] at hend
      have ht : ((n : Int) + ((1 : Int) + (z : Int))) % 64 = 56 := by omega
      have hz63 : z < 64 := by omega
      clear hlt hz hz64
      have hpad : bv 128 :: List.replicate z (bv 0) ++ (bigTo (8 * n) 8 8).map bv = (Sha.pad n).map bv := by
        unfold Sha.pad
        rw [hzn, List.map_cons, List.map_append, List.map_replicate]
        rfl
      have hplen := pad_length n
      rw [hzn] at hplen
      replace hpad := Lib.hid hpad
      replace hzn := Lib.hid hzn
      have hx8 : Hid (8 * (n : Int) = ((8 * n : Nat) : Int)) := by show _ = _; omega
      have hn8 : Hid (8 * n < 18446744073709551616) := by show _ < _; omega
      go_wp2_with fail
      refine (big_v ho (by omega) (8 * n) 8 hx8 (Lib.hid rfl) (by omega) (by omega) hn8 hpad).mono ?_
      rintro e w5 ⟨v5, rfl, ho5, hb5⟩
      have hcv := run_back w5 82 9 5 Try.underlying82 Try.underlying5 Try.underlying9 ho5
      have hb6 := hb4.trans hb5
      obtain ⟨_, hC6⟩ := hcl.out w5 hb6
      have hh6 : HashAt w5 w.heap.size l := ⟨B, hB, by rw [hC.out]; exact hC6⟩
      have hbw : Below w.heap.size w w5 := hb3.trans (hb6.mono (by omega))
      clear c4 hc4 ho ho5 hb5 hb4 hcl hb3 hb6 hC6
      obtain ⟨pd, hpd⟩ : ∃ pd, Sha.pad n = pd := ⟨_, rfl⟩
      rw [hpd] at hplen hcv
      replace hpd := Lib.hid hpd
      have hpl : (str pd).size ≤ 72 := by rw [str_size]; omega
      go_wp2_with fail
      refine (write_any hh6 (str pd) (by rw [hn.out]; omega)).mono ?_
      rintro e w7 ⟨rfl, hh7, hg7⟩
      rw [str_toList] at hh7
      have hb7 : Below w.heap.size w w7 := hbw.grown hg7 hbw.size (fun k e => by injection e with e; omega)
      clear hbw hg7 hcv hh6
      have hsha : Hid (Sha.sha l = Sha.out (Sha.run ((l ++ pd).length / 64) (l ++ pd))) := by
        show _ = _
        unfold Sha.sha
        rw [hn.out, hpd.out, List.length_append, hn.out]
      obtain ⟨B7, hB7, hR7⟩ := hh7
      unfold hsC at hR7
      generalize Sha.run ((l ++ pd).length / 64) (l ++ pd) = st at *
      have d0 := hR7.cell (hsG_state st B7 _ (show 0 < 8 by omega))
      have d1 := hR7.cell (hsG_state st B7 _ (show 1 < 8 by omega))
      have d2 := hR7.cell (hsG_state st B7 _ (show 2 < 8 by omega))
      have d3 := hR7.cell (hsG_state st B7 _ (show 3 < 8 by omega))
      have d4 := hR7.cell (hsG_state st B7 _ (show 4 < 8 by omega))
      have d5 := hR7.cell (hsG_state st B7 _ (show 5 < 8 by omega))
      have d6 := hR7.cell (hsG_state st B7 _ (show 6 < 8 by omega))
      have d7 := hR7.cell (hsG_state st B7 _ (show 7 < 8 by omega))
      change _ = some (Value.int .u32 (st.a.toNat : Int)) at d0
      change _ = some (Value.int .u32 (st.b.toNat : Int)) at d1
      change _ = some (Value.int .u32 (st.c.toNat : Int)) at d2
      change _ = some (Value.int .u32 (st.d.toNat : Int)) at d3
      change _ = some (Value.int .u32 (st.e.toNat : Int)) at d4
      change _ = some (Value.int .u32 (st.f.toNat : Int)) at d5
      change _ = some (Value.int .u32 (st.g.toNat : Int)) at d6
      change _ = some (Value.int .u32 (st.h.toNat : Int)) at d7
      go_wp2_with fail
      clear d0 d1 d2 d3 d4 d5 d6 d7 hR7 hB7
      have hs7 := hb7.size
      go_loopw [5, 38] (fun v i wr => ∃ j : Nat, j ≤ 8 ∧ i = .int .i64 j ∧ wr.ownsRow w.heap.size 5 1 v (4 * j) ((outTo st j).map bv) ∧ Below w.heap.size w wr) (fun _ i _ => 8 - (intOf i).toNat)
      case atStart => exact ⟨0, by omega, rfl, World.ownsRow_nil _ _ _ _, hb7⟩
      case round =>
        clear hb7
        obtain ⟨j, hj, rfl, ho, hb⟩ := hrel
        have hbs := hb.size
        by_cases hlt : j < 8
        · have hidx : ∀ w, (Instr.index 119 (.agg #[.int .u32 (st.a.toNat : Int), .int .u32 (st.b.toNat : Int), .int .u32 (st.c.toNat : Int), .int .u32 (st.d.toNat : Int), .int .u32 (st.e.toNat : Int), .int .u32 (st.f.toNat : Int), .int .u32 (st.g.toNat : Int), .int .u32 (st.h.toNat : Int)]) (.int .i64 (j : Int))).run Try.prog w = .ok (.int .u32 ((stg st j).toNat : Int)) w := by
            intro w
            rcases (by omega : j = 0 ∨ j = 1 ∨ j = 2 ∨ j = 3 ∨ j = 4 ∨ j = 5 ∨ j = 6 ∨ j = 7) with rfl | rfl | rfl | rfl | rfl | rfl | rfl | rfl <;> kernel_rfl
          have hos := outTo_succ st j
          have hbig := w4_big (stg st j)
          generalize stg st j = x at *
          have hys : Hid ((outTo st j).map bv ++ (bigTo x.toNat 4 4).map bv = (outTo st (j + 1)).map bv) := by
            show _ = _
            rw [hos, hbig, List.map_append]
          clear hos hbig
          have hlt' : (j : Int) < 8 := by omega
          have hx64 : Hid (x.toNat < 18446744073709551616) := by
            show _ < _
            have := x.isLt
            omega
          go_wp2_with fail
          refine (big_v ho hbs x.toNat 4 (Lib.hid rfl) (Lib.hid rfl) (by omega) (by omega) hx64 hys).mono ?_
          rintro e w8 ⟨v8, rfl, ho8, hb8⟩
          have hb9 := hb.trans hb8
          clear hx64 hidx hys ho hb8 hb
          go_wp2_with fail
          go_roundw
          case rel => first | exact ⟨j + 1, by omega, by go_num, ho8, hb9⟩ | ((repeat apply Exists.intro); exact ⟨⟨j + 1, by omega, by go_num, ho8, hb9⟩, rfl⟩)
          case measure => simp [intOf]; omega
        · obtain rfl : j = 8 := by omega
          have hcv := run_back wr 82 9 5 Try.underlying82 Try.underlying5 Try.underlying9 ho
          rw [outTo_all, ← hsha.out] at hcv
          clear ho hlt
          go_wp2_with fail
          go_ret
          exact ⟨rfl, hb⟩
end Go.Proofs.Ytmmkopdijmplcaa.HH
