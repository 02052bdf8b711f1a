/-
  The document's Decode: for every key and text that are not enormous and every label it returns what the bytes say.
-/
import Derived.Test.YtmmkopdijmplcaaTEnc
import Derived.Deep.RegionHeld3
set_option linter.unusedVariables false
set_option maxRecDepth 100000
namespace Go.Proofs.Ytmmkopdijmplcaa.RT
open Go.RowKit Base HH RH FF
set_option maxHeartbeats 1000000 in
/-- no frame's form, by its length or its first byte -/
theorem rdec_short {key s : ByteArray} {level epoch : Int} (w : World) (hs : s.size ≤ 140737488355328) (h : ¬ (50 ≤ s.size ∧ (s.data.toList.getD 17 0).toNat ≤ 200 ∧ s.size = 50 + (s.data.toList.getD 17 0).toNat ∧ (s.data.toList.getD 0 0).toNat < 8)) :
    Calls Try.prog 27 #[.string key, .int .i64 level, .int .i64 epoch, .string s] w fun e w' => e = .returned (.tuple #[.int .i64 0, .string (str []), .int .i64 190]) ∧ w = w' := by
  by_cases h1 : s.size < 50
  · have h1' : (s.size : Int) < 50 := by omega
    clear h
    go_enter Try.func27, Try.ntmps27
    go_wp2_with fail
    go_ret3
    exact ⟨rfl, rfl⟩
  have h1' : ¬ (s.size : Int) < 50 := by omega
  have hb17 : 17 < s.size := by omega
  have hb0 : 0 < s.size := by omega
  have e17 := get_byte s 17 hb17
  have e0 := get_byte s 0 hb0
  obtain ⟨c, hc⟩ : ∃ c, s.data.toList.getD 17 0 = c := ⟨_, rfl⟩
  obtain ⟨d, hd⟩ : ∃ d, s.data.toList.getD 0 0 = d := ⟨_, rfl⟩
  rw [hc] at h e17
  rw [hd] at h e0
  have hc256 : c.toNat < 256 := c.toNat_lt
  clear hc hd
  by_cases h2 : c.toNat ≤ 200
  · have h2' : ¬ (200 : Int) < c.toNat := by omega
    by_cases h3 : s.size = 50 + c.toNat
    · have h3' : ((s.size : Int) != 50 + (c.toNat : Int)) = false := by rw [bne_eq_false_iff_eq]; omega
      have h4 : (7 : Int) < d.toNat := by omega
      replace h3 := Lib.hid h3
      clear h
      go_enter Try.func27, Try.ntmps27
      go_wp2_with fail
      go_ret3
      exact ⟨rfl, rfl⟩
    · have h3' : ((s.size : Int) != 50 + (c.toNat : Int)) = true := by rw [bne_iff_ne]; omega
      replace h3 := Lib.hid h3
      clear h
      go_enter Try.func27, Try.ntmps27
      go_wp2_with fail
      go_ret3
      exact ⟨rfl, rfl⟩
  · have h2' : (200 : Int) < c.toNat := by omega
    clear h
    go_enter Try.func27, Try.ntmps27
    go_wp2_with fail
    go_ret3
    exact ⟨rfl, rfl⟩
set_option maxHeartbeats 1000000 in
/-- a number of it is above the greatest -/
theorem rdec_big {key s : ByteArray} {level epoch : Int} (w : World) {c d : UInt8} (hf : FF.Form s c d) {x y : Nat} (hx : Hid (Frm.valN (s.extract 1 9).data.toList = x)) (hy : Hid (Frm.valN (s.extract 9 17).data.toList = y)) (h : ¬ (x ≤ 4611686018427387904 ∧ y ≤ 4611686018427387904)) :
    Calls Try.prog 27 #[.string key, .int .i64 level, .int .i64 epoch, .string s] w fun e w' => e = .returned (.tuple #[.int .i64 0, .string (str []), .int .i64 190]) ∧ w = w' := by
  have h1 := hf.len
  have h2 := hf.size
  have h3 := hf.short
  have h4 := hf.low
  have hb17 : 17 < s.size := by omega
  have hb0 : 0 < s.size := by omega
  have e17 := hf.at17 hb17
  have e0 := hf.at0 hb0
  have h1' : ¬ (s.size : Int) < 50 := by omega
  have h2' : ¬ (200 : Int) < c.toNat := by omega
  have h3' : ((s.size : Int) != 50 + (c.toNat : Int)) = false := by rw [bne_eq_false_iff_eq]; omega
  have h4' : ¬ (7 : Int) < d.toNat := by omega
  have hc256 : c.toNat < 256 := c.toNat_lt
  have z1 : (s.extract 1 9).size ≤ 8 := by rw [ByteArray.size_extract]; omega
  have z2 : (s.extract 9 17).size ≤ 8 := by rw [ByteArray.size_extract]; omega
  replace h2 := Lib.hid h2
  by_cases hx1 : x ≤ 4611686018427387904
  · have hy1 : 4611686018427387904 < y := by omega
    clear h
    go_enter Try.func27, Try.ntmps27
    go_wp2_with fail
    refine (val_v z1 hx hx1).mono ?_
    rintro e w' ⟨rfl, rfl⟩
    go_wp2_with fail
    refine (val_no z2 hy hy1).mono ?_
    rintro e w' ⟨rfl, rfl⟩
    go_wp2_with fail
    go_ret3
    exact ⟨rfl, rfl⟩
  · clear h
    go_enter Try.func27, Try.ntmps27
    go_wp2_with fail
    refine (val_no z1 hx (by omega)).mono ?_
    rintro e w' ⟨rfl, rfl⟩
    go_wp2_with fail
    go_ret3
    exact ⟨rfl, rfl⟩
set_option maxHeartbeats 1000000 in
/-- the tag is another one -/
theorem rdec_tag {key s b g t : ByteArray} {level epoch : Int} (w : World) (hk : key.size ≤ 140737488355328) (hs : s.size ≤ 140737488355328) {c d : UInt8} (hf : FF.Form s c d) {x y : Nat} (hx : Hid (Frm.valN (s.extract 1 9).data.toList = x)) (hy : Hid (Frm.valN (s.extract 9 17).data.toList = y)) (hx1 : x ≤ 4611686018427387904) (hy1 : y ≤ 4611686018427387904)
    (hb : Hid (s.extract 0 (s.size - 32) = b)) (hg : Hid (s.extract (s.size - 32) s.size = g)) (ht : Hid (str (Sha.mac key.data.toList b.data.toList) = t)) (hq : (t.toList == g.toList) = false) :
    Calls Try.prog 27 #[.string key, .int .i64 level, .int .i64 epoch, .string s] w fun e w' => e = .returned (.tuple #[.int .i64 0, .string (str []), .int .i64 192]) ∧ Below w.heap.size w w' := by
  have h1 := hf.len
  have h2 := hf.size
  have h3 := hf.short
  have h4 := hf.low
  have hb17 : 17 < s.size := by omega
  have hb0 : 0 < s.size := by omega
  have e17 := hf.at17 hb17
  have e0 := hf.at0 hb0
  have h1' : ¬ (s.size : Int) < 50 := by omega
  have h2' : ¬ (200 : Int) < c.toNat := by omega
  have h3' : ((s.size : Int) != 50 + (c.toNat : Int)) = false := by rw [bne_eq_false_iff_eq]; omega
  have h4' : ¬ (7 : Int) < d.toNat := by omega
  have hc256 : c.toNat < 256 := c.toNat_lt
  have z1 : (s.extract 1 9).size ≤ 8 := by rw [ByteArray.size_extract]; omega
  have z2 : (s.extract 9 17).size ≤ 8 := by rw [ByteArray.size_extract]; omega
  have h32 : (32 : Int) ≤ s.size := by omega
  have hbsz : b.size = s.size - 32 := by rw [← hb.out, ByteArray.size_extract]; omega
  have hbs : b.size ≤ 140737488355328 := by omega
  have hb18 : (18 : Int) ≤ b.size := by omega
  have hble : (b.size : Int) ≤ s.size := by omega
  have e18 : (18 : Int) + (c.toNat : Int) = ((s.size - 32 : Nat) : Int) := by omega
  have hb' : s.extract 0 ((18 : Int) + (c.toNat : Int)).toNat = b := by
    rw [show ((18 : Int) + (c.toNat : Int)).toNat = s.size - 32 from by omega]
    exact hb.out
  have hg' : s.extract ((18 : Int) + (c.toNat : Int)).toNat s.size = g := by
    rw [show ((18 : Int) + (c.toNat : Int)).toNat = s.size - 32 from by omega]
    exact hg.out
  have q0 : (0 : Int) ≤ 18 + (c.toNat : Int) := by omega
  have q3 : IntKind.i64.wrap (18 + (c.toNat : Int)) = 18 + (c.toNat : Int) := IntWalk.i64_in _ (by omega)
  have q1 : (18 : Int) + (c.toNat : Int) ≤ s.size := by omega
  have q2 : (18 : Int) ≤ 18 + (c.toNat : Int) := by omega
  have u1 : ¬ (x : Int) < 0 := by omega
  have u2 : ¬ (y : Int) < 0 := by omega
  replace e18 := Lib.hid e18
  replace h2 := Lib.hid h2
  replace hbsz := Lib.hid hbsz
  go_enter Try.func27, Try.ntmps27
  go_wp2_with fail
  refine (val_v z1 hx hx1).mono ?_
  rintro e w' ⟨rfl, rfl⟩
  go_wp2_with fail
  refine (val_v z2 hy hy1).mono ?_
  rintro e w' ⟨rfl, rfl⟩
  go_wp2_with fail
  go_region_held3 (fun _ => True) (trivial) ((go_at_call 59; (with_reducible refine (rmac_v hk hbs ht).mono ?_); rintro e w2 ⟨rfl, hb2⟩))
  have hb3 := (Below.refl w.heap.size w).drew.trans (hb2.mono (Nat.le_refl _))
  go_wp2_with fail
  go_ret3
  exact ⟨rfl, hb3⟩
set_option maxHeartbeats 1000000 in
/-- the level is another one -/
theorem rdec_level {key s b g t : ByteArray} {level epoch : Int} (w : World) (hk : key.size ≤ 140737488355328) (hs : s.size ≤ 140737488355328) {c d : UInt8} (hf : FF.Form s c d) {x y : Nat} (hx : Hid (Frm.valN (s.extract 1 9).data.toList = x)) (hy : Hid (Frm.valN (s.extract 9 17).data.toList = y)) (hx1 : x ≤ 4611686018427387904) (hy1 : y ≤ 4611686018427387904)
    (hb : Hid (s.extract 0 (s.size - 32) = b)) (hg : Hid (s.extract (s.size - 32) s.size = g)) (ht : Hid (str (Sha.mac key.data.toList b.data.toList) = t)) (hq : (t.toList == g.toList) = true) (hl : ((d.toNat : Int) != level) = true) :
    Calls Try.prog 27 #[.string key, .int .i64 level, .int .i64 epoch, .string s] w fun e w' => e = .returned (.tuple #[.int .i64 0, .string (str []), .int .i64 193]) ∧ Below w.heap.size w w' := by
  have h1 := hf.len
  have h2 := hf.size
  have h3 := hf.short
  have h4 := hf.low
  have hb17 : 17 < s.size := by omega
  have hb0 : 0 < s.size := by omega
  have e17 := hf.at17 hb17
  have e0 := hf.at0 hb0
  have h1' : ¬ (s.size : Int) < 50 := by omega
  have h2' : ¬ (200 : Int) < c.toNat := by omega
  have h3' : ((s.size : Int) != 50 + (c.toNat : Int)) = false := by rw [bne_eq_false_iff_eq]; omega
  have h4' : ¬ (7 : Int) < d.toNat := by omega
  have hc256 : c.toNat < 256 := c.toNat_lt
  have z1 : (s.extract 1 9).size ≤ 8 := by rw [ByteArray.size_extract]; omega
  have z2 : (s.extract 9 17).size ≤ 8 := by rw [ByteArray.size_extract]; omega
  have h32 : (32 : Int) ≤ s.size := by omega
  have hbsz : b.size = s.size - 32 := by rw [← hb.out, ByteArray.size_extract]; omega
  have hbs : b.size ≤ 140737488355328 := by omega
  have hb18 : (18 : Int) ≤ b.size := by omega
  have hble : (b.size : Int) ≤ s.size := by omega
  have e18 : (18 : Int) + (c.toNat : Int) = ((s.size - 32 : Nat) : Int) := by omega
  have hb' : s.extract 0 ((18 : Int) + (c.toNat : Int)).toNat = b := by
    rw [show ((18 : Int) + (c.toNat : Int)).toNat = s.size - 32 from by omega]
    exact hb.out
  have hg' : s.extract ((18 : Int) + (c.toNat : Int)).toNat s.size = g := by
    rw [show ((18 : Int) + (c.toNat : Int)).toNat = s.size - 32 from by omega]
    exact hg.out
  have q0 : (0 : Int) ≤ 18 + (c.toNat : Int) := by omega
  have q3 : IntKind.i64.wrap (18 + (c.toNat : Int)) = 18 + (c.toNat : Int) := IntWalk.i64_in _ (by omega)
  have q1 : (18 : Int) + (c.toNat : Int) ≤ s.size := by omega
  have q2 : (18 : Int) ≤ 18 + (c.toNat : Int) := by omega
  have u1 : ¬ (x : Int) < 0 := by omega
  have u2 : ¬ (y : Int) < 0 := by omega
  replace e18 := Lib.hid e18
  replace h2 := Lib.hid h2
  replace hbsz := Lib.hid hbsz
  go_enter Try.func27, Try.ntmps27
  go_wp2_with fail
  refine (val_v z1 hx hx1).mono ?_
  rintro e w' ⟨rfl, rfl⟩
  go_wp2_with fail
  refine (val_v z2 hy hy1).mono ?_
  rintro e w' ⟨rfl, rfl⟩
  go_wp2_with fail
  go_region_held3 (fun _ => True) (trivial) ((go_at_call 59; (with_reducible refine (rmac_v hk hbs ht).mono ?_); rintro e w2 ⟨rfl, hb2⟩))
  have hb3 := (Below.refl w.heap.size w).drew.trans (hb2.mono (Nat.le_refl _))
  go_wp2_with fail
  go_ret3
  exact ⟨rfl, hb3⟩
set_option maxHeartbeats 1000000 in
/-- the epoch is another one -/
theorem rdec_epoch {key s b g t : ByteArray} {level epoch : Int} (w : World) (hk : key.size ≤ 140737488355328) (hs : s.size ≤ 140737488355328) {c d : UInt8} (hf : FF.Form s c d) {x y : Nat} (hx : Hid (Frm.valN (s.extract 1 9).data.toList = x)) (hy : Hid (Frm.valN (s.extract 9 17).data.toList = y)) (hx1 : x ≤ 4611686018427387904) (hy1 : y ≤ 4611686018427387904)
    (hb : Hid (s.extract 0 (s.size - 32) = b)) (hg : Hid (s.extract (s.size - 32) s.size = g)) (ht : Hid (str (Sha.mac key.data.toList b.data.toList) = t)) (hq : (t.toList == g.toList) = true) (hl : ((d.toNat : Int) != level) = false) (he : ((x : Int) != epoch) = true) :
    Calls Try.prog 27 #[.string key, .int .i64 level, .int .i64 epoch, .string s] w fun e w' => e = .returned (.tuple #[.int .i64 0, .string (str []), .int .i64 193]) ∧ Below w.heap.size w w' := by
  have h1 := hf.len
  have h2 := hf.size
  have h3 := hf.short
  have h4 := hf.low
  have hb17 : 17 < s.size := by omega
  have hb0 : 0 < s.size := by omega
  have e17 := hf.at17 hb17
  have e0 := hf.at0 hb0
  have h1' : ¬ (s.size : Int) < 50 := by omega
  have h2' : ¬ (200 : Int) < c.toNat := by omega
  have h3' : ((s.size : Int) != 50 + (c.toNat : Int)) = false := by rw [bne_eq_false_iff_eq]; omega
  have h4' : ¬ (7 : Int) < d.toNat := by omega
  have hc256 : c.toNat < 256 := c.toNat_lt
  have z1 : (s.extract 1 9).size ≤ 8 := by rw [ByteArray.size_extract]; omega
  have z2 : (s.extract 9 17).size ≤ 8 := by rw [ByteArray.size_extract]; omega
  have h32 : (32 : Int) ≤ s.size := by omega
  have hbsz : b.size = s.size - 32 := by rw [← hb.out, ByteArray.size_extract]; omega
  have hbs : b.size ≤ 140737488355328 := by omega
  have hb18 : (18 : Int) ≤ b.size := by omega
  have hble : (b.size : Int) ≤ s.size := by omega
  have e18 : (18 : Int) + (c.toNat : Int) = ((s.size - 32 : Nat) : Int) := by omega
  have hb' : s.extract 0 ((18 : Int) + (c.toNat : Int)).toNat = b := by
    rw [show ((18 : Int) + (c.toNat : Int)).toNat = s.size - 32 from by omega]
    exact hb.out
  have hg' : s.extract ((18 : Int) + (c.toNat : Int)).toNat s.size = g := by
    rw [show ((18 : Int) + (c.toNat : Int)).toNat = s.size - 32 from by omega]
    exact hg.out
  have q0 : (0 : Int) ≤ 18 + (c.toNat : Int) := by omega
  have q3 : IntKind.i64.wrap (18 + (c.toNat : Int)) = 18 + (c.toNat : Int) := IntWalk.i64_in _ (by omega)
  have q1 : (18 : Int) + (c.toNat : Int) ≤ s.size := by omega
  have q2 : (18 : Int) ≤ 18 + (c.toNat : Int) := by omega
  have u1 : ¬ (x : Int) < 0 := by omega
  have u2 : ¬ (y : Int) < 0 := by omega
  replace e18 := Lib.hid e18
  replace h2 := Lib.hid h2
  replace hbsz := Lib.hid hbsz
  go_enter Try.func27, Try.ntmps27
  go_wp2_with fail
  refine (val_v z1 hx hx1).mono ?_
  rintro e w' ⟨rfl, rfl⟩
  go_wp2_with fail
  refine (val_v z2 hy hy1).mono ?_
  rintro e w' ⟨rfl, rfl⟩
  go_wp2_with fail
  go_region_held3 (fun _ => True) (trivial) ((go_at_call 59; (with_reducible refine (rmac_v hk hbs ht).mono ?_); rintro e w2 ⟨rfl, hb2⟩))
  have hb3 := (Below.refl w.heap.size w).drew.trans (hb2.mono (Nat.le_refl _))
  go_wp2_with fail
  refine (val_v z1 hx hx1).mono ?_
  rintro e w' ⟨rfl, rfl⟩
  go_wp2_with fail
  go_ret3
  exact ⟨rfl, hb3⟩
set_option maxHeartbeats 1000000 in
/-- all is well -/
theorem rdec_ok {key s b g t : ByteArray} {level epoch : Int} (w : World) (hk : key.size ≤ 140737488355328) (hs : s.size ≤ 140737488355328) {c d : UInt8} (hf : FF.Form s c d) {x y : Nat} (hx : Hid (Frm.valN (s.extract 1 9).data.toList = x)) (hy : Hid (Frm.valN (s.extract 9 17).data.toList = y)) (hx1 : x ≤ 4611686018427387904) (hy1 : y ≤ 4611686018427387904)
    (hb : Hid (s.extract 0 (s.size - 32) = b)) (hg : Hid (s.extract (s.size - 32) s.size = g)) (ht : Hid (str (Sha.mac key.data.toList b.data.toList) = t)) (hq : (t.toList == g.toList) = true) (hl : ((d.toNat : Int) != level) = false) (he : ((x : Int) != epoch) = false) :
    Calls Try.prog 27 #[.string key, .int .i64 level, .int .i64 epoch, .string s] w fun e w' => e = .returned (.tuple #[.int .i64 y, .string (b.extract 18 b.size), .int .i64 0]) ∧ Below w.heap.size w w' := by
  have h1 := hf.len
  have h2 := hf.size
  have h3 := hf.short
  have h4 := hf.low
  have hb17 : 17 < s.size := by omega
  have hb0 : 0 < s.size := by omega
  have e17 := hf.at17 hb17
  have e0 := hf.at0 hb0
  have h1' : ¬ (s.size : Int) < 50 := by omega
  have h2' : ¬ (200 : Int) < c.toNat := by omega
  have h3' : ((s.size : Int) != 50 + (c.toNat : Int)) = false := by rw [bne_eq_false_iff_eq]; omega
  have h4' : ¬ (7 : Int) < d.toNat := by omega
  have hc256 : c.toNat < 256 := c.toNat_lt
  have z1 : (s.extract 1 9).size ≤ 8 := by rw [ByteArray.size_extract]; omega
  have z2 : (s.extract 9 17).size ≤ 8 := by rw [ByteArray.size_extract]; omega
  have h32 : (32 : Int) ≤ s.size := by omega
  have hbsz : b.size = s.size - 32 := by rw [← hb.out, ByteArray.size_extract]; omega
  have hbs : b.size ≤ 140737488355328 := by omega
  have hb18 : (18 : Int) ≤ b.size := by omega
  have hble : (b.size : Int) ≤ s.size := by omega
  have e18 : (18 : Int) + (c.toNat : Int) = ((s.size - 32 : Nat) : Int) := by omega
  have hb' : s.extract 0 ((18 : Int) + (c.toNat : Int)).toNat = b := by
    rw [show ((18 : Int) + (c.toNat : Int)).toNat = s.size - 32 from by omega]
    exact hb.out
  have hg' : s.extract ((18 : Int) + (c.toNat : Int)).toNat s.size = g := by
    rw [show ((18 : Int) + (c.toNat : Int)).toNat = s.size - 32 from by omega]
    exact hg.out
  have hpay : Hid (s.extract 18 ((18 : Int) + (c.toNat : Int)).toNat = b.extract 18 b.size) := by
    show _ = _
    rw [show ((18 : Int) + (c.toNat : Int)).toNat = 18 + c.toNat from by omega]
    have e : (s.extract 18 (18 + c.toNat)).data.toList = (b.extract 18 b.size).data.toList := by
      rw [ext_take _ _ _ (by omega), ext_take _ _ _ (Nat.le_refl _), hbsz, ← hb.out, ext_take _ _ _ (by omega), List.drop_zero, List.drop_take, List.take_take]
      congr 1
      omega
    rw [← str_of (s.extract 18 (18 + c.toNat)), e, str_of]
  have q0 : (0 : Int) ≤ 18 + (c.toNat : Int) := by omega
  have q3 : IntKind.i64.wrap (18 + (c.toNat : Int)) = 18 + (c.toNat : Int) := IntWalk.i64_in _ (by omega)
  have q1 : (18 : Int) + (c.toNat : Int) ≤ s.size := by omega
  have q2 : (18 : Int) ≤ 18 + (c.toNat : Int) := by omega
  have u1 : ¬ (x : Int) < 0 := by omega
  have u2 : ¬ (y : Int) < 0 := by omega
  replace e18 := Lib.hid e18
  replace h2 := Lib.hid h2
  replace hbsz := Lib.hid hbsz
  go_enter Try.func27, Try.ntmps27
  go_wp2_with fail
  refine (val_v z1 hx hx1).mono ?_
  rintro e w' ⟨rfl, rfl⟩
  go_wp2_with fail
  refine (val_v z2 hy hy1).mono ?_
  rintro e w' ⟨rfl, rfl⟩
  go_wp2_with fail
  go_region_held3 (fun _ => True) (trivial) ((go_at_call 59; (with_reducible refine (rmac_v hk hbs ht).mono ?_); rintro e w2 ⟨rfl, hb2⟩))
  have hb3 := (Below.refl w.heap.size w).drew.trans (hb2.mono (Nat.le_refl _))
  go_wp2_with fail
  refine (val_v z1 hx hx1).mono ?_
  rintro e w' ⟨rfl, rfl⟩
  go_wp2_with fail
  go_region_held3 (fun _ => True) (trivial) ((go_at_call 60; (with_reducible refine (val_v z2 hy hy1).mono ?_); rintro e w' ⟨rfl, rfl⟩))
  go_wp2_with fail
  go_ret3
  first
    | exact ⟨by rw [← hpay.out]; rfl, hb3⟩
    | exact ⟨by rw [← hpay.out]; rfl, hb3.drew⟩
    | exact ⟨by rw [← hpay.out]; rfl, hb3.os, hb3.tape, hb3.output, hb3.size, hb3.block⟩
/-- Decode: whatever its arguments -/
theorem rdec_any {key s p : ByteArray} {level epoch x : Int} {n : Nat} {w : World} (hk : key.size ≤ 140737488355328) (hs : s.size ≤ 140737488355328) (hx : Hid (Frm.decE key.data.toList level epoch s.data.toList = x)) (hn : Hid (Frm.decN key.data.toList level epoch s.data.toList = n)) (hp : Hid (str (Frm.decP key.data.toList level epoch s.data.toList) = p)) :
    Calls Try.prog 27 #[.string key, .int .i64 level, .int .i64 epoch, .string s] w fun e w' => e = .returned (.tuple #[.int .i64 n, .string p, .int .i64 x]) ∧ Below w.heap.size w w' := by
  have hx := hx.out
  have hn := hn.out
  have hp := hp.out
  have hsl : s.data.toList.length = s.size := rfl
  have no : ∀ {y : Int}, Frm.decE key.data.toList level epoch s.data.toList = y → y ≠ 0 → n = 0 ∧ p = str [] := fun {y} hy h0 => by
    unfold Frm.decN at hn
    unfold Frm.decP at hp
    rw [if_neg (by rw [hy]; exact h0)] at hn hp
    exact ⟨hn.symm, hp.symm⟩
  by_cases hsh : 50 ≤ s.size ∧ (s.data.toList.getD 17 0).toNat ≤ 200 ∧ s.size = 50 + (s.data.toList.getD 17 0).toNat ∧ (s.data.toList.getD 0 0).toNat < 8
  · obtain ⟨a1, a2, a3, a4⟩ := hsh
    have hf : FF.Form s (s.data.toList.getD 17 0) (s.data.toList.getD 0 0) := ⟨a1, a3, a2, a4, fun h => get_byte s 17 h, fun h => get_byte s 0 h⟩
    have ex : (s.extract 1 9).data.toList = (s.data.toList.drop 1).take 8 := ext_take s 1 9 (by omega)
    have ey : (s.extract 9 17).data.toList = (s.data.toList.drop 9).take 8 := ext_take s 9 17 (by omega)
    have eb : (s.extract 0 (s.size - 32)).data.toList = Frm.bodyOf s.data.toList := by
      rw [ext_take s 0 (s.size - 32) (by omega)]
      unfold Frm.bodyOf
      rw [List.drop_zero, Nat.sub_zero, hsl]
    have eg : (s.extract (s.size - 32) s.size).data.toList = Frm.tagOf s.data.toList := by
      rw [ext_take s (s.size - 32) s.size (Nat.le_refl _)]
      unfold Frm.tagOf
      exact List.take_of_length_le (by rw [List.length_drop]; omega)
    obtain ⟨X, hX⟩ : ∃ X, Frm.valN ((s.data.toList.drop 1).take 8) = X := ⟨_, rfl⟩
    obtain ⟨Y, hY⟩ : ∃ Y, Frm.valN ((s.data.toList.drop 9).take 8) = Y := ⟨_, rfl⟩
    have hX' : Hid (Frm.valN (s.extract 1 9).data.toList = X) := by show _ = _; rw [ex, hX]
    have hY' : Hid (Frm.valN (s.extract 9 17).data.toList = Y) := by show _ = _; rw [ey, hY]
    by_cases hxy : X ≤ 4611686018427387904 ∧ Y ≤ 4611686018427387904
    · obtain ⟨hX1, hY1⟩ := hxy
      have hs1 : Frm.shaped s.data.toList := ⟨a1, a2, a3, a4, by rw [hX]; exact hX1, by rw [hY]; exact hY1⟩
      by_cases ht : Sha.mac key.data.toList (Frm.bodyOf s.data.toList) = Frm.tagOf s.data.toList
      · have hq : ((str (Sha.mac key.data.toList (s.extract 0 (s.size - 32)).data.toList)).toList == (s.extract (s.size - 32) s.size).toList) = true := list_eq (by rw [eb, eg]; exact ht)
        by_cases hl : ((s.data.toList.getD 0 0).toNat : Int) = level
        · have hl' : (((s.data.toList.getD 0 0).toNat : Int) != level) = false := by rw [bne_eq_false_iff_eq]; exact hl
          by_cases he : (X : Int) = epoch
          · have he' : ((X : Int) != epoch) = false := by rw [bne_eq_false_iff_eq]; exact he
            have e0 : Frm.decE key.data.toList level epoch s.data.toList = 0 := by
              unfold Frm.decE
              rw [if_neg (not_not_intro hs1), if_neg (not_not_intro ht), if_neg (not_not_intro ⟨hl, by rw [hX]; exact he⟩)]
            unfold Frm.decN at hn
            unfold Frm.decP at hp
            rw [if_pos e0] at hn hp
            rw [e0] at hx
            subst hx
            rw [hY] at hn
            subst hn
            have hbx : (s.extract 0 (s.size - 32)).extract 18 (s.extract 0 (s.size - 32)).size = p := by
              have hl2 : ((s.extract 0 (s.size - 32)).extract 18 (s.extract 0 (s.size - 32)).size).data.toList = (Frm.bodyOf s.data.toList).drop 18 := by
                rw [ext_take _ 18 _ (Nat.le_refl _), eb]
                refine List.take_of_length_le ?_
                rw [List.length_drop, ← eb]
                exact Nat.le_refl _
              rw [← hp, ← hl2]
              exact (str_of _).symm
            have := rdec_ok (level := level) (epoch := epoch) w hk hs hf hX' hY' hX1 hY1 (Lib.hid rfl) (Lib.hid rfl) (Lib.hid rfl) hq hl' he'
            rw [hbx] at this
            exact this
          · have he' : ((X : Int) != epoch) = true := by rw [bne_iff_ne]; exact he
            have e0 : Frm.decE key.data.toList level epoch s.data.toList = 193 := by
              unfold Frm.decE
              rw [if_neg (not_not_intro hs1), if_neg (not_not_intro ht), if_pos (fun h => he (by rw [← hX]; exact h.2))]
            obtain ⟨rfl, rfl⟩ := no e0 (by decide)
            rw [e0] at hx
            subst hx
            exact rdec_epoch w hk hs hf hX' hY' hX1 hY1 (Lib.hid rfl) (Lib.hid rfl) (Lib.hid rfl) hq hl' he'
        · have hl' : (((s.data.toList.getD 0 0).toNat : Int) != level) = true := by rw [bne_iff_ne]; exact hl
          have e0 : Frm.decE key.data.toList level epoch s.data.toList = 193 := by
            unfold Frm.decE
            rw [if_neg (not_not_intro hs1), if_neg (not_not_intro ht), if_pos (fun h => hl h.1)]
          obtain ⟨rfl, rfl⟩ := no e0 (by decide)
          rw [e0] at hx
          subst hx
          exact rdec_level w hk hs hf hX' hY' hX1 hY1 (Lib.hid rfl) (Lib.hid rfl) (Lib.hid rfl) hq hl'
      · have hq : ((str (Sha.mac key.data.toList (s.extract 0 (s.size - 32)).data.toList)).toList == (s.extract (s.size - 32) s.size).toList) = false := list_ne (by rw [eb, eg]; exact ht)
        have e0 : Frm.decE key.data.toList level epoch s.data.toList = 192 := by
          unfold Frm.decE
          rw [if_neg (not_not_intro hs1), if_pos ht]
        obtain ⟨rfl, rfl⟩ := no e0 (by decide)
        rw [e0] at hx
        subst hx
        exact rdec_tag w hk hs hf hX' hY' hX1 hY1 (Lib.hid rfl) (Lib.hid rfl) (Lib.hid rfl) hq
    · have e0 : Frm.decE key.data.toList level epoch s.data.toList = 190 := by
        unfold Frm.decE
        exact if_pos fun h => hxy ⟨by rw [← hX]; exact h.2.2.2.2.1, by rw [← hY]; exact h.2.2.2.2.2⟩
      obtain ⟨rfl, rfl⟩ := no e0 (by decide)
      rw [e0] at hx
      subst hx
      exact (rdec_big w hf hX' hY' hxy).mono fun _ _ ⟨he, hw⟩ => ⟨he, hw ▸ Below.refl _ _⟩
  · have e0 : Frm.decE key.data.toList level epoch s.data.toList = 190 := by
      unfold Frm.decE
      exact if_pos fun h => hsh ⟨h.1, h.2.1, h.2.2.1, h.2.2.2.1⟩
    obtain ⟨rfl, rfl⟩ := no e0 (by decide)
    rw [e0] at hx
    subst hx
    exact (rdec_short w hs hsh).mono fun _ _ ⟨he, hw⟩ => ⟨he, hw ▸ Below.refl _ _⟩
end Go.Proofs.Ytmmkopdijmplcaa.RT
