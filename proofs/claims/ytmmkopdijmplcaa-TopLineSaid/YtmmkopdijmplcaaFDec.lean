/-
  Decode of package frame: for every key and text that are not enormous and every label it returns what the bytes say.
-/
import Derived.Test.YtmmkopdijmplcaaFEnc
import Derived.Deep.RegionHeld3
set_option linter.unusedVariables false
namespace Go.Proofs.Ytmmkopdijmplcaa.FF
open Go.RowKit Base HH
theorem of_v {s : ByteArray} {w : World} (hs : s.size ≤ 8) {n : Nat} (hn : Hid (Frm.valN s.data.toList = n)) (h : n ≤ 4611686018427387904) :
    Calls Try.prog 51 #[.string s] w fun e w' => e = .returned (.tuple #[.int .i64 n, .bool true]) ∧ w = w' := by
  have hv : (num64 s.data.toList).toNat = n := by rw [num64_val _ hs]; exact hn.out
  refine (of_any s w hs).mono fun e w' ⟨he, hw⟩ => ⟨?_, hw⟩
  have h1 : (num64 s.data.toList).toInt = (n : Int) := by
    rw [BitVec.toInt_eq_toNat_of_lt (by omega), hv]
  rw [he, h1, hv, decide_eq_true (by omega)]
theorem of_no {s : ByteArray} {w : World} (hs : s.size ≤ 8) {n : Nat} (hn : Hid (Frm.valN s.data.toList = n)) (h : 4611686018427387904 < n) :
    Calls Try.prog 51 #[.string s] w fun e w' => ∃ m : Int, e = .returned (.tuple #[.int .i64 m, .bool false]) ∧ w = w' := by
  have hv : (num64 s.data.toList).toNat = n := by rw [num64_val _ hs]; exact hn.out
  refine (of_any s w hs).mono fun e w' ⟨he, hw⟩ => ⟨(num64 s.data.toList).toInt, ?_, hw⟩
  rw [he, hv, decide_eq_false (by omega)]
theorem get_byte (s : ByteArray) (k : Nat) (h : k < s.size) : (s[k]'h) = s.data.toList.getD k 0 := by
  rw [List.getD_eq_getElem?_getD, List.getElem?_eq_getElem (by simpa using h)]
  rfl
theorem ext_take (s : ByteArray) (a b : Nat) (h : b ≤ s.size) : (s.extract a b).data.toList = (s.data.toList.drop a).take (b - a) := by
  rw [ByteArray.data_extract, Array.toList_extract]
set_option maxRecDepth 100000 in
set_option maxHeartbeats 1000000 in
/-- no frame's form, by its length or its first byte -/
theorem dec_short {key s : ByteArray} {level epoch : Int} (w : World) (hs : s.size ≤ 288230376151711743) (h : ¬ (50 ≤ s.size ∧ (s.data.toList.getD 17 0).toNat ≤ 200 ∧ s.size = 50 + (s.data.toList.getD 17 0).toNat ∧ (s.data.toList.getD 0 0).toNat < 8)) :
    Calls Try.prog 19 #[.string key, .int .i64 level, .int .i64 epoch, .string s] w fun e w' => e = .returned (.tuple #[.int .i64 0, .string (str []), .int .i64 190]) ∧ w = w' := by
  by_cases h1 : s.size < 50
  · have h1' : (s.size : Int) < 50 := by omega
    clear h
    go_enter Try.func19, Try.ntmps19
    go_wp2_with fail
    go_ret3
    exact ⟨rfl, rfl⟩
  have h1' : ¬ (s.size : Int) < 50 := by omega
  have hb17 : 17 < s.size := by omega
  have hb0 : 0 < s.size := by omega
  have e17 := get_byte s 17 hb17
  have e0 := get_byte s 0 hb0
  obtain ⟨c, hc⟩ : ∃ c, s.data.toList.getD 17 0 = c := ⟨_, rfl⟩
  obtain ⟨d, hd⟩ : ∃ d, s.data.toList.getD 0 0 = d := ⟨_, rfl⟩
  rw [hc] at h e17
  rw [hd] at h e0
  have hc256 : c.toNat < 256 := c.toNat_lt
  clear hc hd
  by_cases h2 : c.toNat ≤ 200
  · have h2' : ¬ (200 : Int) < c.toNat := by omega
    by_cases h3 : s.size = 50 + c.toNat
    · have h3' : ((s.size : Int) != 50 + (c.toNat : Int)) = false := by rw [bne_eq_false_iff_eq]; omega
      have h4 : (8 : Int) ≤ d.toNat := by omega
      replace h3 := Lib.hid h3
      clear h
      go_enter Try.func19, Try.ntmps19
      go_wp2_with fail
      go_ret3
      exact ⟨rfl, rfl⟩
    · have h3' : ((s.size : Int) != 50 + (c.toNat : Int)) = true := by rw [bne_iff_ne]; omega
      replace h3 := Lib.hid h3
      clear h
      go_enter Try.func19, Try.ntmps19
      go_wp2_with fail
      go_ret3
      exact ⟨rfl, rfl⟩
  · have h2' : (200 : Int) < c.toNat := by omega
    clear h
    go_enter Try.func19, Try.ntmps19
    go_wp2_with fail
    go_ret3
    exact ⟨rfl, rfl⟩
/-- what a form's bytes give for the walk -/
structure Form (s : ByteArray) (c d : UInt8) : Prop where
  len : 50 ≤ s.size
  size : s.size = 50 + c.toNat
  short : c.toNat ≤ 200
  low : d.toNat < 8
  at17 : ∀ h : 17 < s.size, (s[17]'h) = c
  at0 : ∀ h : 0 < s.size, (s[0]'h) = d
set_option maxRecDepth 100000 in
set_option maxHeartbeats 1000000 in
/-- a number of it is above the greatest -/
theorem dec_big {key s : ByteArray} {level epoch : Int} (w : World) {c d : UInt8} (hf : Form s c d) {x y : Nat} (hx : Hid (Frm.valN (s.extract 1 9).data.toList = x)) (hy : Hid (Frm.valN (s.extract 9 17).data.toList = y)) (h : ¬ (x ≤ 4611686018427387904 ∧ y ≤ 4611686018427387904)) :
    Calls Try.prog 19 #[.string key, .int .i64 level, .int .i64 epoch, .string s] w fun e w' => e = .returned (.tuple #[.int .i64 0, .string (str []), .int .i64 190]) ∧ w = w' := by
  have h1 := hf.len
  have h2 := hf.size
  have h3 := hf.short
  have h4 := hf.low
  have hb17 : 17 < s.size := by omega
  have hb0 : 0 < s.size := by omega
  have e17 := hf.at17 hb17
  have e0 := hf.at0 hb0
  have h1' : ¬ (s.size : Int) < 50 := by omega
  have h2' : ¬ (200 : Int) < c.toNat := by omega
  have h3' : ((s.size : Int) != 50 + (c.toNat : Int)) = false := by rw [bne_eq_false_iff_eq]; omega
  have h4' : ¬ (8 : Int) ≤ d.toNat := by omega
  have hc256 : c.toNat < 256 := c.toNat_lt
  have z1 : (s.extract 1 9).size ≤ 8 := by rw [ByteArray.size_extract]; omega
  have z2 : (s.extract 9 17).size ≤ 8 := by rw [ByteArray.size_extract]; omega
  replace h2 := Lib.hid h2
  by_cases hx1 : x ≤ 4611686018427387904
  · have hy1 : 4611686018427387904 < y := by omega
    clear h
    go_enter Try.func19, Try.ntmps19
    go_wp2_with fail
    refine (of_v z1 hx hx1).mono ?_
    rintro e w' ⟨rfl, rfl⟩
    go_wp2_with fail
    refine (of_no z2 hy hy1).mono ?_
    rintro e w' ⟨m, rfl, rfl⟩
    go_wp2_with fail
    go_ret3
    exact ⟨rfl, rfl⟩
  · clear h
    by_cases hy1 : y ≤ 4611686018427387904
    · go_enter Try.func19, Try.ntmps19
      go_wp2_with fail
      refine (of_no z1 hx (by omega)).mono ?_
      rintro e w' ⟨m, rfl, rfl⟩
      go_wp2_with fail
      refine (of_v z2 hy hy1).mono ?_
      rintro e w' ⟨rfl, rfl⟩
      go_wp2_with fail
      go_ret3
      exact ⟨rfl, rfl⟩
    · go_enter Try.func19, Try.ntmps19
      go_wp2_with fail
      refine (of_no z1 hx (by omega)).mono ?_
      rintro e w' ⟨m, rfl, rfl⟩
      go_wp2_with fail
      refine (of_no z2 hy (by omega)).mono ?_
      rintro e w' ⟨m2, rfl, rfl⟩
      go_wp2_with fail
      go_ret3
      exact ⟨rfl, rfl⟩
set_option maxRecDepth 100000 in
set_option maxHeartbeats 1000000 in
/-- the tag is another one -/
theorem dec_tag {key s b g t : ByteArray} {level epoch : Int} (w : World) (hk : key.size ≤ 288230376151711743) (hs : s.size ≤ 288230376151711743) {c d : UInt8} (hf : Form s c d) {x y : Nat} (hx : Hid (Frm.valN (s.extract 1 9).data.toList = x)) (hy : Hid (Frm.valN (s.extract 9 17).data.toList = y)) (hx1 : x ≤ 4611686018427387904) (hy1 : y ≤ 4611686018427387904)
    (hb : Hid (s.extract 0 (s.size - 32) = b)) (hg : Hid (s.extract (s.size - 32) s.size = g)) (ht : Hid (str (Sha.mac key.data.toList b.data.toList) = t)) (hq : (t.toList == g.toList) = false) :
    Calls Try.prog 19 #[.string key, .int .i64 level, .int .i64 epoch, .string s] w fun e w' => e = .returned (.tuple #[.int .i64 0, .string (str []), .int .i64 192]) ∧ Below w.heap.size w w' := by
  have h1 := hf.len
  have h2 := hf.size
  have h3 := hf.short
  have h4 := hf.low
  have hb17 : 17 < s.size := by omega
  have hb0 : 0 < s.size := by omega
  have e17 := hf.at17 hb17
  have e0 := hf.at0 hb0
  have h1' : ¬ (s.size : Int) < 50 := by omega
  have h2' : ¬ (200 : Int) < c.toNat := by omega
  have h3' : ((s.size : Int) != 50 + (c.toNat : Int)) = false := by rw [bne_eq_false_iff_eq]; omega
  have h4' : ¬ (8 : Int) ≤ d.toNat := by omega
  have hc256 : c.toNat < 256 := c.toNat_lt
  have z1 : (s.extract 1 9).size ≤ 8 := by rw [ByteArray.size_extract]; omega
  have z2 : (s.extract 9 17).size ≤ 8 := by rw [ByteArray.size_extract]; omega
  have h32 : (32 : Int) ≤ s.size := by omega
  have hbsz : b.size = s.size - 32 := by rw [← hb.out, ByteArray.size_extract]; omega
  have hbs : b.size ≤ 288230376151711743 := by omega
  have hb18 : (18 : Int) ≤ b.size := by omega
  have hble : (b.size : Int) ≤ s.size := by omega
  have hb' : s.extract 0 ((s.size : Int) - 32).toNat = b := by
    rw [show ((s.size : Int) - 32).toNat = s.size - 32 from by omega]
    exact hb.out
  have hg' : s.extract b.size s.size = g := by
    rw [hbsz]
    exact hg.out
  replace h2 := Lib.hid h2
  replace hbsz := Lib.hid hbsz
  go_enter Try.func19, Try.ntmps19
  go_wp2_with fail
  refine (of_v z1 hx hx1).mono ?_
  rintro e w' ⟨rfl, rfl⟩
  go_wp2_with fail
  refine (of_v z2 hy hy1).mono ?_
  rintro e w' ⟨rfl, rfl⟩
  go_wp2_with fail
  go_region_held3 (fun _ => True) (trivial) ((go_at_call 16; (with_reducible refine (mac_v hk hbs ht).mono ?_); rintro e w2 ⟨rfl, hb2⟩))
  have hb3 := (Below.refl w.heap.size w).drew.trans (hb2.mono (Nat.le_refl _))
  go_wp2_with fail
  go_ret3
  exact ⟨rfl, hb3⟩
set_option maxRecDepth 100000 in
set_option maxHeartbeats 1000000 in
/-- the level is another one -/
theorem dec_level {key s b g t : ByteArray} {level epoch : Int} (w : World) (hk : key.size ≤ 288230376151711743) (hs : s.size ≤ 288230376151711743) {c d : UInt8} (hf : Form s c d) {x y : Nat} (hx : Hid (Frm.valN (s.extract 1 9).data.toList = x)) (hy : Hid (Frm.valN (s.extract 9 17).data.toList = y)) (hx1 : x ≤ 4611686018427387904) (hy1 : y ≤ 4611686018427387904)
    (hb : Hid (s.extract 0 (s.size - 32) = b)) (hg : Hid (s.extract (s.size - 32) s.size = g)) (ht : Hid (str (Sha.mac key.data.toList b.data.toList) = t)) (hq : (t.toList == g.toList) = true) (hl : ((d.toNat : Int) != level) = true) :
    Calls Try.prog 19 #[.string key, .int .i64 level, .int .i64 epoch, .string s] w fun e w' => e = .returned (.tuple #[.int .i64 0, .string (str []), .int .i64 193]) ∧ Below w.heap.size w w' := by
  have h1 := hf.len
  have h2 := hf.size
  have h3 := hf.short
  have h4 := hf.low
  have hb17 : 17 < s.size := by omega
  have hb0 : 0 < s.size := by omega
  have e17 := hf.at17 hb17
  have e0 := hf.at0 hb0
  have h1' : ¬ (s.size : Int) < 50 := by omega
  have h2' : ¬ (200 : Int) < c.toNat := by omega
  have h3' : ((s.size : Int) != 50 + (c.toNat : Int)) = false := by rw [bne_eq_false_iff_eq]; omega
  have h4' : ¬ (8 : Int) ≤ d.toNat := by omega
  have hc256 : c.toNat < 256 := c.toNat_lt
  have z1 : (s.extract 1 9).size ≤ 8 := by rw [ByteArray.size_extract]; omega
  have z2 : (s.extract 9 17).size ≤ 8 := by rw [ByteArray.size_extract]; omega
  have h32 : (32 : Int) ≤ s.size := by omega
  have hbsz : b.size = s.size - 32 := by rw [← hb.out, ByteArray.size_extract]; omega
  have hbs : b.size ≤ 288230376151711743 := by omega
  have hb18 : (18 : Int) ≤ b.size := by omega
  have hble : (b.size : Int) ≤ s.size := by omega
  have hb' : s.extract 0 ((s.size : Int) - 32).toNat = b := by
    rw [show ((s.size : Int) - 32).toNat = s.size - 32 from by omega]
    exact hb.out
  have hg' : s.extract b.size s.size = g := by
    rw [hbsz]
    exact hg.out
  replace h2 := Lib.hid h2
  replace hbsz := Lib.hid hbsz
  go_enter Try.func19, Try.ntmps19
  go_wp2_with fail
  refine (of_v z1 hx hx1).mono ?_
  rintro e w' ⟨rfl, rfl⟩
  go_wp2_with fail
  refine (of_v z2 hy hy1).mono ?_
  rintro e w' ⟨rfl, rfl⟩
  go_wp2_with fail
  go_region_held3 (fun _ => True) (trivial) ((go_at_call 16; (with_reducible refine (mac_v hk hbs ht).mono ?_); rintro e w2 ⟨rfl, hb2⟩))
  have hb3 := (Below.refl w.heap.size w).drew.trans (hb2.mono (Nat.le_refl _))
  go_wp2_with fail
  go_ret3
  exact ⟨rfl, hb3⟩
set_option maxRecDepth 100000 in
set_option maxHeartbeats 1000000 in
/-- the epoch is another one -/
theorem dec_epoch {key s b g t : ByteArray} {level epoch : Int} (w : World) (hk : key.size ≤ 288230376151711743) (hs : s.size ≤ 288230376151711743) {c d : UInt8} (hf : Form s c d) {x y : Nat} (hx : Hid (Frm.valN (s.extract 1 9).data.toList = x)) (hy : Hid (Frm.valN (s.extract 9 17).data.toList = y)) (hx1 : x ≤ 4611686018427387904) (hy1 : y ≤ 4611686018427387904)
    (hb : Hid (s.extract 0 (s.size - 32) = b)) (hg : Hid (s.extract (s.size - 32) s.size = g)) (ht : Hid (str (Sha.mac key.data.toList b.data.toList) = t)) (hq : (t.toList == g.toList) = true) (hl : ((d.toNat : Int) != level) = false) (he : ((x : Int) != epoch) = true) :
    Calls Try.prog 19 #[.string key, .int .i64 level, .int .i64 epoch, .string s] w fun e w' => e = .returned (.tuple #[.int .i64 0, .string (str []), .int .i64 193]) ∧ Below w.heap.size w w' := by
  have h1 := hf.len
  have h2 := hf.size
  have h3 := hf.short
  have h4 := hf.low
  have hb17 : 17 < s.size := by omega
  have hb0 : 0 < s.size := by omega
  have e17 := hf.at17 hb17
  have e0 := hf.at0 hb0
  have h1' : ¬ (s.size : Int) < 50 := by omega
  have h2' : ¬ (200 : Int) < c.toNat := by omega
  have h3' : ((s.size : Int) != 50 + (c.toNat : Int)) = false := by rw [bne_eq_false_iff_eq]; omega
  have h4' : ¬ (8 : Int) ≤ d.toNat := by omega
  have hc256 : c.toNat < 256 := c.toNat_lt
  have z1 : (s.extract 1 9).size ≤ 8 := by rw [ByteArray.size_extract]; omega
  have z2 : (s.extract 9 17).size ≤ 8 := by rw [ByteArray.size_extract]; omega
  have h32 : (32 : Int) ≤ s.size := by omega
  have hbsz : b.size = s.size - 32 := by rw [← hb.out, ByteArray.size_extract]; omega
  have hbs : b.size ≤ 288230376151711743 := by omega
  have hb18 : (18 : Int) ≤ b.size := by omega
  have hble : (b.size : Int) ≤ s.size := by omega
  have hb' : s.extract 0 ((s.size : Int) - 32).toNat = b := by
    rw [show ((s.size : Int) - 32).toNat = s.size - 32 from by omega]
    exact hb.out
  have hg' : s.extract b.size s.size = g := by
    rw [hbsz]
    exact hg.out
  replace h2 := Lib.hid h2
  replace hbsz := Lib.hid hbsz
  go_enter Try.func19, Try.ntmps19
  go_wp2_with fail
  refine (of_v z1 hx hx1).mono ?_
  rintro e w' ⟨rfl, rfl⟩
  go_wp2_with fail
  refine (of_v z2 hy hy1).mono ?_
  rintro e w' ⟨rfl, rfl⟩
  go_wp2_with fail
  go_region_held3 (fun _ => True) (trivial) ((go_at_call 16; (with_reducible refine (mac_v hk hbs ht).mono ?_); rintro e w2 ⟨rfl, hb2⟩))
  have hb3 := (Below.refl w.heap.size w).drew.trans (hb2.mono (Nat.le_refl _))
  go_wp2_with fail
  go_ret3
  exact ⟨rfl, hb3⟩
set_option maxRecDepth 100000 in
set_option maxHeartbeats 1000000 in
/-- all is well -/
theorem dec_ok {key s b g t : ByteArray} {level epoch : Int} (w : World) (hk : key.size ≤ 288230376151711743) (hs : s.size ≤ 288230376151711743) {c d : UInt8} (hf : Form s c d) {x y : Nat} (hx : Hid (Frm.valN (s.extract 1 9).data.toList = x)) (hy : Hid (Frm.valN (s.extract 9 17).data.toList = y)) (hx1 : x ≤ 4611686018427387904) (hy1 : y ≤ 4611686018427387904)
    (hb : Hid (s.extract 0 (s.size - 32) = b)) (hg : Hid (s.extract (s.size - 32) s.size = g)) (ht : Hid (str (Sha.mac key.data.toList b.data.toList) = t)) (hq : (t.toList == g.toList) = true) (hl : ((d.toNat : Int) != level) = false) (he : ((x : Int) != epoch) = false) :
    Calls Try.prog 19 #[.string key, .int .i64 level, .int .i64 epoch, .string s] w fun e w' => e = .returned (.tuple #[.int .i64 y, .string (b.extract 18 b.size), .int .i64 0]) ∧ Below w.heap.size w w' := by
  have h1 := hf.len
  have h2 := hf.size
  have h3 := hf.short
  have h4 := hf.low
  have hb17 : 17 < s.size := by omega
  have hb0 : 0 < s.size := by omega
  have e17 := hf.at17 hb17
  have e0 := hf.at0 hb0
  have h1' : ¬ (s.size : Int) < 50 := by omega
  have h2' : ¬ (200 : Int) < c.toNat := by omega
  have h3' : ((s.size : Int) != 50 + (c.toNat : Int)) = false := by rw [bne_eq_false_iff_eq]; omega
  have h4' : ¬ (8 : Int) ≤ d.toNat := by omega
  have hc256 : c.toNat < 256 := c.toNat_lt
  have z1 : (s.extract 1 9).size ≤ 8 := by rw [ByteArray.size_extract]; omega
  have z2 : (s.extract 9 17).size ≤ 8 := by rw [ByteArray.size_extract]; omega
  have h32 : (32 : Int) ≤ s.size := by omega
  have hbsz : b.size = s.size - 32 := by rw [← hb.out, ByteArray.size_extract]; omega
  have hbs : b.size ≤ 288230376151711743 := by omega
  have hb18 : (18 : Int) ≤ b.size := by omega
  have hble : (b.size : Int) ≤ s.size := by omega
  have hb' : s.extract 0 ((s.size : Int) - 32).toNat = b := by
    rw [show ((s.size : Int) - 32).toNat = s.size - 32 from by omega]
    exact hb.out
  have hg' : s.extract b.size s.size = g := by
    rw [hbsz]
    exact hg.out
  replace h2 := Lib.hid h2
  replace hbsz := Lib.hid hbsz
  go_enter Try.func19, Try.ntmps19
  go_wp2_with fail
  refine (of_v z1 hx hx1).mono ?_
  rintro e w' ⟨rfl, rfl⟩
  go_wp2_with fail
  refine (of_v z2 hy hy1).mono ?_
  rintro e w' ⟨rfl, rfl⟩
  go_wp2_with fail
  go_region_held3 (fun _ => True) (trivial) ((go_at_call 16; (with_reducible refine (mac_v hk hbs ht).mono ?_); rintro e w2 ⟨rfl, hb2⟩))
  have hb3 := (Below.refl w.heap.size w).drew.trans (hb2.mono (Nat.le_refl _))
  go_wp2_with fail
  go_quiet (fail)
  go_wp2_with fail
  go_ret3
  exact ⟨rfl, hb3.os, hb3.tape, hb3.output, hb3.size, hb3.block⟩
theorem list_ne {t g : ByteArray} (h : t.data.toList ≠ g.data.toList) : (t.toList == g.toList) = false := by
  rw [beq_eq_false_iff_ne, ByteArray.toList_eq, ByteArray.toList_eq]
  exact h
theorem list_eq {t g : ByteArray} (h : t.data.toList = g.data.toList) : (t.toList == g.toList) = true := by
  rw [beq_iff_eq, ByteArray.toList_eq, ByteArray.toList_eq]
  exact h
/-- Decode: whatever its arguments -/
theorem dec_any {key s p : ByteArray} {level epoch x : Int} {n : Nat} {w : World} (hk : key.size ≤ 288230376151711743) (hs : s.size ≤ 288230376151711743) (hx : Hid (Frm.decE key.data.toList level epoch s.data.toList = x)) (hn : Hid (Frm.decN key.data.toList level epoch s.data.toList = n)) (hp : Hid (str (Frm.decP key.data.toList level epoch s.data.toList) = p)) :
    Calls Try.prog 19 #[.string key, .int .i64 level, .int .i64 epoch, .string s] w fun e w' => e = .returned (.tuple #[.int .i64 n, .string p, .int .i64 x]) ∧ Below w.heap.size w w' := by
  have hx := hx.out
  have hn := hn.out
  have hp := hp.out
  have hsl : s.data.toList.length = s.size := rfl
  have no : ∀ {y : Int}, Frm.decE key.data.toList level epoch s.data.toList = y → y ≠ 0 → n = 0 ∧ p = str [] := fun {y} hy h0 => by
    unfold Frm.decN at hn
    unfold Frm.decP at hp
    rw [if_neg (by rw [hy]; exact h0)] at hn hp
    exact ⟨hn.symm, hp.symm⟩
  by_cases hsh : 50 ≤ s.size ∧ (s.data.toList.getD 17 0).toNat ≤ 200 ∧ s.size = 50 + (s.data.toList.getD 17 0).toNat ∧ (s.data.toList.getD 0 0).toNat < 8
  · obtain ⟨a1, a2, a3, a4⟩ := hsh
    have hf : Form s (s.data.toList.getD 17 0) (s.data.toList.getD 0 0) := ⟨a1, a3, a2, a4, fun h => get_byte s 17 h, fun h => get_byte s 0 h⟩
    have ex : (s.extract 1 9).data.toList = (s.data.toList.drop 1).take 8 := ext_take s 1 9 (by omega)
    have ey : (s.extract 9 17).data.toList = (s.data.toList.drop 9).take 8 := ext_take s 9 17 (by omega)
    have eb : (s.extract 0 (s.size - 32)).data.toList = Frm.bodyOf s.data.toList := by
      rw [ext_take s 0 (s.size - 32) (by omega)]
      unfold Frm.bodyOf
      rw [List.drop_zero, Nat.sub_zero, hsl]
    have eg : (s.extract (s.size - 32) s.size).data.toList = Frm.tagOf s.data.toList := by
      rw [ext_take s (s.size - 32) s.size (Nat.le_refl _)]
      unfold Frm.tagOf
      exact List.take_of_length_le (by rw [List.length_drop]; omega)
    obtain ⟨X, hX⟩ : ∃ X, Frm.valN ((s.data.toList.drop 1).take 8) = X := ⟨_, rfl⟩
    obtain ⟨Y, hY⟩ : ∃ Y, Frm.valN ((s.data.toList.drop 9).take 8) = Y := ⟨_, rfl⟩
    have hX' : Hid (Frm.valN (s.extract 1 9).data.toList = X) := by show _ = _; rw [ex, hX]
    have hY' : Hid (Frm.valN (s.extract 9 17).data.toList = Y) := by show _ = _; rw [ey, hY]
    by_cases hxy : X ≤ 4611686018427387904 ∧ Y ≤ 4611686018427387904
    · obtain ⟨hX1, hY1⟩ := hxy
      have hs1 : Frm.shaped s.data.toList := ⟨a1, a2, a3, a4, by rw [hX]; exact hX1, by rw [hY]; exact hY1⟩
      by_cases ht : Sha.mac key.data.toList (Frm.bodyOf s.data.toList) = Frm.tagOf s.data.toList
      · have hq : ((str (Sha.mac key.data.toList (s.extract 0 (s.size - 32)).data.toList)).toList == (s.extract (s.size - 32) s.size).toList) = true := list_eq (by rw [eb, eg]; exact ht)
        by_cases hl : ((s.data.toList.getD 0 0).toNat : Int) = level
        · have hl' : (((s.data.toList.getD 0 0).toNat : Int) != level) = false := by rw [bne_eq_false_iff_eq]; exact hl
          by_cases he : (X : Int) = epoch
          · have he' : ((X : Int) != epoch) = false := by rw [bne_eq_false_iff_eq]; exact he
            have e0 : Frm.decE key.data.toList level epoch s.data.toList = 0 := by
              unfold Frm.decE
              rw [if_neg (not_not_intro hs1), if_neg (not_not_intro ht), if_neg (not_not_intro ⟨hl, by rw [hX]; exact he⟩)]
            unfold Frm.decN at hn
            unfold Frm.decP at hp
            rw [if_pos e0] at hn hp
            rw [e0] at hx
            subst hx
            rw [hY] at hn
            subst hn
            have hbx : (s.extract 0 (s.size - 32)).extract 18 (s.extract 0 (s.size - 32)).size = p := by
              have hl2 : ((s.extract 0 (s.size - 32)).extract 18 (s.extract 0 (s.size - 32)).size).data.toList = (Frm.bodyOf s.data.toList).drop 18 := by
                rw [ext_take _ 18 _ (Nat.le_refl _), eb]
                refine List.take_of_length_le ?_
                rw [List.length_drop, ← eb]
                exact Nat.le_refl _
              rw [← hp, ← hl2]
              exact (str_of _).symm
            have := dec_ok (level := level) (epoch := epoch) w hk hs hf hX' hY' hX1 hY1 (Lib.hid rfl) (Lib.hid rfl) (Lib.hid rfl) hq hl' he'
            rw [hbx] at this
            exact this
          · have he' : ((X : Int) != epoch) = true := by rw [bne_iff_ne]; exact he
            have e0 : Frm.decE key.data.toList level epoch s.data.toList = 193 := by
              unfold Frm.decE
              rw [if_neg (not_not_intro hs1), if_neg (not_not_intro ht), if_pos (fun h => he (by rw [← hX]; exact h.2))]
            obtain ⟨rfl, rfl⟩ := no e0 (by decide)
            rw [e0] at hx
            subst hx
            exact dec_epoch w hk hs hf hX' hY' hX1 hY1 (Lib.hid rfl) (Lib.hid rfl) (Lib.hid rfl) hq hl' he'
        · have hl' : (((s.data.toList.getD 0 0).toNat : Int) != level) = true := by rw [bne_iff_ne]; exact hl
          have e0 : Frm.decE key.data.toList level epoch s.data.toList = 193 := by
            unfold Frm.decE
            rw [if_neg (not_not_intro hs1), if_neg (not_not_intro ht), if_pos (fun h => hl h.1)]
          obtain ⟨rfl, rfl⟩ := no e0 (by decide)
          rw [e0] at hx
          subst hx
          exact dec_level w hk hs hf hX' hY' hX1 hY1 (Lib.hid rfl) (Lib.hid rfl) (Lib.hid rfl) hq hl'
      · have hq : ((str (Sha.mac key.data.toList (s.extract 0 (s.size - 32)).data.toList)).toList == (s.extract (s.size - 32) s.size).toList) = false := list_ne (by rw [eb, eg]; exact ht)
        have e0 : Frm.decE key.data.toList level epoch s.data.toList = 192 := by
          unfold Frm.decE
          rw [if_neg (not_not_intro hs1), if_pos ht]
        obtain ⟨rfl, rfl⟩ := no e0 (by decide)
        rw [e0] at hx
        subst hx
        exact dec_tag w hk hs hf hX' hY' hX1 hY1 (Lib.hid rfl) (Lib.hid rfl) (Lib.hid rfl) hq
    · have e0 : Frm.decE key.data.toList level epoch s.data.toList = 190 := by
        unfold Frm.decE
        exact if_pos fun h => hxy ⟨by rw [← hX]; exact h.2.2.2.2.1, by rw [← hY]; exact h.2.2.2.2.2⟩
      obtain ⟨rfl, rfl⟩ := no e0 (by decide)
      rw [e0] at hx
      subst hx
      exact (dec_big w hf hX' hY' hxy).mono fun _ _ ⟨he, hw⟩ => ⟨he, hw ▸ Below.refl _ _⟩
  · have e0 : Frm.decE key.data.toList level epoch s.data.toList = 190 := by
      unfold Frm.decE
      exact if_pos fun h => hsh ⟨h.1, h.2.1, h.2.2.1, h.2.2.2.1⟩
    obtain ⟨rfl, rfl⟩ := no e0 (by decide)
    rw [e0] at hx
    subst hx
    exact (dec_short w hs hsh).mono fun _ _ ⟨he, hw⟩ => ⟨he, hw ▸ Below.refl _ _⟩
end Go.Proofs.Ytmmkopdijmplcaa.FF
