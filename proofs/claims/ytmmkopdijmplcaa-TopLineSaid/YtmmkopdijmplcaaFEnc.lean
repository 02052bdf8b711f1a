/-
  Encode of package frame: for every key that is not enormous and all other arguments it returns the frame's bytes, or why there are none.
-/
import Derived.Test.YtmmkopdijmplcaaFLaid
set_option linter.unusedVariables false
namespace Go.Proofs.Ytmmkopdijmplcaa.FF
open Go.RowKit Base HH
theorem bigTo_one (n : Nat) : bigTo n 1 1 = [UInt8.ofNat n] := by
  show [b8 n 0] = _
  unfold b8
  congr 1
  apply UInt8.toNat_inj.1
  rw [UInt8.toNat_ofNat', UInt8.toNat_ofNat']
  simp
theorem bigTo_eight (n : Nat) : bigTo n 8 8 = Sha.be8 n := rfl
def nums (level epoch seq n : Nat) : List (Nat × Nat) := [(level, 1), (epoch, 8), (seq, 8), (n, 1)]
theorem nums_laid (level epoch seq n : Nat) : laidTo (nums level epoch seq n) 4 = Frm.head level epoch seq n := by
  show bigTo level 1 1 ++ (bigTo epoch 8 8 ++ (bigTo seq 8 8 ++ (bigTo n 1 1 ++ []))) = _
  rw [bigTo_one, bigTo_one, bigTo_eight, bigTo_eight]
  rfl
theorem laid_v {w : World} {g cap level epoch seq n : Nat} {t : ByteArray} (hr : Row w g 74 [.int .i64 (level : Int), .int .i64 1, .int .i64 (epoch : Int), .int .i64 8, .int .i64 (seq : Int), .int .i64 8, .int .i64 (n : Int), .int .i64 1])
    (h1 : level < 8) (h2 : epoch ≤ 4611686018427387904) (h3 : seq ≤ 4611686018427387904) (h4 : n ≤ 200) (ht : Hid (str (Frm.head level epoch seq n) = t)) :
    Calls Try.prog 41 #[.slice (some ⟨g, 0, none⟩) 4 cap] w fun e w' => e = .returned (.string t) ∧ Below w.heap.size w w' := by
  rw [← ht.out, ← nums_laid]
  refine laid_any (xs := nums level epoch seq n) hr (fun p hp => ?_) (Nat.le_refl 4)
  simp only [nums, List.mem_cons, List.not_mem_nil, or_false] at hp
  rcases hp with rfl | rfl | rfl | rfl <;> (constructor <;> (simp only []; omega))
theorem mac_v {s r t : ByteArray} {w : World} (hs : s.size ≤ 288230376151711743) (hr : r.size ≤ 288230376151711743) (ht : Hid (str (Sha.mac s.data.toList r.data.toList) = t)) : Calls Try.prog 16 #[.string s, .string r] w fun e w' => e = .returned (.string t) ∧ Below w.heap.size w w' := by
  rw [← ht.out]
  exact mac_any s r w hs hr
theorem str_app (a : List UInt8) (p : ByteArray) : str a ++ p = str (a ++ p.data.toList) := by
  have h : (str a ++ p).data.toList = a ++ p.data.toList := by rw [ByteArray.data_append]; simp [str]
  rw [← str_of (str a ++ p), h]
set_option maxRecDepth 100000 in
set_option maxHeartbeats 1000000 in
/-- the numbers may be, and the payload is short -/
theorem enc_yes {key p : ByteArray} {level epoch seq : Nat} (w : World) (hk : key.size ≤ 288230376151711743) (h1 : level < 8) (h2 : epoch ≤ 4611686018427387904) (h3 : seq ≤ 4611686018427387904) (h4 : p.size ≤ 200) {t : ByteArray} (ht : Hid (str (Frm.whole key.data.toList level epoch seq p.data.toList) = t)) :
    Calls Try.prog 11 #[.string key, .int .i64 level, .int .i64 epoch, .int .i64 seq, .string p] w fun e w' => e = .returned (.tuple #[.string t, .int .i64 0]) ∧ Below w.heap.size w w' := by
  have g1 : ¬ (level : Int) < 0 := by omega
  have g2 : ¬ (8 : Int) ≤ level := by omega
  have g3 : ¬ (200 : Int) < p.size := by omega
  obtain ⟨hd, hhd⟩ : ∃ hd, Frm.head level epoch seq p.size = hd := ⟨_, rfl⟩
  have hdl : hd.length = 18 := by rw [← hhd]; exact Frm.head_length _ _ _ _
  obtain ⟨t1, ht1⟩ : ∃ t1, str hd = t1 := ⟨_, rfl⟩
  have ht1' : Hid (str (Frm.head level epoch seq p.size) = t1) := by show _ = _; rw [hhd, ht1]
  have hsz1 : t1.size = 18 := by rw [← ht1, str_size, hdl]
  obtain ⟨t2, ht2⟩ : ∃ t2, t1 ++ p = t2 := ⟨_, rfl⟩
  have hb2 : t2 = str (Frm.body level epoch seq p.data.toList) := by
    rw [← ht2, ← ht1, str_app]
    unfold Frm.body
    rw [show p.data.toList.length = p.size from rfl, hhd]
  have hsz2 : t2.size = 18 + p.size := by rw [← ht2, ByteArray.size_append, hsz1]
  have ht2l : t2.data.toList = Frm.body level epoch seq p.data.toList := by rw [hb2]; rfl
  obtain ⟨t3, ht3⟩ : ∃ t3, str (Sha.mac key.data.toList t2.data.toList) = t3 := ⟨_, rfl⟩
  have hsz3 : t3.size = 32 := by rw [← ht3, str_size, Frm.mac_length]
  have htt : t2 ++ t3 = t := by
    rw [← ht.out, hb2, ← ht3, ht2l, str_app]
    rfl
  have hcc1 : ¬ (9223372036854775807 < t1.size + p.size) := by omega
  have hcc2 : ¬ (9223372036854775807 < t2.size + t3.size) := by omega
  have hs2 : t2.size ≤ 288230376151711743 := by omega
  replace hhd := Lib.hid hhd
  replace hdl := Lib.hid hdl
  replace ht1 := Lib.hid ht1
  replace ht2 := Lib.hid ht2
  replace hb2 := Lib.hid hb2
  replace ht2l := Lib.hid ht2l
  replace ht3 := Lib.hid ht3
  replace htt := Lib.hid htt
  replace hsz1 := Lib.hid hsz1
  replace hsz2 := Lib.hid hsz2
  replace hsz3 := Lib.hid hsz3
  go_enter Try.func11, Try.ntmps11
  go_wp2_with fail
  refine (may_yes epoch w (by omega) (by omega)).mono ?_
  rintro e w' ⟨rfl, rfl⟩
  go_wp2_with fail
  refine (may_yes seq w (by omega) (by omega)).mono ?_
  rintro e w' ⟨rfl, rfl⟩
  go_wp2_with fail
  refine (laid_v (Row.new w [.int .i64 (level : Int), .int .i64 1, .int .i64 (epoch : Int), .int .i64 8, .int .i64 (seq : Int), .int .i64 8, .int .i64 (p.size : Int), .int .i64 1] 74) h1 h2 h3 h4 ht1').mono ?_
  rintro e w1 ⟨rfl, hb1⟩
  have hb1' := ((Below.refl w.heap.size w).alloc (Nat.le_refl _) (.cells #[.int .i64 (level : Int), .int .i64 1, .int .i64 (epoch : Int), .int .i64 8, .int .i64 (seq : Int), .int .i64 8, .int .i64 (p.size : Int), .int .i64 1] 74)).trans (hb1.mono (by simp))
  clear hb1
  go_wp2_with fail
  rw [ht2.out]
  (with_reducible refine (mac_v hk hs2 ht3).mono ?_)
  rintro e w2 ⟨rfl, hb2'⟩
  have hb3 := hb1'.trans (hb2'.mono hb1'.size)
  clear hb1' hb2'
  go_wp2_with fail
  go_ret2
  exact ⟨by rw [htt.out]; rfl, hb3⟩
set_option maxHeartbeats 1000000 in
/-- the payload is too long -/
theorem enc_long {key p : ByteArray} {level epoch seq : Nat} (w : World) (h1 : level < 8) (h2 : epoch ≤ 4611686018427387904) (h3 : seq ≤ 4611686018427387904) (h4 : 200 < p.size) :
    Calls Try.prog 11 #[.string key, .int .i64 level, .int .i64 epoch, .int .i64 seq, .string p] w fun e w' => e = .returned (.tuple #[.string (str []), .int .i64 191]) ∧ w = w' := by
  have g1 : ¬ (level : Int) < 0 := by omega
  have g2 : ¬ (8 : Int) ≤ level := by omega
  have g3 : (200 : Int) < p.size := by omega
  go_enter Try.func11, Try.ntmps11
  go_wp2_with fail
  refine (may_yes epoch w (by omega) (by omega)).mono ?_
  rintro e w' ⟨rfl, rfl⟩
  go_wp2_with fail
  refine (may_yes seq w (by omega) (by omega)).mono ?_
  rintro e w' ⟨rfl, rfl⟩
  go_wp2_with fail
  go_ret2
  exact ⟨rfl, rfl⟩
set_option maxHeartbeats 1000000 in
/-- a number may not be -/
theorem enc_bad {key p : ByteArray} {level epoch seq : Int} (w : World) (h : ¬ Frm.fine level epoch seq) :
    Calls Try.prog 11 #[.string key, .int .i64 level, .int .i64 epoch, .int .i64 seq, .string p] w fun e w' => e = .returned (.tuple #[.string (str []), .int .i64 1]) ∧ w = w' := by
  unfold Frm.fine Frm.most at h
  by_cases h1 : level < 0
  · clear h
    go_enter Try.func11, Try.ntmps11
    go_wp2_with fail
    go_ret2
    exact ⟨rfl, rfl⟩
  by_cases h2 : 8 ≤ level
  · clear h
    go_enter Try.func11, Try.ntmps11
    go_wp2_with fail
    go_ret2
    exact ⟨rfl, rfl⟩
  by_cases h3 : 0 ≤ epoch ∧ epoch ≤ 4611686018427387904
  · have h4 : ¬ (0 ≤ seq ∧ seq ≤ 4611686018427387904) := by omega
    obtain ⟨h3, h3'⟩ := h3
    clear h
    go_enter Try.func11, Try.ntmps11
    go_wp2_with fail
    refine (may_yes epoch w h3 h3').mono ?_
    rintro e w' ⟨rfl, rfl⟩
    go_wp2_with fail
    refine (may_no seq w h4).mono ?_
    rintro e w' ⟨rfl, rfl⟩
    clear h4
    go_wp2_with fail
    go_ret2
    exact ⟨rfl, rfl⟩
  · clear h
    replace h3 := Lib.hid h3
    go_enter Try.func11, Try.ntmps11
    go_wp2_with fail
    refine (may_no epoch w h3.out).mono ?_
    rintro e w' ⟨rfl, rfl⟩
    go_wp2_with fail
    go_ret2
    exact ⟨rfl, rfl⟩
/-- Encode: whatever its arguments -/
theorem enc_any {key p t : ByteArray} {level epoch seq x : Int} {w : World} (hk : key.size ≤ 288230376151711743) (ht : Hid (str (Frm.encS key.data.toList level epoch seq p.data.toList) = t)) (hx : Hid (Frm.encE level epoch seq p.data.toList = x)) :
    Calls Try.prog 11 #[.string key, .int .i64 level, .int .i64 epoch, .int .i64 seq, .string p] w fun e w' => e = .returned (.tuple #[.string t, .int .i64 x]) ∧ Below w.heap.size w w' := by
  have ht := ht.out
  have hx := hx.out
  by_cases hf : Frm.fine level epoch seq
  · have hf' := hf
    unfold Frm.fine Frm.most at hf'
    obtain ⟨a1, a2, a3, a4, a5, a6⟩ := hf'
    obtain ⟨l, rfl⟩ := Int.eq_ofNat_of_zero_le a1
    obtain ⟨ep, rfl⟩ := Int.eq_ofNat_of_zero_le a3
    obtain ⟨sq, rfl⟩ := Int.eq_ofNat_of_zero_le a5
    by_cases hp : p.size ≤ 200
    · have hp' : p.data.toList.length ≤ 200 := hp
      unfold Frm.encS at ht
      unfold Frm.encE at hx
      rw [if_pos ⟨hf, hp'⟩] at ht
      rw [if_pos hf, if_pos hp'] at hx
      subst hx
      exact enc_yes w hk (by omega) (by omega) (by omega) hp (Lib.hid ht)
    · have hp' : ¬ p.data.toList.length ≤ 200 := hp
      unfold Frm.encS at ht
      unfold Frm.encE at hx
      rw [if_neg (fun h => hp' h.2)] at ht
      rw [if_pos hf, if_neg hp'] at hx
      subst hx
      subst ht
      exact (enc_long w (by omega) (by omega) (by omega) (by omega)).mono fun _ _ ⟨he, hw⟩ => ⟨he, hw ▸ Below.refl _ _⟩
  · unfold Frm.encS at ht
    unfold Frm.encE at hx
    rw [if_neg (fun h => hf h.1)] at ht
    rw [if_neg hf] at hx
    subst hx
    subst ht
    exact (enc_bad w hf).mono fun _ _ ⟨he, hw⟩ => ⟨he, hw ▸ Below.refl _ _⟩
end Go.Proofs.Ytmmkopdijmplcaa.FF
