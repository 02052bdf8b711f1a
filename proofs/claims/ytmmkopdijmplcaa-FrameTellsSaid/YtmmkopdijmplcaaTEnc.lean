/-
  The document's Encode: for every key that is not enormous and all other arguments it returns the frame's bytes, or why there are none.
-/
import Derived.Test.YtmmkopdijmplcaaTNum
import Derived.Test.YtmmkopdijmplcaaRPad
set_option linter.unusedVariables false
set_option maxRecDepth 100000
namespace Go.Proofs.Ytmmkopdijmplcaa.RT
open Go.RowKit Base HH RH FF
theorem rmac_v {s r t : ByteArray} {w : World} (hs : s.size ≤ 140737488355328) (hr : r.size ≤ 140737488355328) (ht : Hid (str (Sha.mac s.data.toList r.data.toList) = t)) :
    Calls Try.prog 59 #[.string s, .string r] w fun e w' => e = .returned (.string t) ∧ Below w.heap.size w w' := by
  rw [← ht.out]
  exact rMac_any s r w hs hr
set_option maxHeartbeats 1000000 in
/-- the numbers may be, and the payload is short -/
theorem renc_yes {key p : ByteArray} {level epoch seq : Nat} (w : World) (hk : key.size ≤ 140737488355328) (h1 : level < 8) (h2 : epoch ≤ 4611686018427387904) (h3 : seq ≤ 4611686018427387904) (h4 : p.size ≤ 200) {t : ByteArray} (ht : Hid (str (Frm.whole key.data.toList level epoch seq p.data.toList) = t)) :
    Calls Try.prog 26 #[.string key, .int .i64 level, .int .i64 epoch, .int .i64 seq, .string p] w fun e w' => e = .returned (.tuple #[.string t, .int .i64 0]) ∧ Below w.heap.size w w' := by
  have g1 : ¬ (level : Int) < 0 := by omega
  have g2 : ¬ (7 : Int) < level := by omega
  have g3 : ¬ (epoch : Int) < 0 := by omega
  have g4 : ¬ (4611686018427387904 : Int) < epoch := by omega
  have g5 : ¬ (seq : Int) < 0 := by omega
  have g6 : ¬ (4611686018427387904 : Int) < seq := by omega
  have g7 : ¬ (200 : Int) < p.size := by omega
  obtain ⟨n1, hn1⟩ : ∃ n, str (lowTo level 1) = n := ⟨_, rfl⟩
  obtain ⟨n2, hn2⟩ : ∃ n, str (lowTo epoch 8) = n := ⟨_, rfl⟩
  obtain ⟨n3, hn3⟩ : ∃ n, str (lowTo seq 8) = n := ⟨_, rfl⟩
  obtain ⟨n4, hn4⟩ : ∃ n, str (lowTo p.size 1) = n := ⟨_, rfl⟩
  have z1 : n1.size = 1 := by rw [← hn1]; rfl
  have z2 : n2.size = 8 := by rw [← hn2]; rfl
  have z3 : n3.size = 8 := by rw [← hn3]; rfl
  have z4 : n4.size = 1 := by rw [← hn4]; rfl
  obtain ⟨m1, hm1⟩ : ∃ m, n1 ++ n2 = m := ⟨_, rfl⟩
  obtain ⟨m2, hm2⟩ : ∃ m, m1 ++ n3 = m := ⟨_, rfl⟩
  obtain ⟨m3, hm3⟩ : ∃ m, m2 ++ n4 = m := ⟨_, rfl⟩
  obtain ⟨m4, hm4⟩ : ∃ m, m3 ++ p = m := ⟨_, rfl⟩
  have y1 : m1.size = 9 := by rw [← hm1, ByteArray.size_append, z1, z2]
  have y2 : m2.size = 17 := by rw [← hm2, ByteArray.size_append, y1, z3]
  have y3 : m3.size = 18 := by rw [← hm3, ByteArray.size_append, y2, z4]
  have y4 : m4.size = 18 + p.size := by rw [← hm4, ByteArray.size_append, y3]
  have hb : m4.data.toList = Frm.body level epoch seq p.data.toList := by
    have e : m3 = str (Frm.head level epoch seq p.size) := by
      rw [← hm3, ← hm2, ← hm1, ← hn1, ← hn2, ← hn3, ← hn4, str_join, str_join, str_join, lowTo_one _ (by omega), lowTo_one _ (by omega), lowTo_eight, lowTo_eight]
      unfold Frm.head
      congr 1
    rw [← hm4, e, str_app]
    rfl
  obtain ⟨g, hg⟩ : ∃ g, str (Sha.mac key.data.toList m4.data.toList) = g := ⟨_, rfl⟩
  have zg : g.size = 32 := by rw [← hg, str_size, Frm.mac_length]
  have htt : m4 ++ g = t := by
    rw [← ht.out, ← str_of m4, hb, ← hg, hb, str_app]
    rfl
  have c1 : ¬ (9223372036854775807 < n1.size + n2.size) := by omega
  have c2 : ¬ (9223372036854775807 < m1.size + n3.size) := by omega
  have c3 : ¬ (9223372036854775807 < m2.size + n4.size) := by omega
  have c4 : ¬ (9223372036854775807 < m3.size + p.size) := by omega
  have c4a : ¬ (9223372036854775807 < m2.size + n4.size + p.size) := by omega
  have c4b : ¬ (9223372036854775807 < (m2 ++ n4).size + p.size) := by rw [ByteArray.size_append]; omega
  have c5 : ¬ (9223372036854775807 < m4.size + g.size) := by omega
  have hs4 : m4.size ≤ 140737488355328 := by omega
  replace hn1 := Lib.hid hn1
  replace hn2 := Lib.hid hn2
  replace hn3 := Lib.hid hn3
  replace hn4 := Lib.hid hn4
  replace hm1 := Lib.hid hm1
  replace hm2 := Lib.hid hm2
  replace hm3 := Lib.hid hm3
  replace hm4 := Lib.hid hm4
  replace hb := Lib.hid hb
  replace hg := Lib.hid hg
  replace htt := Lib.hid htt
  replace z1 := Lib.hid z1
  replace z2 := Lib.hid z2
  replace z3 := Lib.hid z3
  replace z4 := Lib.hid z4
  replace y1 := Lib.hid y1
  replace y2 := Lib.hid y2
  replace y3 := Lib.hid y3
  replace y4 := Lib.hid y4
  replace zg := Lib.hid zg
  go_enter Try.func26, Try.ntmps26
  go_wp2_with fail
  (with_reducible refine (rnum_any (x := level) (n := 1) (ni := 1) (Lib.hid rfl) (by omega) (by decide) hn1).mono ?_)
  rintro e w1 ⟨rfl, hb1⟩
  go_wp2_with fail
  (with_reducible refine (rnum_any (x := epoch) (n := 8) (ni := 8) (Lib.hid rfl) (by omega) (by decide) hn2).mono ?_)
  rintro e w2 ⟨rfl, hb2'⟩
  have hb2 := hb1.trans (hb2'.mono hb1.size)
  clear hb1 hb2'
  go_wp2_with fail
  (try rw [hm1.out])
  (with_reducible refine (rnum_any (x := seq) (n := 8) (ni := 8) (Lib.hid rfl) (by omega) (by decide) hn3).mono ?_)
  rintro e w3 ⟨rfl, hb3'⟩
  have hb3 := hb2.trans (hb3'.mono hb2.size)
  clear hb2 hb3'
  go_wp2_with fail
  (try rw [hm1.out])
  (try rw [hm2.out])
  (with_reducible refine (rnum_any (x := p.size) (n := 1) (ni := 1) (Lib.hid rfl) (by omega) (by decide) hn4).mono ?_)
  rintro e w4 ⟨rfl, hb4'⟩
  have hb4 := hb3.trans (hb4'.mono hb3.size)
  clear hb3 hb4'
  go_wp2_with fail
  (try rw [hm1.out])
  (try rw [hm2.out])
  (try rw [hm3.out])
  (try rw [hm4.out])
  (with_reducible refine (rmac_v hk hs4 hg).mono ?_)
  rintro e w5 ⟨rfl, hb5'⟩
  have hb5 := hb4.trans (hb5'.mono hb4.size)
  clear hb4 hb5'
  go_wp2_with fail
  go_ret2
  exact ⟨by rw [htt.out]; rfl, hb5⟩
set_option maxHeartbeats 1000000 in
/-- the payload is too long -/
theorem renc_long {key p : ByteArray} {level epoch seq : Nat} (w : World) (h1 : level < 8) (h2 : epoch ≤ 4611686018427387904) (h3 : seq ≤ 4611686018427387904) (h4 : 200 < p.size) :
    Calls Try.prog 26 #[.string key, .int .i64 level, .int .i64 epoch, .int .i64 seq, .string p] w fun e w' => e = .returned (.tuple #[.string (str []), .int .i64 191]) ∧ w = w' := by
  have g1 : ¬ (level : Int) < 0 := by omega
  have g2 : ¬ (7 : Int) < level := by omega
  have g3 : ¬ (epoch : Int) < 0 := by omega
  have g4 : ¬ (4611686018427387904 : Int) < epoch := by omega
  have g5 : ¬ (seq : Int) < 0 := by omega
  have g6 : ¬ (4611686018427387904 : Int) < seq := by omega
  have g7 : (200 : Int) < p.size := by omega
  go_enter Try.func26, Try.ntmps26
  go_wp2_with fail
  go_ret2
  exact ⟨rfl, rfl⟩
set_option maxHeartbeats 1000000 in
/-- a number may not be -/
theorem renc_bad {key p : ByteArray} {level epoch seq : Int} (w : World) (h : ¬ Frm.fine level epoch seq) :
    Calls Try.prog 26 #[.string key, .int .i64 level, .int .i64 epoch, .int .i64 seq, .string p] w fun e w' => e = .returned (.tuple #[.string (str []), .int .i64 1]) ∧ w = w' := by
  unfold Frm.fine Frm.most at h
  by_cases h1 : level < 0
  · clear h
    go_enter Try.func26, Try.ntmps26
    go_wp2_with fail
    go_ret2
    exact ⟨rfl, rfl⟩
  by_cases h2 : 7 < level
  · clear h
    go_enter Try.func26, Try.ntmps26
    go_wp2_with fail
    go_ret2
    exact ⟨rfl, rfl⟩
  by_cases h3 : epoch < 0
  · clear h
    go_enter Try.func26, Try.ntmps26
    go_wp2_with fail
    go_ret2
    exact ⟨rfl, rfl⟩
  by_cases h4 : 4611686018427387904 < epoch
  · clear h
    go_enter Try.func26, Try.ntmps26
    go_wp2_with fail
    go_ret2
    exact ⟨rfl, rfl⟩
  by_cases h5 : seq < 0
  · clear h
    go_enter Try.func26, Try.ntmps26
    go_wp2_with fail
    go_ret2
    exact ⟨rfl, rfl⟩
  have h6 : 4611686018427387904 < seq := by omega
  clear h
  go_enter Try.func26, Try.ntmps26
  go_wp2_with fail
  go_ret2
  exact ⟨rfl, rfl⟩
/-- Encode: whatever its arguments -/
theorem renc_any {key p t : ByteArray} {level epoch seq x : Int} {w : World} (hk : key.size ≤ 140737488355328) (ht : Hid (str (Frm.encS key.data.toList level epoch seq p.data.toList) = t)) (hx : Hid (Frm.encE level epoch seq p.data.toList = x)) :
    Calls Try.prog 26 #[.string key, .int .i64 level, .int .i64 epoch, .int .i64 seq, .string p] w fun e w' => e = .returned (.tuple #[.string t, .int .i64 x]) ∧ Below w.heap.size w w' := by
  have ht := ht.out
  have hx := hx.out
  by_cases hf : Frm.fine level epoch seq
  · have hf' := hf
    unfold Frm.fine Frm.most at hf'
    obtain ⟨a1, a2, a3, a4, a5, a6⟩ := hf'
    obtain ⟨l, rfl⟩ := Int.eq_ofNat_of_zero_le a1
    obtain ⟨ep, rfl⟩ := Int.eq_ofNat_of_zero_le a3
    obtain ⟨sq, rfl⟩ := Int.eq_ofNat_of_zero_le a5
    by_cases hp : p.size ≤ 200
    · have hp' : p.data.toList.length ≤ 200 := hp
      unfold Frm.encS at ht
      unfold Frm.encE at hx
      rw [if_pos ⟨hf, hp'⟩] at ht
      rw [if_pos hf, if_pos hp'] at hx
      subst hx
      exact renc_yes w hk (by omega) (by omega) (by omega) hp (Lib.hid ht)
    · have hp' : ¬ p.data.toList.length ≤ 200 := hp
      unfold Frm.encS at ht
      unfold Frm.encE at hx
      rw [if_neg (fun h => hp' h.2)] at ht
      rw [if_pos hf, if_neg hp'] at hx
      subst hx
      subst ht
      exact (renc_long w (by omega) (by omega) (by omega) (by omega)).mono fun _ _ ⟨he, hw⟩ => ⟨he, hw ▸ Below.refl _ _⟩
  · unfold Frm.encS at ht
    unfold Frm.encE at hx
    rw [if_neg (fun h => hf h.1)] at ht
    rw [if_neg hf] at hx
    subst hx
    subst ht
    exact (renc_bad w hf).mono fun _ _ ⟨he, hw⟩ => ⟨he, hw ▸ Below.refl _ _⟩
end Go.Proofs.Ytmmkopdijmplcaa.RT
