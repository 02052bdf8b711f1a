/-
  CodeSums: whatever the text and the two places: with one bit turned, or two that stand within 32 of one another, the sum is another; the call returns true and the arguments read as before.
-/
import Derived.Test.YtbgnffgceeclhaaRows
import Derived.Test.YtbgnffgceeclhaaBase
import Derived.Test.YtbgnffgceeclhaaSum
import Derived.Test.YtbgnffgceeclhaaRow
import Derived.Test.YtbgnffgceeclhaaFlip
import Derived.Test.YtbgnffgceeclhaaFixed
import Derived.ProofKit
import Derived.OpenShut
import Derived.ShutString
import Derived.ChangeOld
import Derived.SizedLaws
namespace Go.Proofs.Ytbgnffgceeclhaa.sums
open Go.RowKit Base Go.ChangeShapes Go.WideShapes Go.ChangeAt
open Go.ChangeMaps (open_string shut_string)
set_option linter.unusedVariables false
theorem own : ownKnob Try.prog.godebug = none := by kernel_rfl
theorem laidOut : laidOutB Try.prog = true := by kernel_rfl

/-- the places lie outside: nothing is asked -/
theorem walk_out (s : ByteArray) (a d : Int) (w : World) (hs : s.size ≤ 140737488351232) (ha2 : a ≤ 9223372036854775807) (ha1 : -9223372036854775808 ≤ a)
    (h : a < 0 ∨ 8 * (s.size : Int) ≤ a ∨ d < 0 ∨ 31 < d ∨ 8 * (s.size : Int) ≤ a + d) :
    Calls Try.prog 4 #[.string s, .int .i64 a, .int .i64 d] w fun e w' => e = .returned (.bool true) ∧ Below w.heap.size w w' := by
  by_cases h1 : a < 0
  · go_enter Try.func4, Try.ntmps4
    go_wp2_with fail
    refine (fixed_any _).mono ?_; rintro e w1 ⟨rfl, hb1⟩
    go_wp2
    go_ret
    exact ⟨rfl, hb1⟩
  by_cases h2 : 8 * (s.size : Int) ≤ a
  · go_enter Try.func4, Try.ntmps4
    go_wp2_with fail
    refine (fixed_any _).mono ?_; rintro e w1 ⟨rfl, hb1⟩
    go_wp2
    go_ret
    exact ⟨rfl, hb1⟩
  by_cases h3 : d < 0
  · go_enter Try.func4, Try.ntmps4
    go_wp2_with fail
    refine (fixed_any _).mono ?_; rintro e w1 ⟨rfl, hb1⟩
    go_wp2
    go_ret
    exact ⟨rfl, hb1⟩
  by_cases h4 : 31 < d
  · go_enter Try.func4, Try.ntmps4
    go_wp2_with fail
    refine (fixed_any _).mono ?_; rintro e w1 ⟨rfl, hb1⟩
    go_wp2
    go_ret
    exact ⟨rfl, hb1⟩
  · have h5 : 8 * (s.size : Int) ≤ a + d := by omega
    clear h
    go_enter Try.func4, Try.ntmps4
    go_wp2_with fail
    refine (fixed_any _).mono ?_; rintro e w1 ⟨rfl, hb1⟩
    go_wp2
    go_ret
    exact ⟨rfl, hb1⟩

theorem xor8 (c : UInt8) (j : Nat) (h : j < 8) : Value.int .u8 (bits .xor .u8 (c.toNat : Int) (2 ^ j % 256)) = bv (c ^^^ UInt8.ofNat (2 ^ j)) := by
  have hc : c.toNat < 256 := c.toNat_lt
  have h2 : 2 ^ j < 256 := by
    have : (2 : Nat) ^ j < 2 ^ 8 := Nat.pow_lt_pow_right (by decide) h
    simpa using this
  have e : ((2 : Int) ^ j % 256) = ((2 ^ j : Nat) : Int) := by
    have e0 : ((2 ^ j : Nat) : Int) = (2 : Int) ^ j := by simp
    rw [e0]
    exact Int.emod_eq_of_lt (Int.le_of_lt (Int.pow_pos (by decide))) (by rw [← e0]; exact Int.ofNat_lt.2 h2)
  unfold bv
  rw [e, u8_xor_nat _ _ hc h2, UInt8.toNat_xor, UInt8.toNat_ofNat']
  congr 4
  omega

theorem row_flip {w : World} {g k : Nat} {l : List UInt8} {c : UInt8} (h : Row w g l) (hk : k / 8 < l.length) (hc : l.getD (k / 8) 0 = c) :
    Row (w.setCell ⟨g, k / 8, none⟩ (.int .u8 (bits .xor .u8 (c.toNat : Int) (2 ^ (k % 8) % 256)))).drew g (Crc.flip l k) := by
  rw [xor8 c (k % 8) (by omega)]
  have := (h.set hk (c ^^^ UInt8.ofNat (2 ^ (k % 8)))).drew
  unfold Crc.flip
  rw [hc]
  exact this
theorem below_flip {B g k : Nat} {w w1 : World} (h : Below B w w1) (hg : B ≤ g) (v : Value) : Below B w (w1.setCell ⟨g, k / 8, none⟩ v).drew := (h.setCell (p := ⟨g, k / 8, none⟩) hg v).drew

theorem ne_toNat {x y : BitVec 32} (h : x ≠ y) : ((x.toNat : Int) != (y.toNat : Int)) = true := by
  rw [bne_iff_ne]
  intro e
  exact h (BitVec.eq_of_toNat_eq (by omega))

set_option maxHeartbeats 1000000 in
theorem walk_one (s : ByteArray) (k : Nat) (w : World) (hs : s.size ≤ 140737488351232) (h : k < 8 * s.size) :
    Calls Try.prog 4 #[.string s, .int .i64 k, .int .i64 0] w fun e w' => e = .returned (.bool true) ∧ Below w.heap.size w w' := by
  have HN := Lib.hid (ne_toNat (Crc.sum_flip s.data.toList k (by simpa using h)))
  have HM : Hid (s.size ≤ maxLen) := by show _ ≤ _; unfold maxLen; omega
  go_enter Try.func4, Try.ntmps4
  go_wp2_with fail
  refine (fixed_any _).mono ?_; rintro e w1 ⟨rfl, hb1⟩
  obtain ⟨cap, w2, hrun, hb2, hcap, hz, hrow⟩ := conv_row w1 9 30 5 s Try.underlying9 Try.underlying30 Try.underlying5
  have hk8 : k / 8 < s.data.toList.length := by have : s.data.toList.length = s.size := by simp
                                                omega
  have c0 := hrow.cell (k / 8) hk8
  have f0 := hrow.free (k / 8) hk8
  obtain ⟨c, hc⟩ : ∃ c, s.data.toList.getD (k / 8) 0 = c := ⟨_, rfl⟩
  rw [hc] at c0
  have hrow3 := row_flip hrow hk8 hc
  have hb3 := below_flip (k := k) (hb1.trans (hb2.mono hb1.size)) hb1.size (.int .u8 (bits .xor .u8 (c.toNat : Int) (2 ^ (k % 8) % 256)))
  have hB3 : w.heap.size ≤ (w2.setCell ⟨w1.heap.size, k / 8, none⟩ (.int .u8 (bits .xor .u8 (c.toNat : Int) (2 ^ (k % 8) % 256)))).drew.heap.size := hb3.size
  clear hc hk8
  unfold bv at c0
  have hcb : c.toNat < 256 := c.toNat_lt
  have hk : (k : Int) / 8 < (s.size : Int) := by omega
  have hk2 : (0 : Int) ≤ (k : Int) / 8 := by omega
  go_wp2
  go_region
  clear c0 f0 hrun hrow hb2 hz
  generalize (w2.setCell ⟨w1.heap.size, k / 8, none⟩ (.int .u8 (bits .xor .u8 (c.toNat : Int) (2 ^ (k % 8) % 256)))).drew = w3 at *
  have hcv := run_row w3 30 9 5 Try.underlying30 Try.underlying5 Try.underlying9 (cap := cap) (n := s.size) hrow3 (by rw [Crc.flip_length]; simp)
  have hsz : Hid ((str (Crc.flip s.data.toList k)).size ≤ maxLen) := by show _ ≤ _; rw [str_size, Crc.flip_length]; unfold maxLen; simp; omega
  go_wp2_with fail
  refine (sum_any _ _ hsz.out).mono ?_; rintro e w4 ⟨rfl, hb4⟩
  clear hcv
  go_wp2_with fail
  refine (sum_any _ _ HM.out).mono ?_; rintro e w5 ⟨rfl, hb5⟩
  rw [str_toList]
  have HN' := HN.out
  go_wp2_with fail
  go_ret
  exact ⟨rfl, (hb3.trans (hb4.mono hB3)).trans (hb5.mono (Nat.le_trans hB3 hb4.size))⟩

set_option maxHeartbeats 2000000 in
theorem walk_two (s : ByteArray) (k d : Nat) (w : World) (hs : s.size ≤ 140737488351232) (h : k + d < 8 * s.size) (hd : 0 < d) (hd2 : d ≤ 31) :
    Calls Try.prog 4 #[.string s, .int .i64 k, .int .i64 d] w fun e w' => e = .returned (.bool true) ∧ Below w.heap.size w w' := by
  have HN := Lib.hid (ne_toNat (Crc.sum_flip2 s.data.toList k d hd hd2 (by simpa using h)))
  have HM : Hid (s.size ≤ maxLen) := by show _ ≤ _; unfold maxLen; omega
  have hd' : (0 : Int) < (d : Int) := by omega
  go_enter Try.func4, Try.ntmps4
  go_wp2_with fail
  refine (fixed_any _).mono ?_; rintro e w1 ⟨rfl, hb1⟩
  obtain ⟨cap, w2, hrun, hb2, hcap, hz, hrow⟩ := conv_row w1 9 30 5 s Try.underlying9 Try.underlying30 Try.underlying5
  have hlen : s.data.toList.length = s.size := by simp
  have hk8 : k / 8 < s.data.toList.length := by omega
  have hm8 : (k + d) / 8 < (Crc.flip s.data.toList k).length := by rw [Crc.flip_length]; omega
  have HL := Lib.hid hlen
  clear hlen
  have c0 := hrow.cell (k / 8) hk8
  have f0 := hrow.free (k / 8) hk8
  obtain ⟨c, hc⟩ : ∃ c, s.data.toList.getD (k / 8) 0 = c := ⟨_, rfl⟩
  rw [hc] at c0
  have hrow3 := row_flip hrow hk8 hc
  have hb3 := below_flip (k := k) (hb1.trans (hb2.mono hb1.size)) hb1.size (.int .u8 (bits .xor .u8 (c.toNat : Int) (2 ^ (k % 8) % 256)))
  have hB3 : w.heap.size ≤ (w2.setCell ⟨w1.heap.size, k / 8, none⟩ (.int .u8 (bits .xor .u8 (c.toNat : Int) (2 ^ (k % 8) % 256)))).drew.heap.size := hb3.size
  clear hc hk8
  unfold bv at c0
  have hcb : c.toNat < 256 := c.toNat_lt
  have hk : (k : Int) / 8 < (s.size : Int) := by omega
  have hk2 : (0 : Int) ≤ (k : Int) / 8 := by omega
  go_wp2
  go_region
  clear c0 f0 hrun hrow hb2 hz
  generalize (w2.setCell ⟨w1.heap.size, k / 8, none⟩ (.int .u8 (bits .xor .u8 (c.toNat : Int) (2 ^ (k % 8) % 256)))).drew = w3 at *
  have c0 := hrow3.cell ((k + d) / 8) hm8
  have f0 := hrow3.free ((k + d) / 8) hm8
  obtain ⟨c2, hc2⟩ : ∃ c2, (Crc.flip s.data.toList k).getD ((k + d) / 8) 0 = c2 := ⟨_, rfl⟩
  rw [hc2] at c0
  have hrow4 := row_flip hrow3 hm8 hc2
  have hg1 : w.heap.size ≤ w1.heap.size := hb1.size
  have hb4 := below_flip (k := k + d) hb3 hg1 (.int .u8 (bits .xor .u8 (c2.toNat : Int) (2 ^ ((k + d) % 8) % 256)))
  have hB4 : w.heap.size ≤ (w3.setCell ⟨w1.heap.size, (k + d) / 8, none⟩ (.int .u8 (bits .xor .u8 (c2.toNat : Int) (2 ^ ((k + d) % 8) % 256)))).drew.heap.size := hb4.size
  clear hc2 hm8
  unfold bv at c0
  have hcb2 : c2.toNat < 256 := c2.toNat_lt
  have hm : ((k : Int) + (d : Int)) / 8 < (s.size : Int) := by omega
  have hm2 : (0 : Int) ≤ ((k : Int) + (d : Int)) / 8 := by omega
  go_wp2
  go_region
  clear c0 f0
  generalize (w3.setCell ⟨w1.heap.size, (k + d) / 8, none⟩ (.int .u8 (bits .xor .u8 (c2.toNat : Int) (2 ^ ((k + d) % 8) % 256)))).drew = w4 at *
  have hcv := run_row w4 30 9 5 Try.underlying30 Try.underlying5 Try.underlying9 (cap := cap) (n := s.size) hrow4 (by rw [Crc.flip_length, Crc.flip_length]; exact HL.out.symm)
  have hsz : Hid ((str (Crc.flip (Crc.flip s.data.toList k) (k + d))).size ≤ maxLen) := by show _ ≤ _; rw [str_size, Crc.flip_length, Crc.flip_length, HL.out]; unfold maxLen; omega
  go_wp2_with fail
  refine (sum_any _ _ hsz.out).mono ?_; rintro e w5 ⟨rfl, hb5⟩
  clear hcv
  go_wp2_with fail
  refine (sum_any _ _ HM.out).mono ?_; rintro e w6 ⟨rfl, hb6⟩
  rw [str_toList]
  have HN' := HN.out
  go_wp2_with fail
  go_ret
  exact ⟨rfl, (hb4.trans (hb5.mono hB4)).trans (hb6.mono (Nat.le_trans hB4 hb5.size))⟩

theorem walk (s : ByteArray) (a d : Int) (w : World) (hs : s.size ≤ 140737488351232) (ha1 : -9223372036854775808 ≤ a) (ha2 : a ≤ 9223372036854775807) :
    Calls Try.prog 4 #[.string s, .int .i64 a, .int .i64 d] w fun e w' => e = .returned (.bool true) ∧ Below w.heap.size w w' := by
  by_cases h : a < 0 ∨ 8 * (s.size : Int) ≤ a ∨ d < 0 ∨ 31 < d ∨ 8 * (s.size : Int) ≤ a + d
  · exact walk_out s a d w hs ha2 ha1 h
  · obtain ⟨k, rfl⟩ := Int.eq_ofNat_of_zero_le (show 0 ≤ a by omega)
    obtain ⟨m, rfl⟩ := Int.eq_ofNat_of_zero_le (show 0 ≤ d by omega)
    by_cases hm : m = 0
    · subst hm
      exact walk_one s k w hs (by omega)
    · exact walk_two s k m w hs (by omega) (by omega) (by omega)

set_option maxRecDepth 100000 in
theorem lifted (os : Os) (started : os.Started) (H : Type) (enc : TypeId × Value → H) :
    ReturnsInHanded {} Try.checked os 4 .any (Rows.codeSumsSpec.pre6 enc Try.prog Try.f4 Rows.codeSumsRow.domain false) (Rows.codeSumsSpec.post enc Try.prog Try.f4 false true false false) := by
  refine returnsInHanded_of_change_sized (C := Try.checked) own started (by kernel_rfl) Try.func4
    (ChangeSpec.witness6 (enc := enc) (C := Try.checked) false ⟨#[], #[.string .empty, .int .i64 0, .int .i64 0], []⟩ 8 (by kernel_rfl) (by kernel_rfl) (by kernel_rfl) (by kernel_rfl)) ?_
  intro W base args ds gs before hval0 hW hcnd hsz0 _
  have hval : ∀ (j : Nat) t v, Try.f4.params[j]? = some t → args[j]? = some v → Value.okWide Try.prog W .any base t v := hval0
  have hsz : (DataW.weightsEach Try.prog (Try.f4.params.toList ++ Rows.codeSumsSpec.plain.varTypes Try.prog) (ds ++ gs)).all (· ≤ reachBytes) = true := hsz0
  have hW' := hW
  obtain ⟨p, q, hA0, hV, rfl, hfz, hnd⟩ := hW
  have hA : DataW.TrodAll enc Try.prog W 0 (fun _ => true) true Try.f4.params.toList args.toList ds p := hA0
  rw [Try.params4] at hA hval hsz
  obtain ⟨v0, vs0, d0, ds0, p0, q0, hargs, rfl, rfl, h0, r0⟩ := trodAll_cons hA
  obtain ⟨v1, vs1, d1, ds1, p1, q1, rfl, rfl, rfl, h1, r1⟩ := trodAll_cons r0
  obtain ⟨v2, vs2, d2, ds2, p2, q2, rfl, rfl, rfl, h2, r2⟩ := trodAll_cons r1
  obtain ⟨rfl, rfl, rfl⟩ := trodAll_nil r2
  obtain rfl : args = #[v0, v1, v2] := by cases args; simp_all
  obtain ⟨rfl, rfl⟩ := trodVars_none hV
  obtain ⟨s, rfl, rfl, rfl, hmax⟩ := open_string Try.underlying9 (hval 0 9 v0 rfl rfl) h0
  obtain ⟨a1, rfl, rfl, rfl, w1⟩ := open_int Try.underlying3 (hval 1 3 v1 rfl rfl) h1
  obtain ⟨a2, rfl, rfl, rfl, w2⟩ := open_int Try.underlying3 (hval 2 3 v2 rfl rfl) h2
  have hreach := sized_string hsz (j := 0) (t := 9) rfl rfl
  have hb := bounds_i64 w1
  clear hA0 hval0 hsz0 hsz
  refine (walk s a1 a2 W (by simpa [reachBytes] using hreach) hb.1 hb.2).mono fun e W' ⟨he, bel⟩ => ?_
  subst he
  exact ⟨_, rfl, _, _, _, [], _, [], hW', trodAll_mk1 (shut_bool Try.underlying4 _), trodAll_cons_mk (shut_string Try.underlying9 hmax) (trodAll_cons_mk (shut_int Try.underlying3 w1) (trodAll_cons_mk (shut_int Try.underlying3 w2) trodAll_mk0)), rfl, bel.frame _, fun h => by cases h⟩

theorem proved : Rows.CodeSumsSaid :=
  OpenClaim.holds_of_wide 4 Try.f4 rfl rfl rfl rfl rfl rfl rfl ⟨rfl, rfl, rfl, rfl, rfl⟩ rfl rfl rfl rfl rfl (by kernel_rfl) Try.func4 (by kernel_rfl)
    (of_decide_eq_true (by kernel_rfl)) (by unfold Func.isWrapper; first | (rw [if_pos (by decide +kernel)]; kernel_rfl) | (rw [if_neg (by decide +kernel)]; exact ⟨rfl, rfl⟩))
    (fun os started H enc _ => lifted os started H enc)
#print axioms proved
end Go.Proofs.Ytbgnffgceeclhaa.sums
