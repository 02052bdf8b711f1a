/-
  Numbers and texts laid one behind the other, plainly: at its place each is read as what it was; no program is in sight.
-/
import Derived.Test.YtbgnffgceeclhaaBase
import Derived.Test.YtbgnffgceeclhaaPut
import Derived.Test.YtbgnffgceeclhaaBits
import Derived.Test.YtbgnffgceeclhaaNum
import Derived.Test.YtbgnffgceeclhaaText
import Derived.Test.YtbgnffgceeclhaaReader
import Derived.Test.YtbgnffgceeclhaaShift
import Derived.Test.YtbgnffgceeclhaaOnceP
namespace Go.Proofs.Ytbgnffgceeclhaa
open Go.RowKit Base
theorem b8_toNat (n : Int) (i : Nat) : ((b8 n i).toNat : Int) = n / 256 ^ i % 256 := by
  unfold b8
  have h : (2 : Int) ^ (8 * i) = 256 ^ i := by rw [Int.pow_mul]; rfl
  rw [h, UInt8.toNat_ofNat']
  have h0 : 0 ≤ n / 256 ^ i % 256 := Int.emod_nonneg _ (by decide)
  have h1 : n / 256 ^ i % 256 < 256 := Int.emod_lt_of_pos _ (by decide)
  omega
theorem putTo_snoc (n : Int) (k : Nat) : putTo n (k + 1) (k + 1) = putTo (n / 256) k k ++ [b8 n 0] := by
  unfold putTo
  rw [List.range_succ, List.map_append, List.map_singleton]
  congr 1
  · apply List.map_congr_left
    intro i hi
    have hi := List.mem_range.1 hi
    unfold b8
    rw [show k + 1 - 1 - i = (k - 1 - i) + 1 from by omega, Nat.mul_add, Int.pow_add, Int.mul_comm, show (2 : Int) ^ (8 * 1) = 256 from rfl, ← Int.ediv_ediv_of_nonneg (by decide)]
  · rw [show k + 1 - 1 - k = 0 from by omega]
theorem emod_mul256 (n b : Int) : n % (256 * b) = n % 256 + 256 * (n / 256 % b) := by
  rw [Int.emod_def n (256 * b), Int.emod_def n 256, Int.emod_def (n / 256) b, Int.ediv_ediv_of_nonneg (by decide), Int.mul_sub, Int.mul_assoc]
  omega
theorem val_put (k : Nat) : ∀ n : Int, (valN (putTo n k k) : Int) = n % 256 ^ k := by
  induction k with
  | zero =>
    intro n
    rw [Int.pow_zero, Int.emod_one]
    rfl
  | succ k ih =>
    intro n
    rw [putTo_snoc, valN_snoc]
    have hb := b8_toNat n 0
    rw [Int.pow_zero, Int.ediv_one] at hb
    have h2 := ih (n / 256)
    rw [Int.natCast_add, Int.natCast_mul, h2, hb, Int.pow_succ]
    rw [Int.mul_comm (256 ^ k) 256, emod_mul256 n (256 ^ k)]
    omega
theorem putL_is {n : Int} {k : Nat} (h1 : 1 ≤ k) (h8 : k ≤ 8) : putL n (k : Int) = putTo n k k := by
  unfold putL
  rw [if_pos (by omega), Int.toNat_natCast]
theorem putTo_length (n : Int) (k : Nat) : (putTo n k k).length = k := by
  unfold putTo
  rw [List.length_map, List.length_range]
/-- what a number that was laid is read as -/
theorem num64_put (n : Int) {k : Nat} (h1 : 1 ≤ k) (h8 : k ≤ 8) (hlo : -9223372036854775808 ≤ n) (hhi : n ≤ 9223372036854775807) :
    (num64 (putL n (k : Int))).toInt = if k < 8 then n % 256 ^ k else n := by
  rw [putL_is h1 h8]
  have hv := num64_val (putTo n k k) (by rw [putTo_length]; exact h8)
  have hp := val_put k n
  rw [BitVec.toInt_eq_toNat_cond, hv]
  have h0 : 0 ≤ n % 256 ^ k := Int.emod_nonneg _ (by have : (0 : Int) < 256 ^ k := Int.pow_pos (by decide); omega)
  by_cases hk : k < 8
  · rw [if_pos hk]
    have hlt : n % 256 ^ k < 256 ^ k := Int.emod_lt_of_pos _ (Int.pow_pos (by decide))
    have hle : (256 : Int) ^ k ≤ 72057594037927936 := by
      have h := Nat.pow_le_pow_right (n := 256) (by decide) (show k ≤ 7 by omega)
      have h7 : (256 : Nat) ^ 7 = 72057594037927936 := by decide
      have e : ((256 ^ k : Nat) : Int) = (256 : Int) ^ k := Int.natCast_pow 256 k
      omega
    rw [if_pos (by omega)]
    exact hp
  · rw [if_neg hk]
    obtain rfl : k = 8 := by omega
    have h7 : (256 : Int) ^ 8 = 18446744073709551616 := by decide
    rw [h7] at hp
    split <;> omega
/-- a thing that is laid: a number in w bytes, or, with a w that is none, a text -/
structure Th where
  n : Int
  w : Int
  s : ByteArray
def Th.num (t : Th) : Prop := 1 ≤ t.w ∧ t.w ≤ 8
instance (t : Th) : Decidable t.num := inferInstanceAs (Decidable (1 ≤ t.w ∧ t.w ≤ 8))
def Th.form (t : Th) : ByteArray := if t.num then str (putL t.n t.w) else textL t.s
def Th.kept (t : Th) : Bool := decide (t.num) || decide (t.s.size ≤ 1024)
def formsL (l : List Th) : List UInt8 := l.flatMap fun t => t.form.data.toList
/-- a number at its place -/
theorem back_num {t : Th} (hn : t.num) (hlo : -9223372036854775808 ≤ t.n) (hhi : t.n ≤ 9223372036854775807) {s : ByteArray} {at_ : Nat} {post : List UInt8} (hs : s.data.toList.drop at_ = t.form.data.toList ++ post) (hat : at_ ≤ s.size) :
    (⟨s, at_, 0⟩ : Rd).numV t.w = (if t.w < 8 then t.n % 256 ^ t.w.toNat else t.n) ∧ (⟨s, at_, 0⟩ : Rd).numR t.w = ⟨s, at_ + t.form.size, 0⟩ := by
  obtain ⟨h1, h8⟩ := hn
  obtain ⟨k, hk⟩ := Int.eq_ofNat_of_zero_le (show 0 ≤ t.w by omega)
  have hf : t.form.data.toList = putL t.n (k : Int) := by
    unfold Th.form
    rw [if_pos ⟨h1, h8⟩, str_toList, hk]
  have hfl : t.form.size = k := by
    rw [← toList_size, hf, putL_is (by omega) (by omega), putTo_length]
  have hl : s.size - at_ = k + post.length := by
    have := congrArg List.length hs
    rw [List.length_drop, List.length_append, toList_size, toList_size, hfl] at this
    exact this
  unfold Rd.numV Rd.numR
  rw [hk]
  simp only [ne_eq, not_true_eq_false, if_false]
  have c1 : ¬ ((k : Int) < 1 ∨ 8 < (k : Int)) := by omega
  have c2 : ¬ ((s.size : Int) - (at_ : Int) < (k : Int)) := by omega
  simp only [if_neg c1, if_neg c2]
  rw [Int.toNat_natCast, hs, hf, hfl]
  refine ⟨?_, rfl⟩
  rw [List.take_left' (by rw [putL_is (by omega) (by omega), putTo_length]), num64_put t.n (by omega) (by omega) hlo hhi]
  by_cases h : k < 8
  · rw [if_pos h, if_pos (by omega)]
  · rw [if_neg h, if_neg (by omega)]
/-- a text at its place -/
theorem back_text {t : Th} (hn : ¬ t.num) (hk : t.s.size ≤ 1024) {s : ByteArray} {at_ : Nat} {post : List UInt8} (hs : s.data.toList.drop at_ = t.form.data.toList ++ post) (hat : at_ ≤ s.size) :
    (⟨s, at_, 0⟩ : Rd).textV 1024 = t.s ∧ (⟨s, at_, 0⟩ : Rd).textR 1024 = ⟨s, at_ + t.form.size, 0⟩ := by
  have hf : t.form.data.toList = putL t.s.size 2 ++ t.s.data.toList := by
    unfold Th.form
    rw [if_neg hn]
    unfold textL
    rw [if_pos hk, toList_append, str_toList]
  have hp2 : (putL (t.s.size : Int) 2).length = 2 := rfl
  have hfl : t.form.size = 2 + t.s.size := by
    rw [← toList_size, hf, List.length_append, hp2, toList_size]
  have hl : s.size - at_ = 2 + t.s.size + post.length := by
    have := congrArg List.length hs
    rw [List.length_drop, List.length_append, toList_size, toList_size, hfl] at this
    exact this
  have hhead : (⟨s, at_, 0⟩ : Rd).head = t.s.size := by
    unfold Rd.head
    show (num64 ((s.data.toList.drop at_).take 2)).toInt = _
    rw [hs, hf, List.append_assoc, List.take_left' hp2]
    have := num64_put (t.s.size : Int) (k := 2) (by decide) (by decide) (by omega) (by omega)
    rw [if_pos (by decide)] at this
    have h2 : (num64 (putL (t.s.size : Int) 2)).toInt = (t.s.size : Int) % 256 ^ 2 := this
    rw [h2]
    have h7 : (256 : Int) ^ 2 = 65536 := by decide
    rw [h7]
    omega
  unfold Rd.textV Rd.textR
  rw [hhead]
  simp only [ne_eq, not_true_eq_false, if_false]
  have c1 : ¬ (s.size < at_ + 2) := by omega
  have c2 : ¬ ((1024 : Int) < (t.s.size : Int)) := by omega
  have c3 : ¬ ((s.size : Int) - (at_ : Int) - 2 < (t.s.size : Int)) := by omega
  simp only [show ¬ ((1024 : Int) < 0) from by decide, if_false, if_neg c1, if_neg c2, if_neg c3]
  rw [Int.toNat_natCast, hfl]
  refine ⟨?_, by rw [Nat.add_assoc]⟩
  apply ba_ext
  rw [extract_list, show at_ + 2 + t.s.size - (at_ + 2) = t.s.size from by omega, ← List.drop_drop, hs, hf, List.append_assoc, List.drop_left' hp2]
  exact List.take_left' (toList_size _)
end Go.Proofs.Ytbgnffgceeclhaa
