/-
  A number masked to its lowest bytes, plainly; no condition.
-/
import Derived.Test.YtbgnffgceeclhaaBase
import Derived.IntWalk
namespace Go.Proofs.Ytbgnffgceeclhaa
open Go.RowKit Base
theorem pow_dvd_pow2 {a b : Nat} (h : a ≤ b) : (2 : Int) ^ a ∣ 2 ^ b := ⟨2 ^ (b - a), by rw [← Int.pow_add]; congr 1; omega⟩
theorem mask (n : Int) (k : Nat) (hk : k ≤ 56) : bits .and .i64 n ((2 : Int) ^ k - 1) = n % 2 ^ k := by
  have e : bits .and .i64 n ((2 : Int) ^ k - 1) = IntKind.i64.wrap ((BitVec.ofInt 64 n &&& BitVec.ofInt 64 ((2 : Int) ^ k - 1)).toNat : Int) := rfl
  have hp : 0 < 2 ^ k := Nat.pow_pos (by decide)
  have hp2 : (2 : Nat) ^ k ≤ 2 ^ 56 := Nat.pow_le_pow_right (by decide) hk
  have hp3 : (2 : Nat) ^ 56 = 72057594037927936 := by decide
  have e1 : ((2 : Int) ^ k - 1) = ((2 ^ k - 1 : Nat) : Int) := by
    have : ((2 ^ k : Nat) : Int) = (2 : Int) ^ k := Int.natCast_pow 2 k
    omega
  rw [e, e1, BitVec.toNat_and, BitVec.ofInt_natCast, BitVec.toNat_ofNat, Nat.mod_eq_of_lt (a := 2 ^ k - 1) (by omega), Nat.and_two_pow_sub_one_eq_mod, BitVec.toNat_ofInt]
  have h1 : (((n % ((2 ^ 64 : Nat) : Int)).toNat % 2 ^ k : Nat) : Int) = n % 2 ^ k := by
    rw [Int.natCast_emod, Int.toNat_of_nonneg (Int.emod_nonneg _ (by decide)), Int.natCast_pow, Int.natCast_pow]
    exact Int.emod_emod_of_dvd n (pow_dvd_pow2 (by omega))
  have h2 : (n % ((2 ^ 64 : Nat) : Int)).toNat % 2 ^ k < 2 ^ k := Nat.mod_lt _ hp
  rw [IntWalk.i64_in _ (by omega)]
  exact h1
theorem masked (n : Int) (m : Nat) (hm : m < 8) : bits .and .i64 n (wrap64 (wrap64 (2 ^ (8 * m)) - 1)) = n % 256 ^ m := by
  have hp : (0 : Int) < 2 ^ (8 * m) := Int.pow_pos (by decide)
  have hp2 : (2 : Nat) ^ (8 * m) ≤ 2 ^ 56 := Nat.pow_le_pow_right (by decide) (by omega)
  have hp3 : (2 : Nat) ^ 56 = 72057594037927936 := by decide
  have hp4 : ((2 ^ (8 * m) : Nat) : Int) = (2 : Int) ^ (8 * m) := Int.natCast_pow 2 (8 * m)
  have w1 : wrap64 ((2 : Int) ^ (8 * m)) = 2 ^ (8 * m) := by unfold wrap64; omega
  have w2 : wrap64 ((2 : Int) ^ (8 * m) - 1) = 2 ^ (8 * m) - 1 := by unfold wrap64; omega
  rw [w1, w2, mask n (8 * m) (by omega), Int.pow_mul]
  rfl
end Go.Proofs.Ytbgnffgceeclhaa
