/-
  Bytes as a number of 64 bits, plainly, and the model's operations that reckon it; no condition.
-/
import Derived.Test.YtmmkopdijmplcaaBase
namespace Go.Proofs.Ytmmkopdijmplcaa
open Go.RowKit Base

/-- bytes as a number, the highest first, in 64 bits -/
def n64 (X : BitVec 64) (c : UInt8) : BitVec 64 := X <<< 8 ||| c.toBitVec.setWidth 64
def num64 (l : List UInt8) : BitVec 64 := l.foldl n64 0#64
theorem num64_snoc (l : List UInt8) (c : UInt8) : num64 (l ++ [c]) = n64 (num64 l) c := by simp [num64]

theorem wrap64_toInt (X : BitVec 64) : wrap64 (X.toNat : Int) = X.toInt := by
  have h := X.isLt
  rw [BitVec.toInt_eq_toNat_bmod, Int.bmod_def]
  unfold wrap64
  split <;> omega
theorem ofInt_wrap64 (v : Int) : BitVec.ofInt 64 (wrap64 v) = BitVec.ofInt 64 v := by
  apply BitVec.eq_of_toNat_eq
  rw [BitVec.toNat_ofInt, BitVec.toNat_ofInt]
  unfold wrap64
  congr 1
  omega
theorem byte64 (c : UInt8) : BitVec.ofInt 64 (c.toNat : Int) = c.toBitVec.setWidth 64 := by
  apply BitVec.eq_of_toNat_eq
  have : c.toNat < 256 := c.toNat_lt
  rw [BitVec.toNat_ofInt, BitVec.toNat_setWidth]
  show ((c.toNat : Int) % (2 ^ 64 : Nat)).toNat = c.toNat % 2 ^ 64
  omega
theorem n64_i64 (X : BitVec 64) (c : UInt8) : bits .or .i64 (wrap64 (X.toInt * 256)) (c.toNat : Int) = (n64 X c).toInt := by
  show IntKind.i64.wrap ((BitVec.ofInt 64 (wrap64 (X.toInt * 256)) ||| BitVec.ofInt 64 (c.toNat : Int)).toNat : Int) = _
  rw [IntWalk.i64_left, wrap64_toInt, ofInt_wrap64, byte64]
  have e : BitVec.ofInt 64 (X.toInt * 256) = X <<< 8 := by
    rw [BitVec.ofInt_mul, BitVec.ofInt_toInt]
    apply BitVec.eq_of_toNat_eq
    rw [BitVec.toNat_shiftLeft, BitVec.toNat_mul, Nat.shiftLeft_eq]
    rfl
  rw [e]
  rfl
theorem n64_u64 (X : BitVec 64) (c : UInt8) : bits .or .u64 ((X.toNat : Int) * (256 : Int) % (18446744073709551616 : Int)) (c.toNat : Int) = ((n64 X c).toNat : Int) := by
  have hc : c.toNat < 256 := c.toNat_lt
  have e1 : ((X.toNat : Int) * (256 : Int) % (18446744073709551616 : Int)) = ((X <<< 8).toNat : Int) := by
    rw [BitVec.toNat_shiftLeft, Nat.shiftLeft_eq]; omega
  have e2 : (c.toNat : Int) = ((c.toBitVec.setWidth 64).toNat : Int) := by
    rw [BitVec.toNat_setWidth]
    show (c.toNat : Int) = ((c.toNat % 2 ^ 64 : Nat) : Int)
    omega
  rw [e1, e2, u64_or_nat _ _ (X <<< 8).isLt (c.toBitVec.setWidth 64).isLt, ← BitVec.toNat_or]
  rfl
end Go.Proofs.Ytmmkopdijmplcaa
