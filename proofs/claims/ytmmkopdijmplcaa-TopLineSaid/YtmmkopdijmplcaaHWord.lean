/-
  Words of 32 bits: the model's operations as those of bit vectors; a row of cells that is known whole; the turn of a word; no condition.
-/
import Derived.Test.YtmmkopdijmplcaaRows
import Derived.Test.YtmmkopdijmplcaaBase
import Derived.Test.YtmmkopdijmplcaaCrc
import Derived.Test.YtmmkopdijmplcaaBits
import Derived.Test.YtmmkopdijmplcaaSha
import Derived.Great.Ranges
import Derived.WalkSmall
namespace Go.Proofs.Ytmmkopdijmplcaa.HH
open Go.RowKit Base
/-- a word as a cell -/
def w32 (x : BitVec 32) : Value := .int .u32 (x.toNat : Int)
theorem x32_or (a b : BitVec 32) : bits .or .u32 (a.toNat : Int) (b.toNat : Int) = ((a ||| b).toNat : Int) := by
  rw [u32_or_nat _ _ a.isLt b.isLt, BitVec.toNat_or]
theorem x32_shr (a : BitVec 32) (n : Nat) : (a.toNat : Int) / (2 : Int) ^ n = ((a >>> n).toNat : Int) := by
  rw [BitVec.toNat_ushiftRight, Nat.shiftRight_eq_div_pow, Int.natCast_ediv, Int.natCast_pow]; rfl
theorem x32_shl (a : BitVec 32) (n : Nat) : (a.toNat : Int) * (2 : Int) ^ n % 4294967296 = ((a <<< n).toNat : Int) := by
  rw [BitVec.toNat_shiftLeft, Nat.shiftLeft_eq, Int.natCast_emod, Int.natCast_mul, Int.natCast_pow]; rfl
theorem x32_add (a b : BitVec 32) : ((a.toNat : Int) + (b.toNat : Int)) % 4294967296 = ((a + b).toNat : Int) := by
  rw [BitVec.toNat_add]; omega
theorem x32_neg (a : BitVec 32) : bits .xor .u32 4294967295 (a.toNat : Int) = ((~~~ a).toNat : Int) := by
  have h : (4294967295 : Int) = ((0xffffffff#32).toNat : Int) := rfl
  rw [h, x32_xor, show (0xffffffff#32) = BitVec.allOnes 32 from rfl, BitVec.allOnes_xor]
theorem turn_count (n : Nat) (h0 : 0 < n) (h1 : n < 32) : bits .and .u64 (IntKind.u64.wrap (-(n : Int))) 31 = 32 - (n : Int) := by
  have h : ∀ k : Fin 32, 0 < k.val → bits .and .u64 (IntKind.u64.wrap (-(k.val : Int))) 31 = 32 - (k.val : Int) := by decide +kernel
  exact h ⟨n, h1⟩ h0
theorem turned (x : BitVec 32) (n : Nat) (h1 : n < 32) : bits .or .u32 ((x.toNat : Int) * 2 ^ (32 - n) % 4294967296) ((x.toNat : Int) / 2 ^ (32 - (32 - n))) = ((Sha.ror x n).toNat : Int) := by
  rw [x32_shl, x32_shr, x32_or, show 32 - (32 - n) = n from by omega, BitVec.or_comm]
  rfl
set_option maxHeartbeats 400000 in
theorem rotl_any (x : BitVec 32) (n : Nat) (h0 : 0 < n) (h1 : n < 32) (w : World) : Calls Try.prog 81 #[.int .u32 (x.toNat : Int), .int .i64 (-(n : Int))] w fun e w' => e = .returned (.int .u32 ((Sha.ror x n).toNat : Int)) ∧ w = w' := by
  have hx := x.isLt
  have hc := turn_count n h0 h1
  have a1 : 0 ≤ 32 - (n : Int) := by omega
  have a2 : 32 - (n : Int) < 32 := by omega
  have a3 : (0 : Int) < n := by omega
  have a4 : (n : Int) < 32 := by omega
  go_enter Try.func81, Try.ntmps81
  go_wp2
  go_ret
  exact ⟨congrArg (fun z => Ending.returned (.int .u32 z)) (turned x n h1), rfl⟩
set_option maxHeartbeats 400000 in
theorem ror_any (x : BitVec 32) (n : Nat) (h0 : 0 < n) (h1 : n < 32) (w : World) : Calls Try.prog 80 #[.int .u32 (x.toNat : Int), .int .i64 (n : Int)] w fun e w' => e = .returned (.int .u32 ((Sha.ror x n).toNat : Int)) ∧ w = w' := by
  have a3 : (0 : Int) < n := by omega
  have a4 : (n : Int) < 32 := by omega
  go_enter Try.func80, Try.ntmps80
  go_wp2_with fail
  refine (rotl_any x n h0 h1 _).mono ?_
  rintro e w' ⟨rfl, rfl⟩
  go_wp2
  go_ret
  exact ⟨rfl, rfl⟩
/-! ### a row that is known whole -/
/-- block g is a row of these cells -/
def Row (w : World) (g : Nat) (t : TypeId) (xs : List Value) : Prop := w.heap[g]? = some (.cells xs.toArray t (0, 0))
section
variable {w w1 : World} {g : Nat} {t : TypeId} {xs : List Value}
theorem Row.lt (h : Row w g t xs) : g < w.heap.size := (Array.getElem?_eq_some_iff.1 h).1
theorem Row.cell (h : Row w g t xs) {j : Nat} {v : Value} (hj : xs[j]? = some v) : w.cell? ⟨g, j, none⟩ = some v := by
  unfold Row at h
  rw [World.cell?]
  simp [h, hj]
theorem Row.free (h : Row w g t xs) (j : Nat) : w.frozen? ⟨g, j, none⟩ = false := by
  unfold Row at h
  rw [World.frozen?]
  simp [h]
theorem Row.set (h : Row w g t xs) (j : Nat) (v : Value) : Row (w.setCell ⟨g, j, none⟩ v) g t (xs.set j v) := by
  unfold Row at h ⊢
  simp [World.setCell, Array.getElem?_modify, h]
theorem Row.drew (h : Row w g t xs) : Row w.drew g t xs := h
theorem Row.drewN (h : Row w g t xs) (n : Nat) : Row (w.drewN n) g t xs := h
theorem Row.alloc (h : Row w g t xs) (o : Obj) : Row (w.alloc o) g t xs := (Below.heap_alloc w o g h.lt).trans h
theorem Row.new (w : World) (xs : List Value) (t : TypeId) : Row (w.alloc (.cells xs.toArray t)) w.heap.size t xs := heap_alloc_new w _
theorem Row.below {B : Nat} (h : Row w g t xs) (hb : Below B w w1) (hB : g < B) : Row w1 g t xs := (hb.block g hB).trans h
theorem Row.grown (h : Row w g t xs) {r : Option Nat} (hg : w.grownBy w1 r) (hne : r ≠ some g) : Row w1 g t xs := (hg.block g h.lt fun e => hne e.symm).trans h
theorem Row.other (h : Row w g t xs) {p : Addr} (hp : g ≠ p.block) (v : Value) : Row (w.setCell p v) g t xs := (Below.heap_setCell w p v g hp).trans h
end
end Go.Proofs.Ytmmkopdijmplcaa.HH
