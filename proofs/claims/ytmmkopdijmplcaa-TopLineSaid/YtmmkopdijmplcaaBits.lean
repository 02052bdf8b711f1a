/-
  The model's operations on numbers of 32 bits as those of bit vectors, and a text turned into bytes; no condition.
-/
import Derived.Test.YtmmkopdijmplcaaBase
import Derived.Test.YtmmkopdijmplcaaCrc
namespace Go.Proofs.Ytmmkopdijmplcaa
open Go.RowKit Base
namespace Base
theorem x32_xor (a b : BitVec 32) : bits .xor .u32 (a.toNat : Int) (b.toNat : Int) = ((a ^^^ b).toNat : Int) := by
  rw [u32_xor_nat _ _ a.isLt b.isLt, BitVec.toNat_xor]
theorem x32_and (a b : BitVec 32) : bits .and .u32 (a.toNat : Int) (b.toNat : Int) = ((a &&& b).toNat : Int) := by
  rw [u32_and_nat _ _ a.isLt b.isLt, BitVec.toNat_and]
theorem x32_half (a : BitVec 32) : (a.toNat : Int) / (2 : Int) = ((a >>> 1).toNat : Int) := by
  rw [BitVec.toNat_ushiftRight, Nat.shiftRight_eq_div_pow]; rfl
theorem x32_byte (c : UInt8) : (c.toNat : Int) = ((c.toBitVec.setWidth 32).toNat : Int) := by
  have : c.toNat < 256 := c.toNat_lt
  simp [BitVec.toNat_setWidth]
theorem x32_mul (a b : BitVec 32) : (a.toNat : Int) * (b.toNat : Int) % 4294967296 = ((a * b).toNat : Int) := by
  rw [BitVec.toNat_mul]; omega
theorem x32_byteXor (a : BitVec 32) (c : UInt8) : bits .xor .u32 (a.toNat : Int) (c.toNat : Int) = ((a ^^^ c.toBitVec.setWidth 32).toNat : Int) := by
  rw [x32_byte, x32_xor]

/-- '[]byte(s)': a new row with the text's bytes; nothing else has turned. -/
theorem conv_str {P : Program} (w : World) (src dst e : TypeId) (s : ByteArray) (hs : P.underlying src = some .string) (hd : P.underlying dst = some (.slice e)) (he : P.underlying e = some (.int .u8)) :
    ∃ cap w1, (convert src dst (.string s)).run P w = .ok (.slice (some ⟨w.heap.size, 0, none⟩) s.size cap) w1 ∧ Below w.heap.size w w1 ∧ s.size ≤ cap ∧ w1.heap.size = w.heap.size + 1 ∧
      ∀ j, j < s.size → w1.cell? ⟨w.heap.size, j, none⟩ = some (bv (s.data.toList.getD j 0)) := by
  refine ⟨_, _, run_bytes_of_string w src dst e s hs hd he, ?_, grownCap_ge w s.size 0 e, by simp, fun j hj => ?_⟩
  · exact (Below.drew (Below.refl _ _)).alloc (Nat.le_refl _) _
  · have hh : (w.drew.alloc (.cells (bytesRow s (grownCap w s.size 0 e)) e ((bytesRow s (grownCap w s.size 0 e)).size, (bytesRow s (grownCap w s.size 0 e)).size + 1))).heap[w.heap.size]? = some (.cells (bytesRow s (grownCap w s.size 0 e)) e ((bytesRow s (grownCap w s.size 0 e)).size, (bytesRow s (grownCap w s.size 0 e)).size + 1)) := heap_alloc_new w.drew _
    unfold World.cell?
    rw [hh]
    simp [bytesRow, Array.getElem?_append, bv, hj]
end Base
theorem crc_step (x : BitVec 32) : bits .xor .u32 ((x.toNat : Int) / (2 : Int)) ((3988292384 : Int) * bits .and .u32 (x.toNat : Int) (1 : Int) % (4294967296 : Int)) = ((Crc.step x).toNat : Int) := by
  have h1 : (1 : Int) = ((1#32).toNat : Int) := rfl
  have hp : (3988292384 : Int) = (Crc.poly.toNat : Int) := rfl
  rw [h1, x32_and, hp, x32_mul, x32_half, x32_xor]
  rfl
end Go.Proofs.Ytmmkopdijmplcaa
