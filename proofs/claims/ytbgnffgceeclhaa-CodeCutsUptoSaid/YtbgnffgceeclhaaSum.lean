/-
  Sum32 of the code and of the reference: for every text that fits an int both calls return the sum of its bytes.
-/
import Derived.Test.YtbgnffgceeclhaaRows
import Derived.Test.YtbgnffgceeclhaaBase
import Derived.Test.YtbgnffgceeclhaaPut
import Derived.Test.YtbgnffgceeclhaaBits
namespace Go.Proofs.Ytbgnffgceeclhaa
open Go.RowKit Base

theorem ret_int {k : IntKind} {a b : Int} (h : a = b) : Ending.returned (.int k a) = .returned (.int k b) := by rw [h]
theorem x32_not (a : BitVec 32) : bits .xor .u32 IntKind.u32.max (a.toNat : Int) = ((~~~ a).toNat : Int) := by
  have h : IntKind.u32.max = ((0xffffffff#32).toNat : Int) := rfl
  rw [h, x32_xor]
  rw [show (0xffffffff#32) = BitVec.allOnes 32 from rfl, BitVec.allOnes_xor]
theorem take_getD (l : List UInt8) (k : Nat) (h : k < l.length) : l.take (k + 1) = l.take k ++ [l.getD k 0] := by
  rw [List.take_succ_eq_append_getElem h]
  simp [List.getD, List.getElem?_eq_getElem h]
theorem run_snoc (r : BitVec 32) (l : List UInt8) (c : UInt8) : Crc.run r (l ++ [c]) = Crc.byte (Crc.run r l) c := by simp [Crc.run]

set_option maxHeartbeats 400000 in
theorem sum_any (s : ByteArray) (w : World) (hs : s.size ≤ maxLen) :
    Calls Try.prog 15 #[.string s] w fun e w' => e = .returned (.int .u32 ((Crc.sum s.data.toList).toNat : Int)) ∧ Below w.heap.size w w' := by
  obtain ⟨cap, w1, hrun, hbel, hcap, _, hcell⟩ := conv_str w 9 30 5 s Try.underlying9 Try.underlying30 Try.underlying5
  unfold maxLen at hs
  go_enter Try.func15, Try.ntmps15
  go_wp2
  go_loop [3, 5, 9] (fun r c i => ∃ k : Nat, k ≤ s.size ∧ i = .int .i64 k ∧ r = .int .u32 ((Crc.run (~~~ 0#32) (s.data.toList.take k)).toNat : Int)) (fun _ _ i => s.size - (intOf i).toNat)
  case atStart => exact ⟨0, Nat.zero_le _, rfl, rfl⟩
  case round =>
    obtain ⟨k, hk, rfl, rfl⟩ := hrel
    by_cases hlt : k < s.size
    · have hc := hcell k hlt
      clear hcell hrun
      have HT : Hid (Crc.run (~~~ 0#32) (s.data.toList.take (k + 1)) = Crc.byte (Crc.run (~~~ 0#32) (s.data.toList.take k)) (s.data.toList.getD k 0)) := by
        rw [take_getD _ k (by simpa using hlt), run_snoc]
        exact rfl
      obtain ⟨c, hcc⟩ : ∃ c, s.data.toList.getD k 0 = c := ⟨_, rfl⟩
      rw [hcc] at hc HT
      clear hcc
      unfold bv at hc
      have hb : c.toNat < 256 := c.toNat_lt
      generalize Crc.run (~~~ 0#32) (s.data.toList.take k) = y at HT ⊢
      go_wp2
      go_loop [3, 17] (fun r i => ∃ j : Nat, j ≤ 8 ∧ i = .int .i64 j ∧ r = .int .u32 ((Crc.steps j (y ^^^ c.toBitVec.setWidth 32)).toNat : Int)) (fun _ i => 8 - (intOf i).toNat)
      case atStart => exact ⟨0, Nat.zero_le _, rfl, by rw [x32_byteXor]; rfl⟩
      case round =>
        obtain ⟨j, hj, rfl, rfl⟩ := hrel
        by_cases hlj : j < 8
        · have HS : Hid (Crc.steps (j + 1) (y ^^^ c.toBitVec.setWidth 32) = Crc.step (Crc.steps j (y ^^^ c.toBitVec.setWidth 32))) := Crc.steps_succ _ _
          generalize Crc.steps j (y ^^^ c.toBitVec.setWidth 32) = z at HS ⊢
          go_wp2
          go_round
          case rel => exact ⟨j + 1, by omega, by go_num, by rw [HS.out, crc_step]⟩
          case measure => simp [intOf]; omega
        · obtain rfl : j = 8 := by omega
          go_wp2
          go_round
          case rel => exact ⟨k + 1, by omega, by go_num, by rw [HT.out]; rfl⟩
          case measure => simp [intOf]; omega
    · obtain rfl : k = s.size := by omega
      have hl : s.data.toList.take s.size = s.data.toList := List.take_of_length_le (by simp)
      have HS : Hid (Crc.sum s.data.toList = ~~~ Crc.run (~~~ 0#32) s.data.toList) := rfl
      rw [hl]
      clear hl hrun hcell
      generalize Crc.run (~~~ 0#32) s.data.toList = y at HS ⊢
      go_wp2
      go_ret
      exact ⟨ret_int (by rw [HS.out]; exact x32_not y), hbel⟩

/-- one step of the reference's, as its test says -/
theorem bit_eq (r : BitVec 32) (b : Bool) : Crc.bit r b = if r.getLsbD 0 != b then r >>> 1 ^^^ Crc.poly else r >>> 1 := by
  unfold Crc.bit
  rw [Crc.step_eq]
  have e1 : (r ^^^ Crc.b2 b) >>> 1 = r >>> 1 := by
    rw [BitVec.ushiftRight_xor_distrib]
    cases b <;> simp [Crc.b2]
  have e2 : (r ^^^ Crc.b2 b).getLsbD 0 = (r.getLsbD 0 != b) := by
    cases b <;> simp [Crc.b2]
  rw [e1, e2]
  cases (r.getLsbD 0 != b) <;> simp

theorem bits_snoc (c : UInt8) (j : Nat) (h : j < 8) : (Crc.bitsOf c).take (j + 1) = (Crc.bitsOf c).take j ++ [c.toBitVec.getLsbD j] := by
  match j, h with
  | 0, _ => rfl
  | 1, _ => rfl
  | 2, _ => rfl
  | 3, _ => rfl
  | 4, _ => rfl
  | 5, _ => rfl
  | 6, _ => rfl
  | 7, _ => rfl

theorem and1 (z : BitVec 32) : bits .and .u32 (z.toNat : Int) (1 : Int) = if z.getLsbD 0 then 1 else 0 := by
  have h1 : (1 : Int) = ((1#32).toNat : Int) := rfl
  rw [h1, x32_and, Crc.and_one]
  cases z.getLsbD 0 <;> rfl
theorem and1c (c : UInt8) (j : Nat) : bits .and .u32 ((c.toNat : Int) / 2 ^ j % 4294967296) (1 : Int) = if c.toBitVec.getLsbD j then 1 else 0 := by
  have h : ((c.toNat : Int) / 2 ^ j % 4294967296) = ((BitVec.setWidth 32 (c.toBitVec >>> j)).toNat : Int) := by
    rw [BitVec.toNat_setWidth, BitVec.toNat_ushiftRight, Nat.shiftRight_eq_div_pow]
    simp
  rw [h, and1]
  have e : (BitVec.setWidth 32 (c.toBitVec >>> j)).getLsbD 0 = c.toBitVec.getLsbD j := by
    rw [BitVec.getLsbD_setWidth, BitVec.getLsbD_ushiftRight]
    simp
  rw [e]
theorem bit_hit {z : BitVec 32} {c : UInt8} {j : Nat} (h : (bits .and .u32 (z.toNat : Int) (1 : Int) != bits .and .u32 ((c.toNat : Int) / 2 ^ j % 4294967296) (1 : Int)) = true) :
    bits .xor .u32 ((z.toNat : Int) / (2 : Int)) (3988292384 : Int) = ((Crc.bit z (c.toBitVec.getLsbD j)).toNat : Int) := by
  rw [and1, and1c] at h
  have hp : (3988292384 : Int) = (Crc.poly.toNat : Int) := rfl
  rw [bit_eq, hp, x32_half, x32_xor]
  generalize z.getLsbD 0 = a at h ⊢
  generalize c.toBitVec.getLsbD j = b at h ⊢
  cases a <;> cases b <;> first | rfl | exact absurd h (by decide)
theorem bit_miss {z : BitVec 32} {c : UInt8} {j : Nat} (h : (bits .and .u32 (z.toNat : Int) (1 : Int) != bits .and .u32 ((c.toNat : Int) / 2 ^ j % 4294967296) (1 : Int)) = false) :
    (z.toNat : Int) / (2 : Int) = ((Crc.bit z (c.toBitVec.getLsbD j)).toNat : Int) := by
  rw [and1, and1c] at h
  rw [bit_eq, x32_half]
  generalize z.getLsbD 0 = a at h ⊢
  generalize c.toBitVec.getLsbD j = b at h ⊢
  cases a <;> cases b <;> first | rfl | exact absurd h (by decide)
theorem getD_at (s : ByteArray) (k : Nat) (h : k < s.size) : s.data.toList.getD k 0 = s[k]'h := by
  have hk : k < s.data.size := h
  rw [List.getD_eq_getElem?_getD, Array.getElem?_toList, Array.getElem?_eq_getElem hk]
  rfl

set_option maxHeartbeats 400000 in
theorem rsum_any (s : ByteArray) (w : World) (hs : s.size ≤ maxLen) :
    Calls Try.prog 16 #[.string s] w fun e w' => e = .returned (.int .u32 ((Crc.sum s.data.toList).toNat : Int)) ∧ w = w' := by
  unfold maxLen at hs
  go_enter Try.func16, Try.ntmps16
  go_wp2
  go_loop [3, 4] (fun r i => ∃ k : Nat, k ≤ s.size ∧ i = .int .i64 k ∧ r = .int .u32 ((Crc.run (~~~ 0#32) (s.data.toList.take k)).toNat : Int)) (fun _ i => s.size - (intOf i).toNat)
  case atStart => exact ⟨0, Nat.zero_le _, rfl, rfl⟩
  case round =>
    obtain ⟨k, hk, rfl, rfl⟩ := hrel
    by_cases hlt : k < s.size
    · have HT : Hid (Crc.run (~~~ 0#32) (s.data.toList.take (k + 1)) = Crc.byte (Crc.run (~~~ 0#32) (s.data.toList.take k)) (s.data.toList.getD k 0)) := by
        rw [take_getD _ k (by simpa using hlt), run_snoc]
        exact rfl
      generalize Crc.run (~~~ 0#32) (s.data.toList.take k) = y at HT ⊢
      go_wp2
      go_loop [3, 5] (fun r i => ∃ j : Nat, j ≤ 8 ∧ i = .int .i64 j ∧ r = .int .u32 ((Crc.runBits y ((Crc.bitsOf (s.data.toList.getD k 0)).take j)).toNat : Int)) (fun _ i => 8 - (intOf i).toNat)
      case atStart => exact ⟨0, Nat.zero_le _, rfl, rfl⟩
      case round =>
        obtain ⟨j, hj, rfl, rfl⟩ := hrel
        by_cases hlj : j < 8
        · have HB : Hid (Crc.runBits y ((Crc.bitsOf (s.data.toList.getD k 0)).take (j + 1)) = Crc.bit (Crc.runBits y ((Crc.bitsOf (s.data.toList.getD k 0)).take j)) ((s[k]'hlt).toBitVec.getLsbD j)) := by
            rw [bits_snoc _ j hlj, Crc.runBits_append, getD_at s k hlt]
            exact rfl
          generalize Crc.runBits y ((Crc.bitsOf (s.data.toList.getD k 0)).take j) = z at HB ⊢
          go_wp2
          · have ht := (by assumption : (bits .and .u32 (z.toNat : Int) (1 : Int) != bits .and .u32 (((s[k]'hlt).toNat : Int) / 2 ^ j % 4294967296) (1 : Int)) = true)
            go_round
            case rel => exact ⟨j + 1, by omega, by go_num, by rw [HB.out, bit_hit ht]⟩
            case measure => simp [intOf]; omega
          · have ht := (by assumption : (bits .and .u32 (z.toNat : Int) (1 : Int) != bits .and .u32 (((s[k]'hlt).toNat : Int) / 2 ^ j % 4294967296) (1 : Int)) = false)
            go_round
            case rel => exact ⟨j + 1, by omega, by go_num, by rw [HB.out, bit_miss ht]⟩
            case measure => simp [intOf]; omega
        · obtain rfl : j = 8 := by omega
          go_wp2
          go_round
          case rel => exact ⟨k + 1, by omega, by go_num, by rw [HT.out, Crc.byte_bits]; rfl⟩
          case measure => simp [intOf]; omega
    · obtain rfl : k = s.size := by omega
      have hl : s.data.toList.take s.size = s.data.toList := List.take_of_length_le (by simp)
      have HS : Hid (Crc.sum s.data.toList = ~~~ Crc.run (~~~ 0#32) s.data.toList) := rfl
      rw [hl]
      clear hl
      generalize Crc.run (~~~ 0#32) s.data.toList = y at HS ⊢
      go_wp2
      go_ret
      exact ⟨ret_int (by rw [HS.out]; exact x32_not y), rfl⟩
end Go.Proofs.Ytbgnffgceeclhaa
