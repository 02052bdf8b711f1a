/-
  may, of, laid of package frame: whether a number may be one; eight bytes as a number; numbers laid as bytes; for all arguments within the bounds that each states.
-/
import Derived.Test.YtmmkopdijmplcaaHMac
import Derived.Test.YtmmkopdijmplcaaFrm
import Derived.Test.YtmmkopdijmplcaaNum
import Derived.Deep.QuietTactic
import Derived.BigQuiet
set_option linter.unusedVariables false
namespace Go.Proofs.Ytmmkopdijmplcaa.FF
open Go.RowKit Base HH
set_option maxHeartbeats 400000 in
theorem may_yes (n : Int) (w : World) (h0 : 0 ≤ n) (h1 : n ≤ 4611686018427387904) : Calls Try.prog 40 #[.int .i64 n] w fun e w' => e = .returned (.bool true) ∧ w = w' := by
  go_enter Try.func40, Try.ntmps40
  go_wp2
  go_ret
  exact ⟨rfl, rfl⟩
set_option maxHeartbeats 400000 in
theorem may_no (n : Int) (w : World) (h : ¬ (0 ≤ n ∧ n ≤ 4611686018427387904)) : Calls Try.prog 40 #[.int .i64 n] w fun e w' => e = .returned (.bool false) ∧ w = w' := by
  by_cases h0 : 0 ≤ n
  · have h1 : ¬ n ≤ 4611686018427387904 := fun x => h ⟨h0, x⟩
    clear h
    go_enter Try.func40, Try.ntmps40
    go_wp2
    go_ret
    exact ⟨rfl, rfl⟩
  · clear h
    go_enter Try.func40, Try.ntmps40
    go_wp2
    go_ret
    exact ⟨rfl, rfl⟩
/-- bytes as a number of 64 bits, where they are no more than eight -/
theorem num64_val (l : List UInt8) (h : l.length ≤ 8) : (num64 l).toNat = Frm.valN l := by
  suffices hs : ∀ (l : List UInt8) (X : BitVec 64) (m : Nat), X.toNat < 256 ^ m → m + l.length ≤ 8 → (l.foldl n64 X).toNat = l.foldl (fun n c => n * 256 + c.toNat) X.toNat from hs l 0#64 0 (by decide) (by omega)
  intro l
  induction l with
  | nil => intro X m _ _; rfl
  | cons c l ih =>
    intro X m hX hm
    rw [List.length_cons] at hm
    have hc : c.toNat < 256 := c.toNat_lt
    have h8 : (256 : Nat) ^ m ≤ 256 ^ 7 := Nat.pow_le_pow_right (by decide) (by omega)
    have e : (n64 X c).toNat = X.toNat * 256 + c.toNat := by
      unfold n64
      have e1 : (X <<< 8).toNat = X.toNat * 256 := by
        rw [BitVec.toNat_shiftLeft, Nat.shiftLeft_eq]
        omega
      have e2 : (c.toBitVec.setWidth 64).toNat = c.toNat := by
        rw [BitVec.toNat_setWidth]
        show c.toNat % 2 ^ 64 = c.toNat
        omega
      rw [BitVec.toNat_or, e1, e2]
      rw [Nat.mul_comm X.toNat 256, show (256 : Nat) = 2 ^ 8 from rfl]
      exact (Nat.two_pow_add_eq_or_of_lt (i := 8) (b := c.toNat) hc X.toNat).symm
    rw [List.foldl_cons, List.foldl_cons, ← e]
    refine ih _ (m + 1) ?_ (by omega)
    rw [e, Nat.pow_succ]
    omega
set_option maxHeartbeats 1000000 in
theorem of_any (s : ByteArray) (w : World) (hs : s.size ≤ 8) :
    Calls Try.prog 51 #[.string s] w fun e w' => e = .returned (.tuple #[.int .i64 (num64 s.data.toList).toInt, .bool (decide (((num64 s.data.toList).toNat : Int) ≤ 4611686018427387904))]) ∧ w = w' := by
  go_enter Try.func51, Try.ntmps51
  go_wp2
  go_loop [4, 8] (fun r i => ∃ k : Nat, k ≤ s.size ∧ i = .int .i64 k ∧ r = .int .u64 ((num64 (s.data.toList.take k)).toNat : Int)) (fun _ i => s.size - (intOf i).toNat)
  case atStart => exact ⟨0, Nat.zero_le _, rfl, rfl⟩
  case round =>
    obtain ⟨k, hk, rfl, rfl⟩ := hrel
    by_cases hlt : k < s.size
    · have hlt' : (k : Int) < s.size := by omega
      have HT : Hid (num64 (s.data.toList.take (k + 1)) = n64 (num64 (s.data.toList.take k)) (s[k]'hlt)) := by
        have e : s.data.toList.take (k + 1) = s.data.toList.take k ++ [s[k]'hlt] := by
          rw [List.take_succ_eq_append_getElem (by simpa using hlt)]
          rfl
        rw [e, num64_snoc]
        exact rfl
      have hb : (s[k]'hlt).toNat < 256 := (s[k]'hlt).toNat_lt
      generalize num64 (s.data.toList.take k) = X at HT ⊢
      go_wp2
      go_round
      case rel => exact ⟨k + 1, by omega, by go_num, by rw [HT.out, IntKind.wrap_u64, n64_u64]⟩
      case measure => simp [intOf]; omega
    · obtain rfl : k = s.size := by omega
      have hl : s.data.toList.take s.size = s.data.toList := List.take_of_length_le (by simp)
      rw [hl]
      clear hl
      go_wp2
      go_ret2
      exact ⟨by rw [wrap64_toInt]; rfl, rfl⟩
end Go.Proofs.Ytmmkopdijmplcaa.FF
