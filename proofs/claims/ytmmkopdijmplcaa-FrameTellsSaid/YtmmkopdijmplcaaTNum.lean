/-
  The document's frames: numbers laid and read.
-/
import Derived.Test.YtmmkopdijmplcaaRRow
import Derived.Test.YtmmkopdijmplcaaFDec
import Derived.IntWalk
set_option linter.unusedVariables false
set_option maxRecDepth 100000
namespace Go.Proofs.Ytmmkopdijmplcaa.RT
open Go.RowKit Base HH RH FF
/-- the k lowest of a number's bytes, the highest first -/
def lowTo (x : Nat) : Nat → List UInt8
  | 0 => []
  | k + 1 => UInt8.ofNat (x / 256 ^ k % 256) :: lowTo x k
theorem lowTo_one (x : Nat) (h : x < 256) : lowTo x 1 = [UInt8.ofNat x] := by
  show [UInt8.ofNat (x / 1 % 256)] = _
  rw [Nat.div_one, Nat.mod_eq_of_lt h]
theorem lowTo_eight (x : Nat) : lowTo x 8 = Sha.be8 x := by
  show [UInt8.ofNat (x / 256 ^ 7 % 256), UInt8.ofNat (x / 256 ^ 6 % 256), UInt8.ofNat (x / 256 ^ 5 % 256), UInt8.ofNat (x / 256 ^ 4 % 256), UInt8.ofNat (x / 256 ^ 3 % 256), UInt8.ofNat (x / 256 ^ 2 % 256), UInt8.ofNat (x / 256 ^ 1 % 256), UInt8.ofNat (x / 256 ^ 0 % 256)] = _
  rfl
theorem byte_row (w : World) (c : UInt8) : FRow (w.alloc (.cells #[bv c] 5)) w.heap.size (.slice (some ⟨w.heap.size, 0, none⟩) 1 1) 1 [c] :=
  ⟨rfl, w.heap.size, 1, #[bv c], (0, 0), rfl, Nat.le_refl _, heap_alloc_new w _, thaw_zero _, Nat.le_refl _, by decide, rfl, rfl⟩
theorem str_join (a b : List UInt8) : str a ++ str b = str (a ++ b) := by
  apply ByteArray.ext
  rw [ByteArray.data_append]
  simp [str]
theorem lowTo_length (x k : Nat) : (lowTo x k).length = k := by
  induction k with
  | zero => rfl
  | succ k ih => show (lowTo x k).length + 1 = k + 1; rw [ih]
set_option maxHeartbeats 1000000 in
theorem rnum_any {w : World} {x n : Nat} {ni : Int} (hni : Hid (ni = (n : Int))) (hx : x ≤ 4611686018427387904) (hn : n ≤ 8) {t : ByteArray} (ht : Hid (str (lowTo x n) = t)) :
    Calls Try.prog 58 #[.int .i64 (x : Int), .int .i64 ni] w fun e w' => e = .returned (.string t) ∧ Below w.heap.size w w' := by
  have hni' := hni.out
  subst hni'
  go_enter Try.func58, Try.ntmps58
  go_wp2_with fail
  obtain ⟨wo, hwo⟩ : ∃ wo : World, wo = w := ⟨_, rfl⟩
  go_loopw [0, 5, 6] (fun vx vs vi wr => ∃ i : Nat, i ≤ n ∧ vi = .int .i64 i ∧ vx = .int .i64 ((x / 256 ^ i : Nat) : Int) ∧ vs = .string (str (lowTo x i)) ∧ Below w.heap.size w wr) (fun _ _ vi _ => n - (intOf vi).toNat)
  case atStart => exact ⟨0, Nat.zero_le _, rfl, by rw [Nat.pow_zero, Nat.div_one], rfl, Below.refl _ _⟩
  case round =>
    obtain ⟨i, hi, rfl, rfl, rfl, hb⟩ := hrel
    have hbs := hb.size
    by_cases hlt : i < n
    · have hlt' : (i : Int) < n := by omega
      have hX : x / 256 ^ i ≤ 4611686018427387904 := Nat.le_trans (Nat.div_le_self _ _) hx
      have hs1 : Hid (lowTo x (i + 1) = [UInt8.ofNat (x / 256 ^ i % 256)] ++ lowTo x i) := rfl
      have hx1 : Hid (x / 256 ^ (i + 1) = x / 256 ^ i / 256) := by
        show _ = _
        rw [Nat.pow_succ, Nat.div_div_eq_div_mul]
      have hlen : (str (lowTo x i)).size = i := by rw [str_size, lowTo_length]
      generalize x / 256 ^ i = X at *
      obtain ⟨c, hc⟩ : ∃ c, UInt8.ofNat (X % 256) = c := ⟨_, rfl⟩
      have hcn : c.toNat = X % 256 := by rw [← hc, UInt8.toNat_ofNat', Nat.mod_mod]
      have e1 : (X : Int) % 256 = (c.toNat : Int) := by omega
      have e2 : (X : Int).tdiv 256 = ((X / 256 : Nat) : Int) := by rw [Int.tdiv_eq_ediv_of_nonneg (by omega)]; omega
      have e3 : IntKind.i64.wrap ((X : Int).tdiv 256) = ((X / 256 : Nat) : Int) := by rw [e2]; exact IntWalk.i64_in _ (by omega)
      have hc256 : c.toNat < 256 := c.toNat_lt
      rw [hc] at hs1
      obtain ⟨S, hS⟩ : ∃ S, str (lowTo x i) = S := ⟨_, rfl⟩
      rw [hS] at hlen ⊢
      have hcv := (byte_row wr c).back
      simp only [bv] at hcv
      have hjoin : Hid (str [c] ++ S = str (lowTo x (i + 1))) := by
        show _ = _
        rw [hs1.out, ← hS, str_join]
      have hl1 : (str [c]).size = 1 := rfl
      have hcc : ¬ (9223372036854775807 < (str [c]).size + S.size) := by omega
      have hb2 := hb.alloc hbs (.cells #[.int .u8 (c.toNat : Int)] 5)
      replace hc := Lib.hid hc
      replace hcn := Lib.hid hcn
      replace hS := Lib.hid hS
      replace hl1 := Lib.hid hl1
      go_wp2_with fail
      rw [hjoin.out]
      go_roundw
      case rel => first | exact ⟨i + 1, by omega, by go_num, by rw [hx1.out]; congr 1, rfl, hb2⟩ | ((repeat apply Exists.intro); exact ⟨⟨i + 1, by omega, by go_num, by rw [hx1.out]; congr 1, rfl, hb2⟩, rfl⟩)
      case measure => simp [intOf]; omega
    · obtain rfl : i = n := by omega
      have hlt' : ¬ (i : Int) < i := by omega
      rw [ht.out]
      go_wp2_with fail
      go_ret
      exact ⟨rfl, hb⟩
theorem valN_le (s : ByteArray) (k : Nat) (h : k ≤ s.size) : Frm.valN (s.data.toList.take k) < 256 ^ k := by
  have := Frm.valN_lt (s.data.toList.take k)
  rw [List.length_take, Nat.min_eq_left (show k ≤ s.data.toList.length from h)] at this
  exact this
set_option maxHeartbeats 1000000 in
theorem rval_any (s : ByteArray) (w : World) (hs : s.size ≤ 8) {r : Int} (hr : Hid ((if Frm.valN s.data.toList ≤ 4611686018427387904 then (Frm.valN s.data.toList : Int) else -1) = r)) :
    Calls Try.prog 60 #[.string s] w fun e w' => e = .returned (.int .i64 r) ∧ w = w' := by
  go_enter Try.func60, Try.ntmps60
  go_wp2_with fail
  go_loop [3, 4] (fun r i => ∃ k : Nat, k ≤ s.size ∧ i = .int .i64 k ∧ r = .int .u64 (Frm.valN (s.data.toList.take k) : Int)) (fun _ i => s.size - (intOf i).toNat)
  case atStart => exact ⟨0, Nat.zero_le _, rfl, rfl⟩
  case round =>
    obtain ⟨k, hk, rfl, rfl⟩ := hrel
    by_cases hlt : k < s.size
    · have hlt' : (k : Int) < s.size := by omega
      have HT : Hid (Frm.valN (s.data.toList.take (k + 1)) = Frm.valN (s.data.toList.take k) * 256 + (s[k]'hlt).toNat) := by
        have e : s.data.toList.take (k + 1) = s.data.toList.take k ++ [s[k]'hlt] := by
          rw [List.take_succ_eq_append_getElem (by simpa using hlt)]
          rfl
        rw [e, Frm.valN_snoc]
        exact rfl
      have hb : (s[k]'hlt).toNat < 256 := (s[k]'hlt).toNat_lt
      have hX : Frm.valN (s.data.toList.take k) < 256 ^ 7 := Nat.lt_of_lt_of_le (valN_le s k hk) (Nat.pow_le_pow_right (by decide) (by omega))
      have hX' : Frm.valN (s.data.toList.take k) < 72057594037927936 := hX
      clear hX
      generalize Frm.valN (s.data.toList.take k) = X at HT hX' ⊢
      go_wp2_with fail
      go_round
      case rel => exact ⟨k + 1, by omega, by go_num, by rw [HT.out]; congr 1; (try simp only [IntKind.wrap_u64]); omega⟩
      case measure => simp [intOf]; omega
    · obtain rfl : k = s.size := by omega
      have hl : s.data.toList.take s.size = s.data.toList := List.take_of_length_le (by simp)
      have hV : Frm.valN s.data.toList < 256 ^ 8 := by
        have := valN_le s s.size (Nat.le_refl _)
        rw [hl] at this
        exact Nat.lt_of_lt_of_le this (Nat.pow_le_pow_right (by decide) hs)
      have hV' : Frm.valN s.data.toList < 18446744073709551616 := hV
      rw [hl]
      clear hl hV
      generalize Frm.valN s.data.toList = V at *
      by_cases hm : V ≤ 4611686018427387904
      · have hm' : ¬ (4611686018427387904 : Int) < V := by omega
        go_wp2_with fail
        go_ret
        have hrr := hr.out
        rw [if_pos hm] at hrr
        subst hrr
        exact ⟨by first | rfl | (congr 2; simp only [wrap64]; omega), rfl⟩
      · have hm' : (4611686018427387904 : Int) < V := by omega
        go_wp2_with fail
        go_ret
        have hrr := hr.out
        rw [if_neg hm] at hrr
        subst hrr
        exact ⟨rfl, rfl⟩
theorem val_v {s : ByteArray} {w : World} (hs : s.size ≤ 8) {n : Nat} (hn : Hid (Frm.valN s.data.toList = n)) (h : n ≤ 4611686018427387904) :
    Calls Try.prog 60 #[.string s] w fun e w' => e = .returned (.int .i64 n) ∧ w = w' := by
  exact rval_any s w hs (Lib.hid (by rw [hn.out, if_pos h]))
theorem val_no {s : ByteArray} {w : World} (hs : s.size ≤ 8) {n : Nat} (hn : Hid (Frm.valN s.data.toList = n)) (h : 4611686018427387904 < n) :
    Calls Try.prog 60 #[.string s] w fun e w' => e = .returned (.int .i64 (-1)) ∧ w = w' := by
  exact rval_any s w hs (Lib.hid (by rw [hn.out, if_neg (by omega)]))
end Go.Proofs.Ytmmkopdijmplcaa.RT
