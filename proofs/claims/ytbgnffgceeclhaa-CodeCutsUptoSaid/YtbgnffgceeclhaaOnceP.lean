/-
  What is read and laid again, plainly: a number of so many bytes laid in so many bytes is these bytes; no program is in sight.
-/
import Derived.Test.YtbgnffgceeclhaaBase
import Derived.Test.YtbgnffgceeclhaaPut
import Derived.Test.YtbgnffgceeclhaaBits
import Derived.Test.YtbgnffgceeclhaaNum
import Derived.Test.YtbgnffgceeclhaaText
import Derived.Test.YtbgnffgceeclhaaReader
import Derived.Test.YtbgnffgceeclhaaShift
namespace Go.Proofs.Ytbgnffgceeclhaa
open Go.RowKit Base
/-- the number that bytes say -/
def valN (l : List UInt8) : Nat := l.foldl (fun n c => 256 * n + c.toNat) 0
theorem valN_snoc (l : List UInt8) (c : UInt8) : valN (l ++ [c]) = 256 * valN l + c.toNat := by simp [valN]
theorem snoc_cases {α : Type} (P : List α → Prop) (h0 : P []) (h1 : ∀ l c, P l → P (l ++ [c])) : ∀ l, P l := by
  intro l
  have : ∀ n l, l.length = n → P l := by
    intro n
    induction n with
    | zero => intro l h; rw [List.eq_nil_of_length_eq_zero h]; exact h0
    | succ n ih =>
      intro l h
      have hne : l ≠ [] := fun e => by rw [e] at h; cases h
      rw [← List.dropLast_concat_getLast hne]
      exact h1 _ _ (ih _ (by rw [List.length_dropLast, h]; rfl))
  exact this _ l rfl
theorem valN_lt (l : List UInt8) : valN l < 256 ^ l.length := by
  refine snoc_cases (fun l => valN l < 256 ^ l.length) (by decide) (fun l c ih => ?_) l
  rw [valN_snoc, List.length_append, List.length_singleton, Nat.pow_succ]
  have := c.toNat_lt
  omega
theorem num64_val (l : List UInt8) (h : l.length ≤ 8) : (num64 l).toNat = valN l := by
  revert h
  refine snoc_cases (fun l => l.length ≤ 8 → (num64 l).toNat = valN l) (fun _ => rfl) (fun l c ih => ?_) l
  intro h
  rw [List.length_append, List.length_singleton] at h
  have hv := valN_lt l
  have hp : 256 ^ l.length ≤ 256 ^ 7 := Nat.pow_le_pow_right (by decide) (by omega)
  rw [num64_snoc, valN_snoc]
  unfold n64
  rw [BitVec.toNat_or, BitVec.toNat_shiftLeft, ih (by omega), BitVec.toNat_setWidth]
  have hc := c.toNat_lt
  have hc2 : c.toBitVec.toNat = c.toNat := rfl
  have hmul : valN l <<< 8 = 256 * valN l := by rw [Nat.shiftLeft_eq]; omega
  rw [hc2, hmul, Nat.mod_eq_of_lt (by omega), Nat.mod_eq_of_lt (a := c.toNat) (by omega), Nat.mul_comm, show (256 : Nat) = 2 ^ 8 from rfl, ← Nat.shiftLeft_eq, Nat.shiftLeft_add_eq_or_of_lt (by omega), Nat.shiftLeft_eq, Nat.mul_comm]
theorem b8_toInt (X : BitVec 64) {i : Nat} (hi : i ≤ 7) : b8 X.toInt i = UInt8.ofNat (X.toNat / 256 ^ i % 256) := by
  unfold b8
  congr 1
  have hlt := X.isLt
  have key : X.toInt / 2 ^ (8 * i) % 256 = ((X.toNat / 256 ^ i % 256 : Nat) : Int) := by
    rw [BitVec.toInt_eq_toNat_cond]
    match i, hi with
    | 0, _ => simp only [Nat.mul_zero, Int.pow_zero, Nat.pow_zero]; split <;> omega
    | 1, _ => split <;> omega
    | 2, _ => split <;> omega
    | 3, _ => split <;> omega
    | 4, _ => split <;> omega
    | 5, _ => split <;> omega
    | 6, _ => split <;> omega
    | 7, _ => split <;> omega
  rw [key, Int.toNat_natCast]
theorem bytes_val (l : List UInt8) : (List.range l.length).map (fun i => UInt8.ofNat (valN l / 256 ^ (l.length - 1 - i) % 256)) = l := by
  refine snoc_cases (fun l => (List.range l.length).map (fun i => UInt8.ofNat (valN l / 256 ^ (l.length - 1 - i) % 256)) = l) rfl (fun l c ih => ?_) l
  rw [List.length_append, List.length_singleton, List.range_succ, List.map_append, List.map_singleton, valN_snoc]
  have hc := c.toNat_lt
  congr 1
  · conv => rhs; rw [← ih]
    apply List.map_congr_left
    intro i hi
    have hi := List.mem_range.1 hi
    congr 2
    rw [show l.length + 1 - 1 - i = (l.length - 1 - i) + 1 from by omega, Nat.pow_succ, Nat.mul_comm (256 ^ _) 256, ← Nat.div_div_eq_div_mul]
    congr 1
    omega
  · congr 1
    rw [show l.length + 1 - 1 - l.length = 0 from by omega, Nat.pow_zero, Nat.div_one, show (256 * valN l + c.toNat) % 256 = c.toNat from by omega]
    exact UInt8.ofNat_toNat
theorem putL_num (l : List UInt8) (h1 : 1 ≤ l.length) (h8 : l.length ≤ 8) : putL (num64 l).toInt (l.length : Int) = l := by
  unfold putL
  rw [if_pos (by omega), Int.toNat_natCast]
  unfold putTo
  conv => rhs; rw [← bytes_val l]
  apply List.map_congr_left
  intro i hi
  have hi := List.mem_range.1 hi
  rw [b8_toInt _ (by omega), num64_val l h8]

/-! ### a call of a reader, and what was read -/
structure Once (r r' : Rd) (out : ByteArray) : Prop where
  s : r'.s = r.s
  bad : r'.fault ≠ 0 → r'.at_ = r.at_ ∧ (r.fault ≠ 0 → r.fault = r'.fault)
  le : r.at_ ≤ r'.at_
  got : r'.fault = 0 → r'.at_ ≤ r.s.size ∧ r.s.extract r.at_ r'.at_ = out
theorem Once.none (r : Rd) (h : r.at_ ≤ r.s.size) : Once r r (str []) := ⟨rfl, fun _ => ⟨rfl, fun _ => rfl⟩, Nat.le_refl _, fun _ => ⟨h, by apply ba_ext; rw [extract_list, Nat.sub_self]; rfl⟩⟩
theorem Once.stay {r : Rd} {e : Int} (out : ByteArray) (he : e ≠ 0) (h : r.fault = 0) : Once r { r with fault := e } out := ⟨rfl, fun _ => ⟨rfl, fun k => absurd h k⟩, Nat.le_refl _, fun k => absurd k he⟩
theorem Once.hold {r : Rd} (out : ByteArray) (h : r.fault ≠ 0) : Once r r out := ⟨rfl, fun _ => ⟨rfl, fun _ => rfl⟩, Nat.le_refl _, fun k => absurd k h⟩
theorem once_bytes (r : Rd) (n : Int) : Once r (r.bytesR n) (r.bytesV n) := by
  unfold Rd.bytesR Rd.bytesV
  by_cases hf : r.fault = 0
  · have hf' : ¬ (r.fault ≠ 0) := fun x => x hf
    rw [if_neg hf', if_neg hf']
    split
    · exact Once.stay _ (by decide) hf
    split
    · exact Once.stay _ (by decide) hf
    · exact ⟨rfl, fun h => absurd hf h, Nat.le_add_right _ _, fun _ => ⟨by show r.at_ + n.toNat ≤ _; omega, rfl⟩⟩
  · rw [if_pos hf, if_pos hf]
    exact Once.hold _ hf
theorem once_num (r : Rd) (n : Int) : Once r (r.numR n) (str (putL (r.numV n) n)) := by
  unfold Rd.numR Rd.numV
  by_cases hf : r.fault = 0
  · have hf' : ¬ (r.fault ≠ 0) := fun x => x hf
    rw [if_neg hf', if_neg hf']
    split
    · exact Once.stay _ (by decide) hf
    rename_i hn
    split
    · exact Once.stay _ (by decide) hf
    · rename_i hl
      refine ⟨rfl, fun h => absurd hf h, Nat.le_add_right _ _, fun _ => ⟨by show r.at_ + n.toNat ≤ _; omega, ?_⟩⟩
      apply ba_ext
      rw [extract_list, str_toList]
      have e : r.at_ + n.toNat - r.at_ = n.toNat := by omega
      rw [e]
      have hlen : ((r.s.data.toList.drop r.at_).take n.toNat).length = n.toNat := by
        rw [List.length_take, List.length_drop, toList_size]; omega
      have := putL_num ((r.s.data.toList.drop r.at_).take n.toNat) (by omega) (by omega)
      rw [hlen, show ((n.toNat : Nat) : Int) = n from by omega] at this
      exact this.symm
  · rw [if_pos hf, if_pos hf]
    exact Once.hold _ hf
theorem text_size (r : Rd) {n : Int} (h : n ≤ 1024) (hh : ∀ _ : r.at_ + 2 ≤ r.s.size, 0 ≤ r.head) : (r.textV n).size ≤ 1024 := by
  unfold Rd.textV
  split
  · decide
  split
  · decide
  split
  · decide
  split
  · decide
  split
  · decide
  · have := hh (by omega)
    rw [ByteArray.size_extract]
    omega
theorem once_text (r : Rd) {n : Int} (h : n ≤ 1024) : textE (r.textV n) = 0 ∧ Once r (r.textR n) (textL (r.textV n)) := by
  have hsz := text_size r h fun h => (head_bounds r h).1
  refine ⟨by unfold textE; rw [if_pos hsz], ?_⟩
  unfold textL
  rw [if_pos hsz]
  unfold Rd.textR Rd.textV
  by_cases hf : r.fault = 0
  · have hf' : ¬ (r.fault ≠ 0) := fun x => x hf
    rw [if_neg hf', if_neg hf']
    split
    · exact Once.stay _ (by decide) hf
    split
    · exact Once.stay _ (by decide) hf
    rename_i h2
    split
    · exact Once.stay _ (by decide) hf
    split
    · exact Once.stay _ (by decide) hf
    · rename_i h3 h4
      have hb := head_bounds r (by omega)
      refine ⟨rfl, fun h => absurd hf h, Nat.le_trans (Nat.le_add_right _ 2) (Nat.le_add_right _ _), fun _ => ⟨by show r.at_ + 2 + r.head.toNat ≤ _; omega, ?_⟩⟩
      apply ba_ext
      rw [toList_append, extract_list, str_toList, extract_list]
      have e1 : r.at_ + 2 + r.head.toNat - r.at_ = 2 + r.head.toNat := by omega
      have e2 : r.at_ + 2 + r.head.toNat - (r.at_ + 2) = r.head.toNat := by omega
      rw [e1, e2]
      have e3 : ((r.s.extract (r.at_ + 2) (r.at_ + 2 + r.head.toNat)).size : Int) = r.head := by
        rw [ByteArray.size_extract]; omega
      rw [e3]
      have hlen : ((r.s.data.toList.drop r.at_).take 2).length = 2 := by
        rw [List.length_take, List.length_drop, toList_size]; omega
      have hp := putL_num ((r.s.data.toList.drop r.at_).take 2) (by omega) (by omega)
      rw [hlen] at hp
      have hp2 : putL r.head 2 = (r.s.data.toList.drop r.at_).take 2 := hp
      rw [hp2, ← List.drop_drop]
      exact (List.take_add ..)
  · rw [if_pos hf, if_pos hf]
    exact Once.hold _ hf
end Go.Proofs.Ytbgnffgceeclhaa
