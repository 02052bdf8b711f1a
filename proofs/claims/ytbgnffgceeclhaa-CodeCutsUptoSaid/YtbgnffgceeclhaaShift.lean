/-
  A reader behind some bytes against one that begins there, plainly: the same answers, the places so much later; no program is in sight.
-/
import Derived.Test.YtbgnffgceeclhaaBase
import Derived.Test.YtbgnffgceeclhaaPut
import Derived.Test.YtbgnffgceeclhaaBits
import Derived.Test.YtbgnffgceeclhaaReader
namespace Go.Proofs.Ytbgnffgceeclhaa
open Go.RowKit Base
theorem toList_append (a b : ByteArray) : (a ++ b).data.toList = a.data.toList ++ b.data.toList := by simp
theorem toList_size (a : ByteArray) : a.data.toList.length = a.size := rfl
theorem extract_list (s : ByteArray) (i j : Nat) : (s.extract i j).data.toList = (s.data.toList.drop i).take (j - i) := by simp
theorem ba_ext {a b : ByteArray} (h : a.data.toList = b.data.toList) : a = b := by
  cases a; cases b; congr 1; exact Array.toList_inj.1 h
/-- r is x behind the bytes a -/
structure Sh (a : ByteArray) (r x : Rd) : Prop where
  s : r.s = a ++ x.s
  at_ : r.at_ = x.at_ + a.size
  fault : r.fault = x.fault
section
variable {a : ByteArray} {r x : Rd} (h : Sh a r x)
include h
theorem Sh.size : r.s.size = a.size + x.s.size := by rw [h.s, ByteArray.size_append]
theorem Sh.drop (k : Nat) : r.s.data.toList.drop (r.at_ + k) = x.s.data.toList.drop (x.at_ + k) := by
  rw [h.s, toList_append, h.at_, List.drop_append, List.drop_of_length_le (by rw [toList_size]; omega), List.nil_append, toList_size]
  congr 1
  omega
theorem Sh.cut (i j : Nat) : r.s.extract (r.at_ + i) (r.at_ + j) = x.s.extract (x.at_ + i) (x.at_ + j) := by
  apply ba_ext
  rw [extract_list, extract_list, h.drop]
  congr 1
  omega
theorem Sh.head : r.head = x.head := by
  unfold Rd.head
  have := h.drop 0
  simp only [Nat.add_zero] at this
  rw [this]
theorem Sh.left : (r.s.size : Int) - r.at_ = (x.s.size : Int) - x.at_ := by
  have := h.size
  have := h.at_
  omega
theorem Sh.move (k : Nat) : Sh a { r with at_ := r.at_ + k } { x with at_ := x.at_ + k } := ⟨h.s, by show r.at_ + k = x.at_ + k + a.size; rw [h.at_]; omega, h.fault⟩
theorem Sh.wrong (e : Int) : Sh a { r with fault := e } { x with fault := e } := ⟨h.s, h.at_, rfl⟩
theorem Sh.bytes (n : Int) : r.bytesV n = x.bytesV n ∧ Sh a (r.bytesR n) (x.bytesR n) := by
  unfold Rd.bytesV Rd.bytesR
  rw [h.fault, h.left]
  split
  · exact ⟨rfl, h⟩
  split
  · exact ⟨rfl, h.wrong 13⟩
  split
  · exact ⟨rfl, h.wrong 10⟩
  · exact ⟨h.cut 0 _, by have := h.move n.toNat; simpa [h.fault] using this⟩
theorem Sh.num (n : Int) : r.numV n = x.numV n ∧ Sh a (r.numR n) (x.numR n) := by
  unfold Rd.numV Rd.numR
  rw [h.fault, h.left]
  split
  · exact ⟨rfl, h⟩
  split
  · exact ⟨rfl, h.wrong 13⟩
  split
  · exact ⟨rfl, h.wrong 10⟩
  · have := h.drop 0
    simp only [Nat.add_zero] at this
    rw [this]
    exact ⟨rfl, by have := h.move n.toNat; simpa [h.fault] using this⟩
theorem Sh.text (n : Int) : r.textV n = x.textV n ∧ Sh a (r.textR n) (x.textR n) := by
  unfold Rd.textV Rd.textR
  rw [h.fault, h.head, show ((r.s.size : Int) - r.at_ - 2) = (x.s.size : Int) - x.at_ - 2 from by rw [h.left]]
  have hlt : r.s.size < r.at_ + 2 ↔ x.s.size < x.at_ + 2 := by
    have := h.left
    omega
  split
  · exact ⟨rfl, h⟩
  split
  · exact ⟨rfl, h.wrong 13⟩
  by_cases h2 : x.s.size < x.at_ + 2
  · rw [if_pos h2, if_pos (hlt.2 h2), if_pos h2, if_pos (hlt.2 h2)]
    exact ⟨rfl, h.wrong 10⟩
  · rw [if_neg h2, if_neg (fun k => h2 (hlt.1 k)), if_neg h2, if_neg (fun k => h2 (hlt.1 k))]
    split
    · exact ⟨rfl, h.wrong 11⟩
    split
    · exact ⟨rfl, h.wrong 10⟩
    · refine ⟨?_, ?_⟩
      · have := h.cut 2 (2 + x.head.toNat)
        rwa [← Nat.add_assoc, ← Nat.add_assoc] at this
      · have := h.move (2 + x.head.toNat)
        rw [← Nat.add_assoc, ← Nat.add_assoc] at this
        simpa [h.fault] using this
theorem Sh.faultP (hf : x.fault ≠ 0) : r.faultP = x.faultP + a.size := by
  unfold Rd.faultP
  rw [h.fault, if_neg hf, if_neg hf, h.at_]
  omega
end
/-- read to its end -/
theorem first_bytes (a b : ByteArray) (h : a.size < 2 ^ 62) : (⟨a ++ b, 0, 0⟩ : Rd).bytesV a.size = a ∧ (⟨a ++ b, 0, 0⟩ : Rd).bytesR a.size = ⟨a ++ b, a.size, 0⟩ ∧ Sh a ⟨a ++ b, a.size, 0⟩ ⟨b, 0, 0⟩ := by
  have h1 : ¬ (((a ++ b).size : Int) - ((0 : Nat) : Int) < a.size) := by rw [ByteArray.size_append]; omega
  refine ⟨?_, ?_, rfl, by simp, rfl⟩
  · unfold Rd.bytesV
    simp only [ne_eq, not_true_eq_false, if_false]
    rw [if_neg (by omega), if_neg h1]
    apply ba_ext
    rw [extract_list, toList_append]
    simp
  · unfold Rd.bytesR
    simp only [ne_eq, not_true_eq_false, if_false]
    rw [if_neg (by omega), if_neg h1]
    simp
theorem same_s (r : Rd) (n : Int) : (r.numR n).s = r.s ∧ (r.bytesR n).s = r.s ∧ (r.textR n).s = r.s := by
  unfold Rd.numR Rd.bytesR Rd.textR
  refine ⟨?_, ?_, ?_⟩ <;> (repeat' split) <;> rfl
end Go.Proofs.Ytbgnffgceeclhaa
