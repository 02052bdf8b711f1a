/-
  The sum of bytes, plainly: one bit turned, or two within 32 of one another, turn the sum; no program is in sight.
-/
import Derived.Test.YtbgnffgceeclhaaCrc
namespace Go.Proofs.Ytbgnffgceeclhaa.Crc

/-- bit k of the bytes turned -/
def flip (l : List UInt8) (k : Nat) : List UInt8 := l.set (k / 8) (l.getD (k / 8) 0 ^^^ UInt8.ofNat (2 ^ (k % 8)))

theorem flip_length (l : List UInt8) (k : Nat) : (flip l k).length = l.length := by simp [flip]

theorem byte_flip (x : UInt8) (k : Nat) (h : k < 8) : bitsOf (x ^^^ UInt8.ofNat (2 ^ k)) = (bitsOf x).set k (!(bitsOf x).getD k false) := by
  have h' : ∀ n : Fin 256, ∀ k : Fin 8, bitsOf (UInt8.ofNat n.val ^^^ UInt8.ofNat (2 ^ k.val)) = (bitsOf (UInt8.ofNat n.val)).set k.val (!(bitsOf (UInt8.ofNat n.val)).getD k.val false) := by decide +kernel
  have hx := h' ⟨x.toNat, x.toNat_lt⟩ ⟨k, h⟩
  simpa using hx

theorem set_parts (l : List Bool) (k : Nat) (h : k < l.length) : ∃ a b c, l = a ++ b :: c ∧ l.set k (!l.getD k false) = a ++ (!b) :: c ∧ a.length = k := by
  refine ⟨l.take k, l[k], l.drop (k + 1), ?_, ?_, ?_⟩
  · rw [← List.drop_eq_getElem_cons h, List.take_append_drop]
  · rw [List.set_eq_take_append_cons_drop, if_pos h]
    simp [List.getD, List.getElem?_eq_getElem h]
  · rw [List.length_take]; omega

theorem flip_parts (l : List UInt8) : ∀ k, k < 8 * l.length → ∃ a b c, bits l = a ++ b :: c ∧ bits (flip l k) = a ++ (!b) :: c ∧ a.length = k := by
  induction l with
  | nil => intro k h; simp at h
  | cons x l ih =>
    intro k h
    by_cases hk : k < 8
    · obtain ⟨a, b, c, h1, h2, h3⟩ := set_parts (bitsOf x) k hk
      refine ⟨a, b, c ++ bits l, ?_, ?_, h3⟩
      · show bitsOf x ++ bits l = _
        rw [h1]; simp
      · have e : flip (x :: l) k = (x ^^^ UInt8.ofNat (2 ^ k)) :: l := by
          have hd : k / 8 = 0 := by omega
          have hm : k % 8 = k := by omega
          simp [flip, hd, hm]
        rw [e]
        show bitsOf _ ++ bits l = _
        rw [byte_flip x k hk, h2]; simp
    · obtain ⟨a, b, c, h1, h2, h3⟩ := ih (k - 8) (by simp at h; omega)
      refine ⟨bitsOf x ++ a, b, c, ?_, ?_, ?_⟩
      · show bitsOf x ++ bits l = _
        rw [h1]; simp
      · have e : flip (x :: l) k = x :: flip l (k - 8) := by
          obtain ⟨j, hj⟩ : ∃ j, k / 8 = j + 1 := ⟨k / 8 - 1, by omega⟩
          have hj' : (k - 8) / 8 = j := by omega
          have hm : (k - 8) % 8 = k % 8 := by omega
          simp [flip, hj, hj', hm]
        rw [e]
        show bitsOf x ++ bits (flip l (k - 8)) = _
        rw [h2]; simp
      · simp [bitsOf, h3]; omega

theorem sum_ne {l m : List UInt8} (h : runBits (~~~ 0#32) (bits l) ≠ runBits (~~~ 0#32) (bits m)) : sum l ≠ sum m := by
  intro e
  apply h
  have := congrArg (fun x => ~~~ x) e
  simpa [sum, run_bits] using this

/-- one bit turned turns the sum -/
theorem sum_flip (l : List UInt8) (k : Nat) (h : k < 8 * l.length) : sum (flip l k) ≠ sum l := by
  obtain ⟨a, b, c, h1, h2, _⟩ := flip_parts l k h
  apply sum_ne
  rw [h1, h2]
  exact one_flip a c b _

/-- two bits turned, no more than 31 places apart, turn the sum -/
theorem sum_flip2 (l : List UInt8) (k d : Nat) (hd : 0 < d) (hd2 : d ≤ 31) (h : k + d < 8 * l.length) : sum (flip (flip l k) (k + d)) ≠ sum l := by
  obtain ⟨a, b, c, h1, h2, h3⟩ := flip_parts l k (by omega)
  obtain ⟨a', b', c', g1, g2, g3⟩ := flip_parts (flip l k) (k + d) (by rw [flip_length]; exact h)
  have e : a ++ (!b) :: c = a' ++ b' :: c' := by rw [← h2, ← g1]
  have ea : a' = a ++ (!b) :: c.take (d - 1) := by
    have := congrArg (List.take (k + d)) e
    rw [List.take_append, List.take_append, List.take_of_length_le (by omega), show k + d - a.length = (d - 1) + 1 by omega, List.take_succ_cons,
      List.take_of_length_le (show a'.length ≤ k + d by omega), show k + d - a'.length = 0 by omega] at this
    simpa using this.symm
  have ec : c = c.take (d - 1) ++ b' :: c' := by
    rw [ea] at e
    have e2 : (!b) :: c = ((!b) :: c.take (d - 1)) ++ b' :: c' := by
      apply List.append_cancel_left (as := a)
      rw [e]; simp
    simpa using e2
  apply sum_ne
  rw [g2, h1, ea]
  conv => rhs; rw [ec]
  have hlen : (c.take (d - 1)).length < 31 := by rw [List.length_take]; omega
  have := two_flips a (c.take (d - 1)) c' b b' (~~~ 0#32) hlen
  simpa using this
end Go.Proofs.Ytbgnffgceeclhaa.Crc
