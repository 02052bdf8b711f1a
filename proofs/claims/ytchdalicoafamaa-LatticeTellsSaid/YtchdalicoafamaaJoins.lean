/-
  The laws of an order with joins and meets, plainly; no program is in sight.
-/
import Derived.Test.YtchdalicoafamaaOrder
namespace Go.Proofs.Ytchdalicoafamaa.Lat
theorem Ok.dual {n : Nat} {u d : Nat → BitVec 8} (h : Ok n u d) : Ok n d u := by
  refine ⟨h.pos, h.le8, fun a ha => ?_, fun a b c hab hbc => ?_, fun a b hab hba => ?_, fun a b hab => ?_, fun a b => (h.dn b a).symm, fun a b ha hb => ?_, fun a b ha hb => ?_⟩
  · rw [h.dn]; exact h.refl a ha
  · rw [h.dn] at hab hbc ⊢; exact h.trans _ _ _ hbc hab
  · rw [h.dn] at hab hba; exact h.anti _ _ hba hab
  · rw [h.dn] at hab; exact (h.rng _ _ hab).symm
  · obtain ⟨k, hk, e, hx⟩ := h.mt a b ha hb
    exact ⟨k, hk, e, fun x => by rw [h.dn, h.dn, h.dn]; exact hx x⟩
  · obtain ⟨k, hk, e, hx⟩ := h.jn a b ha hb
    exact ⟨k, hk, e, fun x => by rw [h.dn, h.dn, h.dn]; exact hx x⟩
/-- the join as a number -/
def J (n : Nat) (u : Nat → BitVec 8) (a b : Nat) : Nat := (joinF n u a b).toNat
section
variable {n : Nat} {u d : Nat → BitVec 8} (h : Ok n u d)
include h
theorem J_is {a b : Nat} (ha : a < n) (hb : b < n) : joinF n u a b = (J n u a b : Int) ∧ J n u a b < n ∧ ∀ x, bt u (J n u a b) x = (bt u a x && bt u b x) := by
  obtain ⟨k, hk, e, hx⟩ := h.jn a b ha hb
  have : J n u a b = k := by unfold J; rw [e]; rfl
  rw [this]
  exact ⟨e, hk, hx⟩
theorem J_lt {a b : Nat} (ha : a < n) (hb : b < n) : J n u a b < n := (J_is h ha hb).2.1
theorem J_bt {a b : Nat} (ha : a < n) (hb : b < n) (x : Nat) : bt u (J n u a b) x = (bt u a x && bt u b x) := (J_is h ha hb).2.2 x
theorem J_int {a b : Nat} (ha : a < n) (hb : b < n) : joinF n u a b = (J n u a b : Int) := (J_is h ha hb).1
theorem uniq {k l : Nat} (hk : k < n) (hl : l < n) (e : ∀ x, bt u k x = bt u l x) : k = l := by
  refine h.anti k l ?_ ?_
  · rw [e]; exact h.refl l hl
  · rw [← e]; exact h.refl k hk
theorem M_lt {a b : Nat} (ha : a < n) (hb : b < n) : J n d a b < n := J_lt h.dual ha hb
theorem M_bt {a b : Nat} (ha : a < n) (hb : b < n) (x : Nat) : bt u x (J n d a b) = (bt u x a && bt u x b) := by
  have := J_bt h.dual ha hb x
  rwa [h.dn, h.dn, h.dn] at this
theorem J_le {a b : Nat} (ha : a < n) (hb : b < n) : bt u a (J n u a b) = true ∧ bt u b (J n u a b) = true := by
  have := J_bt h ha hb (J n u a b)
  rw [h.refl _ (J_lt h ha hb)] at this
  simpa using this.symm
theorem M_le {a b : Nat} (ha : a < n) (hb : b < n) : bt u (J n d a b) a = true ∧ bt u (J n d a b) b = true := by
  have := M_bt h ha hb (J n d a b)
  rw [h.refl _ (M_lt h ha hb)] at this
  simpa using this.symm
theorem J_comm {a b : Nat} (ha : a < n) (hb : b < n) : J n u a b = J n u b a :=
  uniq h (J_lt h ha hb) (J_lt h hb ha) fun x => by rw [J_bt h ha hb, J_bt h hb ha, Bool.and_comm]
theorem J_takes {a b : Nat} (ha : a < n) (hb : b < n) : J n u a (J n d a b) = a :=
  uniq h (J_lt h ha (M_lt h ha hb)) ha fun x => by
    rw [J_bt h ha (M_lt h ha hb)]
    cases hx : bt u a x
    · rfl
    · rw [h.trans _ _ _ (M_le h ha hb).1 hx]; rfl
theorem J_iff {a b : Nat} (ha : a < n) (hb : b < n) : bt u a b = decide (J n u a b = b) := by
  rw [Bool.eq_iff_iff, decide_eq_true_iff]
  constructor
  · intro hab
    refine uniq h (J_lt h ha hb) hb fun x => ?_
    rw [J_bt h ha hb]
    cases hx : bt u b x
    · simp
    · rw [h.trans _ _ _ hab hx]; rfl
  · intro e
    have := (J_le h ha hb).1
    rwa [e] at this
theorem M_iff {a b : Nat} (ha : a < n) (hb : b < n) : bt u a b = decide (J n d a b = a) := by
  have := J_iff h.dual hb ha
  rw [h.dn, J_comm h.dual hb ha] at this
  exact this
theorem J_assoc {a b c : Nat} (ha : a < n) (hb : b < n) (hc : c < n) : J n u (J n u a b) c = J n u a (J n u b c) :=
  uniq h (J_lt h (J_lt h ha hb) hc) (J_lt h ha (J_lt h hb hc)) fun x => by
    rw [J_bt h (J_lt h ha hb) hc, J_bt h ha hb, J_bt h ha (J_lt h hb hc), J_bt h hb hc, Bool.and_assoc]
omit h in
theorem flowsB_is {a b : Nat} (ha : a < n) (hb : b < n) : flowsB n u a b = bt u a b := by
  unfold flowsB
  rw [decide_eq_true (by omega), Int.toNat_natCast, Int.toNat_natCast]
  rfl
theorem top_is : ∃ t, t < n ∧ endF n d (allF n) = (t : Int) ∧ ∀ a, a < n → bt u a t = true := by
  have hex : ∀ k, k ≤ n → ∃ t, t < n ∧ ∀ a, a < k → bt u a t = true := by
    intro k
    induction k with
    | zero => intro _; exact ⟨0, h.pos, fun a ha => absurd ha (Nat.not_lt_zero _)⟩
    | succ k ih =>
      intro hk
      obtain ⟨t, ht, hx⟩ := ih (by omega)
      have := J_le h ht (show k < n by omega)
      refine ⟨J n u t k, J_lt h ht (by omega), fun a ha => ?_⟩
      by_cases e : a = k
      · rw [e]; exact this.2
      · exact h.trans _ _ _ (hx a (by omega)) this.1
  obtain ⟨t, ht, hx⟩ := hex n (Nat.le_refl _)
  have hd : d t = allF n := ext_bt fun b _ => by
    rw [allF_bit h.le8]
    have := h.dn t b
    unfold bt at this
    rw [this]
    by_cases hb : b < n
    · rw [decide_eq_true hb]; exact hx b hb
    · rw [decide_eq_false hb]
      cases hq : (u b).getLsbD t
      · rfl
      · exact absurd (h.rng b t hq).1 hb
  rcases endF_cases n d (allF n) with ⟨_, hm⟩ | ⟨k, hk, e, hx'⟩
  · exact absurd hd (hm t ht)
  · refine ⟨k, hk, e, fun a ha => ?_⟩
    rw [← h.dn]
    unfold bt
    rw [hx', allF_bit h.le8]
    exact decide_eq_true ha
theorem bottom_is : ∃ t, t < n ∧ endF n u (allF n) = (t : Int) ∧ ∀ a, a < n → bt u t a = true := by
  obtain ⟨t, ht, e, hx⟩ := top_is h.dual
  exact ⟨t, ht, e, fun a ha => by have := hx a ha; rwa [h.dn] at this⟩
/-- all that is asked of two levels -/
theorem two {a b : Nat} (ha : a < n) (hb : b < n) : ∃ j m : Nat, j < n ∧ m < n ∧ joinF n u a b = j ∧ joinF n d a b = m ∧ joinF n u b a = j ∧ joinF n d b a = m ∧ joinF n u a m = a ∧ joinF n d a j = a ∧
    flowsB n u a b = decide (j = b) ∧ flowsB n u a b = decide (m = a) ∧ flowsB n u a j = true ∧ flowsB n u m b = true ∧ (flowsB n u a b = true → flowsB n u b a = true → a = b) ∧
    (∀ c : Nat, c < n → ∃ x p y o : Nat, joinF n u j c = x ∧ joinF n u b c = p ∧ joinF n u a p = x ∧ joinF n d m c = y ∧ joinF n d b c = o ∧ joinF n d a o = y) ∧
    (∀ c : Nat, c < n → flowsB n u a b = true → flowsB n u b c = true → flowsB n u a c = true) := by
  have hj := J_lt h ha hb
  have hm := M_lt h ha hb
  refine ⟨J n u a b, J n d a b, hj, hm, J_int h ha hb, J_int h.dual ha hb, by rw [J_int h hb ha, J_comm h hb ha], by rw [J_int h.dual hb ha, J_comm h.dual hb ha],
    by rw [J_int h ha hm, J_takes h ha hb], by rw [J_int h.dual ha hj, J_takes h.dual ha hb], by rw [flowsB_is ha hb, J_iff h ha hb], by rw [flowsB_is ha hb, M_iff h ha hb],
    by rw [flowsB_is ha hj]; exact (J_le h ha hb).1, by rw [flowsB_is hm hb]; exact (M_le h ha hb).2, ?_, fun c hc => ?_, fun c hc => ?_⟩
  · rw [flowsB_is ha hb, flowsB_is hb ha]
    exact h.anti a b
  · exact ⟨J n u (J n u a b) c, J n u b c, J n d (J n d a b) c, J n d b c, J_int h hj hc, J_int h hb hc, by rw [J_int h ha (J_lt h hb hc), J_assoc h ha hb hc], J_int h.dual hm hc, J_int h.dual hb hc, by rw [J_int h.dual ha (M_lt h hb hc), J_assoc h.dual ha hb hc]⟩
  · rw [flowsB_is ha hb, flowsB_is hb hc, flowsB_is ha hc]
    exact h.trans a b c
end
end Go.Proofs.Ytchdalicoafamaa.Lat
