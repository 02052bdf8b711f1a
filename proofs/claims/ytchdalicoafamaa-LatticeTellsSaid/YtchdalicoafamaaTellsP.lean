/-
  The document's answers on a lattice against the program's, plainly; no program is in sight.
-/
import Derived.Test.YtchdalicoafamaaRefP
import Derived.Test.YtchdalicoafamaaRefT
import Derived.Test.YtchdalicoafamaaPairsP
import Derived.Test.YtchdalicoafamaaLists
namespace Go.Proofs.Ytchdalicoafamaa.Lat
section
variable {n : Nat} {u d : Nat → BitVec 8} {f : Rel} (ho : Ok n u d) (hf : ∀ a b, a < n → b < n → f a b = bt u a b)
include ho hf
omit hf in
theorem pre_ok : Pre n u := ⟨ho.le8, ho.refl, ho.trans, ho.rng⟩
omit ho in
theorem tells_flows (p q : Int) : flowsR n f p q = flowsB n u p q := flowsR_congr hf p q
omit hf in
theorem tells_down (hd : d = down n u) (p q : Int) : joinR n (fun x y => bt u y x) p q = joinF n d p q := by
  rw [hd]
  exact meetR_is (pre_ok ho) p q
omit ho in
theorem tells_flip (p q : Int) : flowsR n f q p = flowsR n (fun s t => bt u t s) p q := by
  rw [flowsR_congr hf]
  unfold flowsR
  congr 1
  rw [decide_eq_decide]
  omega
omit ho in
theorem tells_above (a : Int) : (List.range n).filter (fun b : Nat => flowsR n f a (b : Int)) = listTo n u a n := by
  unfold listTo
  apply List.filter_congr
  intro b hb
  have hb := List.mem_range.1 hb
  rw [tells_flows hf]
  unfold flowsB
  rw [Int.toNat_natCast]
  congr 1
  rw [decide_eq_decide]
  omega
theorem tells_below (a : Int) : (List.range n).filter (fun b : Nat => flowsR n f (b : Int) a) = listTo n d a n := by
  unfold listTo
  apply List.filter_congr
  intro b hb
  have hb := List.mem_range.1 hb
  rw [tells_flows hf]
  unfold flowsB
  have := ho.dn a.toNat b
  unfold bt at this
  rw [Int.toNat_natCast, this]
  congr 1
  rw [decide_eq_decide]
  omega
omit ho hf in
theorem len_all {p : Nat → Bool} : ((List.range n).filter p).length = n ↔ ∀ b, b < n → p b = true := by
  have h := List.length_filter_eq_length_iff (p := p) (l := List.range n)
  rw [List.length_range] at h
  rw [h]
  exact ⟨fun k b hb => k b (List.mem_range.2 hb), fun k b hb => k b (List.mem_range.1 hb)⟩
theorem tells_top (a : Nat) (ha : a < n) : decide (((List.range n).filter fun b : Nat => flowsR n f (b : Int) (a : Int)).length = n) = (d a == allF n) := by
  rw [Bool.eq_iff_iff, decide_eq_true_eq, len_all, beq_iff_eq]
  constructor
  · intro h
    apply ext_bt
    intro b _
    rw [allF_bit ho.le8]
    by_cases hb : b < n
    · have := h b hb
      rw [tells_flows hf, flowsB_is hb ha] at this
      have h2 := ho.dn a b
      unfold bt at h2 this
      rw [h2, this, decide_eq_true hb]
    · rw [decide_eq_false hb]
      cases hq : (d a).getLsbD b with
      | false => rfl
      | true =>
        have h2 := ho.dn a b
        unfold bt at h2
        rw [hq] at h2
        exact absurd (ho.rng _ _ h2.symm).1 hb
  · intro e b hb
    rw [tells_flows hf, flowsB_is hb ha]
    have h2 := ho.dn a b
    unfold bt at h2 ⊢
    rw [← h2, e, allF_bit ho.le8, decide_eq_true hb]
theorem tells_bottom (a : Nat) (ha : a < n) : decide (((List.range n).filter fun b : Nat => flowsR n f (a : Int) (b : Int)).length = n) = (u a == allF n) := by
  rw [Bool.eq_iff_iff, decide_eq_true_eq, len_all, beq_iff_eq]
  constructor
  · intro h
    apply ext_bt
    intro b _
    rw [allF_bit ho.le8]
    by_cases hb : b < n
    · have := h b hb
      rw [tells_flows hf, flowsB_is ha hb] at this
      unfold bt at this
      rw [this, decide_eq_true hb]
    · rw [decide_eq_false hb]
      cases hq : (u a).getLsbD b with
      | false => rfl
      | true => exact absurd (ho.rng _ _ hq).2 hb
  · intro e b hb
    rw [tells_flows hf, flowsB_is ha hb]
    unfold bt
    rw [e, allF_bit ho.le8, decide_eq_true hb]
theorem tells_pairs (a b : Nat) (ha : a < n) (hb : b < n) : betw f a b n = !pairB u d a b := by
  have hc := cover_iff ho ha hb
  have key : betw f a b n = false ↔ pairB u d a b = true := by
    rw [hc]
    unfold betw betwP
    rw [Bool.or_eq_false_iff, Bool.or_eq_false_iff, List.any_eq_false, hf a b ha hb]
    constructor
    · rintro ⟨⟨h1, h2⟩, h3⟩
      refine ⟨of_decide_eq_false h1, by simpa using h2, fun c q1 q2 => ?_⟩
      have hcn := (ho.rng _ _ q1).2
      have := h3 c (List.mem_range.2 hcn)
      rw [hf a c ha hcn, hf c b hcn hb, q1, q2] at this
      simp at this
      by_cases e : c = a
      · exact .inl e
      · exact .inr (this e)
    · rintro ⟨h1, h2, h3⟩
      refine ⟨⟨decide_eq_false h1, by rw [h2]; rfl⟩, fun c hcm => ?_⟩
      have hcn := List.mem_range.1 hcm
      rw [hf a c ha hcn, hf c b hcn hb]
      intro hx
      simp only [Bool.and_eq_true, decide_eq_true_eq] at hx
      rcases h3 c hx.2.1 hx.2.2 with e | e
      · exact hx.1.1 e
      · exact hx.1.2 e
  cases h1 : betw f a b n <;> cases h2 : pairB u d a b <;> simp_all
end
end Go.Proofs.Ytchdalicoafamaa.Lat
