/-
  What other pairs come to, plainly: one pair more; pairs that say the same; no program is in sight.
-/
import Derived.Test.YtchdalicoafamaaOrder
import Derived.Test.YtchdalicoafamaaJoins
namespace Go.Proofs.Ytchdalicoafamaa.Lat
/-- the error of sets that come of pairs of levels -/
def tailE (n : Nat) (u : Nat → BitVec 8) : Int :=
  if (List.range n).any (loopBad n u (down n u)) then 42
  else if (List.range n).any (fun a => (List.range n).any (joinBad n u (down n u) a)) then 43
  else 0
theorem newE_tail {n : Nat} {ps : List (Int × Int)} (h1 : 1 ≤ n) (h8 : n ≤ 8) (hl : ps.length ≤ 64) (hp : ps.all (okP n) = true) : newE n ps = tailE n (up n ps) := by
  unfold newE tailE
  rw [if_neg (by omega), if_neg (by rw [hp]; decide)]
  rfl
theorem flowsB_in {n : Nat} {u : Nat → BitVec 8} {a b : Int} (h : flowsB n u a b = true) : (0 ≤ a ∧ a < n ∧ 0 ≤ b ∧ b < n) ∧ bt u a.toNat b.toNat = true := by
  unfold flowsB at h
  rw [Bool.and_eq_true] at h
  exact ⟨of_decide_eq_true h.1, h.2⟩
theorem flowsB_le {n : Nat} {u v : Nat → BitVec 8} (hle : Le u v) {a b : Int} (h : flowsB n u a b = true) : flowsB n v a b = true := by
  obtain ⟨h1, h2⟩ := flowsB_in h
  unfold flowsB
  rw [decide_eq_true h1, Bool.true_and]
  exact hle _ _ h2
section
variable {n : Nat} {ps : List (Int × Int)} {q : Int × Int} (h8 : n ≤ 8)
include h8
theorem le_of_mem {qs : List (Int × Int)} (hp : ps.all (okP n) = true) (hm : ∀ p ∈ ps, bt (up n qs) p.1.toNat p.2.toNat = true) : Le (up n ps) (up n qs) :=
  up_least h8 hp (clo_trans _) (fun _ ha => up_refl h8 ha) hm
theorem le_more (hp : (ps ++ [q]).all (okP n) = true) : Le (up n ps) (up n (ps ++ [q])) := by
  have h1 : ps.all (okP n) = true := by rw [List.all_append, Bool.and_eq_true] at hp; exact hp.1
  exact le_of_mem h8 h1 fun p hm => up_has h8 hp (List.mem_append_left _ hm)
theorem newE_more (h1 : 1 ≤ n) (h0 : newE n ps = 0) (hl : ps.length < 64) (hf : flowsB n (up n ps) q.1 q.2 = true) : newE n (ps ++ [q]) = 0 ∧ up n (ps ++ [q]) = up n ps := by
  obtain ⟨_, _, hp, _, _⟩ := newE_zero h0
  obtain ⟨hin, hb⟩ := flowsB_in hf
  have hp2 : (ps ++ [q]).all (okP n) = true := by
    rw [List.all_append, hp]
    simp [okP, hin]
  have he : up n (ps ++ [q]) = up n ps := by
    refine Le.antisymm (le_of_mem h8 hp2 fun p hm => ?_) (le_more h8 hp2)
    rcases List.mem_append.1 hm with hm | hm
    · exact up_has h8 hp hm
    · simp at hm; rw [hm]; exact hb
  refine ⟨?_, he⟩
  rw [newE_tail h1 h8 (by simp; omega) hp2, he, ← newE_tail h1 h8 (by omega) hp, h0]
theorem flows_more (h0 : newE n (ps ++ [q]) = 0) {a b : Int} (hf : flowsB n (up n ps) a b = true) : flowsB n (up n (ps ++ [q])) a b = true := by
  obtain ⟨_, _, hp, _, _⟩ := newE_zero h0
  exact flowsB_le (le_more h8 hp) hf
end
end Go.Proofs.Ytchdalicoafamaa.Lat
