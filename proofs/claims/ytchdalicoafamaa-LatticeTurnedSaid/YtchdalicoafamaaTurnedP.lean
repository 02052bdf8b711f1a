/-
  All pairs turned about, plainly: the sets of those above and of those below change places; no program is in sight.
-/
import Derived.Test.YtchdalicoafamaaOrder
import Derived.Test.YtchdalicoafamaaJoins
import Derived.Test.YtchdalicoafamaaMoreP
import Derived.Test.YtchdalicoafamaaNamedP
import Derived.Test.YtchdalicoafamaaLists
namespace Go.Proofs.Ytchdalicoafamaa.Lat
def sw (p : Int × Int) : Int × Int := (p.2, p.1)
theorem sw_ok (n : Int) (p : Int × Int) : okP n (sw p) = okP n p := by
  unfold okP sw
  rw [decide_eq_decide]
  omega
theorem sw_all (n : Int) (ps : List (Int × Int)) : (ps.map sw).all (okP n) = ps.all (okP n) := by
  rw [List.all_map]
  congr 1
  funext p
  exact sw_ok n p
section
variable {n : Nat} (h8 : n ≤ 8)
include h8
theorem down_le {ps : List (Int × Int)} (hp : ps.all (okP n) = true) : Le (up n (ps.map sw)) (down n (up n ps)) := by
  have hp2 : (ps.map sw).all (okP n) = true := by rw [sw_all]; exact hp
  have hrng : ∀ {a b : Nat}, bt (up n ps) a b = true → a < n ∧ b < n := fun h => up_rng h8 hp h
  refine up_least h8 hp2 ?_ ?_ ?_
  · intro a b c _ _ hab hbc
    change bt (down n (up n ps)) a b = true at hab
    change bt (down n (up n ps)) b c = true at hbc
    show bt (down n (up n ps)) a c = true
    rw [down_bt h8] at hab hbc ⊢
    simp only [Bool.and_eq_true, decide_eq_true_eq] at hab hbc ⊢
    exact ⟨⟨hab.1.1, hbc.1.2⟩, clo_trans _ c b a (by omega) (by omega) hbc.2 hab.2⟩
  · intro a ha
    rw [down_bt h8, up_refl h8 ha]
    simp [ha]
  · intro p hm
    obtain ⟨q, hq, rfl⟩ := List.mem_map.1 hm
    have h1 := pair_lt hp hq
    have h2 := up_has h8 hp hq
    unfold sw
    simp only
    rw [down_bt h8, h2]
    simp [h1.2.1, h1.2.2.2]
theorem down_down {u : Nat → BitVec 8} (hr : ∀ a b, bt u a b = true → a < n ∧ b < n) : down n (down n u) = u := by
  refine Le.antisymm (fun a b h => ?_) (fun a b h => ?_)
  · change bt (down n (down n u)) a b = true at h
    rw [down_bt h8, down_bt h8] at h
    simp at h
    exact h.2.2
  · show bt (down n (down n u)) a b = true
    have := hr a b h
    rw [down_bt h8, down_bt h8]
    simp only [Bool.and_eq_true, decide_eq_true_eq]
    exact ⟨this, ⟨this.2, this.1⟩, h⟩
theorem turned_up {ps : List (Int × Int)} (hp : ps.all (okP n) = true) : up n (ps.map sw) = down n (up n ps) := by
  have hp2 : (ps.map sw).all (okP n) = true := by rw [sw_all]; exact hp
  have hrng : ∀ a b : Nat, bt (up n ps) a b = true → a < n ∧ b < n := fun a b h => up_rng h8 hp h
  refine Le.antisymm (down_le h8 hp) fun a b h => ?_
  change bt (down n (up n ps)) a b = true at h
  rw [down_bt h8] at h
  simp only [Bool.and_eq_true, decide_eq_true_eq] at h
  have h2 := down_le h8 hp2
  rw [List.map_map] at h2
  have e : sw ∘ sw = id := rfl
  rw [e, List.map_id] at h2
  have h3 := h2 _ _ h.2
  change bt (down n (up n (ps.map sw))) b a = true at h3
  rw [down_bt h8] at h3
  simp only [Bool.and_eq_true, decide_eq_true_eq] at h3
  exact h3.2
theorem turned_tail {u : Nat → BitVec 8} (hr : ∀ a b, bt u a b = true → a < n ∧ b < n) : tailE n (down n u) = tailE n u := by
  unfold tailE
  rw [down_down h8 hr]
  have h1 : loopBad n (down n u) u = loopBad n u (down n u) := by
    funext a
    unfold loopBad
    rw [BitVec.and_comm]
  have h2 : (fun a => (List.range n).any (joinBad n (down n u) u a)) = fun a => (List.range n).any (joinBad n u (down n u) a) := by
    funext a
    congr 1
    funext b
    unfold joinBad
    rw [decide_eq_decide]
    exact Or.comm
  rw [h1, h2]
end
theorem turned_E (n : Int) (ps : List (Int × Int)) : newE n (ps.map sw) = newE n ps := by
  by_cases hs : n < 1 ∨ 8 < n ∨ 64 < ps.length
  · rw [newE_size hs, newE_size (by rw [List.length_map]; exact hs)]
  · cases hp : ps.all (okP n) with
    | true =>
      obtain ⟨m, rfl⟩ := Int.eq_ofNat_of_zero_le (show 0 ≤ n by omega)
      rw [newE_tail (by omega) (by omega) (by omega) hp, newE_tail (by omega) (by omega) (by rw [List.length_map]; omega) (by rw [sw_all]; exact hp), turned_up (by omega) hp]
      exact turned_tail (by omega) fun a b h => up_rng (by omega) hp h
    | false =>
      unfold newE
      rw [if_neg (by rw [List.length_map]; exact hs), if_pos (by rw [sw_all]; exact hp), if_neg hs, if_pos hp]
theorem turned_ok {n : Nat} {ps : List (Int × Int)} (h0 : newE n ps = 0) : newE n (ps.map sw) = 0 ∧ up n (ps.map sw) = down n (up n ps) ∧ down n (down n (up n ps)) = up n ps := by
  obtain ⟨hn, _, hp, _, _⟩ := newE_zero h0
  have h8 : n ≤ 8 := by omega
  exact ⟨by rw [turned_E, h0], turned_up h8 hp, down_down h8 fun a b h => up_rng h8 hp h⟩
theorem flows_turned {n : Nat} {u d : Nat → BitVec 8} (h : Ok n u d) (a b : Int) : flowsB n d b a = flowsB n u a b := by
  unfold flowsB
  have := h.dn b.toNat a.toNat
  unfold bt at this
  rw [this]
  congr 1
  rw [decide_eq_decide]
  omega
end Go.Proofs.Ytchdalicoafamaa.Lat
