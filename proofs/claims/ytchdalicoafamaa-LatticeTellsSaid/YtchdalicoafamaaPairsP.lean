/-
  The pairs that a lattice tells, plainly: they make it again, and each of them is needed; no program is in sight.
-/
import Derived.Test.YtchdalicoafamaaOrder
import Derived.Test.YtchdalicoafamaaJoins
import Derived.Test.YtchdalicoafamaaMoreP
namespace Go.Proofs.Ytchdalicoafamaa.Lat
/-- pairs of numbers, as the program has them -/
def pz (l : List (Nat × Nat)) : List (Int × Int) := l.map fun p => ((p.1 : Int), (p.2 : Int))
theorem pz_length (l : List (Nat × Nat)) : (pz l).length = l.length := by simp [pz]
theorem pz_get (l : List (Nat × Nat)) {i : Nat} (h : i < l.length) : (pz l).getD i (0, 0) = ((l[i].1 : Int), (l[i].2 : Int)) := by
  unfold pz
  rw [List.getD_eq_getElem?_getD, List.getElem?_map, List.getElem?_eq_getElem h]
  rfl
section
variable {n : Nat} {u d : Nat → BitVec 8} (h : Ok n u d)
include h
/-- a pair that is told: nothing stands between -/
theorem cover_iff {a b : Nat} (ha : a < n) (hb : b < n) : pairB u d a b = true ↔ a ≠ b ∧ bt u a b = true ∧ ∀ c, bt u a c = true → bt u c b = true → c = a ∨ c = b := by
  have h8 := h.le8
  have hbit : ∀ c, (u a &&& d b).getLsbD c = (bt u a c && bt u c b) := fun c => by
    rw [BitVec.getLsbD_and]
    have := h.dn b c
    unfold bt at this ⊢
    rw [this]
  have hone : ∀ c, (one a ||| one b).getLsbD c = (decide (a = c) || decide (b = c)) := fun c => by
    rw [BitVec.getLsbD_or, one_bit (by omega), one_bit (by omega)]
  unfold pairB
  rw [Bool.and_eq_true, decide_eq_true_eq, decide_eq_true_eq]
  constructor
  · rintro ⟨hne, he⟩
    have hc : ∀ c, (bt u a c && bt u c b) = (decide (a = c) || decide (b = c)) := fun c => by rw [← hbit, he, hone]
    refine ⟨hne, ?_, fun c h1 h2 => ?_⟩
    · have := hc b
      rw [h.refl b hb] at this
      simpa using this
    · have := hc c
      rw [h1, h2] at this
      simp at this
      rcases this with e | e
      · exact .inl e.symm
      · exact .inr e.symm
  · rintro ⟨hne, hab, hc⟩
    refine ⟨hne, ext_bt fun c _ => ?_⟩
    rw [hbit, hone, Bool.eq_iff_iff]
    simp only [Bool.and_eq_true, Bool.or_eq_true, decide_eq_true_eq]
    constructor
    · rintro ⟨h1, h2⟩
      rcases hc c h1 h2 with e | e
      · exact .inl e.symm
      · exact .inr e.symm
    · rintro (e | e)
      · subst e; exact ⟨h.refl _ ha, hab⟩
      · subst e; exact ⟨hab, h.refl _ hb⟩
omit h in
theorem mem_pairs {a b : Nat} : (a, b) ∈ pairsTo n u d n ↔ a < n ∧ b < n ∧ pairB u d a b = true := by
  unfold pairsTo rowPairs
  simp only [List.mem_flatMap, List.mem_map, List.mem_filter, List.mem_range, Prod.mk.injEq]
  constructor
  · rintro ⟨a', ha, b', ⟨hb, hp⟩, rfl, rfl⟩
    exact ⟨ha, hb, hp⟩
  · rintro ⟨ha, hb, hp⟩
    exact ⟨a, ha, b, ⟨hb, hp⟩, rfl, rfl⟩
omit h in
theorem nodup_to : ∀ k, (pairsTo n u d k).Nodup ∧ ∀ p ∈ pairsTo n u d k, p.1 < k
  | 0 => ⟨by simp [pairsTo], fun p hp => by simp [pairsTo] at hp⟩
  | k + 1 => by
    obtain ⟨h1, h2⟩ := nodup_to k
    have h3 : ∀ p ∈ rowPairs u d k n, p.1 = k := fun p hp => by
      obtain ⟨x, _, rfl⟩ := List.mem_map.1 hp
      rfl
    rw [pairsTo_succ]
    refine ⟨List.nodup_append.2 ⟨h1, ?_, fun p hp q hq e => ?_⟩, fun p hp => ?_⟩
    · unfold rowPairs
      rw [List.Nodup, List.pairwise_map]
      exact (List.nodup_range.filter _).imp fun hne e => hne (congrArg Prod.snd e)
    · have := h2 p hp
      have := h3 q hq
      rw [e] at *
      omega
    · rcases List.mem_append.1 hp with hp | hp
      · have := h2 p hp; omega
      · have := h3 p hp; omega
omit h in
theorem nodup_pairs : (pairsTo n u d n).Nodup := (nodup_to n).1
theorem pairs_len : (pairsTo n u d n).length ≤ 64 := by
  have h8 := h.le8
  exact Nat.le_trans (pairsTo_le n u d n) (Nat.le_trans (Nat.mul_le_mul h8 h8) (by omega))
omit h in
theorem pz_ok : (pz (pairsTo n u d n)).all (okP n) = true := by
  rw [List.all_eq_true]
  intro p hp
  unfold pz at hp
  obtain ⟨⟨a, b⟩, hq, rfl⟩ := List.mem_map.1 hp
  obtain ⟨ha, hb, _⟩ := mem_pairs.1 hq
  unfold okP
  simp only [decide_eq_true_eq]
  omega
/-- what lies between -/
def mid (n : Nat) (u : Nat → BitVec 8) (a b : Nat) : List Nat := (List.range n).filter fun c => bt u a c && bt u c b
theorem between {l : List (Nat × Nat)} (hl : ∀ a b, a < n → b < n → pairB u d a b = true → (a, b) ∈ l) (hp : (pz l).all (okP n) = true) :
    ∀ (k a b : Nat), (mid n u a b).length ≤ k → bt u a b = true → bt (up n (pz l)) a b = true := by
  have h8 := h.le8
  intro k
  induction k with
  | zero =>
    intro a b hk hab
    obtain ⟨ha, hb⟩ := h.rng _ _ hab
    have : a ∈ mid n u a b := List.mem_filter.2 ⟨List.mem_range.2 ha, by rw [h.refl a ha, hab]; rfl⟩
    have := List.length_pos_of_mem this
    omega
  | succ k ih =>
    intro a b hk hab
    obtain ⟨ha, hb⟩ := h.rng _ _ hab
    by_cases e : a = b
    · subst e; exact up_refl h8 ha
    cases hc : pairB u d a b with
    | true =>
      have hm : (((a : Int), (b : Int))) ∈ pz l := List.mem_map.2 ⟨(a, b), hl a b ha hb hc, rfl⟩
      have := up_has h8 hp hm
      simpa using this
    | false =>
      have hn : ¬ (a ≠ b ∧ bt u a b = true ∧ ∀ c, bt u a c = true → bt u c b = true → c = a ∨ c = b) := fun hx => by
        rw [← cover_iff h ha hb, hc] at hx
        cases hx
      have : ∃ c, bt u a c = true ∧ bt u c b = true ∧ c ≠ a ∧ c ≠ b := by
        apply Classical.byContradiction
        intro hx
        refine hn ⟨e, hab, fun c h1 h2 => ?_⟩
        apply Classical.byContradiction
        intro hy
        exact hx ⟨c, h1, h2, fun h3 => hy (.inl h3), fun h3 => hy (.inr h3)⟩
      obtain ⟨c, h1, h2, h3, h4⟩ := this
      obtain ⟨_, hcn⟩ := h.rng _ _ h1
      have l1 : (mid n u a c).length < (mid n u a b).length := by
        refine sub_lt (x := b) (fun y hy => ?_) ?_ ?_
        · simp only [Bool.and_eq_true] at hy ⊢
          exact ⟨hy.1, h.trans _ _ _ hy.2 h2⟩
        · rw [hab, h.refl b hb]; exact ⟨hb, rfl⟩
        · rw [hab, Bool.true_and]
          cases hbc : bt u b c with
          | false => rfl
          | true => exact absurd (h.anti _ _ h2 hbc) h4
      have l2 : (mid n u c b).length < (mid n u a b).length := by
        refine sub_lt (x := a) (fun y hy => ?_) ?_ ?_
        · simp only [Bool.and_eq_true] at hy ⊢
          exact ⟨h.trans _ _ _ h1 hy.1, hy.2⟩
        · rw [hab, h.refl a ha]; exact ⟨ha, rfl⟩
        · rw [hab, Bool.and_true]
          cases hca : bt u c a with
          | false => rfl
          | true => exact absurd (h.anti _ _ hca h1) h3
      have i1 := ih a c (by omega) h1
      have i2 := ih c b (by omega) h2
      exact clo_trans _ a c b (by omega) (by omega) i1 i2
where
  sub_lt {p q : Nat → Bool} {x : Nat} (hs : ∀ y, p y = true → q y = true) (hx : x < n ∧ q x = true) (hn : p x = false) : ((List.range n).filter p).length < ((List.range n).filter q).length := by
    have h1 : (List.range n).filter p = ((List.range n).filter q).filter p := by
      rw [List.filter_filter]
      congr 1
      funext y
      cases hp : p y with
      | true => rw [hs y hp]; rfl
      | false => rfl
    rw [h1]
    have hm : x ∈ (List.range n).filter q := List.mem_filter.2 ⟨List.mem_range.2 hx.1, hx.2⟩
    rcases Nat.lt_or_ge (((List.range n).filter q).filter p).length ((List.range n).filter q).length with hlt | hge
    · exact hlt
    · have hle := List.length_filter_le p ((List.range n).filter q)
      have hall : ((List.range n).filter q).filter p = (List.range n).filter q := List.Sublist.eq_of_length List.filter_sublist (by omega)
      have he := List.filter_eq_self.1 hall x hm
      rw [hn] at he
      cases he
theorem again_up : up n (pz (pairsTo n u d n)) = u := by
  have h8 := h.le8
  have hp := pz_ok (n := n) (u := u) (d := d)
  refine Le.antisymm (up_least h8 hp (fun a b c _ _ => h.trans a b c) h.refl fun p hm => ?_) fun a b hab => ?_
  · obtain ⟨⟨a, b⟩, hq, rfl⟩ := List.mem_map.1 hm
    obtain ⟨ha, hb, hc⟩ := mem_pairs.1 hq
    have := ((cover_iff h ha hb).1 hc).2.1
    simpa using this
  · exact between h (fun a b ha hb hc => mem_pairs.2 ⟨ha, hb, hc⟩) hp _ a b (Nat.le_refl _) hab
end
theorem again {n : Nat} {ps : List (Int × Int)} (h0 : newE n ps = 0) :
    newE n (pz (pairsTo n (up n ps) (down n (up n ps)) n)) = 0 ∧ up n (pz (pairsTo n (up n ps) (down n (up n ps)) n)) = up n ps := by
  have hok := ok_of h0
  obtain ⟨hn, hl, hp, _, _⟩ := newE_zero h0
  have hu := again_up hok
  refine ⟨?_, hu⟩
  rw [newE_tail (by omega) hok.le8 (by rw [pz_length]; exact pairs_len hok) (pz_ok), hu, ← newE_tail (by omega) hok.le8 hl hp, h0]
/-- none of them could be left out -/
theorem needed {n : Nat} {u d : Nat → BitVec 8} (h : Ok n u d) {i : Nat} (hi : i < (pairsTo n u d n).length) :
    flowsB n (up n (pz ((pairsTo n u d n).take i ++ (pairsTo n u d n).drop (i + 1)))) ((pairsTo n u d n)[i].1 : Int) ((pairsTo n u d n)[i].2 : Int) = false := by
  have h8 := h.le8
  generalize hL : pairsTo n u d n = L at hi ⊢
  have hnd : L.Nodup := by rw [← hL]; exact nodup_pairs
  obtain ⟨⟨a, b⟩, hab⟩ : ∃ p, L[i] = p := ⟨_, rfl⟩
  rw [hab]
  have hm : (a, b) ∈ pairsTo n u d n := by rw [hL, ← hab]; exact List.getElem_mem hi
  obtain ⟨ha, hb, hc⟩ := mem_pairs.1 hm
  obtain ⟨hne, hub, hmid⟩ := (cover_iff h ha hb).1 hc
  have hout : (a, b) ∉ L.take i ++ L.drop (i + 1) := by
    intro hx
    rw [← hab] at hx
    have hsplit : L = L.take i ++ L[i] :: L.drop (i + 1) := by rw [List.getElem_cons_drop, List.take_append_drop]
    rw [hsplit] at hnd
    rw [List.nodup_append] at hnd
    obtain ⟨_, h2, h3⟩ := hnd
    rcases List.mem_append.1 hx with hx | hx
    · exact h3 _ hx _ List.mem_cons_self rfl
    · exact (List.nodup_cons.1 h2).1 hx
  have hsub : ∀ p ∈ L.take i ++ L.drop (i + 1), p ∈ pairsTo n u d n := by
    intro p hp
    rw [hL]
    rcases List.mem_append.1 hp with hp | hp
    · exact List.mem_of_mem_take hp
    · exact List.mem_of_mem_drop hp
  generalize L.take i ++ L.drop (i + 1) = l at hout hsub
  have hok : (pz l).all (okP n) = true := by
    rw [List.all_eq_true]
    intro p hp
    obtain ⟨⟨x, y⟩, hq, rfl⟩ := List.mem_map.1 hp
    obtain ⟨hx, hy, _⟩ := mem_pairs.1 (hsub _ hq)
    unfold okP
    simp only [decide_eq_true_eq]
    omega
  have hle : Le (up n (pz l)) (upd u a (u a &&& ~~~ one b)) := by
    have hbt : ∀ x y, y < 8 → bt (upd u a (u a &&& ~~~ one b)) x y = (bt u x y && !decide (x = a ∧ y = b)) := by
      intro x y hy
      unfold bt upd
      by_cases e : x = a
      · subst e
        rw [if_pos rfl, BitVec.getLsbD_and, BitVec.getLsbD_not, one_bit (by omega)]
        have : (decide (x = x ∧ y = b)) = decide (b = y) := by
          rw [decide_eq_decide]
          exact ⟨fun h => h.2.symm, fun h => ⟨rfl, h.symm⟩⟩
        rw [this]
        simp [hy]
      · rw [if_neg e]
        simp [e]
    have hy8 : ∀ {x y}, bt u x y = true → y < 8 := fun hq => bt_lt hq
    refine up_least h8 hok ?_ ?_ ?_
    · intro x y z _ hy hxy hyz
      have hz : z < 8 := bt_lt (u := upd u a (u a &&& ~~~ one b)) hyz
      change bt _ x y = true at hxy
      change bt _ y z = true at hyz
      show bt _ x z = true
      rw [hbt _ _ hy, Bool.and_eq_true] at hxy
      rw [hbt _ _ hz, Bool.and_eq_true] at hyz
      rw [hbt _ _ hz, h.trans _ _ _ hxy.1 hyz.1, Bool.true_and, Bool.not_eq_true', decide_eq_false_iff_not]
      rintro ⟨rfl, rfl⟩
      rcases hmid y hxy.1 hyz.1 with rfl | rfl
      · simp at hyz
      · simp at hxy
    · intro x hx
      rw [hbt _ _ (by omega), h.refl x hx, Bool.true_and, Bool.not_eq_true', decide_eq_false_iff_not]
      rintro ⟨rfl, e⟩
      exact hne e
    · intro p hp
      obtain ⟨⟨x, y⟩, hq, rfl⟩ := List.mem_map.1 hp
      obtain ⟨hx, hy, hxy⟩ := mem_pairs.1 (hsub _ hq)
      have := ((cover_iff h hx hy).1 hxy).2.1
      simp only [Int.toNat_natCast]
      rw [hbt _ _ (by omega), this, Bool.true_and, Bool.not_eq_true', decide_eq_false_iff_not]
      rintro ⟨rfl, rfl⟩
      exact hout hq
  cases hf : flowsB n (up n (pz l)) (a : Int) (b : Int) with
  | false => rfl
  | true =>
    obtain ⟨_, h2⟩ := flowsB_in hf
    have := hle _ _ h2
    simp only [Int.toNat_natCast] at this
    unfold upd at this
    rw [if_pos rfl, BitVec.getLsbD_and, BitVec.getLsbD_not, one_bit (by omega)] at this
    simp at this
end Go.Proofs.Ytchdalicoafamaa.Lat
