/-
  What a lattice is, plainly: where New finds no fault the sets are an order with a join and a meet of each two; the least order of given pairs; no program is in sight.
-/
import Derived.Test.YtchdalicoafamaaLat
namespace Go.Proofs.Ytchdalicoafamaa.Lat
/-- a flows to b -/
abbrev bt (u : Nat → BitVec 8) (a b : Nat) : Bool := (u a).getLsbD b
theorem bt_lt {u : Nat → BitVec 8} {a b : Nat} (h : bt u a b = true) : b < 8 := BitVec.lt_of_getLsbD h
theorem one_bit {a : Nat} (h : a < 8) (b : Nat) : (one a).getLsbD b = decide (a = b) := by
  unfold one
  rw [BitVec.getLsbD_shiftLeft, BitVec.getLsbD_one]
  rw [Bool.eq_iff_iff]
  simp
  omega
theorem allF_bit {n : Nat} (h : n ≤ 8) (b : Nat) : (allF n).getLsbD b = decide (b < n) := by
  by_cases hb : b < 8
  · have : ∀ n, n < 9 → ∀ b, b < 8 → (allF n).getLsbD b = decide (b < n) := by decide +kernel
    exact this n (by omega) b hb
  · rw [BitVec.getLsbD_of_ge _ _ (by omega), decide_eq_false (by omega)]
theorem ext_bt {x y : BitVec 8} (h : ∀ b, b < 8 → x.getLsbD b = y.getLsbD b) : x = y := BitVec.eq_of_getLsbD_eq h

theorem zero_bt (a b : Nat) : bt zero a b = false := by unfold bt zero; simp
theorem initTo_bt {k : Nat} (hk : k ≤ 8) (a b : Nat) : bt (initTo k) a b = decide (a < k ∧ a = b) := by
  induction k with
  | zero => rw [show initTo 0 = zero from rfl, zero_bt, decide_eq_false (by omega)]
  | succ k ih =>
    unfold bt
    rw [show initTo (k + 1) = upd (initTo k) k (one k) from rfl]
    by_cases e : a = k
    · subst e
      rw [upd_same, one_bit (by omega)]
      rw [Bool.eq_iff_iff]; simp
    · rw [upd_other _ _ e]
      have := ih (by omega)
      unfold bt at this
      rw [this, Bool.eq_iff_iff]; simp; omega

theorem le_addP (u : Nat → BitVec 8) (p : Int × Int) : Le u (addP u p) := le_upd
theorem le_addTo (u : Nat → BitVec 8) (ps : List (Int × Int)) : Le u (addTo u ps) := by
  unfold addTo
  induction ps generalizing u with
  | nil => exact Le.refl u
  | cons p ps ih => exact (le_addP u p).trans (ih _)
theorem addP_has (u : Nat → BitVec 8) {p : Int × Int} (h : p.2.toNat < 8) : bt (addP u p) p.1.toNat p.2.toNat = true := by
  unfold bt addP
  rw [upd_same, BitVec.getLsbD_or, one_bit h]
  simp
theorem addTo_has {ps : List (Int × Int)} (u : Nat → BitVec 8) {p : Int × Int} (hp : p ∈ ps) (h : p.2.toNat < 8) : bt (addTo u ps) p.1.toNat p.2.toNat = true := by
  unfold addTo
  induction ps generalizing u with
  | nil => cases hp
  | cons q ps ih =>
    rcases List.mem_cons.1 hp with rfl | hp
    · exact le_addTo _ ps _ _ (addP_has u h)
    · exact ih _ hp
theorem addP_le {u t : Nat → BitVec 8} (h : Le u t) {p : Int × Int} (h2 : p.2.toNat < 8) (hp : bt t p.1.toNat p.2.toNat = true) : Le (addP u p) t := by
  intro i b hb
  unfold addP upd at hb
  split at hb
  · rename_i e; subst e
    rw [BitVec.getLsbD_or, one_bit h2] at hb
    cases hu : (u p.1.toNat).getLsbD b
    · rw [hu] at hb
      simp at hb
      rw [← hb]; exact hp
    · exact h _ _ hu
  · exact h _ _ hb
theorem addTo_le {u t : Nat → BitVec 8} (h : Le u t) {ps : List (Int × Int)} (h2 : ∀ p ∈ ps, p.2.toNat < 8) (hp : ∀ p ∈ ps, bt t p.1.toNat p.2.toNat = true) : Le (addTo u ps) t := by
  unfold addTo
  induction ps generalizing u with
  | nil => exact h
  | cons p ps ih => exact ih (addP_le h (h2 p (List.mem_cons_self ..)) (hp p (List.mem_cons_self ..))) (fun q hq => h2 q (List.mem_cons_of_mem _ hq)) (fun q hq => hp q (List.mem_cons_of_mem _ hq))

/-! ### the least order -/
theorem okP_lt {n : Nat} {p : Int × Int} (h : okP n p = true) : 0 ≤ p.1 ∧ p.1.toNat < n ∧ 0 ≤ p.2 ∧ p.2.toNat < n := by
  unfold okP at h
  have := of_decide_eq_true h
  omega
section
variable {n : Nat} {ps : List (Int × Int)} (h8 : n ≤ 8) (hp : ps.all (okP n) = true)
include h8 hp
omit h8 in
theorem pair_lt {p : Int × Int} (h : p ∈ ps) : 0 ≤ p.1 ∧ p.1.toNat < n ∧ 0 ≤ p.2 ∧ p.2.toNat < n := okP_lt (List.all_eq_true.1 hp p h)
omit hp in
theorem up_refl {a : Nat} (h : a < n) : bt (up n ps) a a = true := le_clo _ _ _ (le_addTo _ _ _ _ (by have := initTo_bt h8 a a; unfold bt at this; rw [this]; simp [h]))
theorem up_has {p : Int × Int} (h : p ∈ ps) : bt (up n ps) p.1.toNat p.2.toNat = true := le_clo _ _ _ (addTo_has _ h (by have := pair_lt hp h; omega))
theorem up_least {t : Nat → BitVec 8} (ht : Trans t) (hr : ∀ a, a < n → bt t a a = true) (hh : ∀ p ∈ ps, bt t p.1.toNat p.2.toNat = true) : Le (up n ps) t := by
  refine clo_le (addTo_le ?_ (fun p hq => by have := pair_lt hp hq; omega) hh) ht
  intro a b hb
  have := initTo_bt h8 a b
  unfold bt at this
  rw [this] at hb
  have := of_decide_eq_true hb
  rw [← this.2]
  exact hr a this.1
theorem up_rng {a b : Nat} (h : bt (up n ps) a b = true) : a < n ∧ b < n := by
  have ht : Le (up n ps) (fun a => if a < n then allF n else 0#8) := by
    refine up_least h8 hp ?_ ?_ ?_
    · intro a b c _ _ hab hbc
      simp only at hab hbc ⊢
      split at hab
      · rename_i e
        rw [if_pos e]
        split at hbc
        · exact hbc
        · simp at hbc
      · simp at hab
    · intro a ha
      unfold bt
      simp only [if_pos ha]
      rw [allF_bit h8]; simp [ha]
    · intro p hq
      have := pair_lt hp hq
      unfold bt
      simp only [if_pos this.2.1]
      rw [allF_bit h8]; simp [this.2.2.2]
  have := ht _ _ h
  simp only at this
  split at this
  · rename_i e
    rw [allF_bit h8] at this
    exact ⟨e, of_decide_eq_true this⟩
  · simp at this
end

/-! ### the sets of those that flow to a level -/
theorem dRow_bt (c d : Nat → BitVec 8) {a : Nat} (ha : a < 8) : ∀ (k x y : Nat), bt (dRow c d a k) x y = (bt d x y || (decide (x < k) && decide (y = a) && bt c a x))
  | 0, x, y => by show bt d x y = _; simp
  | k + 1, x, y => by
    have ih := dRow_bt c d ha k
    show bt (dStp c (dRow c d a k) a k) x y = _
    unfold dStp
    split
    · rename_i hk
      by_cases e : x = k
      · subst e
        unfold bt at ih ⊢
        rw [upd_same, BitVec.getLsbD_or, ih, one_bit ha, hk]
        by_cases e : a = y
        · subst e; simp
        · have e' : ¬ y = a := fun h => e h.symm
          simp [e, e']
      · unfold bt at ih ⊢
        rw [upd_other _ _ e, ih]
        rw [Bool.eq_iff_iff]; simp
        constructor
        · rintro (h | h)
          · exact .inl h
          · exact .inr ⟨⟨by omega, h.1.2⟩, h.2⟩
        · rintro (h | h)
          · exact .inl h
          · exact .inr ⟨⟨by omega, h.1.2⟩, h.2⟩
    · rename_i hk
      rw [ih]
      rw [Bool.eq_iff_iff]; simp
      constructor
      · rintro (h | h)
        · exact .inl h
        · exact .inr ⟨⟨by omega, h.1.2⟩, h.2⟩
      · rintro (h | h)
        · exact .inl h
        · by_cases e : x = k
          · rw [e] at h; exact absurd h.2 hk
          · exact .inr ⟨⟨by omega, h.1.2⟩, h.2⟩
theorem dTo_bt (n : Nat) (c : Nat → BitVec 8) : ∀ (k : Nat), k ≤ 8 → ∀ (x y : Nat), bt (dTo n c k) x y = (decide (x < n) && decide (y < k) && bt c y x)
  | 0, _, x, y => by show bt zero x y = _; rw [zero_bt]; simp
  | k + 1, hk, x, y => by
    show bt (dRow c (dTo n c k) k n) x y = _
    rw [dRow_bt _ _ (by omega), dTo_bt n c k (by omega)]
    rw [Bool.eq_iff_iff]; simp
    constructor
    · rintro (h | h)
      · exact ⟨⟨h.1.1, by omega⟩, h.2⟩
      · exact ⟨⟨h.1.1, by omega⟩, by rw [h.1.2]; exact h.2⟩
    · rintro h
      by_cases e : y = k
      · right; rw [e] at h; exact ⟨⟨h.1.1, e⟩, h.2⟩
      · left; exact ⟨⟨h.1.1, by omega⟩, h.2⟩
theorem down_bt {n : Nat} (h8 : n ≤ 8) (c : Nat → BitVec 8) (x y : Nat) : bt (down n c) x y = (decide (x < n) && decide (y < n) && bt c y x) := dTo_bt n c n h8 x y

/-! ### an order with joins and meets -/
structure Ok (n : Nat) (u d : Nat → BitVec 8) : Prop where
  pos : 1 ≤ n
  le8 : n ≤ 8
  refl : ∀ a, a < n → bt u a a = true
  trans : ∀ a b c, bt u a b = true → bt u b c = true → bt u a c = true
  anti : ∀ a b, bt u a b = true → bt u b a = true → a = b
  rng : ∀ a b, bt u a b = true → a < n ∧ b < n
  dn : ∀ a b, bt d a b = bt u b a
  jn : ∀ a b, a < n → b < n → ∃ k, k < n ∧ joinF n u a b = (k : Int) ∧ ∀ x, bt u k x = (bt u a x && bt u b x)
  mt : ∀ a b, a < n → b < n → ∃ k, k < n ∧ joinF n d a b = (k : Int) ∧ ∀ x, bt u x k = (bt u x a && bt u x b)
theorem joinF_in {n : Nat} {s : Nat → BitVec 8} {a b : Nat} (ha : a < n) (hb : b < n) : joinF n s a b = endF n s (s a &&& s b) := by
  unfold joinF
  rw [if_pos (by omega), Int.toNat_natCast, Int.toNat_natCast]

/-- what New's error 0 says, and nothing else -/
theorem newE_zero {n : Int} {ps : List (Int × Int)} (h : newE n ps = 0) : (1 ≤ n ∧ n ≤ 8) ∧ ps.length ≤ 64 ∧ ps.all (okP n) = true ∧
    (∀ a, a < n.toNat → up n.toNat ps a &&& down n.toNat (up n.toNat ps) a = one a) ∧
    (∀ a b, a < n.toNat → b < n.toNat → 0 ≤ joinF n.toNat (up n.toNat ps) a b ∧ 0 ≤ joinF n.toNat (down n.toNat (up n.toNat ps)) a b) := by
  unfold newE at h
  split at h
  · cases h
  rename_i h1
  split at h
  · cases h
  rename_i h2
  split at h
  · cases h
  rename_i h3
  split at h
  · cases h
  rename_i h4
  refine ⟨by omega, by omega, by simpa using h2, fun a ha => ?_, fun a b ha hb => ?_⟩
  · rw [List.any_eq_true] at h3
    apply Classical.byContradiction
    intro hn
    exact h3 ⟨a, List.mem_range.2 ha, by unfold loopBad; exact decide_eq_true hn⟩
  · rw [List.any_eq_true] at h4
    have : ¬ (joinF n.toNat (up n.toNat ps) a b < 0 ∨ joinF n.toNat (down n.toNat (up n.toNat ps)) a b < 0) := by
      intro hn
      refine h4 ⟨a, List.mem_range.2 ha, ?_⟩
      rw [List.any_eq_true]
      exact ⟨b, List.mem_range.2 hb, by unfold joinBad; exact decide_eq_true hn⟩
    omega
theorem ok_of {n : Nat} {ps : List (Int × Int)} (h : newE n ps = 0) : Ok n (up n ps) (down n (up n ps)) := by
  obtain ⟨hn, _, hp, hl, hj⟩ := newE_zero h
  rw [Int.toNat_natCast] at hl hj
  have h8 : n ≤ 8 := by omega
  have hdn : ∀ a b, bt (down n (up n ps)) a b = bt (up n ps) b a := fun a b => by
    rw [down_bt h8, Bool.eq_iff_iff]
    simp
    intro hb
    have := up_rng h8 hp hb
    omega
  have htr : Trans (up n ps) := clo_trans _
  have hrng : ∀ a b, bt (up n ps) a b = true → a < n ∧ b < n := fun a b hb => up_rng h8 hp hb
  refine ⟨by omega, h8, fun a ha => up_refl h8 ha, fun a b c hab hbc => ?_, fun a b hab hba => ?_, hrng, hdn, fun a b ha hb => ?_, fun a b ha hb => ?_⟩
  · have := hrng _ _ hab
    exact htr a b c (by omega) (by omega) hab hbc
  · have h1 := congrArg (fun x => x.getLsbD b) (hl a (hrng _ _ hab).1)
    simp only [BitVec.getLsbD_and] at h1
    rw [one_bit (by have := hrng _ _ hab; omega)] at h1
    have h2 := hdn a b
    unfold bt at h2 hab hba
    rw [h2, hab, hba] at h1
    simpa using h1.symm
  · have h1 := (hj a b ha hb).1
    rw [joinF_in ha hb] at h1 ⊢
    rcases endF_cases n (up n ps) (up n ps a &&& up n ps b) with ⟨e, _⟩ | ⟨k, hk, e, hx⟩
    · rw [e] at h1; omega
    · exact ⟨k, hk, e, fun x => by unfold bt; rw [hx, BitVec.getLsbD_and]⟩
  · have h1 := (hj a b ha hb).2
    rw [joinF_in ha hb] at h1 ⊢
    rcases endF_cases n (down n (up n ps)) (down n (up n ps) a &&& down n (up n ps) b) with ⟨e, _⟩ | ⟨k, hk, e, hx⟩
    · rw [e] at h1; omega
    · refine ⟨k, hk, e, fun x => ?_⟩
      rw [← hdn, ← hdn a, ← hdn b]
      unfold bt; rw [hx, BitVec.getLsbD_and]
end Go.Proofs.Ytchdalicoafamaa.Lat
