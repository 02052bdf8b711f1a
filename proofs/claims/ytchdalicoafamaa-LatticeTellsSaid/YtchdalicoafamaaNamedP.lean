/-
  Levels under other numbers, and pairs turned about, plainly: the same lattice by these numbers; no program is in sight.
-/
import Derived.Test.YtchdalicoafamaaOrder
import Derived.Test.YtchdalicoafamaaJoins
import Derived.Test.YtchdalicoafamaaMoreP
import Derived.Test.YtchdalicoafamaaPairsP
namespace Go.Proofs.Ytchdalicoafamaa.Lat
/-- a row of eight bits out of a test -/
def ofB (f : Nat → Bool) : BitVec 8 := BitVec.ofBoolListLE [f 0, f 1, f 2, f 3, f 4, f 5, f 6, f 7]
theorem ofB_bit (f : Nat → Bool) {b : Nat} (hb : b < 8) : (ofB f).getLsbD b = f b := by
  unfold ofB
  rw [BitVec.getLsbD_ofBoolListLE]
  match b, hb with
  | 0, _ => rfl
  | 1, _ => rfl
  | 2, _ => rfl
  | 3, _ => rfl
  | 4, _ => rfl
  | 5, _ => rfl
  | 6, _ => rfl
  | 7, _ => rfl
theorem mk_bt (f : Nat → Nat → Bool) {a b : Nat} (hb : b < 8) : bt (fun a => ofB (f a)) a b = f a b := ofB_bit (f a) hb

/-! ### what the order of the pairs, seen through other eyes, comes to -/
/-- u' is u under other numbers -/
structure Iso (n : Nat) (u u' : Nat → BitVec 8) : Prop where
  le8 : n ≤ 8
  eq : ∀ a b, a < n → b < n → bt u' (n - 1 - a) (n - 1 - b) = bt u a b
  rng : ∀ a b, bt u a b = true → a < n ∧ b < n
  rng' : ∀ a b, bt u' a b = true → a < n ∧ b < n
theorem Iso.symm {n : Nat} {u u' : Nat → BitVec 8} (h : Iso n u u') : Iso n u' u :=
  ⟨h.le8, fun a b ha hb => by
    have := h.eq (n - 1 - a) (n - 1 - b) (by omega) (by omega)
    rw [show n - 1 - (n - 1 - a) = a from by omega, show n - 1 - (n - 1 - b) = b from by omega] at this
    exact this.symm, h.rng', h.rng⟩
def rv (n : Int) (p : Int × Int) : Int × Int := (n - 1 - p.1, n - 1 - p.2)
theorem rv_ok {n : Int} {p : Int × Int} (h : okP n p = true) : okP n (rv n p) = true := by
  unfold okP rv at *
  simp only [decide_eq_true_eq] at *
  omega
theorem rv_all {n : Int} {ps : List (Int × Int)} (h : ps.all (okP n) = true) : (ps.map (rv n)).all (okP n) = true := by
  rw [List.all_eq_true] at *
  intro p hp
  obtain ⟨q, hq, rfl⟩ := List.mem_map.1 hp
  exact rv_ok (h q hq)
theorem named_le {n : Nat} {ps : List (Int × Int)} (h8 : n ≤ 8) (hp : ps.all (okP n) = true) {v : Nat → BitVec 8} (hv : ∀ p ∈ ps, bt v (n - 1 - p.1.toNat) (n - 1 - p.2.toNat) = true)
    (ht : Trans v) (hr : ∀ a, a < n → bt v a a = true) {a b : Nat} (hab : bt (up n ps) a b = true) : bt v (n - 1 - a) (n - 1 - b) = true := by
  obtain ⟨ha, hb⟩ := up_rng h8 hp hab
  have hle : Le (up n ps) (fun a => ofB fun b => decide (a < n ∧ b < n) && bt v (n - 1 - a) (n - 1 - b)) := by
    refine up_least h8 hp ?_ ?_ ?_
    · intro a b c _ hb8 hab hbc
      have hc8 : c < 8 := BitVec.lt_of_getLsbD hbc
      rw [ofB_bit _ hb8, Bool.and_eq_true, decide_eq_true_eq] at hab
      rw [ofB_bit _ hc8, Bool.and_eq_true, decide_eq_true_eq] at hbc
      rw [ofB_bit _ hc8, Bool.and_eq_true, decide_eq_true_eq]
      exact ⟨⟨hab.1.1, hbc.1.2⟩, ht _ _ _ (by omega) (by omega) hab.2 hbc.2⟩
    · intro a ha
      rw [mk_bt _ (by omega), Bool.and_eq_true, decide_eq_true_eq]
      exact ⟨⟨ha, ha⟩, hr _ (by omega)⟩
    · intro p hq
      have := pair_lt hp hq
      rw [mk_bt _ (by omega), Bool.and_eq_true, decide_eq_true_eq]
      exact ⟨⟨this.2.1, this.2.2.2⟩, hv p hq⟩
  have := hle _ _ hab
  rw [ofB_bit _ (by omega), Bool.and_eq_true] at this
  exact this.2
theorem iso_rv {n : Nat} {ps : List (Int × Int)} (h8 : n ≤ 8) (hp : ps.all (okP n) = true) : Iso n (up n ps) (up n (ps.map (rv n))) := by
  have hp2 := rv_all hp
  have one : ∀ {a b : Nat}, bt (up n ps) a b = true → bt (up n (ps.map (rv n))) (n - 1 - a) (n - 1 - b) = true := fun hab => by
    refine named_le h8 hp (fun p hq => ?_) (clo_trans _) (fun a ha => up_refl h8 ha) hab
    have hm : rv n p ∈ ps.map (rv n) := List.mem_map.2 ⟨p, hq, rfl⟩
    have h1 := pair_lt hp hq
    have := up_has h8 hp2 hm
    unfold rv at this
    simp only at this
    rwa [show ((n : Int) - 1 - p.1).toNat = n - 1 - p.1.toNat from by omega, show ((n : Int) - 1 - p.2).toNat = n - 1 - p.2.toNat from by omega] at this
  have two : ∀ {a b : Nat}, bt (up n (ps.map (rv n))) a b = true → bt (up n ps) (n - 1 - a) (n - 1 - b) = true := fun hab => by
    refine named_le h8 hp2 (fun p hq => ?_) (clo_trans _) (fun a ha => up_refl h8 ha) hab
    obtain ⟨q, hm, rfl⟩ := List.mem_map.1 hq
    have h1 := pair_lt hp hm
    have := up_has h8 hp hm
    unfold rv
    simp only
    rwa [show n - 1 - ((n : Int) - 1 - q.1).toNat = q.1.toNat from by omega, show n - 1 - ((n : Int) - 1 - q.2).toNat = q.2.toNat from by omega]
  refine ⟨h8, fun a b ha hb => ?_, fun a b h => up_rng h8 hp h, fun a b h => up_rng h8 hp2 h⟩
  rw [Bool.eq_iff_iff]
  refine ⟨fun h => ?_, one⟩
  have := two h
  rwa [show n - 1 - (n - 1 - a) = a from by omega, show n - 1 - (n - 1 - b) = b from by omega] at this

/-! ### rows under other numbers -/
theorem any_rev {n : Nat} (p : Nat → Bool) : (List.range n).any p = (List.range n).any fun a => p (n - 1 - a) := by
  rw [Bool.eq_iff_iff, List.any_eq_true, List.any_eq_true]
  constructor
  · rintro ⟨a, ha, h⟩
    have := List.mem_range.1 ha
    exact ⟨n - 1 - a, List.mem_range.2 (by omega), by rw [show n - 1 - (n - 1 - a) = a from by omega]; exact h⟩
  · rintro ⟨a, ha, h⟩
    have := List.mem_range.1 ha
    exact ⟨n - 1 - a, List.mem_range.2 (by omega), h⟩
theorem any_congr {n : Nat} {p q : Nat → Bool} (h : ∀ a, a < n → p a = q a) : (List.range n).any p = (List.range n).any q := by
  rw [Bool.eq_iff_iff, List.any_eq_true, List.any_eq_true]
  constructor
  · rintro ⟨a, ha, hp⟩
    exact ⟨a, ha, by rw [← h a (List.mem_range.1 ha)]; exact hp⟩
  · rintro ⟨a, ha, hp⟩
    exact ⟨a, ha, by rw [h a (List.mem_range.1 ha)]; exact hp⟩
/-- two rows and a third, under other numbers -/
theorem Iso.and_one {n : Nat} {u u' e e' : Nat → BitVec 8} (h : Iso n u u') (k : Iso n e e') {a b c : Nat} (ha : a < n) (hb : b < n) (hc : c < n)
    (he : e c = u a &&& u b) : e' (n - 1 - c) = u' (n - 1 - a) &&& u' (n - 1 - b) := by
  have h8 := h.le8
  apply ext_bt
  intro x _
  rw [BitVec.getLsbD_and]
  by_cases hx : x < n
  · have q1 := h.eq a (n - 1 - x) ha (by omega)
    have q2 := h.eq b (n - 1 - x) hb (by omega)
    have q3 := k.eq c (n - 1 - x) hc (by omega)
    rw [show n - 1 - (n - 1 - x) = x from by omega] at q1 q2 q3
    unfold bt at q1 q2 q3
    rw [q1, q2, q3, he, BitVec.getLsbD_and]
  · have q1 : bt e' (n - 1 - c) x = false := by
      cases hq : bt e' (n - 1 - c) x with
      | false => rfl
      | true => exact absurd (k.rng' _ _ hq).2 hx
    have q2 : bt u' (n - 1 - a) x = false := by
      cases hq : bt u' (n - 1 - a) x with
      | false => rfl
      | true => exact absurd (h.rng' _ _ hq).2 hx
    unfold bt at q1 q2
    rw [q1, q2]
    rfl
theorem endF_neg {n : Nat} {s : Nat → BitVec 8} {x : BitVec 8} : endF n s x < 0 ↔ ∀ c, c < n → s c ≠ x := by
  rcases endF_cases n s x with ⟨e, h⟩ | ⟨k, hk, e, h⟩
  · rw [e]
    exact ⟨fun _ => h, fun _ => by omega⟩
  · rw [e]
    exact ⟨fun h0 => by omega, fun h0 => absurd h (h0 k hk)⟩
theorem Iso.join_neg {n : Nat} {u u' : Nat → BitVec 8} (h : Iso n u u') {a b : Nat} (ha : a < n) (hb : b < n) : joinF n u' ((n - 1 - a : Nat) : Int) ((n - 1 - b : Nat) : Int) < 0 ↔ joinF n u a b < 0 := by
  rw [joinF_in ha hb, joinF_in (by omega) (by omega), endF_neg, endF_neg]
  constructor
  · intro hn c hc he
    exact hn (n - 1 - c) (by omega) (h.and_one h ha hb hc he)
  · intro hn c hc he
    have := h.symm.and_one h.symm (a := n - 1 - a) (b := n - 1 - b) (by omega) (by omega) hc he
    rw [show n - 1 - (n - 1 - a) = a from by omega, show n - 1 - (n - 1 - b) = b from by omega] at this
    exact hn (n - 1 - c) (by omega) this
theorem Iso.down {n : Nat} {u u' : Nat → BitVec 8} (h : Iso n u u') : Iso n (down n u) (down n u') := by
  have h8 := h.le8
  refine ⟨h8, fun a b ha hb => ?_, fun a b hab => ?_, fun a b hab => ?_⟩
  · rw [down_bt h8, down_bt h8, h.eq b a hb ha]
    rw [show decide (n - 1 - a < n) = decide (a < n) from by rw [decide_eq_decide]; omega, show decide (n - 1 - b < n) = decide (b < n) from by rw [decide_eq_decide]; omega]
  · rw [down_bt h8] at hab
    simp at hab
    exact hab.1
  · rw [down_bt h8] at hab
    simp at hab
    exact hab.1
theorem loop_iff {n : Nat} (h8 : n ≤ 8) {u : Nat → BitVec 8} (_hr : ∀ a b, bt u a b = true → a < n ∧ b < n) {a : Nat} (ha : a < n) : loopBad n u (down n u) a = false ↔ ∀ x, x < n → (bt u a x && bt u x a) = decide (a = x) := by
  unfold loopBad
  rw [decide_eq_false_iff_not, Classical.not_not]
  have hbit : ∀ x, (u a &&& down n u a).getLsbD x = (bt u a x && (decide (x < n) && bt u x a)) := fun x => by
    rw [BitVec.getLsbD_and]
    have := down_bt h8 u a x
    unfold bt at this ⊢
    rw [this, decide_eq_true ha, Bool.true_and]
  constructor
  · intro e x hx
    have := hbit x
    rw [e, one_bit (by omega), decide_eq_true hx, Bool.true_and] at this
    exact this.symm
  · intro e
    apply ext_bt
    intro x _
    rw [hbit, one_bit (by omega)]
    by_cases hx : x < n
    · rw [decide_eq_true hx, Bool.true_and, e x hx]
    · rw [decide_eq_false hx, Bool.false_and, Bool.and_false, decide_eq_false (by omega)]
theorem Iso.loop {n : Nat} {u u' : Nat → BitVec 8} (h : Iso n u u') {a : Nat} (ha : a < n) : loopBad n u' (Lat.down n u') (n - 1 - a) = loopBad n u (Lat.down n u) a := by
  have key : loopBad n u' (Lat.down n u') (n - 1 - a) = false ↔ loopBad n u (Lat.down n u) a = false := by
    rw [loop_iff h.le8 h.rng' (by omega), loop_iff h.le8 h.rng ha]
    constructor
    · intro e x hx
      have := e (n - 1 - x) (by omega)
      rw [h.eq a x ha hx, h.eq x a hx ha] at this
      rw [this, decide_eq_decide]
      omega
    · intro e x hx
      have := e (n - 1 - x) (by omega)
      rw [← h.eq a _ ha (by omega), ← h.eq _ a (by omega) ha, show n - 1 - (n - 1 - x) = x from by omega] at this
      rw [this, decide_eq_decide]
      omega
  cases h1 : loopBad n u' (Lat.down n u') (n - 1 - a) <;> cases h2 : loopBad n u (Lat.down n u) a <;> simp_all
theorem Iso.tail {n : Nat} {u u' : Nat → BitVec 8} (h : Iso n u u') : tailE n u' = tailE n u := by
  unfold tailE
  have h1 : (List.range n).any (loopBad n u' (Lat.down n u')) = (List.range n).any (loopBad n u (Lat.down n u)) := by
    rw [any_rev]
    exact any_congr fun a ha => h.loop ha
  have h2 : (List.range n).any (fun a => (List.range n).any (joinBad n u' (Lat.down n u') a)) = (List.range n).any (fun a => (List.range n).any (joinBad n u (Lat.down n u) a)) := by
    rw [any_rev]
    refine any_congr fun a ha => ?_
    rw [any_rev]
    refine any_congr fun b hb => ?_
    unfold joinBad
    rw [decide_eq_decide, h.join_neg ha hb, h.down.join_neg ha hb]
  rw [h1, h2]
theorem named_E {n : Int} {ps : List (Int × Int)} (hp : ps.all (okP n) = true) : newE n (ps.map (rv n)) = newE n ps := by
  by_cases hs : n < 1 ∨ 8 < n ∨ 64 < ps.length
  · rw [newE_size hs, newE_size (by rw [List.length_map]; exact hs)]
  · obtain ⟨m, rfl⟩ := Int.eq_ofNat_of_zero_le (show 0 ≤ n by omega)
    rw [newE_tail (by omega) (by omega) (by omega) hp, newE_tail (by omega) (by omega) (by rw [List.length_map]; omega) (rv_all hp)]
    exact (iso_rv (by omega) hp).tail

/-! ### what is told of it -/
theorem Iso.flows {n : Nat} {u u' : Nat → BitVec 8} (h : Iso n u u') {a b : Nat} (ha : a < n) (hb : b < n) : flowsB n u' ((n : Int) - 1 - a) ((n : Int) - 1 - b) = flowsB n u a b := by
  have e1 : (n : Int) - 1 - a = ((n - 1 - a : Nat) : Int) := by omega
  have e2 : (n : Int) - 1 - b = ((n - 1 - b : Nat) : Int) := by omega
  have q := h.eq a b ha hb
  unfold bt at q
  unfold flowsB
  rw [e1, e2]
  simp only [Int.toNat_natCast]
  rw [q, decide_eq_true (show (0 : Int) ≤ ((n - 1 - a : Nat) : Int) ∧ ((n - 1 - a : Nat) : Int) < n ∧ (0 : Int) ≤ ((n - 1 - b : Nat) : Int) ∧ ((n - 1 - b : Nat) : Int) < n from by omega),
    decide_eq_true (show (0 : Int) ≤ (a : Int) ∧ (a : Int) < n ∧ (0 : Int) ≤ (b : Int) ∧ (b : Int) < n from by omega)]
theorem Iso.row {n : Nat} {u u' : Nat → BitVec 8} (h : Iso n u u') {k : Nat} (hk : k < n) {f : Nat → Bool} {g : Nat → Bool} (hf : ∀ x, x < n → bt u' k x = f x) (hg : ∀ x, x < n → g x = f (n - 1 - x)) : ∀ x, x < n → bt u (n - 1 - k) x = g x := by
  intro x hx
  have q := h.symm.eq k (n - 1 - x) hk (by omega)
  rw [show n - 1 - (n - 1 - x) = x from by omega] at q
  rw [q, hf _ (by omega), hg x hx]
theorem Ok.uniq_in {n : Nat} {u d : Nat → BitVec 8} (h : Ok n u d) {k l : Nat} (hk : k < n) (hl : l < n) (e : ∀ x, x < n → bt u k x = bt u l x) : k = l := by
  refine uniq h hk hl fun x => ?_
  by_cases hx : x < n
  · exact e x hx
  · have q1 : bt u k x = false := by
      cases hq : bt u k x with
      | false => rfl
      | true => exact absurd (h.rng _ _ hq).2 hx
    have q2 : bt u l x = false := by
      cases hq : bt u l x with
      | false => rfl
      | true => exact absurd (h.rng _ _ hq).2 hx
    rw [q1, q2]
theorem Iso.join {n : Nat} {u u' d d' : Nat → BitVec 8} (h : Iso n u u') (ho : Ok n u d) (ho' : Ok n u' d') {a b : Nat} (ha : a < n) (hb : b < n) :
    joinF n u a b = (n : Int) - 1 - joinF n u' ((n : Int) - 1 - a) ((n : Int) - 1 - b) := by
  have e1 : (n : Int) - 1 - a = ((n - 1 - a : Nat) : Int) := by omega
  have e2 : (n : Int) - 1 - b = ((n - 1 - b : Nat) : Int) := by omega
  rw [e1, e2, J_int ho ha hb, J_int ho' (show n - 1 - a < n by omega) (show n - 1 - b < n by omega)]
  have l1 := J_lt ho ha hb
  have l2 := J_lt ho' (show n - 1 - a < n by omega) (show n - 1 - b < n by omega)
  have : J n u a b = n - 1 - J n u' (n - 1 - a) (n - 1 - b) := by
    refine ho.uniq_in l1 (by omega) fun x hx => ?_
    rw [J_bt ho ha hb]
    refine (h.row l2 (f := fun x => bt u' (n - 1 - a) x && bt u' (n - 1 - b) x) (g := fun x => bt u a x && bt u b x) (fun x _ => J_bt ho' (by omega) (by omega) x) (fun x hx => ?_) x hx).symm
    rw [h.eq a x ha hx, h.eq b x hb hx]
  omega
theorem Iso.ends {n : Nat} {u u' d d' : Nat → BitVec 8} (h : Iso n u u') (ho : Ok n u d) (ho' : Ok n u' d') :
    endF n d (allF n) = (n : Int) - 1 - endF n d' (allF n) ∧ endF n u (allF n) = (n : Int) - 1 - endF n u' (allF n) := by
  obtain ⟨t, tl, te, th⟩ := top_is ho
  obtain ⟨t', tl', te', th'⟩ := top_is ho'
  obtain ⟨z, zl, ze, zh⟩ := bottom_is ho
  obtain ⟨z', zl', ze', zh'⟩ := bottom_is ho'
  have q1 : t = n - 1 - t' := by
    refine ho.anti _ _ ?_ (th _ (by omega))
    have := h.symm.eq (n - 1 - t) t' (by omega) tl'
    rw [show n - 1 - (n - 1 - t) = t from by omega] at this
    rw [this]
    exact th' _ (by omega)
  have q2 : z = n - 1 - z' := by
    refine ho.anti _ _ (zh _ (by omega)) ?_
    have := h.symm.eq z' (n - 1 - z) zl' (by omega)
    rw [show n - 1 - (n - 1 - z) = z from by omega] at this
    rw [this]
    exact zh' _ (by omega)
  rw [te, te', ze, ze']
  omega
theorem range_rev (n : Nat) : (List.range n).reverse = (List.range n).map fun a => n - 1 - a := by
  apply List.ext_getElem
  · simp
  · intro k h1 h2
    simp at h1 h2 ⊢
theorem count_rev {n : Nat} (p : Nat → Bool) : ((List.range n).filter p).length = ((List.range n).filter fun a => p (n - 1 - a)).length := by
  have h1 : ((List.range n).reverse.filter p).length = ((List.range n).filter p).length := by
    rw [List.filter_reverse, List.length_reverse]
  rw [← h1, range_rev, List.filter_map, List.length_map]
  rfl
theorem sum_rev {n : Nat} (f : Nat → Nat) : ((List.range n).map f).sum = ((List.range n).map fun a => f (n - 1 - a)).sum := by
  have h1 : ((List.range n).reverse.map f).sum = ((List.range n).map f).sum := by
    rw [List.map_reverse, List.sum_reverse]
  rw [← h1, range_rev, List.map_map]
  rfl
theorem pairs_count (n : Nat) (u d : Nat → BitVec 8) : (pairsTo n u d n).length = ((List.range n).map fun a => ((List.range n).filter (pairB u d a)).length).sum := by
  unfold pairsTo rowPairs
  rw [List.length_flatMap]
  simp
theorem Iso.pairs {n : Nat} {u u' d d' : Nat → BitVec 8} (h : Iso n u u') (ho : Ok n u d) (ho' : Ok n u' d') : (pairsTo n u d n).length = (pairsTo n u' d' n).length := by
  rw [pairs_count, pairs_count, sum_rev (fun a => ((List.range n).filter (pairB u' d' a)).length)]
  congr 1
  apply List.map_congr_left
  intro a ha
  have ha := List.mem_range.1 ha
  rw [count_rev (pairB u' d' (n - 1 - a))]
  congr 1
  apply List.filter_congr
  intro b hb
  have hb := List.mem_range.1 hb
  rw [Bool.eq_iff_iff, cover_iff ho ha hb, cover_iff ho' (by omega) (by omega), h.eq a b ha hb]
  constructor
  · rintro ⟨h1, h2, h3⟩
    refine ⟨by omega, h2, fun c hc1 hc2 => ?_⟩
    have hcn := (ho'.rng _ _ hc1).2
    have e1 := h.eq a (n - 1 - c) ha (by omega)
    have e2 := h.eq (n - 1 - c) b (by omega) hb
    rw [show n - 1 - (n - 1 - c) = c from by omega] at e1 e2
    have := h3 (n - 1 - c) (by rw [← e1]; exact hc1) (by rw [← e2]; exact hc2)
    omega
  · rintro ⟨h1, h2, h3⟩
    refine ⟨by omega, h2, fun c hc1 hc2 => ?_⟩
    have hcn := (ho.rng _ _ hc1).2
    have := h3 (n - 1 - c) (by rw [h.eq a c ha hcn]; exact hc1) (by rw [h.eq c b hcn hb]; exact hc2)
    omega
end Go.Proofs.Ytchdalicoafamaa.Lat
