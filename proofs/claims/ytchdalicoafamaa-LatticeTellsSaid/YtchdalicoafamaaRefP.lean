/-
  The document's lattice, plainly: its join and meet, its passing on of what follows, against the program's sets; no program is in sight.
-/
import Derived.Test.YtchdalicoafamaaOrder
import Derived.Test.YtchdalicoafamaaJoins
import Derived.Test.YtchdalicoafamaaMoreP
import Derived.Test.YtchdalicoafamaaPairsP
import Derived.Test.YtchdalicoafamaaNamedP
namespace Go.Proofs.Ytchdalicoafamaa.Lat
abbrev Rel := Nat → Nat → Bool
def flowsR (n : Nat) (f : Rel) (a b : Int) : Bool := decide (0 ≤ a ∧ a < n ∧ 0 ≤ b ∧ b < n) && f a.toNat b.toNat
/-- is c the least bound of a and b? -/
def boundR (n : Nat) (f : Rel) (a b : Int) (c : Nat) : Bool := flowsR n f a c && flowsR n f b c
def badR (n : Nat) (f : Rel) (a b : Int) (c d : Nat) : Bool := boundR n f a b d && !flowsR n f c d
def leastR (n : Nat) (f : Rel) (a b : Int) (c : Nat) : Bool := boundR n f a b c && (List.range n).all fun d => !badR n f a b c d
def joinR (n : Nat) (f : Rel) (a b : Int) : Int := ((List.range n).find? (leastR n f a b)).elim (-1) fun c => (c : Int)
theorem joinR_hit {n : Nat} {f : Rel} {a b : Int} {k : Nat} (hk : k < n) (h : leastR n f a b k = true) (hn : ∀ c, c < k → leastR n f a b c = false) : joinR n f a b = (k : Int) := by
  have : (List.range n).find? (leastR n f a b) = some k := by
    rw [List.find?_range_eq_some]
    exact ⟨h, by simpa using hk, fun c hc => by simpa using hn c hc⟩
  unfold joinR
  rw [this]
  rfl
theorem joinR_miss {n : Nat} {f : Rel} {a b : Int} (hn : ∀ c, c < n → leastR n f a b c = false) : joinR n f a b = -1 := by
  have : (List.range n).find? (leastR n f a b) = none := by
    rw [List.find?_eq_none]
    intro c hc
    rw [hn c (List.mem_range.1 hc)]
    decide
  unfold joinR
  rw [this]
  rfl
theorem joinR_range (n : Nat) (f : Rel) (a b : Int) : -1 ≤ joinR n f a b ∧ joinR n f a b < n ∨ joinR n f a b = -1 := by
  unfold joinR
  cases h : (List.range n).find? (leastR n f a b) with
  | none => exact .inr rfl
  | some c =>
    have := List.mem_range.1 (List.mem_of_find?_eq_some h)
    left
    simp
    omega
theorem all_to {k : Nat} (p : Nat → Bool) : (List.range (k + 1)).all p = ((List.range k).all p && p k) := by
  rw [List.range_succ, List.all_append]
  simp
theorem flowsR_bt (n : Nat) (u : Nat → BitVec 8) (a b : Int) : flowsR n (bt u) a b = flowsB n u a b := rfl
theorem flowsR_congr {n : Nat} {f g : Rel} (h : ∀ a b, a < n → b < n → f a b = g a b) (a b : Int) : flowsR n f a b = flowsR n g a b := by
  unfold flowsR
  by_cases hr : 0 ≤ a ∧ a < n ∧ 0 ≤ b ∧ b < n
  · rw [h a.toNat b.toNat (by omega) (by omega)]
  · rw [decide_eq_false hr, Bool.false_and, Bool.false_and]
theorem leastR_congr {n : Nat} {f g : Rel} (h : ∀ a b, a < n → b < n → f a b = g a b) (a b : Int) : leastR n f a b = leastR n g a b := by
  funext c
  unfold leastR badR boundR
  simp only [flowsR_congr h]
theorem joinR_congr {n : Nat} {f g : Rel} (h : ∀ a b, a < n → b < n → f a b = g a b) (a b : Int) : joinR n f a b = joinR n g a b := by
  unfold joinR
  rw [leastR_congr h]
/-- an order, as far as the document's join asks -/
structure Pre (n : Nat) (u : Nat → BitVec 8) : Prop where
  le8 : n ≤ 8
  refl : ∀ a, a < n → bt u a a = true
  trans : ∀ a b c, bt u a b = true → bt u b c = true → bt u a c = true
  rng : ∀ a b, bt u a b = true → a < n ∧ b < n
theorem pre_up {n : Nat} {ps : List (Int × Int)} (h8 : n ≤ 8) (hp : ps.all (okP n) = true) : Pre n (up n ps) :=
  ⟨h8, fun _ ha => up_refl h8 ha, fun a b c hab hbc => clo_trans _ a b c (by have := (up_rng h8 hp hab).1; omega) (by have := (up_rng h8 hp hab).2; omega) hab hbc, fun _ _ h => up_rng h8 hp h⟩
theorem Pre.down {n : Nat} {u : Nat → BitVec 8} (h : Pre n u) : Pre n (down n u) := by
  have h8 := h.le8
  refine ⟨h8, fun a ha => ?_, fun a b c hab hbc => ?_, fun a b hab => ?_⟩
  · rw [down_bt h8, h.refl a ha]; simp [ha]
  · rw [down_bt h8] at hab hbc ⊢
    simp only [Bool.and_eq_true, decide_eq_true_eq] at hab hbc ⊢
    exact ⟨⟨hab.1.1, hbc.1.2⟩, h.trans _ _ _ hbc.2 hab.2⟩
  · rw [down_bt h8] at hab
    simp only [Bool.and_eq_true, decide_eq_true_eq] at hab
    exact hab.1
theorem flowsR_in {n : Nat} {f : Rel} {a b : Nat} (ha : a < n) (hb : b < n) : flowsR n f a b = f a b := by
  unfold flowsR
  rw [decide_eq_true (by omega), Bool.true_and]
  rfl
theorem flowsR_out {n : Nat} {f : Rel} {a b : Int} (h : ¬ (0 ≤ a ∧ a < n ∧ 0 ≤ b ∧ b < n)) : flowsR n f a b = false := by
  unfold flowsR
  rw [decide_eq_false h, Bool.false_and]
theorem least_iff {n : Nat} {u : Nat → BitVec 8} (h : Pre n u) {a b c : Nat} (ha : a < n) (hb : b < n) (hc : c < n) : leastR n (bt u) a b c = decide (u c = u a &&& u b) := by
  have h8 := h.le8
  rw [Bool.eq_iff_iff, decide_eq_true_eq]
  unfold leastR badR boundR
  rw [Bool.and_eq_true, List.all_eq_true, flowsR_in ha hc, flowsR_in hb hc, Bool.and_eq_true]
  constructor
  · rintro ⟨⟨h1, h2⟩, h3⟩
    apply ext_bt
    intro x _
    rw [BitVec.getLsbD_and, Bool.eq_iff_iff, Bool.and_eq_true]
    constructor
    · intro hx
      exact ⟨h.trans _ _ _ h1 hx, h.trans _ _ _ h2 hx⟩
    · rintro ⟨x1, x2⟩
      have hx := (h.rng _ _ x1).2
      have := h3 x (List.mem_range.2 hx)
      rw [flowsR_in ha hx, flowsR_in hb hx, flowsR_in hc hx] at this
      change bt u a x = true at x1
      change bt u b x = true at x2
      rw [x1, x2] at this
      simpa using this
  · intro e
    have hbit : ∀ x, bt u c x = (bt u a x && bt u b x) := fun x => by
      unfold bt
      rw [e, BitVec.getLsbD_and]
    have hcc := h.refl c hc
    rw [hbit, Bool.and_eq_true] at hcc
    refine ⟨hcc, fun d hd => ?_⟩
    have hd := List.mem_range.1 hd
    rw [flowsR_in ha hd, flowsR_in hb hd, flowsR_in hc hd, hbit]
    cases bt u a d && bt u b d <;> rfl
theorem joinR_is {n : Nat} {u : Nat → BitVec 8} (h : Pre n u) (a b : Int) : joinR n (bt u) a b = joinF n u a b := by
  by_cases hr : 0 ≤ a ∧ a < n ∧ 0 ≤ b ∧ b < n
  · obtain ⟨x, rfl⟩ := Int.eq_ofNat_of_zero_le hr.1
    obtain ⟨y, rfl⟩ := Int.eq_ofNat_of_zero_le hr.2.2.1
    have hx : x < n := by omega
    have hy : y < n := by omega
    rw [joinF_in hx hy]
    rcases endF_cases n u (u x &&& u y) with ⟨e, hn⟩ | ⟨k, hk, e, he⟩
    · rw [e]
      exact joinR_miss fun c hc => by rw [least_iff h hx hy hc]; exact decide_eq_false (hn c hc)
    · unfold joinR endF
      have : ∀ l : List Nat, (∀ c ∈ l, c < n) → l.find? (leastR n (bt u) x y) = l.find? fun c => u c == u x &&& u y := by
        intro l
        induction l with
        | nil => intro _; rfl
        | cons c l ih =>
          intro hl
          rw [List.find?_cons, List.find?_cons, ih fun c hc => hl c (List.mem_cons_of_mem _ hc)]
          have h1 : leastR n (bt u) x y c = (u c == u x &&& u y) := by
            rw [least_iff h hx hy (hl c List.mem_cons_self)]
            rfl
          rw [h1]
      rw [this _ fun c hc => List.mem_range.1 hc]
  · have h1 : joinF n u a b = -1 := by unfold joinF; rw [if_neg hr]
    rw [h1]
    refine joinR_miss fun c _ => ?_
    unfold leastR boundR
    by_cases ha : 0 ≤ a ∧ a < n
    · rw [flowsR_out (a := b) (by omega), Bool.and_false, Bool.false_and]
    · rw [flowsR_out (a := a) (by omega), Bool.false_and, Bool.false_and]
theorem meetR_is {n : Nat} {u : Nat → BitVec 8} (h : Pre n u) (a b : Int) : joinR n (fun x y => bt u y x) a b = joinF n (down n u) a b := by
  rw [← joinR_is h.down]
  refine joinR_congr (fun x y hx hy => ?_) a b
  rw [down_bt h.le8]
  simp [hx, hy]

/-! ### passing on -/
def setR (f : Rel) (a c : Nat) : Rel := fun i j => if i = a ∧ j = c then true else f i j
theorem setR_le {f : Rel} {a c i j : Nat} (h : f i j = true) : setR f a c i j = true := by
  unfold setR
  split
  · rfl
  · exact h
def Lo (n : Nat) (ps : List (Int × Int)) (f : Rel) : Prop := (∀ a, a < n → f a a = true) ∧ ∀ p ∈ ps, f p.1.toNat p.2.toNat = true
def Hi (n : Nat) (u : Nat → BitVec 8) (f : Rel) : Prop := ∀ a b, a < n → b < n → f a b = true → bt u a b = true
theorem Lo.set {n : Nat} {ps : List (Int × Int)} {f : Rel} (h : Lo n ps f) (a c : Nat) : Lo n ps (setR f a c) := ⟨fun x hx => setR_le (h.1 x hx), fun p hp => setR_le (h.2 p hp)⟩
theorem Hi.set {n : Nat} {u : Nat → BitVec 8} {f : Rel} (h : Hi n u f) {a c : Nat} (hac : bt u a c = true) : Hi n u (setR f a c) := fun x y hx hy hxy => by
  unfold setR at hxy
  split at hxy
  · rename_i e; rw [e.1, e.2]; exact hac
  · exact h x y hx hy hxy
/-- what follows is there already, for all threes ahead of a, b, c -/
def TrTo (n : Nat) (f : Rel) (a b c : Nat) : Prop := ∀ x y z, x < n → y < n → z < n → (x < a ∨ (x = a ∧ (y < b ∨ (y = b ∧ z < c)))) → f x y = true → f y z = true → f x z = true
theorem TrTo.start (n : Nat) (f : Rel) : TrTo n f 0 0 0 := fun x y z _ _ _ h => by omega
theorem TrTo.next {n : Nat} {f : Rel} {a b c : Nat} (h : TrTo n f a b c) (hq : f a b = true → f b c = true → f a c = true) : TrTo n f a b (c + 1) := fun x y z hx hy hz hl h1 h2 => by
  by_cases e : x = a ∧ y = b ∧ z = c
  · obtain ⟨rfl, rfl, rfl⟩ := e
    exact hq h1 h2
  · exact h x y z hx hy hz (by omega) h1 h2
theorem TrTo.row {n : Nat} {f : Rel} {a b : Nat} (h : TrTo n f a b n) : TrTo n f a (b + 1) 0 := fun x y z hx hy hz hl h1 h2 => h x y z hx hy hz (by omega) h1 h2
theorem TrTo.col {n : Nat} {f : Rel} {a : Nat} (h : TrTo n f a n 0) : TrTo n f (a + 1) 0 0 := fun x y z hx hy hz hl h1 h2 => h x y z hx hy hz (by omega) h1 h2
/-- how many still don't flow -/
def cntR (n : Nat) (f : Rel) : Nat := ((List.range (n * n)).filter fun k => !f (k / n) (k % n)).length
theorem cnt_set {n : Nat} {f : Rel} {a c : Nat} (ha : a < n) (hc : c < n) (h : f a c = false) : cntR n (setR f a c) < cntR n f := by
  unfold cntR
  have hk : (a * n + c) / n = a := by rw [Nat.mul_comm, Nat.mul_add_div (by omega), Nat.div_eq_of_lt hc]; rfl
  have hm : (a * n + c) % n = c := by rw [Nat.mul_comm, Nat.mul_add_mod, Nat.mod_eq_of_lt hc]
  refine between.sub_lt (x := a * n + c) (fun y hy => ?_) ⟨?_, ?_⟩ ?_
  · cases hf : f (y / n) (y % n) with
    | false => rfl
    | true => rw [setR_le hf] at hy; exact hy
  · have : (a + 1) * n ≤ n * n := Nat.mul_le_mul_right _ (by omega)
    rw [Nat.add_mul] at this
    omega
  · rw [hk, hm, h]; rfl
  · rw [hk, hm]
    unfold setR
    rw [if_pos ⟨rfl, rfl⟩]
    rfl
theorem closed_is {n : Nat} {ps : List (Int × Int)} {f : Rel} (h8 : n ≤ 8) (hp : ps.all (okP n) = true) (hl : Lo n ps f) (hh : Hi n (up n ps) f) (ht : TrTo n f n 0 0) : ∀ a b, a < n → b < n → f a b = bt (up n ps) a b := by
  intro a b ha hb
  rw [Bool.eq_iff_iff]
  refine ⟨hh a b ha hb, fun h => ?_⟩
  have hle : Le (up n ps) (fun a => ofB fun b => decide (a < n ∧ b < n) && f a b) := by
    refine up_least h8 hp ?_ ?_ ?_
    · intro x y z _ hy hxy hyz
      have hz : z < 8 := BitVec.lt_of_getLsbD hyz
      rw [ofB_bit _ hy, Bool.and_eq_true, decide_eq_true_eq] at hxy
      rw [ofB_bit _ hz, Bool.and_eq_true, decide_eq_true_eq] at hyz
      rw [ofB_bit _ hz, Bool.and_eq_true, decide_eq_true_eq]
      exact ⟨⟨hxy.1.1, hyz.1.2⟩, ht x y z hxy.1.1 hyz.1.1 hyz.1.2 (by omega) hxy.2 hyz.2⟩
    · intro x hx
      rw [mk_bt _ (by omega), Bool.and_eq_true, decide_eq_true_eq]
      exact ⟨⟨hx, hx⟩, hl.1 x hx⟩
    · intro p hq
      have := pair_lt hp hq
      rw [mk_bt _ (by omega), Bool.and_eq_true, decide_eq_true_eq]
      exact ⟨⟨this.2.1, this.2.2.2⟩, hl.2 p hq⟩
  have := hle _ _ h
  rw [ofB_bit _ (by omega), Bool.and_eq_true] at this
  exact this.2
/-- what the document finds amiss -/
theorem loop_is {n : Nat} {u : Nat → BitVec 8} (h : Pre n u) {a : Nat} (ha : a < n) : loopBad n u (down n u) a = (List.range n).any fun b => decide (a ≠ b) && (bt u a b && bt u b a) := by
  have h1 := loop_iff h.le8 h.rng ha
  cases hb : loopBad n u (down n u) a with
  | false =>
    have := h1.1 hb
    symm
    rw [List.any_eq_false]
    intro b hbn
    rw [this b (List.mem_range.1 hbn)]
    by_cases e : a = b <;> simp [e]
  | true =>
    symm
    rw [List.any_eq_true]
    apply Classical.byContradiction
    intro hn
    have hx : loopBad n u (down n u) a = false := h1.2 fun x hx => by
      by_cases e : a = x
      · subst e
        rw [h.refl a ha]
        simp
      · rw [decide_eq_false e]
        cases hq : (bt u a x && bt u x a) with
        | false => rfl
        | true => exact absurd ⟨x, List.mem_range.2 hx, by rw [hq]; simp [e]⟩ hn
    rw [hb] at hx
    cases hx
end Go.Proofs.Ytchdalicoafamaa.Lat
