/-
  Sets of levels as rows of eight bits, plainly: the pass that the code makes till nothing changes, what it comes to, and the search for a level by its set; no program is in sight.
-/
namespace Go.Proofs.Ytchdalicoafamaa.Lat

/-- row a of u is x -/
def upd (u : Nat → BitVec 8) (a : Nat) (x : BitVec 8) : Nat → BitVec 8 := fun i => if i = a then x else u i
theorem upd_same (u : Nat → BitVec 8) (a : Nat) (x : BitVec 8) : upd u a x a = x := by simp [upd]
theorem upd_other (u : Nat → BitVec 8) {a i : Nat} (x : BitVec 8) (h : i ≠ a) : upd u a x i = u i := by simp [upd, h]
theorem upd_self (u : Nat → BitVec 8) (a : Nat) : upd u a (u a) = u := by
  funext i; unfold upd; split <;> simp_all

/-- one step: what b flows to a flows to, if a flows to b -/
def stp (u : Nat → BitVec 8) (a b : Nat) : Nat → BitVec 8 := if (u a).getLsbD b then upd u a (u a ||| u b) else u
def rowTo (u : Nat → BitVec 8) (a : Nat) : Nat → Nat → BitVec 8
  | 0 => u
  | b + 1 => stp (rowTo u a b) a b
def passTo (u : Nat → BitVec 8) : Nat → Nat → BitVec 8
  | 0 => u
  | a + 1 => rowTo (passTo u a) a 8
def pass (u : Nat → BitVec 8) : Nat → BitVec 8 := passTo u 8
def passN : Nat → (Nat → BitVec 8) → Nat → BitVec 8
  | 0, u => u
  | k + 1, u => pass (passN k u)
/-- what it comes to -/
def clo (u : Nat → BitVec 8) : Nat → BitVec 8 := passN 2048 u

/-! ### it grows -/
def Le (u v : Nat → BitVec 8) : Prop := ∀ i b, (u i).getLsbD b = true → (v i).getLsbD b = true
theorem Le.refl (u : Nat → BitVec 8) : Le u u := fun _ _ h => h
theorem Le.trans {u v w : Nat → BitVec 8} (h : Le u v) (k : Le v w) : Le u w := fun i b x => k i b (h i b x)
theorem Le.antisymm {u v : Nat → BitVec 8} (h : Le u v) (k : Le v u) : u = v := by
  funext i
  apply BitVec.eq_of_getLsbD_eq
  intro b _
  rw [Bool.eq_iff_iff]
  exact ⟨h i b, k i b⟩
theorem le_upd {u : Nat → BitVec 8} {a : Nat} {x : BitVec 8} : Le u (upd u a (u a ||| x)) := by
  intro i b h
  unfold upd
  split
  · rename_i e; subst e; simp [h]
  · exact h
theorem le_stp (u : Nat → BitVec 8) (a b : Nat) : Le u (stp u a b) := by
  unfold stp; split
  · exact le_upd
  · exact Le.refl u
theorem le_rowTo (u : Nat → BitVec 8) (a : Nat) : ∀ b, Le u (rowTo u a b)
  | 0 => Le.refl u
  | b + 1 => (le_rowTo u a b).trans (le_stp _ a b)
theorem rowTo_mono (u : Nat → BitVec 8) (a : Nat) {b c : Nat} (h : b ≤ c) : Le (rowTo u a b) (rowTo u a c) := by
  induction c with
  | zero => have : b = 0 := by omega
            subst this; exact Le.refl _
  | succ c ih =>
    by_cases e : b = c + 1
    · subst e; exact Le.refl _
    · exact (ih (by omega)).trans (le_stp _ a c)
theorem le_passTo (u : Nat → BitVec 8) : ∀ a, Le u (passTo u a)
  | 0 => Le.refl u
  | a + 1 => (le_passTo u a).trans (le_rowTo _ a 8)
theorem passTo_mono (u : Nat → BitVec 8) {b c : Nat} (h : b ≤ c) : Le (passTo u b) (passTo u c) := by
  induction c with
  | zero => have : b = 0 := by omega
            subst this; exact Le.refl _
  | succ c ih =>
    by_cases e : b = c + 1
    · subst e; exact Le.refl _
    · exact (ih (by omega)).trans (le_rowTo _ c 8)
theorem le_pass (u : Nat → BitVec 8) : Le u (pass u) := le_passTo u 8

/-! ### where it stands still all follows -/
def Trans (u : Nat → BitVec 8) : Prop := ∀ a b c, a < 8 → b < 8 → (u a).getLsbD b = true → (u b).getLsbD c = true → (u a).getLsbD c = true

theorem stp_of_trans {u : Nat → BitVec 8} (h : Trans u) {a b : Nat} (ha : a < 8) (hb : b < 8) : stp u a b = u := by
  unfold stp
  split
  · rename_i hab
    have e : u a ||| u b = u a := by
      apply BitVec.eq_of_getLsbD_eq
      intro c _
      rw [BitVec.getLsbD_or]
      cases hc : (u b).getLsbD c
      · simp
      · rw [h a b c ha hb hab hc]; rfl
    rw [e, upd_self]
  · rfl
theorem rowTo_of_trans {u : Nat → BitVec 8} (h : Trans u) {a : Nat} (ha : a < 8) : ∀ b, b ≤ 8 → rowTo u a b = u
  | 0, _ => rfl
  | b + 1, hb => by
    show stp (rowTo u a b) a b = u
    rw [rowTo_of_trans h ha b (by omega), stp_of_trans h ha (by omega)]
theorem passTo_of_trans {u : Nat → BitVec 8} (h : Trans u) : ∀ a, a ≤ 8 → passTo u a = u
  | 0, _ => rfl
  | a + 1, ha => by
    show rowTo (passTo u a) a 8 = u
    rw [passTo_of_trans h a (by omega), rowTo_of_trans h (by omega) 8 (by omega)]
theorem pass_of_trans {u : Nat → BitVec 8} (h : Trans u) : pass u = u := passTo_of_trans h 8 (by omega)

theorem trans_of_pass {u : Nat → BitVec 8} (h : pass u = u) : Trans u := by
  intro a b c ha hb hab hbc
  have h1 : passTo u a = u := Le.antisymm (by have := passTo_mono u (show a ≤ 8 by omega); rw [show passTo u 8 = u from h] at this; exact this) (le_passTo u a)
  have h2 : rowTo u a 8 = u := by
    have h3 : Le (passTo u (a + 1)) u := by have := passTo_mono u (show a + 1 ≤ 8 by omega); rw [show passTo u 8 = u from h] at this; exact this
    have h4 : passTo u (a + 1) = rowTo u a 8 := by show rowTo (passTo u a) a 8 = _; rw [h1]
    rw [h4] at h3
    exact Le.antisymm h3 (le_rowTo u a 8)
  have h5 : rowTo u a b = u := Le.antisymm (by have := rowTo_mono u a (show b ≤ 8 by omega); rw [h2] at this; exact this) (le_rowTo u a b)
  have h6 : stp u a b = u := by
    have h7 : Le (rowTo u a (b + 1)) u := by have := rowTo_mono u a (show b + 1 ≤ 8 by omega); rw [h2] at this; exact this
    have h8 : rowTo u a (b + 1) = stp u a b := by show stp (rowTo u a b) a b = _; rw [h5]
    rw [h8] at h7
    exact Le.antisymm h7 (le_stp u a b)
  unfold stp at h6
  rw [if_pos hab] at h6
  have h9 := congrFun h6 a
  rw [upd_same] at h9
  rw [← h9, BitVec.getLsbD_or, hbc]
  simp

theorem stp_le {u t : Nat → BitVec 8} (h : Le u t) (ht : Trans t) {a b : Nat} (ha : a < 8) (hb : b < 8) : Le (stp u a b) t := by
  unfold stp
  split
  · rename_i hab
    intro i c hc
    unfold upd at hc
    split at hc
    · rename_i e; subst e
      rw [BitVec.getLsbD_or] at hc
      cases h1 : (u i).getLsbD c
      · rw [h1] at hc
        exact ht i b c ha hb (h i b hab) (h b c (by simpa using hc))
      · exact h i c h1
    · exact h i c hc
  · exact h
theorem rowTo_le {u t : Nat → BitVec 8} (h : Le u t) (ht : Trans t) {a : Nat} (ha : a < 8) : ∀ b, b ≤ 8 → Le (rowTo u a b) t
  | 0, _ => h
  | b + 1, hb => stp_le (rowTo_le h ht ha b (by omega)) ht ha (by omega)
theorem passTo_le {u t : Nat → BitVec 8} (h : Le u t) (ht : Trans t) : ∀ a, a ≤ 8 → Le (passTo u a) t
  | 0, _ => h
  | a + 1, ha => rowTo_le (passTo_le h ht a (by omega)) ht (by omega) 8 (by omega)
theorem passN_le {u t : Nat → BitVec 8} (h : Le u t) (ht : Trans t) : ∀ k, Le (passN k u) t
  | 0 => h
  | k + 1 => passTo_le (passN_le h ht k) ht 8 (by omega)
theorem le_passN (u : Nat → BitVec 8) : ∀ k, Le u (passN k u)
  | 0 => Le.refl u
  | k + 1 => (le_passN u k).trans (le_pass _)

/-! ### it comes to an end -/
def weight (u : Nat → BitVec 8) : Nat := (u 0).toNat + (u 1).toNat + (u 2).toNat + (u 3).toNat + (u 4).toNat + (u 5).toNat + (u 6).toNat + (u 7).toNat
theorem weight_le (u : Nat → BitVec 8) : weight u ≤ 2040 := by
  have h := fun i => (u i).isLt
  have h0 := h 0; have h1 := h 1; have h2 := h 2; have h3 := h 3; have h4 := h 4; have h5 := h 5; have h6 := h 6; have h7 := h 7
  unfold weight; omega
theorem toNat_le {x y : BitVec 8} (h : ∀ b, x.getLsbD b = true → y.getLsbD b = true) : x.toNat ≤ y.toNat := by
  have e : x ||| y = y := by
    apply BitVec.eq_of_getLsbD_eq
    intro b _
    rw [BitVec.getLsbD_or]
    cases hx : x.getLsbD b
    · simp
    · rw [h b hx]; rfl
  rw [← e, BitVec.toNat_or]
  exact Nat.left_le_or
/-- rows beyond the eighth are left alone -/
theorem stp_beyond (u : Nat → BitVec 8) {a b i : Nat} (ha : a < 8) (hi : 8 ≤ i) : stp u a b i = u i := by
  unfold stp; split
  · exact upd_other u _ (by omega)
  · rfl
theorem rowTo_beyond (u : Nat → BitVec 8) {a i : Nat} (ha : a < 8) (hi : 8 ≤ i) : ∀ b, rowTo u a b i = u i
  | 0 => rfl
  | b + 1 => by show stp (rowTo u a b) a b i = _; rw [stp_beyond _ ha hi, rowTo_beyond u ha hi b]
theorem passTo_beyond (u : Nat → BitVec 8) {i : Nat} (hi : 8 ≤ i) : ∀ a, a ≤ 8 → passTo u a i = u i
  | 0, _ => rfl
  | a + 1, ha => by show rowTo (passTo u a) a 8 i = _; rw [rowTo_beyond _ (by omega) hi, passTo_beyond u hi a (by omega)]
theorem pass_ext {u : Nat → BitVec 8} (h : ∀ i, i < 8 → pass u i = u i) : pass u = u := by
  funext i
  by_cases hi : i < 8
  · exact h i hi
  · exact passTo_beyond u (by omega) 8 (by omega)
theorem weight_pass {u : Nat → BitVec 8} (h : pass u ≠ u) : weight u < weight (pass u) := by
  have hle : ∀ i, (u i).toNat ≤ (pass u i).toNat := fun i => toNat_le (le_pass u i)
  have hne : ∃ i, i < 8 ∧ (u i).toNat ≠ (pass u i).toNat := by
    apply Classical.byContradiction
    intro hn
    apply h
    apply pass_ext
    intro i hi
    apply BitVec.eq_of_toNat_eq
    apply Classical.byContradiction
    intro h2
    exact hn ⟨i, hi, fun e => h2 e.symm⟩
  obtain ⟨i, hi, hn⟩ := hne
  have h0 := hle 0; have h1 := hle 1; have h2 := hle 2; have h3 := hle 3; have h4 := hle 4; have h5 := hle 5; have h6 := hle 6; have h7 := hle 7
  unfold weight
  match i, hi with
  | 0, _ => omega
  | 1, _ => omega
  | 2, _ => omega
  | 3, _ => omega
  | 4, _ => omega
  | 5, _ => omega
  | 6, _ => omega
  | 7, _ => omega

theorem passN_stays {u : Nat → BitVec 8} {k : Nat} (h : pass (passN k u) = passN k u) : ∀ j, passN (k + j) u = passN k u
  | 0 => rfl
  | j + 1 => by show pass (passN (k + j) u) = _; rw [passN_stays h j, h]
theorem weight_passN (u : Nat → BitVec 8) : ∀ k, (∀ j, j < k → pass (passN j u) ≠ passN j u) → k ≤ weight (passN k u)
  | 0, _ => Nat.zero_le _
  | k + 1, h => by
    have h1 := weight_passN u k (fun j hj => h j (by omega))
    have h2 := weight_pass (h k (by omega))
    show k + 1 ≤ weight (pass (passN k u))
    omega
theorem clo_fixed (u : Nat → BitVec 8) : pass (clo u) = clo u := by
  apply Classical.byContradiction
  intro hn
  have : ∀ j, j < 2048 → pass (passN j u) ≠ passN j u := by
    intro j hj e
    have e2 := passN_stays e (2048 - j)
    rw [show j + (2048 - j) = 2048 by omega] at e2
    apply hn
    show pass (passN 2048 u) = passN 2048 u
    rw [e2, e]
  have h1 := weight_passN u 2048 this
  have h2 := weight_le (passN 2048 u)
  omega
theorem clo_of_fixed {u : Nat → BitVec 8} {k : Nat} (h : pass (passN k u) = passN k u) : passN k u = clo u := by
  by_cases hk : k ≤ 2048
  · have := passN_stays h (2048 - k)
    rw [show k + (2048 - k) = 2048 by omega] at this
    exact this.symm
  · have := passN_stays (k := 2048) (clo_fixed u) (k - 2048)
    rw [show 2048 + (k - 2048) = k by omega] at this
    exact this
theorem clo_trans (u : Nat → BitVec 8) : Trans (clo u) := trans_of_pass (clo_fixed u)
theorem le_clo (u : Nat → BitVec 8) : Le u (clo u) := le_passN u 2048
theorem clo_le {u t : Nat → BitVec 8} (h : Le u t) (ht : Trans t) : Le (clo u) t := passN_le h ht 2048
theorem clo_of_trans {u : Nat → BitVec 8} (h : Trans u) : clo u = u := (clo_of_fixed (k := 0) (u := u) (pass_of_trans h)).symm

/-! ### the search for a level by its set; what a lattice answers -/
def endF (n : Nat) (s : Nat → BitVec 8) (x : BitVec 8) : Int := ((List.range n).find? fun c => s c == x).elim (-1) (fun c => (c : Int))
theorem endF_hit {n : Nat} {s : Nat → BitVec 8} {x : BitVec 8} {k : Nat} (hk : k < n) (h : s k = x) (hn : ∀ c, c < k → s c ≠ x) : endF n s x = (k : Int) := by
  have : (List.range n).find? (fun c => s c == x) = some k := by
    rw [List.find?_range_eq_some]
    refine ⟨by simp [h], by simpa using hk, fun c hc => by simpa using hn c hc⟩
  unfold endF
  rw [this]
  rfl
theorem endF_miss {n : Nat} {s : Nat → BitVec 8} {x : BitVec 8} (hn : ∀ c, c < n → s c ≠ x) : endF n s x = -1 := by
  have : (List.range n).find? (fun c => s c == x) = none := by
    rw [List.find?_eq_none]
    intro c hc
    simpa using hn c (by simpa using hc)
  unfold endF
  rw [this]
  rfl
theorem endF_cases (n : Nat) (s : Nat → BitVec 8) (x : BitVec 8) : (endF n s x = -1 ∧ ∀ c, c < n → s c ≠ x) ∨ ∃ k, k < n ∧ endF n s x = (k : Int) ∧ s k = x := by
  cases h : (List.range n).find? (fun c => s c == x) with
  | none =>
    left
    refine ⟨by unfold endF; rw [h]; rfl, fun c hc => ?_⟩
    rw [List.find?_eq_none] at h
    simpa using h c (by simpa using hc)
  | some k =>
    right
    rw [List.find?_range_eq_some] at h
    exact ⟨k, by simpa using h.2.1, by unfold endF; rw [show (List.range n).find? (fun c => s c == x) = some k from by rw [List.find?_range_eq_some]; exact h]; rfl, by simpa using h.1⟩
/-- are both levels, and does a flow to b? -/
def flowsB (n : Nat) (u : Nat → BitVec 8) (a b : Int) : Bool := decide (0 ≤ a ∧ a < n ∧ 0 ≤ b ∧ b < n) && (u a.toNat).getLsbD b.toNat
/-- the level whose set is what the two have in common -/
def joinF (n : Nat) (s : Nat → BitVec 8) (a b : Int) : Int := if 0 ≤ a ∧ a < n ∧ 0 ≤ b ∧ b < n then endF n s (s a.toNat &&& s b.toNat) else -1
/-- the set of all levels -/
def allF (n : Nat) : BitVec 8 := (1#8 <<< n) - 1#8

/-! ### the pairs that a lattice tells -/
/-- the set of just one level -/
def one (a : Nat) : BitVec 8 := 1#8 <<< a
/-- does a flow to b with none between? -/
def pairB (u d : Nat → BitVec 8) (a b : Nat) : Bool := decide (a ≠ b) && decide (u a &&& d b = one a ||| one b)
def rowPairs (u d : Nat → BitVec 8) (a k : Nat) : List (Nat × Nat) := ((List.range k).filter (pairB u d a)).map fun b => (a, b)
def pairsTo (n : Nat) (u d : Nat → BitVec 8) (k : Nat) : List (Nat × Nat) := (List.range k).flatMap fun a => rowPairs u d a n
theorem rowPairs_yes {u d : Nat → BitVec 8} {a k : Nat} (h : pairB u d a k = true) : rowPairs u d a (k + 1) = rowPairs u d a k ++ [(a, k)] := by
  simp [rowPairs, List.range_succ, List.filter_append, h]
theorem rowPairs_no {u d : Nat → BitVec 8} {a k : Nat} (h : pairB u d a k = false) : rowPairs u d a (k + 1) = rowPairs u d a k := by
  simp [rowPairs, List.range_succ, List.filter_append, h]
theorem pairsTo_succ (n : Nat) (u d : Nat → BitVec 8) (k : Nat) : pairsTo n u d (k + 1) = pairsTo n u d k ++ rowPairs u d k n := by
  simp [pairsTo, List.range_succ]
theorem rowPairs_le (u d : Nat → BitVec 8) (a k : Nat) : (rowPairs u d a k).length ≤ k := by
  unfold rowPairs
  have := List.length_filter_le (pairB u d a) (List.range k)
  simpa using this
theorem pairsTo_le (n : Nat) (u d : Nat → BitVec 8) : ∀ k, (pairsTo n u d k).length ≤ k * n
  | 0 => by simp [pairsTo]
  | k + 1 => by
    rw [pairsTo_succ, List.length_append, Nat.add_mul]
    have := pairsTo_le n u d k
    have := rowPairs_le u d k n
    omega

/-! ### how a lattice is made of pairs -/
def zero : Nat → BitVec 8 := fun _ => 0#8
def initTo : Nat → Nat → BitVec 8
  | 0 => zero
  | k + 1 => upd (initTo k) k (one k)
/-- one pair more -/
def addP (u : Nat → BitVec 8) (p : Int × Int) : Nat → BitVec 8 := upd u p.1.toNat (u p.1.toNat ||| one p.2.toNat)
def addTo (u : Nat → BitVec 8) (ps : List (Int × Int)) : Nat → BitVec 8 := ps.foldl addP u
/-- what the pairs of n levels come to -/
def up (n : Nat) (ps : List (Int × Int)) : Nat → BitVec 8 := clo (addTo (initTo n) ps)
def dStp (c d : Nat → BitVec 8) (a b : Nat) : Nat → BitVec 8 := if (c a).getLsbD b then upd d b (d b ||| one a) else d
def dRow (c d : Nat → BitVec 8) (a : Nat) : Nat → Nat → BitVec 8
  | 0 => d
  | b + 1 => dStp c (dRow c d a b) a b
def dTo (n : Nat) (c : Nat → BitVec 8) : Nat → Nat → BitVec 8
  | 0 => zero
  | a + 1 => dRow c (dTo n c a) a n
/-- of each level the set of those that flow to it -/
def down (n : Nat) (c : Nat → BitVec 8) : Nat → BitVec 8 := dTo n c n
def okP (n : Int) (p : Int × Int) : Bool := decide (0 ≤ p.1 ∧ p.1 < n ∧ 0 ≤ p.2 ∧ p.2 < n)
def loopBad (_n : Nat) (c d : Nat → BitVec 8) (a : Nat) : Bool := decide (c a &&& d a ≠ one a)
def joinBad (n : Nat) (c d : Nat → BitVec 8) (a b : Nat) : Bool := decide (joinF n c a b < 0 ∨ joinF n d a b < 0)
/-- the error of New; 0: none -/
def newE (n : Int) (ps : List (Int × Int)) : Int :=
  if n < 1 ∨ 8 < n ∨ 64 < ps.length then 40
  else if ps.all (okP n) = false then 41
  else if (List.range n.toNat).any (loopBad n.toNat (up n.toNat ps) (down n.toNat (up n.toNat ps))) then 42
  else if (List.range n.toNat).any (fun a => (List.range n.toNat).any (joinBad n.toNat (up n.toNat ps) (down n.toNat (up n.toNat ps)) a)) then 43
  else 0

theorem newE_size {n : Int} {ps : List (Int × Int)} (h : n < 1 ∨ 8 < n ∨ 64 < ps.length) : newE n ps = 40 := by
  unfold newE; rw [if_pos h]
theorem newE_pair {n : Int} {ps : List (Int × Int)} (h : ¬ (n < 1 ∨ 8 < n ∨ 64 < ps.length)) {k : Nat} (hk : k < ps.length) (hb : okP n (ps.getD k (0, 0)) = false) : newE n ps = 41 := by
  unfold newE
  rw [if_neg h, if_pos]
  rw [← Bool.not_eq_true, List.all_eq_true]
  intro ha
  have hm : ps.getD k (0, 0) ∈ ps := by
    rw [List.getD_eq_getElem?_getD, List.getElem?_eq_getElem hk]
    exact List.getElem_mem hk
  rw [ha _ hm] at hb
  cases hb
theorem newE_loop {n : Nat} {ps : List (Int × Int)} (h : ¬ ((n : Int) < 1 ∨ 8 < (n : Int) ∨ 64 < ps.length)) (hp : ps.all (okP n) = true) {a : Nat} (ha : a < n) (hb : loopBad n (up n ps) (down n (up n ps)) a = true) : newE n ps = 42 := by
  unfold newE
  rw [if_neg h, if_neg (by rw [hp]; decide), Int.toNat_natCast, if_pos]
  rw [List.any_eq_true]
  exact ⟨a, List.mem_range.2 ha, hb⟩
theorem any_false {n : Nat} {p : Nat → Bool} (h : ∀ a, a < n → p a = false) : (List.range n).any p = false := by
  rw [List.any_eq_false]
  intro a ha
  rw [h a (List.mem_range.1 ha)]
  decide
theorem newE_join {n : Nat} {ps : List (Int × Int)} (h : ¬ ((n : Int) < 1 ∨ 8 < (n : Int) ∨ 64 < ps.length)) (hp : ps.all (okP n) = true) (hl : ∀ a, a < n → loopBad n (up n ps) (down n (up n ps)) a = false)
    {a b : Nat} (ha : a < n) (hb : b < n) (hj : joinBad n (up n ps) (down n (up n ps)) a b = true) : newE n ps = 43 := by
  unfold newE
  rw [if_neg h, if_neg (by rw [hp]; decide), Int.toNat_natCast, if_neg (by rw [any_false hl]; decide), if_pos]
  rw [List.any_eq_true]
  refine ⟨a, List.mem_range.2 ha, ?_⟩
  rw [List.any_eq_true]
  exact ⟨b, List.mem_range.2 hb, hj⟩
theorem newE_ok {n : Nat} {ps : List (Int × Int)} (h : ¬ ((n : Int) < 1 ∨ 8 < (n : Int) ∨ 64 < ps.length)) (hp : ps.all (okP n) = true) (hl : ∀ a, a < n → loopBad n (up n ps) (down n (up n ps)) a = false)
    (hj : ∀ a b, a < n → b < n → joinBad n (up n ps) (down n (up n ps)) a b = false) : newE n ps = 0 := by
  unfold newE
  rw [if_neg h, if_neg (by rw [hp]; decide), Int.toNat_natCast, if_neg (by rw [any_false hl]; decide), if_neg]
  rw [any_false]
  · decide
  · intro a ha
    exact any_false fun b hb => hj a b ha hb
theorem addTo_snoc (u : Nat → BitVec 8) (ps : List (Int × Int)) {k : Nat} (hk : k < ps.length) : addTo u (ps.take (k + 1)) = addP (addTo u (ps.take k)) (ps.getD k (0, 0)) := by
  rw [List.take_succ_eq_append_getElem hk]
  unfold addTo
  rw [List.foldl_append, List.getD_eq_getElem?_getD, List.getElem?_eq_getElem hk]
  rfl
theorem all_ok {n : Int} {ps : List (Int × Int)} (h : ∀ i, i < ps.length → okP n (ps.getD i (0, 0)) = true) : ps.all (okP n) = true := by
  rw [List.all_eq_true]
  intro p hp
  obtain ⟨i, hi, rfl⟩ := List.mem_iff_getElem.1 hp
  have := h i hi
  rwa [List.getD_eq_getElem?_getD, List.getElem?_eq_getElem hi] at this
end Go.Proofs.Ytchdalicoafamaa.Lat
