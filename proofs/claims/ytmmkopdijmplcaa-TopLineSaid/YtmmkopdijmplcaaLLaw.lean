/-
  The line's law, plainly: what was sent, turned, with noise below half a step on the first points, is near what was sent, turned; and turned back it says the bytes; no program is in sight.
-/
import Derived.Test.YtmmkopdijmplcaaLSend
import Derived.Test.YtmmkopdijmplcaaLNoise
import Derived.Laws.BitsLemmas
import Derived.Lib.Hide
set_option linter.unusedVariables false
set_option maxRecDepth 100000
namespace Go.Proofs.Ytmmkopdijmplcaa.ln
open Go.RowKit Base HH FF RH
theorem i64_and3 (n : Int) : bits .and .i64 n 3 = n % 4 := by
  have h3 : (BitVec.ofInt 64 3).toNat = 2 ^ 2 - 1 := by decide
  have key : (BitVec.ofInt 64 n &&& BitVec.ofInt 64 3).toNat = (n % ((2 ^ 64 : Nat) : Int)).toNat % 2 ^ 2 := by
    rw [BitVec.toNat_and, BitVec.toNat_ofInt, h3, Nat.and_two_pow_sub_one_eq_mod]
  show IntKind.i64.wrap ((BitVec.ofInt 64 n &&& BitVec.ofInt 64 3).toNat : Nat) = n % 4
  rw [key, IntKind.wrap_i64]
  omega
theorem turn_is (n : Int) : ∃ r : Nat, r < 4 ∧ bits .and .i64 n 3 = (r : Int) := ⟨(n % 4).toNat, by omega, by rw [i64_and3]; omega⟩
theorem turn_back : ∀ k : Nat, k < 4 → bits .and .i64 (-(k : Int)) 3 = (((4 - k) % 4 : Nat) : Int) := by decide +kernel
/-- a part that is taken for d, and turned about for 3 - d -/
def Near (x d : Nat) : Prop := d < 4 ∧ tk x = d ∧ tk (neg x) = 3 - d
theorem near_prt {d : Nat} (hd : d < 4) : Near (prt d) d := by
  obtain ⟨_, _, h1, h2⟩ := prt_is d hd
  obtain ⟨_, _, h3, _⟩ := prt_is (3 - d) (by omega)
  exact ⟨hd, h1, by rw [h2, h3]⟩
theorem near_sm {d k : Nat} (hd : d < 4) (hk : k < 1001) : Near (sm d k) d := ⟨hd, (sm_near hd hk).1, (sm_near hd hk).2⟩
def NearP (p : Nat × Nat) (q : Nat × Nat) : Prop := Near p.1 q.1 ∧ Near p.2 q.2
/-- parts turned by r quarters -/
def turnD (r : Nat) (p : Nat × Nat) : Nat × Nat := if r = 1 then (3 - p.2, p.1) else if r = 2 then (3 - p.1, 3 - p.2) else if r = 3 then (p.2, 3 - p.1) else p
theorem turnD_lt {r : Nat} {p : Nat × Nat} (h1 : p.1 < 4) (h2 : p.2 < 4) : (turnD r p).1 < 4 ∧ (turnD r p).2 < 4 := by
  unfold turnD
  repeat' split
  all_goals
    try simp only
    omega
theorem turn_prt {r : Nat} {d e : Nat} (h1 : d < 4) (h2 : e < 4) : turnP r (prt d, prt e) = (prt (turnD r (d, e)).1, prt (turnD r (d, e)).2) := by
  obtain ⟨_, _, _, n1⟩ := prt_is d h1
  obtain ⟨_, _, _, n2⟩ := prt_is e h2
  unfold turnP turnD
  repeat' split
  all_goals simp only [n1, n2]
/-- what a point is taken for, turned -/
theorem turn_tk {r : Nat} {p q : Nat × Nat} (h : NearP p q) : tk (turnP r p).1 = (turnD r q).1 ∧ tk (turnP r p).2 = (turnD r q).2 := by
  obtain ⟨⟨_, a1, a2⟩, ⟨_, b1, b2⟩⟩ := h
  unfold turnP turnD
  repeat' split
  all_goals exact ⟨by assumption, by assumption⟩
theorem turnD_back {r : Nat} {p : Nat × Nat} (hr : r < 4) (h1 : p.1 < 4) (h2 : p.2 < 4) : turnD ((4 - r) % 4) (turnD r p) = p := by
  obtain ⟨d, e⟩ := p
  simp only at h1 h2
  rcases (by omega : r = 0 ∨ r = 1 ∨ r = 2 ∨ r = 3) with rfl | rfl | rfl | rfl
  all_goals
    simp [turnD]
    try omega
/-- the parts of a byte -/
def byteD (b : UInt8) : List (Nat × Nat) := [(b.toNat / 64, b.toNat / 16 % 4), (b.toNat % 16 / 4, b.toNat % 4)]
def sendD (l : List UInt8) : List (Nat × Nat) := (3, 3) :: l.flatMap byteD
theorem sendL_D (l : List UInt8) : sendL l = (sendD l).map fun p => (prt p.1, prt p.2) := by
  unfold sendL sendD
  rw [List.map_cons]
  congr 1
  induction l with
  | nil => rfl
  | cons b r ih => rw [List.flatMap_cons, List.flatMap_cons, List.map_append, ih]; rfl
theorem sendD_length (l : List UInt8) : (sendD l).length = 1 + 2 * l.length := by
  have h := congrArg List.length (sendL_D l)
  rw [List.length_map, sendL_length] at h
  exact h.symm
theorem sendD_lt (l : List UInt8) : ∀ p ∈ sendD l, p.1 < 4 ∧ p.2 < 4 := by
  intro p hp
  unfold sendD at hp
  rcases List.mem_cons.1 hp with rfl | h
  · decide
  · obtain ⟨b, _, hb⟩ := List.mem_flatMap.1 h
    have := b.toNat_lt
    simp only [byteD, List.mem_cons, List.not_mem_nil, or_false] at hb
    rcases hb with rfl | rfl <;> (simp only; omega)
theorem sendD_get (l : List UInt8) (j : Nat) (hj : j < l.length) : (sendD l).getD (1 + 2 * j) (0, 0) = ((l.getD j 0).toNat / 64, (l.getD j 0).toNat / 16 % 4) ∧ (sendD l).getD (2 + 2 * j) (0, 0) = ((l.getD j 0).toNat % 16 / 4, (l.getD j 0).toNat % 4) := by
  unfold sendD
  rw [show 1 + 2 * j = (2 * j) + 1 from by omega, show 2 + 2 * j = (2 * j + 1) + 1 from by omega, List.getD_cons_succ, List.getD_cons_succ]
  induction l generalizing j with
  | nil => simp at hj
  | cons b r ih =>
    cases j with
    | zero => exact ⟨rfl, rfl⟩
    | succ j => exact ih j (by simpa using hj)
theorem getD_lt {l : List (Nat × Nat)} {j : Nat} (h : j < l.length) : l.getD j (0, 0) ∈ l := by
  rw [List.getD_eq_getElem?_getD, List.getElem?_eq_getElem h]
  exact List.getElem_mem h
theorem getD_map {l : List (Nat × Nat)} (f : Nat × Nat → Nat × Nat) {j : Nat} (h : j < l.length) : (l.map f).getD j (0, 0) = f (l.getD j (0, 0)) := by
  rw [List.getD_eq_getElem?_getD, List.getD_eq_getElem?_getD, List.getElem?_map, List.getElem?_eq_getElem h]
  rfl
theorem getD_mapTo (f : Nat → Nat × Nat → Nat × Nat) (xs : List (Nat × Nat)) (i j : Nat) (h : j < xs.length) : (mapTo f xs i).getD j (0, 0) = if j < i then f j (xs.getD j (0, 0)) else xs.getD j (0, 0) := by
  rw [List.getD_eq_getElem?_getD, mapTo_at f xs i j h]
  rfl
/-- what comes out of the line: sent, turned by r quarters, with noise on the first q points -/
def addF (ps : List (Int × Int)) (i : Nat) (p : Nat × Nat) : Nat × Nat := ((fAdd p.1 ((ps.map nPt).getD i (0, 0)).1).getD 0, (fAdd p.2 ((ps.map nPt).getD i (0, 0)).2).getD 0)
def turned (l : List UInt8) (r : Nat) : List (Nat × Nat) := mapTo (fun _ => turnP r) (sendL l) (1 + 2 * l.length)
def outL (l : List UInt8) (r : Nat) (ps : List (Int × Int)) (q : Nat) : List (Nat × Nat) := mapTo (addF ps) (turned l r) q
theorem turned_length (l : List UInt8) (r : Nat) : (turned l r).length = 1 + 2 * l.length := by
  unfold turned
  rw [mapTo_length, sendL_length]
theorem outL_length (l : List UInt8) (r : Nat) (ps : List (Int × Int)) (q : Nat) : (outL l r ps q).length = 1 + 2 * l.length := by
  unfold outL
  rw [mapTo_length, turned_length]
theorem outL_zero (l : List UInt8) (r : Nat) (ps : List (Int × Int)) : outL l r ps 0 = turned l r := mapTo_zero _ _
/-- a point turned, as its parts say -/
theorem turned_at (l : List UInt8) (r : Nat) {j : Nat} (hj : j < 1 + 2 * l.length) : (turned l r).getD j (0, 0) = (prt (turnD r ((sendD l).getD j (0, 0))).1, prt (turnD r ((sendD l).getD j (0, 0))).2) := by
  unfold turned
  have h := sendD_lt l _ (getD_lt (l := sendD l) (j := j) (by rw [sendD_length]; exact hj))
  rw [getD_mapTo _ _ _ _ (by rw [sendL_length]; exact hj), if_pos hj, sendL_D, getD_map _ (by rw [sendD_length]; exact hj), turn_prt h.1 h.2]
theorem noise_at (ps : List (Int × Int)) {j : Nat} (hj : j < ps.length) : ∃ k1 k2, k1 < 1001 ∧ k2 < 1001 ∧ (ps.map nPt).getD j (0, 0) = (noi k1, noi k2) := by
  refine ⟨rst (ps.getD j (0, 0)).1, rst (ps.getD j (0, 0)).2, rst_lt _, rst_lt _, ?_⟩
  rw [List.getD_eq_getElem?_getD, List.getD_eq_getElem?_getD, List.getElem?_map, List.getElem?_eq_getElem hj]
  rfl
theorem outL_near (l : List UInt8) (r : Nat) (ps : List (Int × Int)) {q j : Nat} (hq : q ≤ ps.length) (hj : j < 1 + 2 * l.length) : NearP ((outL l r ps q).getD j (0, 0)) (turnD r ((sendD l).getD j (0, 0))) := by
  have h := sendD_lt l _ (getD_lt (l := sendD l) (j := j) (by rw [sendD_length]; exact hj))
  obtain ⟨h1, h2⟩ := turnD_lt (r := r) h.1 h.2
  unfold outL
  rw [getD_mapTo _ _ _ _ (by rw [turned_length]; exact hj), turned_at l r hj]
  generalize turnD r ((sendD l).getD j (0, 0)) = p at *
  obtain ⟨d, e⟩ := p
  split
  · obtain ⟨k1, k2, l1, l2, hn⟩ := noise_at ps (j := j) (by omega)
    unfold addF
    rw [hn]
    exact ⟨near_sm h1 l1, near_sm h2 l2⟩
  · exact ⟨near_prt h1, near_prt h2⟩
/-- the sums are what Add wants -/
theorem outL_sums (l : List UInt8) (r : Nat) (ps : List (Int × Int)) {j : Nat} (hp : j < ps.length) (hj : j < 1 + 2 * l.length) :
    cSumBits .add .f64 ((turned l r).getD j (0, 0)).1 ((turned l r).getD j (0, 0)).2 ((ps.map nPt).getD j (0, 0)).1 ((ps.map nPt).getD j (0, 0)).2 = some (addF ps j ((turned l r).getD j (0, 0))) := by
  have h := sendD_lt l _ (getD_lt (l := sendD l) (j := j) (by rw [sendD_length]; exact hj))
  obtain ⟨h1, h2⟩ := turnD_lt (r := r) h.1 h.2
  unfold addF
  rw [turned_at l r hj]
  generalize turnD r ((sendD l).getD j (0, 0)) = p at *
  obtain ⟨d, e⟩ := p
  obtain ⟨k1, k2, l1, l2, hn⟩ := noise_at ps hp
  rw [hn]
  have e1 := sm_is h1 l1
  have e2 := sm_is h2 l2
  simp only at e1 e2 ⊢
  rw [e1, e2]
  have e1' : floatBits .add .f64 (prt d) (noi k1) = some (sm d k1) := e1
  have e2' : floatBits .add .f64 (prt e) (noi k2) = some (sm e k2) := e2
  unfold cSumBits
  rw [e1', e2']
  rfl
/-- the pilot's parts, turned -/
def pil (k : Nat) : Nat × Nat := turnD k (3, 3)
/-- two points that say a byte -/
def SayB (p q : Nat × Nat) (b : UInt8) : Prop := tk p.1 = b.toNat / 64 ∧ tk p.2 = b.toNat / 16 % 4 ∧ tk q.1 = b.toNat % 16 / 4 ∧ tk q.2 = b.toNat % 4
theorem outL_pilot (l : List UInt8) (r : Nat) (ps : List (Int × Int)) {q : Nat} (hq : q ≤ ps.length) : tk ((outL l r ps q).getD 0 (0, 0)).1 = (pil r).1 ∧ tk ((outL l r ps q).getD 0 (0, 0)).2 = (pil r).2 := by
  obtain ⟨⟨_, h1, _⟩, ⟨_, h2, _⟩⟩ := outL_near l r ps (j := 0) hq (by omega)
  exact ⟨h1, h2⟩
theorem outL_says (l : List UInt8) {r : Nat} (hr : r < 4) (ps : List (Int × Int)) {q j : Nat} (hq : q ≤ ps.length) (hj : j < l.length) :
    SayB (turnP ((4 - r) % 4) ((outL l r ps q).getD (1 + 2 * j) (0, 0))) (turnP ((4 - r) % 4) ((outL l r ps q).getD (2 + 2 * j) (0, 0))) (l.getD j 0) := by
  obtain ⟨g1, g2⟩ := sendD_get l j hj
  have hb := (l.getD j 0).toNat_lt
  obtain ⟨a1, a2⟩ := turn_tk (r := (4 - r) % 4) (outL_near l r ps (j := 1 + 2 * j) hq (by omega))
  obtain ⟨b1, b2⟩ := turn_tk (r := (4 - r) % 4) (outL_near l r ps (j := 2 + 2 * j) hq (by omega))
  rw [g1, turnD_back hr (by simp only; omega) (by simp only; omega)] at a1 a2
  rw [g2, turnD_back hr (by simp only; omega) (by simp only; omega)] at b1 b2
  exact ⟨a1, a2, b1, b2⟩
end Go.Proofs.Ytmmkopdijmplcaa.ln
