/-
  The document's roots, plainly: digits of sixteen bits, products of them, roots bit by bit, primes; and that they give the numbers that the program has; no program is in sight.
-/
import Derived.Test.YtmmkopdijmplcaaSha
set_option linter.unusedVariables false
namespace Go.Proofs.Ytmmkopdijmplcaa.RH
/-- digits of sixteen bits, the lowest first -/
def valD : List Nat → Nat
  | [] => 0
  | d :: r => d + 65536 * valD r
def small (l : List Nat) : Prop := ∀ d ∈ l, d < 65536
theorem valD_replicate (n : Nat) : valD (List.replicate n 0) = 0 := by
  induction n with
  | zero => rfl
  | succ n ih => rw [List.replicate_succ, valD, ih]
theorem valD_set (l : List Nat) (j d : Nat) (h : j < l.length) : valD (l.set j d) + l.getD j 0 * 65536 ^ j = valD l + d * 65536 ^ j := by
  induction l generalizing j with
  | nil => cases h
  | cons x r ih =>
    cases j with
    | zero =>
      simp only [List.set_cons_zero, valD, List.getD_cons_zero, Nat.pow_zero]
      omega
    | succ j =>
      have := ih j (by simpa using h)
      simp only [List.set_cons_succ, valD, List.getD_cons_succ, Nat.pow_succ]
      have e1 : r.getD j 0 * (65536 ^ j * 65536) = 65536 * (r.getD j 0 * 65536 ^ j) := by rw [← Nat.mul_assoc, Nat.mul_comm]
      have e2 : d * (65536 ^ j * 65536) = 65536 * (d * 65536 ^ j) := by rw [← Nat.mul_assoc, Nat.mul_comm]
      rw [e1, e2]
      omega
theorem valD_append (a b : List Nat) : valD (a ++ b) = valD a + 65536 ^ a.length * valD b := by
  induction a with
  | nil => simp [valD]
  | cons x r ih =>
    simp only [List.cons_append, valD, ih, List.length_cons, Nat.pow_succ]
    rw [Nat.mul_add, ← Nat.mul_assoc, Nat.mul_comm 65536 (65536 ^ r.length)]
    omega
theorem valD_take_succ (l : List Nat) (k : Nat) (h : k < l.length) : valD (l.take (k + 1)) = valD (l.take k) + l.getD k 0 * 65536 ^ k := by
  rw [List.take_succ_eq_append_getElem h, valD_append, List.length_take, Nat.min_eq_left (by omega)]
  have e : l.getD k 0 = l[k] := by rw [List.getD_eq_getElem?_getD, List.getElem?_eq_getElem h]; rfl
  rw [e]
  simp only [valD]
  rw [Nat.mul_zero, Nat.add_zero, Nat.mul_comm]
theorem getD_is {l : List Nat} {j : Nat} (h : j < l.length) : l.getD j 0 = l[j] := by
  rw [List.getD_eq_getElem?_getD, List.getElem?_eq_getElem h]
  rfl
theorem valD_lt (l : List Nat) (h : small l) : valD l < 65536 ^ l.length := by
  induction l with
  | nil => simp [valD]
  | cons x r ih =>
    have h1 := h x List.mem_cons_self
    have h2 := ih (fun d hd => h d (List.mem_cons_of_mem _ hd))
    simp only [valD, List.length_cons, Nat.pow_succ]
    omega
theorem small_set {l : List Nat} (h : small l) (j : Nat) {d : Nat} (hd : d < 65536) : small (l.set j d) := by
  intro x hx
  rcases List.mem_or_eq_of_mem_set hx with h1 | h1
  · exact h x h1
  · omega
theorem small_getD {l : List Nat} (h : small l) (j : Nat) : l.getD j 0 < 65536 := by
  rw [List.getD_eq_getElem?_getD]
  cases hj : l[j]? with
  | none => decide
  | some v => exact h v (List.mem_of_getElem? hj)
theorem small_replicate (n : Nat) : small (List.replicate n 0) := by
  intro d hd
  rw [(List.mem_replicate.1 hd).2]
  decide
/-! ### one digit of a product -/
/-- the state of the product: so far, with what is carried -/
def Inner (as bs : List Nat) (i k : Nat) (V0 : Nat) (out : List Nat) (c : Nat) : Prop :=
  out.length = as.length + bs.length ∧ small out ∧ c < 65536 ∧ (∀ j, i + bs.length ≤ j → out.getD j 0 = 0) ∧ valD out + c * 65536 ^ (i + k) = V0 + as.getD i 0 * valD (bs.take k) * 65536 ^ i
theorem getD_set_ne (l : List Nat) (i j d : Nat) (h : i ≠ j) : (l.set i d).getD j 0 = l.getD j 0 := by
  rw [List.getD_eq_getElem?_getD, List.getD_eq_getElem?_getD, List.getElem?_set_ne h]
theorem getD_set_eq (l : List Nat) (i d : Nat) (h : i < l.length) : (l.set i d).getD i 0 = d := by
  rw [List.getD_eq_getElem?_getD, List.getElem?_set_self h]
  rfl
theorem inner_step {as bs out : List Nat} {i k V0 c : Nat} (ha : small as) (hb : small bs) (hi : i < as.length) (hk : k < bs.length) (h : Inner as bs i k V0 out c) :
    c + (out.getD (i + k) 0 + as.getD i 0 * bs.getD k 0) < 4294967296 ∧ Inner as bs i (k + 1) V0 (out.set (i + k) ((c + (out.getD (i + k) 0 + as.getD i 0 * bs.getD k 0)) % 65536)) ((c + (out.getD (i + k) 0 + as.getD i 0 * bs.getD k 0)) / 65536) := by
  obtain ⟨h1, h2, h3, h4, h5⟩ := h
  have a1 := small_getD ha i
  have b1 := small_getD hb k
  have o1 := small_getD h2 (i + k)
  have hab : as.getD i 0 * bs.getD k 0 ≤ 65535 * 65535 := Nat.mul_le_mul (by omega) (by omega)
  have hS : c + (out.getD (i + k) 0 + as.getD i 0 * bs.getD k 0) < 4294967296 := by omega
  refine ⟨hS, ?_, small_set h2 _ (Nat.mod_lt _ (by decide)), by omega, ?_, ?_⟩
  · rw [List.length_set]; exact h1
  · intro j hj
    rw [getD_set_ne _ _ _ _ (by omega)]
    exact h4 j hj
  · have hs := valD_set out (i + k) ((c + (out.getD (i + k) 0 + as.getD i 0 * bs.getD k 0)) % 65536) (by omega)
    have ht := valD_take_succ bs k hk
    rw [ht, Nat.mul_add, Nat.add_mul, ← Nat.add_assoc V0, ← h5]
    generalize valD (out.set (i + k) ((c + (out.getD (i + k) 0 + as.getD i 0 * bs.getD k 0)) % 65536)) = V1 at *
    generalize out.getD (i + k) 0 = o at *
    have e1 : as.getD i 0 * (bs.getD k 0 * 65536 ^ k) * 65536 ^ i = (as.getD i 0 * bs.getD k 0) * 65536 ^ (i + k) := by
      rw [Nat.pow_add, ← Nat.mul_assoc, Nat.mul_assoc, Nat.mul_comm (65536 ^ k) (65536 ^ i)]
    rw [e1]
    generalize as.getD i 0 * bs.getD k 0 = ab at *
    rw [show i + (k + 1) = (i + k) + 1 from by omega, Nat.pow_succ]
    generalize 65536 ^ (i + k) = P at *
    have hdm : c + (o + ab) = 65536 * ((c + (o + ab)) / 65536) + (c + (o + ab)) % 65536 := (Nat.div_add_mod _ _).symm
    generalize (c + (o + ab)) / 65536 = q at *
    generalize (c + (o + ab)) % 65536 = m at *
    have e2 : q * (P * 65536) = (65536 * q) * P := by rw [← Nat.mul_assoc, Nat.mul_comm (q * P) 65536, Nat.mul_assoc]
    rw [e2]
    have e3 : c * P + (o * P + ab * P) = (65536 * q) * P + m * P := by rw [← Nat.add_mul, ← Nat.add_mul, ← Nat.add_mul, hdm]
    omega
/-- the product of the first i digits -/
def Outer (as bs : List Nat) (i : Nat) (out : List Nat) : Prop :=
  out.length = as.length + bs.length ∧ small out ∧ (∀ j, i + bs.length ≤ j → out.getD j 0 = 0) ∧ valD out = valD (as.take i) * valD bs
theorem outer_start (as bs : List Nat) : Outer as bs 0 (List.replicate (as.length + bs.length) 0) := by
  refine ⟨List.length_replicate, small_replicate _, fun j _ => ?_, ?_⟩
  · rw [List.getD_eq_getElem?_getD, List.getElem?_replicate]
    split <;> rfl
  · rw [valD_replicate, List.take_zero]
    simp [valD]
theorem inner_start {as bs out : List Nat} {i : Nat} (h : Outer as bs i out) : Inner as bs i 0 (valD out) out 0 := by
  obtain ⟨h1, h2, h3, h4⟩ := h
  refine ⟨h1, h2, by decide, h3, ?_⟩
  rw [List.take_zero]
  simp [valD]
theorem outer_step {as bs out0 out : List Nat} {i c : Nat} (hi : i < as.length) (h0 : Outer as bs i out0) (h : Inner as bs i bs.length (valD out0) out c) : Outer as bs (i + 1) (out.set (i + bs.length) c) := by
  obtain ⟨h1, h2, h3, h4, h5⟩ := h
  refine ⟨by rw [List.length_set]; exact h1, small_set h2 _ h3, fun j hj => ?_, ?_⟩
  · rw [getD_set_ne _ _ _ _ (by omega)]
    exact h4 j (by omega)
  · have hs := valD_set out (i + bs.length) c (by omega)
    rw [h4 _ (Nat.le_refl _), Nat.zero_mul, Nat.add_zero] at hs
    rw [hs, h5, List.take_length, h0.2.2.2, valD_take_succ as i hi, Nat.add_mul, Nat.mul_assoc, Nat.mul_assoc, Nat.mul_comm (valD bs)]
theorem outer_end {as bs out : List Nat} (h : Outer as bs as.length out) : out.length = as.length + bs.length ∧ small out ∧ valD out = valD as * valD bs := by
  obtain ⟨h1, h2, _, h4⟩ := h
  rw [List.take_length] at h4
  exact ⟨h1, h2, h4⟩
/-! ### above -/
/-- the digits of p 2^(32 n), among len -/
def tgt (p n len : Nat) : List Nat := (List.replicate len 0).set (2 * n) p
theorem tgt_val {p n len : Nat} (h : 2 * n < len) : valD (tgt p n len) = p * 65536 ^ (2 * n) := by
  have := valD_set (List.replicate len 0) (2 * n) p (by rw [List.length_replicate]; exact h)
  rw [valD_replicate] at this
  have e : (List.replicate len 0).getD (2 * n) 0 = 0 := by
    rw [List.getD_eq_getElem?_getD, List.getElem?_replicate]
    split <;> rfl
  rw [e, Nat.zero_mul, Nat.zero_add, Nat.add_zero] at this
  exact this
theorem tgt_length (p n len : Nat) : (tgt p n len).length = len := by unfold tgt; rw [List.length_set, List.length_replicate]
theorem tgt_at {p n len : Nat} {i : Nat} (h : i < len) : (tgt p n len).getD i 0 = if i = 2 * n then p else 0 := by
  unfold tgt
  by_cases hi : i = 2 * n
  · rw [if_pos hi, hi, getD_set_eq _ _ _ (by rw [List.length_replicate]; omega)]
  · rw [if_neg hi, getD_set_ne _ _ _ _ (fun e => hi e.symm), List.getD_eq_getElem?_getD, List.getElem?_replicate]
    split <;> rfl
theorem tgt_small {p n len : Nat} (hp : p < 65536) : small (tgt p n len) := small_set (small_replicate _) _ hp
theorem decided1 {a b : List Nat} (hl : a.length = b.length) (ha : small a) (hb : small b) {i : Nat} (hi : i < a.length) (hup : ∀ j, i < j → a.getD j 0 = b.getD j 0) (hlt : b.getD i 0 < a.getD i 0) : valD b < valD a := by
  induction a generalizing b i with
  | nil => cases hi
  | cons x r ih =>
    cases b with
    | nil => cases hl
    | cons y s =>
      have hx := ha x List.mem_cons_self
      have hy := hb y List.mem_cons_self
      have hr : small r := fun d hd => ha d (List.mem_cons_of_mem _ hd)
      have hs : small s := fun d hd => hb d (List.mem_cons_of_mem _ hd)
      have hl' : r.length = s.length := by simpa using hl
      simp only [valD]
      cases i with
      | zero =>
        have hrs : r = s := by
          apply List.ext_getElem hl'
          intro j h1 h2
          have := hup (j + 1) (by omega)
          rw [List.getD_cons_succ, List.getD_cons_succ, getD_is h1, getD_is h2] at this
          exact this
        subst hrs
        simp only [List.getD_cons_zero] at hlt
        omega
      | succ i =>
        simp only [List.getD_cons_succ] at hlt
        have := ih hl' hr hs (i := i) (by simpa using hi) (fun j hj => by have := hup (j + 1) (by omega); simpa using this) hlt
        omega
/-- the highest digit that differs decides -/
theorem decided {a b : List Nat} (hl : a.length = b.length) (ha : small a) (hb : small b) {i : Nat} (hi : i < a.length) (hup : ∀ j, i < j → a.getD j 0 = b.getD j 0) (hne : a.getD i 0 ≠ b.getD i 0) : (b.getD i 0 < a.getD i 0) ↔ valD b < valD a := by
  constructor
  · exact decided1 hl ha hb hi hup
  · intro h
    rcases Nat.lt_or_ge (b.getD i 0) (a.getD i 0) with h1 | h1
    · exact h1
    · have := decided1 hl.symm hb ha (hl ▸ hi) (fun j hj => (hup j hj).symm) (by omega : a.getD i 0 < b.getD i 0)
      omega
theorem all_same {a b : List Nat} (hl : a.length = b.length) (h : ∀ j, a.getD j 0 = b.getD j 0) : valD a = valD b := by
  have : a = b := by
    apply List.ext_getElem hl
    intro j h1 h2
    have := h j
    rw [getD_is h1, getD_is h2] at this
    exact this
  rw [this]
/-! ### roots -/
/-- the root behind j bits -/
def rootTo (p n : Nat) : Nat → Nat
  | 0 => 0
  | j + 1 => if p * 65536 ^ (2 * n) < (rootTo p n j + 2 ^ (40 - j)) ^ n then rootTo p n j else rootTo p n j + 2 ^ (40 - j)
theorem rootTo_le (p n j : Nat) (h : j ≤ 41) : rootTo p n j + 2 ^ (41 - j) ≤ 2 ^ 41 := by
  induction j with
  | zero => exact Nat.le_of_eq (Nat.zero_add _)
  | succ j ih =>
    have := ih (by omega)
    have e : 2 ^ (41 - j) = 2 ^ (40 - j) + 2 ^ (40 - j) := by
      rw [show 41 - j = (40 - j) + 1 from by omega, Nat.pow_succ]
      omega
    rw [show 41 - (j + 1) = 40 - j from by omega]
    have hpos : 0 < 2 ^ (40 - j) := Nat.two_pow_pos _
    unfold rootTo
    generalize 2 ^ (40 - j) = q at *
    split <;> omega
/-- the first 32 bits behind the point -/
def root32 (p n : Nat) : Nat := rootTo p n 41 % 4294967296
def primes : List Nat := [2, 3, 5, 7, 11, 13, 17, 19, 23, 29, 31, 37, 41, 43, 47, 53, 59, 61, 67, 71, 73, 79, 83, 89, 97, 101, 103, 107, 109, 113, 127, 131, 137, 139, 149, 151, 157, 163, 167, 173, 179, 181, 191, 193, 197, 199, 211, 223, 227, 229, 233, 239, 241, 251, 257, 263, 269, 271, 277, 281, 283, 293, 307, 311]
theorem primes_length : primes.length = 64 := rfl
theorem keys_are : (List.range 64).map (fun i => root32 (primes.getD i 0) 3) = Sha.keyL.map BitVec.toNat := by decide +kernel
theorem state_is : (List.range 8).map (fun i => root32 (primes.getD i 0) 2) = [Sha.iv.a.toNat, Sha.iv.b.toNat, Sha.iv.c.toNat, Sha.iv.d.toNat, Sha.iv.e.toNat, Sha.iv.f.toNat, Sha.iv.g.toNat, Sha.iv.h.toNat] := by decide +kernel
theorem primes_low : ∀ i, i < 64 → 2 ≤ primes.getD i 0 ∧ primes.getD i 0 < 312 := by decide +kernel
/-- how many primes lie below p -/
def cnt (p : Nat) : Nat := (primes.filter (· < p)).length
def isP (p : Nat) : Bool := (primes.take (cnt p)).all fun q => p % q != 0
theorem cnt_step : ∀ p, p < 312 → 2 ≤ p → (if isP p then primes.take (cnt p) ++ [p] else primes.take (cnt p)) = primes.take (cnt (p + 1)) ∧ cnt (p + 1) ≤ 64 ∧ cnt (p + 1) = (if isP p then cnt p + 1 else cnt p) := by decide +kernel
theorem cnt_end : cnt 312 = 64 := by decide +kernel
theorem cnt_two : cnt 2 = 0 := by decide +kernel
theorem cnt_le (p : Nat) : cnt p ≤ 64 := by
  unfold cnt
  exact Nat.le_trans (List.length_filter_le _ _) (Nat.le_of_eq primes_length)
end Go.Proofs.Ytmmkopdijmplcaa.RH
