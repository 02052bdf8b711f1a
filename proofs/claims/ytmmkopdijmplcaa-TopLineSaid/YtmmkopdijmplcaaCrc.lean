/-
  The sum of bytes as a register of 32 bits, plainly: one bit flipped, or two that stand within 32 of one another, change it; no program is in sight.
-/
namespace Go.Proofs.Ytmmkopdijmplcaa.Crc

def poly : BitVec 32 := 0xEDB88320#32
/-- one place down -/
def step (r : BitVec 32) : BitVec 32 := r >>> 1 ^^^ poly * (r &&& 1#32)
def steps : Nat → BitVec 32 → BitVec 32
  | 0, r => r
  | k + 1, r => steps k (step r)
def b2 (b : Bool) : BitVec 32 := if b then 1#32 else 0#32
/-- one bit -/
def bit (r : BitVec 32) (b : Bool) : BitVec 32 := step (r ^^^ b2 b)
/-- one byte -/
def byte (r : BitVec 32) (c : UInt8) : BitVec 32 := steps 8 (r ^^^ c.toBitVec.setWidth 32)
def run (r : BitVec 32) (l : List UInt8) : BitVec 32 := l.foldl byte r
def sum (l : List UInt8) : BitVec 32 := ~~~ (run (~~~ 0#32) l)

theorem and_one (r : BitVec 32) : r &&& 1#32 = b2 (r.getLsbD 0) := by
  ext i h
  simp only [b2, BitVec.getElem_and]
  rcases i with _ | i
  · cases hb : r.getLsbD 0 <;> simp [BitVec.getLsbD_eq_getElem] at hb ⊢ <;> exact hb
  · cases hb : r.getLsbD 0 <;> simp [BitVec.getElem_one]

theorem step_eq (r : BitVec 32) : step r = r >>> 1 ^^^ (if r.getLsbD 0 then poly else 0#32) := by
  unfold step
  rw [and_one]
  cases r.getLsbD 0 <;> simp [b2]

theorem step_xor (a b : BitVec 32) : step (a ^^^ b) = step a ^^^ step b := by
  rw [step_eq, step_eq, step_eq, BitVec.ushiftRight_xor_distrib, BitVec.getLsbD_xor]
  cases a.getLsbD 0 <;> cases b.getLsbD 0 <;> simp
  · ac_rfl
  · ac_rfl
  · rw [show a >>> 1 ^^^ poly ^^^ (b >>> 1 ^^^ poly) = a >>> 1 ^^^ b >>> 1 ^^^ (poly ^^^ poly) by ac_rfl]
    simp

theorem step_zero : step 0#32 = 0#32 := by decide

theorem step_inj0 (r : BitVec 32) (h : step r = 0#32) : r = 0#32 := by
  rw [step_eq] at h
  have h31 := congrArg (fun x => x.getLsbD 31) h
  have hl : r.getLsbD 0 = false := by
    cases hb : r.getLsbD 0
    · rfl
    · rw [hb] at h31
      exact absurd h31 (by simp [poly])
  rw [hl] at h
  simp only [Bool.false_eq_true, ↓reduceIte, BitVec.xor_zero] at h
  apply BitVec.eq_of_getLsbD_eq
  intro i hi
  rcases i with _ | i
  · simpa using hl
  · have := congrArg (fun x => x.getLsbD i) h
    simp only [BitVec.getLsbD_ushiftRight] at this
    rw [Nat.add_comm] at this
    simpa using this

theorem steps_xor (k : Nat) : ∀ a b, steps k (a ^^^ b) = steps k a ^^^ steps k b := by
  induction k with
  | zero => intro a b; rfl
  | succ k ih => intro a b; simp only [steps, step_xor, ih]
theorem steps_inj0 (k : Nat) : ∀ a, steps k a = 0#32 → a = 0#32 := by
  induction k with
  | zero => intro a h; exact h
  | succ k ih => intro a h; exact step_inj0 _ (ih _ h)

theorem steps_succ (k : Nat) : ∀ a, steps (k + 1) a = step (steps k a) := by
  induction k with
  | zero => intro a; rfl
  | succ k ih => intro a; rw [steps, ih]; rfl

/-- two bits of no more than 31 places apart never undo one another -/
theorem steps_one : ∀ k, k < 32 → 0 < k → steps k 1#32 ≠ 1#32 := by decide +kernel

/-! ### bytes as bits -/
def bitsOf (c : UInt8) : List Bool := [c.toBitVec.getLsbD 0, c.toBitVec.getLsbD 1, c.toBitVec.getLsbD 2, c.toBitVec.getLsbD 3, c.toBitVec.getLsbD 4, c.toBitVec.getLsbD 5, c.toBitVec.getLsbD 6, c.toBitVec.getLsbD 7]
def bits (l : List UInt8) : List Bool := l.flatMap bitsOf
def runBits (r : BitVec 32) (l : List Bool) : BitVec 32 := l.foldl bit r

theorem byte_zero (c : UInt8) : byte 0#32 c = runBits 0#32 (bitsOf c) := by
  have h : ∀ n : Fin 256, byte 0#32 (UInt8.ofNat n.val) = runBits 0#32 (bitsOf (UInt8.ofNat n.val)) := by decide +kernel
  have hc := h ⟨c.toNat, c.toNat_lt⟩
  simpa using hc

theorem runBits_xor (l : List Bool) : ∀ r s, runBits (r ^^^ s) l = steps l.length r ^^^ runBits s l := by
  induction l with
  | nil => intro r s; rfl
  | cons b l ih =>
    intro r s
    have e : bit (r ^^^ s) b = step r ^^^ bit s b := by
      unfold bit
      rw [BitVec.xor_assoc, step_xor]
    show runBits (bit (r ^^^ s) b) l = steps (l.length + 1) r ^^^ runBits (bit s b) l
    rw [e, ih]
    rfl

theorem byte_bits (r : BitVec 32) (c : UInt8) : byte r c = runBits r (bitsOf c) := by
  have h1 : byte r c = steps 8 r ^^^ byte 0#32 c := by
    unfold byte
    rw [steps_xor, BitVec.zero_xor]
  have h2 := runBits_xor (bitsOf c) r 0#32
  rw [BitVec.xor_zero] at h2
  rw [h1, byte_zero, h2]
  rfl

theorem run_bits (l : List UInt8) : ∀ r, run r l = runBits r (bits l) := by
  induction l with
  | nil => intro r; rfl
  | cons c l ih =>
    intro r
    show run (byte r c) l = runBits r (bitsOf c ++ bits l)
    rw [ih, byte_bits]
    simp [runBits, List.foldl_append]

/-! ### flips -/
theorem bit_ne (r s : BitVec 32) (b : Bool) (h : r ≠ s) : bit r b ≠ bit s b := by
  intro e
  apply h
  have h1 : step ((r ^^^ b2 b) ^^^ (s ^^^ b2 b)) = 0#32 := by
    rw [step_xor]
    unfold bit at e
    rw [e, BitVec.xor_self]
  have h2 := step_inj0 _ h1
  have h3 : r ^^^ s = 0#32 := by
    rw [← h2]
    rw [show r ^^^ b2 b ^^^ (s ^^^ b2 b) = r ^^^ s ^^^ (b2 b ^^^ b2 b) by ac_rfl]
    simp
  exact BitVec.xor_eq_zero_iff.1 h3

theorem runBits_ne (l : List Bool) : ∀ r s, r ≠ s → runBits r l ≠ runBits s l := by
  induction l with
  | nil => intro r s h; exact h
  | cons b l ih => intro r s h; exact ih _ _ (bit_ne r s b h)

theorem bit_flip (r : BitVec 32) (b : Bool) : bit r (!b) = bit r b ^^^ step 1#32 := by
  unfold bit
  rw [← step_xor]
  cases b <;> simp [b2, BitVec.xor_assoc]

theorem runBits_off (l : List Bool) (r d : BitVec 32) : runBits (r ^^^ d) l = runBits r l ^^^ steps l.length d := by
  rw [BitVec.xor_comm r d, runBits_xor, BitVec.xor_comm]

theorem xor_ne (x d : BitVec 32) (h : d ≠ 0#32) : x ^^^ d ≠ x := by
  intro e
  apply h
  have := congrArg (fun y => x ^^^ y) e
  simpa [← BitVec.xor_assoc] using this

theorem runBits_cons (r : BitVec 32) (b : Bool) (l : List Bool) : runBits r (b :: l) = runBits (bit r b) l := rfl
theorem runBits_append (r : BitVec 32) (a l : List Bool) : runBits r (a ++ l) = runBits (runBits r a) l := by simp [runBits, List.foldl_append]

/-- one bit flipped -/
theorem one_flip (a c : List Bool) (b : Bool) (r : BitVec 32) : runBits r (a ++ (!b) :: c) ≠ runBits r (a ++ b :: c) := by
  rw [runBits_append, runBits_append, runBits_cons, runBits_cons]
  apply runBits_ne
  rw [bit_flip]
  exact xor_ne _ _ (by decide)

/-- two bits flipped, no more than 31 places apart -/
theorem two_flips (a m c : List Bool) (b b' : Bool) (r : BitVec 32) (hm : m.length < 31) :
    runBits r (a ++ (!b) :: (m ++ (!b') :: c)) ≠ runBits r (a ++ b :: (m ++ b' :: c)) := by
  simp only [runBits_append, runBits_cons]
  apply runBits_ne
  rw [bit_flip, bit_flip, runBits_off]
  generalize runBits (bit (runBits r a) b) m = x
  have e : bit (x ^^^ steps m.length (step 1#32)) b' = bit x b' ^^^ step (steps m.length (step 1#32)) := by
    unfold bit
    rw [← step_xor]
    congr 1
    ac_rfl
  rw [e, BitVec.xor_assoc, ← step_xor]
  refine xor_ne _ _ fun h => ?_
  have h3 := BitVec.xor_eq_zero_iff.1 (step_inj0 _ h)
  exact steps_one (m.length + 1) (by omega) (by omega) h3
end Go.Proofs.Ytmmkopdijmplcaa.Crc
