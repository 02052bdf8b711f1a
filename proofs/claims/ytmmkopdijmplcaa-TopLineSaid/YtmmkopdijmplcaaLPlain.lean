/-
  The line's points, plainly, as floats' bits: a part of a point, noise below half a step, what is taken of their sum, turned or not; no program is in sight.
-/
import GoSem.Op.FloatArith
import GoSem.Op.FloatCmp
import GoSem.Op.Unary
namespace Go.Proofs.Ytmmkopdijmplcaa.ln
open Go
def fNum (n : Int) : Nat := FloatKind.f64.nearest n
def fAdd (x y : Nat) : Option Nat := FloatKind.f64.format.add x y
def fLt (x y : Nat) : Bool := FloatKind.f64.format.order x y == some .lt
def fGe (x y : Nat) : Bool := FloatKind.f64.format.order x y == some .gt || FloatKind.f64.format.order x y == some .eq
def fLe (x y : Nat) : Bool := FloatKind.f64.format.order x y == some .lt || FloatKind.f64.format.order x y == some .eq
def neg (x : Nat) : Nat := Op.negFloat .f64 x
/-- a noise's part: (k - 500) / 1000 -/
def noi (k : Nat) : Nat := (FloatKind.f64.format.div (fNum ((k : Int) - 500)) 4652007308841189376).getD 0
/-- a point's part of two bits: 2 d - 3 -/
def prt (d : Nat) : Nat := (FloatKind.f64.format.sub ((FloatKind.f64.format.mul 4611686018427387904 (fNum d)).getD 0) 4613937818241073152).getD 0
def sm (d k : Nat) : Nat := (fAdd (prt d) (noi k)).getD 0
/-- what a part is taken for; 4: it is not near -/
def tk (x : Nat) : Nat := if !(fGe x 13839561654909534208 && fLe x 4616189618054758400) then 4 else if fLt x 13835058055282163712 then 0 else if fLt x 0 then 1 else if fLt x 4611686018427387904 then 2 else 3
def okAll (d n : Nat) : Bool := (List.range n).all fun k => (FloatKind.f64.format.div (fNum ((k : Int) - 500)) 4652007308841189376).isSome && (fAdd (prt d) (noi k)).isSome && tk (sm d k) == d && tk (neg (sm d k)) == 3 - d
theorem ok0 : okAll 0 1001 = true := by decide +kernel
theorem ok1 : okAll 1 1001 = true := by decide +kernel
theorem ok2 : okAll 2 1001 = true := by decide +kernel
theorem ok3 : okAll 3 1001 = true := by decide +kernel
theorem ok_all {d : Nat} (hd : d < 4) : okAll d 1001 = true := by
  rcases (by omega : d = 0 ∨ d = 1 ∨ d = 2 ∨ d = 3) with rfl | rfl | rfl | rfl
  · exact ok0
  · exact ok1
  · exact ok2
  · exact ok3
theorem neg_neg (x : Nat) : neg (neg x) = x := by
  unfold neg Op.negFloat
  rw [Nat.xor_assoc, Nat.xor_self, Nat.xor_zero]
theorem noi_is {k : Nat} (hk : k < 1001) : FloatKind.f64.format.div (fNum ((k : Int) - 500)) 4652007308841189376 = some (noi k) := by
  have h := List.all_eq_true.1 (ok_all (d := 0) (by decide)) k (List.mem_range.2 hk)
  simp only [Bool.and_eq_true] at h
  unfold noi
  obtain ⟨x, hx⟩ := Option.isSome_iff_exists.1 h.1.1.1
  rw [hx]
  rfl
theorem sm_is {d k : Nat} (hd : d < 4) (hk : k < 1001) : fAdd (prt d) (noi k) = some (sm d k) := by
  have h := List.all_eq_true.1 (ok_all hd) k (List.mem_range.2 hk)
  simp only [Bool.and_eq_true] at h
  unfold sm
  obtain ⟨x, hx⟩ := Option.isSome_iff_exists.1 h.1.1.2
  rw [hx]
  rfl
theorem sm_near {d k : Nat} (hd : d < 4) (hk : k < 1001) : tk (sm d k) = d ∧ tk (neg (sm d k)) = 3 - d := by
  have h := List.all_eq_true.1 (ok_all hd) k (List.mem_range.2 hk)
  simp only [Bool.and_eq_true, beq_iff_eq] at h
  exact ⟨h.1.2, h.2⟩
theorem prt_is : ∀ d : Nat, d < 4 → FloatKind.f64.format.mul 4611686018427387904 (fNum d) = some ((FloatKind.f64.format.mul 4611686018427387904 (fNum d)).getD 0) ∧ FloatKind.f64.format.sub ((FloatKind.f64.format.mul 4611686018427387904 (fNum d)).getD 0) 4613937818241073152 = some (prt d) ∧ tk (prt d) = d ∧ neg (prt d) = prt (3 - d) := by decide +kernel
end Go.Proofs.Ytmmkopdijmplcaa.ln
