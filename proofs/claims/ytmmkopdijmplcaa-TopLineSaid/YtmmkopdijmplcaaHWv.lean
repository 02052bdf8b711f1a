/-
  The words of a block, plainly, and the row in which they are laid; no condition.
-/
import Derived.Test.YtmmkopdijmplcaaHKeys
namespace Go.Proofs.Ytmmkopdijmplcaa.HH
open Go.RowKit Base
/-- the row of words when k of them are laid -/
def wC (blk : List UInt8) (k : Nat) : List Value := (List.range 64).map fun i => w32 (if i < k then Sha.wv blk i else 0#32)
theorem wC_get (blk : List UInt8) {k i : Nat} (h : i < k) (h64 : i < 64) : (wC blk k)[i]? = some (w32 (Sha.wv blk i)) := by
  unfold wC
  rw [List.getElem?_map, List.getElem?_range h64, Option.map_some, if_pos h]
theorem wC_old (blk : List UInt8) {k : Nat} (h64 : k < 64) : (wC blk k)[k]? = some (w32 0#32) := by
  unfold wC
  rw [List.getElem?_map, List.getElem?_range h64, Option.map_some, if_neg (Nat.lt_irrefl _)]
theorem wC_length (blk : List UInt8) (k : Nat) : (wC blk k).length = 64 := by
  unfold wC
  rw [List.length_map, List.length_range]
theorem wC_at (blk : List UInt8) (k i : Nat) : (wC blk k)[i]? = if i < 64 then some (w32 (if i < k then Sha.wv blk i else 0#32)) else none := by
  by_cases h64 : i < 64
  · rw [if_pos h64]
    unfold wC
    rw [List.getElem?_map, List.getElem?_range h64, Option.map_some]
  · rw [if_neg h64]
    exact List.getElem?_eq_none (by rw [wC_length]; omega)
theorem wC_set (blk : List UInt8) (k : Nat) : (wC blk k).set k (w32 (Sha.wv blk k)) = wC blk (k + 1) := by
  apply List.ext_getElem?
  intro i
  rw [List.getElem?_set, wC_at, wC_at, wC_length]
  by_cases h64 : i < 64
  · rw [if_pos h64, if_pos h64]
    by_cases hk : k = i
    · subst hk
      rw [if_pos rfl, if_pos h64, if_pos (Nat.lt_succ_self _)]
    · rw [if_neg hk]
      by_cases h : i < k
      · rw [if_pos h, if_pos (by omega)]
      · rw [if_neg h, if_neg (by omega)]
  · rw [if_neg h64, if_neg h64]
    by_cases hk : k = i
    · rw [if_pos hk, if_neg (by omega)]
    · rw [if_neg hk]
theorem wl_get (blk : List UInt8) (d : Nat) (n : Nat) (h : d < n) : (Sha.wl blk n).getD d 0#32 = Sha.wv blk (n - 1 - d) := by
  induction n generalizing d with
  | zero => omega
  | succ n ih =>
    cases d with
    | zero => rfl
    | succ d =>
      have h2 := ih d (by omega)
      rw [show n + 1 - 1 - (d + 1) = n - 1 - d from by omega, ← h2]
      rfl
theorem wv_low (blk : List UInt8) {i : Nat} (h : i < 16) : Sha.wv blk i = Sha.be4 (blk.drop (4 * i)) := by
  show Sha.wstep blk i (Sha.wl blk i) = _
  unfold Sha.wstep
  rw [if_pos h]
theorem wv_high (blk : List UInt8) {i : Nat} (h : 16 ≤ i) : Sha.wv blk i = Sha.wv blk (i - 16) + Sha.sg0 (Sha.wv blk (i - 15)) + Sha.wv blk (i - 7) + Sha.sg1 (Sha.wv blk (i - 2)) := by
  have e : Sha.wv blk i = (Sha.wl blk i).getD 15 0#32 + Sha.sg0 ((Sha.wl blk i).getD 14 0#32) + (Sha.wl blk i).getD 6 0#32 + Sha.sg1 ((Sha.wl blk i).getD 1 0#32) := by
    show Sha.wstep blk i (Sha.wl blk i) = _
    unfold Sha.wstep
    rw [if_neg (by omega)]
  rw [e, wl_get _ _ _ (by omega), wl_get _ _ _ (by omega), wl_get _ _ _ (by omega), wl_get _ _ _ (by omega)]
  rw [show i - 1 - 15 = i - 16 from by omega, show i - 1 - 14 = i - 15 from by omega, show i - 1 - 6 = i - 7 from by omega, show i - 1 - 1 = i - 2 from by omega]
def b4 (n : BitVec 32) (c : UInt8) : BitVec 32 := n <<< 8 ||| c.toBitVec.setWidth 32
theorem be4_num (l : List UInt8) : (num64 (l.take 4)).setWidth 32 = Sha.be4 l := by
  show _ = (l.take 4).foldl b4 0#32
  unfold num64
  have h : ∀ (m : List UInt8) (X : BitVec 64), (m.foldl n64 X).setWidth 32 = m.foldl b4 (X.setWidth 32) := by
    intro m
    induction m with
    | nil => intro X; rfl
    | cons c m ih =>
      intro X
      rw [List.foldl_cons, List.foldl_cons, ih]
      congr 1
      unfold n64 b4
      ext i hi
      simp
  exact h _ _
end Go.Proofs.Ytmmkopdijmplcaa.HH
