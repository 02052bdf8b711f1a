/-
  Two rows that the call owns, of bytes and of things, side by side; and the list of the things that are kept.
-/
import Derived.Test.YtbgnffgceeclhaaRows
import Derived.Test.YtbgnffgceeclhaaBase
import Derived.Test.YtbgnffgceeclhaaOps
import Derived.Test.YtbgnffgceeclhaaBackP
import Derived.Test.YtbgnffgceeclhaaThings
import Derived.Lib.AppendStr
namespace Go.Proofs.Ytbgnffgceeclhaa
open Go.RowKit Base Go.Lib
theorem infoThing : (Try.prog.info? 34).map (fun i => (i.zero, i.size, i.bytes)) = some (some (.agg #[.int .i64 0, .int .i64 0, .string .empty]), 3, 32) := by kernel_rfl
theorem strCells_bv (s : ByteArray) : strCells s = s.data.toList.map bv := rfl
/-- rows of two kinds lie apart -/
theorem rows_apart {w : World} {B B' n n' : Nat} {v v' : Value} {xs xs' : List Value} (h : w.ownsRow B 5 1 v n xs) (h' : w.ownsRow B' 34 3 v' n' xs') (g : Nat) (e : v.ownBlock = some g) : v'.ownBlock ≠ some g := by
  intro e'
  rcases h.2 with ⟨rfl, _⟩ | ⟨g1, c1, cur1, rfl, _, h1, _⟩
  · cases e
  · rcases h'.2 with ⟨rfl, _⟩ | ⟨g2, c2, cur2, rfl, _, h2, _⟩
    · cases e'
    · obtain rfl : g1 = g := Option.some.inj e
      obtain rfl : g2 = g1 := Option.some.inj e'
      rw [h1] at h2
      have := Option.some.inj h2
      simp at this
theorem owns_keep {w w1 : World} {B n size : Nat} {e : TypeId} {v : Value} {xs : List Value} {row : Option Nat} (h : w.ownsRow B e size v n xs) (hg : w.grownBy w1 row) (hne : ∀ g, v.ownBlock = some g → row ≠ some g) : w1.ownsRow B e size v n xs := by
  refine ⟨h.1, ?_⟩
  rcases h.2 with h1 | ⟨g, c, cur, hv, hb, hh, hr⟩
  · exact .inl h1
  · refine .inr ⟨g, c, cur, hv, hb, ?_, hr⟩
    rw [hg.block g (Array.getElem?_eq_some_iff.1 hh).1 (fun e => hne g (by rw [hv]; rfl) e.symm)]
    exact hh
/-- those that are kept, of the first k -/
def keptL (ps : List Th) (k : Nat) : List Th := (ps.take k).filter Th.kept
theorem keptL_next {ps : List Th} {k : Nat} (hk : k < ps.length) {t : Th} (ht : ps.getD k th0 = t) : keptL ps (k + 1) = keptL ps k ++ (if t.kept = true then [t] else []) := by
  unfold keptL
  rw [List.take_add_one, List.filter_append]
  have e : ps[k]? = some t := by
    rw [List.getD_eq_getElem?_getD, List.getElem?_eq_getElem hk] at ht
    rw [List.getElem?_eq_getElem hk, ← ht]
    rfl
  rw [e]
  cases h : t.kept <;> simp [h]
theorem keptL_le (ps : List Th) (k : Nat) : (keptL ps k).length ≤ k := by
  unfold keptL
  have h1 := List.length_filter_le Th.kept (ps.take k)
  rw [List.length_take] at h1
  omega
theorem form_le {t : Th} : t.form.size ≤ 1026 := by
  unfold Th.form
  split
  · rename_i h
    obtain ⟨k, hk⟩ := Int.eq_ofNat_of_zero_le (show 0 ≤ t.w by have := h.1; omega)
    have h1 := h.1
    have h2 := h.2
    rw [hk] at h1 h2
    rw [hk, str_size, putL_is (by omega) (by omega), putTo_length]
    omega
  · unfold textL
    split
    · rw [ByteArray.size_append, put2_size]
      omega
    · decide
theorem formsL_append (l : List Th) (t : Th) : formsL (l ++ [t]) = formsL l ++ t.form.data.toList := by
  unfold formsL
  rw [List.flatMap_append]
  simp
theorem formsL_le (l : List Th) : (formsL l).length ≤ l.length * 1026 := by
  induction l with
  | nil => exact Nat.le_refl _
  | cons t l ih =>
    unfold formsL at ih ⊢
    rw [List.flatMap_cons, List.length_append, toList_size, List.length_cons, Nat.add_mul]
    have := form_le (t := t)
    omega
end Go.Proofs.Ytbgnffgceeclhaa
