/-
  The place of each thing in the joined bytes, plainly, and the rows' shapes.
-/
import Derived.Test.YtbgnffgceeclhaaRows
import Derived.Test.YtbgnffgceeclhaaBase
import Derived.Test.YtbgnffgceeclhaaNum
import Derived.Test.YtbgnffgceeclhaaOps
import Derived.Test.YtbgnffgceeclhaaShift
import Derived.Test.YtbgnffgceeclhaaBackP
import Derived.Test.YtbgnffgceeclhaaThings
import Derived.Test.YtbgnffgceeclhaaLaid
import Derived.DataShut
namespace Go.Proofs.Ytbgnffgceeclhaa
open Go.RowKit Base Go.Lib
theorem owns_cells {w : World} {base : Nat} {e : TypeId} {size : Nat} {v : Value} {n : Nat} {xs : List Value} (h : w.ownsRow base e size v n xs) :
    ∃ ao cap, v = .slice ao n cap ∧ n ≤ maxLen ∧ ∀ k, k < n * size → ∃ g, ao = some ⟨g, 0, none⟩ ∧ base ≤ g ∧ g < w.heap.size ∧ w.cell? ⟨g, k, none⟩ = xs[k]? := by
  obtain ⟨hl, h⟩ := h
  rcases h with ⟨rfl, rfl⟩ | ⟨g, cap, cur, rfl, hg, hb, hn, hm, hs, ht⟩
  · exact ⟨none, 0, rfl, Nat.zero_le _, fun k hk => by simp at hk⟩
  · refine ⟨_, cap, rfl, by omega, fun k hk => ⟨g, rfl, hg, (Array.getElem?_eq_some_iff.1 hb).1, ?_⟩⟩
    unfold World.cell?
    simp only [hb]
    rw [← ht, List.getElem?_take, if_pos hk]
    simp
theorem cellsL_get (K : List Th) {k : Nat} (hk : k < K.length) : (K.flatMap Th.cells)[k * 3]? = some (.int .i64 (K.getD k th0).n) ∧ (K.flatMap Th.cells)[k * 3 + 1]? = some (.int .i64 (K.getD k th0).w) ∧ (K.flatMap Th.cells)[k * 3 + 2]? = some (.string (K.getD k th0).s) := by
  induction K generalizing k with
  | nil => simp at hk
  | cons t K ih =>
    cases k with
    | zero => exact ⟨rfl, rfl, rfl⟩
    | succ k =>
      have := ih (k := k) (by simpa using hk)
      rw [List.flatMap_cons]
      have e1 : (k + 1) * 3 = k * 3 + 1 + 1 + 1 := by omega
      rw [e1]
      exact this
theorem add_at0 (g k : Nat) : (⟨g, 0, none⟩ : Addr).add k = ⟨g, k, none⟩ := by
  unfold Addr.add
  split <;> simp_all
theorem things_of_owns {w : World} {B : Nat} {v : Value} {K : List Th} (h : w.ownsRow B 34 3 v K.length (K.flatMap Th.cells)) :
    ∃ ao cap, v = .slice ao K.length cap ∧ K.length ≤ maxLen ∧ ThingsIn w ao K.length K := by
  obtain ⟨ao, cap, hv, hm, hc⟩ := owns_cells h
  refine ⟨ao, cap, hv, hm, rfl, fun k hk => ?_⟩
  obtain ⟨g0, g1, g2⟩ := cellsL_get K hk
  obtain ⟨g, e, _, hg, hk0⟩ := hc (k * 3) (by omega)
  obtain ⟨g', e', _, _, hk1⟩ := hc (k * 3 + 1) (by omega)
  obtain rfl : g = g' := by rw [e] at e'; cases e'; rfl
  obtain ⟨g'', e'', _, _, hk2⟩ := hc (k * 3 + 2) (by omega)
  obtain rfl : g = g'' := by rw [e] at e''; cases e''; rfl
  refine ⟨_, e, hg, ?_, ?_, ?_⟩
  · rw [add_at0, hk0, g0]
  · rw [add_at0]; exact hk1.trans g1
  · rw [add_at0]; exact hk2.trans g2
/-- where the k-th thing begins -/
def posL (K : List Th) (k : Nat) : Nat := (formsL (K.take k)).length
theorem posL_zero (K : List Th) : posL K 0 = 0 := rfl
theorem posL_all (K : List Th) : posL K K.length = (formsL K).length := by unfold posL; rw [List.take_length]
theorem formsL_split (K : List Th) {k : Nat} (hk : k < K.length) : formsL K = formsL (K.take k) ++ ((K.getD k th0).form.data.toList ++ formsL (K.drop (k + 1))) := by
  have e : K = K.take k ++ (K.getD k th0 :: K.drop (k + 1)) := by
    rw [List.getD_eq_getElem?_getD, List.getElem?_eq_getElem hk]
    simp
  have h := congrArg formsL e
  unfold formsL at h ⊢
  rw [List.flatMap_append, List.flatMap_cons] at h
  exact h
theorem posL_succ (K : List Th) {k : Nat} (hk : k < K.length) : posL K (k + 1) = posL K k + (K.getD k th0).form.size := by
  unfold posL
  rw [List.take_add_one, List.getElem?_eq_getElem hk]
  show (formsL (K.take k ++ [K[k]])).length = _
  rw [formsL_append, List.length_append, toList_size, List.getD_eq_getElem?_getD, List.getElem?_eq_getElem hk]
  rfl
theorem posL_le (K : List Th) (k : Nat) : posL K k ≤ (formsL K).length := by
  unfold posL
  have h := congrArg formsL (List.take_append_drop k K)
  unfold formsL at h ⊢
  rw [List.flatMap_append] at h
  rw [← h, List.length_append]
  omega
theorem drop_at {S : ByteArray} {K : List Th} {post : List UInt8} (hS : S.data.toList = formsL K ++ post) {k : Nat} (hk : k < K.length) :
    S.data.toList.drop (posL K k) = (K.getD k th0).form.data.toList ++ (formsL (K.drop (k + 1)) ++ post) ∧ posL K k ≤ S.size := by
  have hl := posL_le K k
  refine ⟨?_, ?_⟩
  · rw [hS, formsL_split K hk, List.append_assoc, List.append_assoc]
    exact List.drop_left' rfl
  · rw [← toList_size, hS, List.length_append]
    omega
theorem at_num {S : ByteArray} {K : List Th} {post : List UInt8} (hS : S.data.toList = formsL K ++ post) {k : Nat} (hk : k < K.length) {t : Th} (ht : K.getD k th0 = t) (hw : t.wf) (hn : t.num) :
    (⟨S, posL K k, 0⟩ : Rd).numV t.w = (if t.w < 8 then t.n % 256 ^ t.w.toNat else t.n) ∧ (⟨S, posL K k, 0⟩ : Rd).numR t.w = ⟨S, posL K (k + 1), 0⟩ := by
  obtain ⟨hd, hle⟩ := drop_at hS hk
  rw [posL_succ K hk]
  subst ht
  obtain ⟨h1, h2⟩ := (Lit.wf_int_iff _ _).1 hw.1
  exact back_num hn h1 h2 hd hle
theorem at_text {S : ByteArray} {K : List Th} {post : List UInt8} (hS : S.data.toList = formsL K ++ post) {k : Nat} (hk : k < K.length) {t : Th} (ht : K.getD k th0 = t) (hkp : t.kept = true) (hn : ¬ t.num) :
    (⟨S, posL K k, 0⟩ : Rd).textV 1024 = t.s ∧ (⟨S, posL K k, 0⟩ : Rd).textR 1024 = ⟨S, posL K (k + 1), 0⟩ := by
  obtain ⟨hd, hle⟩ := drop_at hS hk
  rw [posL_succ K hk]
  subst ht
  have h2 : (K.getD k th0).s.size ≤ 1024 := by
    unfold Th.kept at hkp
    rw [decide_eq_false hn, Bool.false_or] at hkp
    exact of_decide_eq_true hkp
  exact back_text hn h2 hd hle
theorem keptL_mem {ps : List Th} {k : Nat} {t : Th} (h : t ∈ keptL ps k) : t.kept = true ∧ t ∈ ps := by
  unfold keptL at h
  obtain ⟨h1, h2⟩ := List.mem_filter.1 h
  exact ⟨h2, List.mem_of_mem_take h1⟩
theorem getD_mem {K : List Th} {k : Nat} (hk : k < K.length) : K.getD k th0 ∈ K := by
  rw [List.getD_eq_getElem?_getD, List.getElem?_eq_getElem hk]
  exact List.getElem_mem _
end Go.Proofs.Ytbgnffgceeclhaa
