/-
  A row of bytes of the call's own that may have come out of a text: appended to, stored into, read back.
-/
import Derived.Test.YtmmkopdijmplcaaRKeys
set_option linter.unusedVariables false
set_option maxRecDepth 100000
namespace Go.Proofs.Ytmmkopdijmplcaa.RH
open Go.RowKit Base HH
/-- nothing of the row is frozen -/
def Thaw (fz : Nat × Nat) (n : Nat) : Prop := ∀ j, j < n → ¬ (fz.1 ≤ j ∧ j < fz.2)
theorem thaw_zero (n : Nat) : Thaw (0, 0) n := fun j _ h => absurd h.2 (Nat.not_lt_zero j)
theorem run_storeCells_fz (P : Program) (g o : Nat) (t : TypeId) (fz : Nat × Nat) : ∀ (vs : List Value) (i : Nat) (cur : Array Value) (w : World), w.heap[g]? = some (.cells cur t fz) → Thaw fz cur.size → o + i + vs.length ≤ cur.size → (∀ v ∈ vs, v.oneCell' = true) →
    (storeCells ⟨g, o, none⟩ vs i).run P w = .ok () (w.setRow g (cur.toList.take (o + i) ++ vs ++ cur.toList.drop (o + i + vs.length)).toArray)
  | [], i, cur, w, hg, _, _, _ => by
    simp only [storeCells, List.append_nil, List.length_nil, Nat.add_zero, List.take_append_drop, Array.toArray_toList]
    rw [setRow_self w g cur t fz hg]
    rfl
  | v :: rest, i, cur, w, hg, hz, hl, h1 => by
    have hi : o + i < cur.size := by simp at hl; omega
    have hadd : (⟨g, o, none⟩ : Addr).add i = ⟨g, o + i, none⟩ := by unfold Addr.add; split <;> simp_all
    have hcell : w.cell? ⟨g, o + i, none⟩ = some cur[o + i] := by simp [World.cell?, hg, hi]
    have hfro : w.frozen? ⟨g, o + i, none⟩ = false := by
      have := hz (o + i) hi
      obtain ⟨lo, hh⟩ := fz
      simp only [World.frozen?, hg]
      rw [Bool.and_eq_false_iff, decide_eq_false_iff_not, decide_eq_false_iff_not]
      by_cases h : lo ≤ o + i
      · exact .inr (fun h2 => this ⟨h, h2⟩)
      · exact .inl h
    have hst : (store ((⟨g, o, none⟩ : Addr).add i) v).run P w = .ok () (w.setRow g (cur.setIfInBounds (o + i) v)) := by
      rw [hadd, run_store P w _ v _ (h1 v (by simp)), hcell]
      simp [hfro, setCell_eq_setRow w g (o + i) cur t fz v hg]
    have ih := run_storeCells_fz P g o t fz rest (i + 1) (cur.setIfInBounds (o + i) v) (w.setRow g (cur.setIfInBounds (o + i) v)) (setRow_heap w g cur _ t _ hg) (by simpa using hz) (by simp at hl ⊢; omega) (fun x hx => h1 x (by simp [hx]))
    simp only [storeCells, Sem.run_bind, hst, Result.andThen_ok, ih, setRow_setRow]
    congr 3
    have e := list_seg_step cur.toList (o + i) v rest (by simp at hl ⊢; omega)
    simpa [Array.toList_setIfInBounds, Nat.add_assoc] using e
/-- the bytes xs at the head of a row of the call's own -/
def FRow (w : World) (B : Nat) (v : Value) (n : Nat) (xs : List UInt8) : Prop :=
  xs.length = n ∧ ∃ g cap cur fz, v = .slice (some ⟨g, 0, none⟩) n cap ∧ B ≤ g ∧ w.heap[g]? = some (.cells cur 5 fz) ∧ Thaw fz cur.size ∧ n ≤ cap ∧ cap ≤ maxLen ∧ cur.size = cap ∧ cur.toList.take n = xs.map bv
section
variable {w w1 : World} {B n : Nat} {v : Value} {xs : List UInt8}
theorem FRow.lt (h : FRow w B v n xs) : ∃ g cap, v = .slice (some ⟨g, 0, none⟩) n cap ∧ n ≤ cap ∧ B ≤ g ∧ g < w.heap.size := by
  obtain ⟨_, g, cap, cur, fz, rfl, hB, hg, _, hn, _⟩ := h
  exact ⟨g, cap, rfl, hn, hB, (Array.getElem?_eq_some_iff.1 hg).1⟩
theorem FRow.below (h : FRow w B v n xs) (hb : Below w.heap.size w w1) : FRow w1 B v n xs := by
  obtain ⟨h0, g, cap, cur, fz, rfl, hB, hg, h⟩ := h
  exact ⟨h0, g, cap, cur, fz, rfl, hB, (hb.block g (Array.getElem?_eq_some_iff.1 hg).1).trans hg, h⟩
theorem FRow.alloc (h : FRow w B v n xs) (o : Obj) : FRow (w.alloc o) B v n xs := h.below ((Below.refl _ _).alloc (Nat.le_refl _) _)
theorem FRow.cell {g cap : Nat} (h : FRow w B (.slice (some ⟨g, 0, none⟩) n cap) n xs) {j : Nat} (hj : j < n) : w.cell? ⟨g, j, none⟩ = some (bv (xs.getD j 0)) := by
  obtain ⟨h0, g', cap', cur, fz, he, hB, hg, _, hn, _, hs, ht⟩ := h
  injection he with ha
  injection ha with ha
  injection ha with e1
  subst e1
  have h1 := congrArg (fun l => l[j]?) ht
  simp only [List.getElem?_take, if_pos hj] at h1
  have h2 : (xs.map bv)[j]? = some (bv (xs.getD j 0)) := by
    rw [List.getElem?_map, List.getElem?_eq_getElem (by omega), List.getD_eq_getElem?_getD, List.getElem?_eq_getElem (by omega)]
    rfl
  rw [h2] at h1
  unfold World.cell?
  simp only [hg]
  rw [← Array.getElem?_toList, h1]
  rfl
theorem FRow.free {g cap : Nat} (h : FRow w B (.slice (some ⟨g, 0, none⟩) n cap) n xs) {j : Nat} (hj : j < n) : w.frozen? ⟨g, j, none⟩ = false := by
  obtain ⟨h0, g', cap', cur, fz, he, hB, hg, hz, hn, _, hs, ht⟩ := h
  injection he with ha
  injection ha with ha
  injection ha with e1
  subst e1
  have := hz j (by omega)
  obtain ⟨lo, hh⟩ := fz
  simp only [World.frozen?, hg]
  rw [Bool.and_eq_false_iff, decide_eq_false_iff_not, decide_eq_false_iff_not]
  by_cases h : lo ≤ j
  · exact .inr (fun h2 => this ⟨h, h2⟩)
  · exact .inl h
theorem FRow.set {g cap : Nat} (h : FRow w B (.slice (some ⟨g, 0, none⟩) n cap) n xs) {j : Nat} (hj : j < n) (c : UInt8) : FRow (w.setCell ⟨g, j, none⟩ (bv c)) B (.slice (some ⟨g, 0, none⟩) n cap) n (xs.set j c) := by
  obtain ⟨h0, g', cap', cur, fz, he, hB, hg, hz, hn, hm, hs, ht⟩ := h
  injection he with ha hl hc
  injection ha with ha
  injection ha with e1
  subst e1
  subst hc
  refine ⟨by rw [List.length_set]; exact h0, g, cap, cur.setIfInBounds j (bv c), fz, rfl, hB, ?_, by simpa using hz, hn, hm, by simpa using hs, ?_⟩
  · simp [World.setCell, Array.getElem?_modify, hg]
  · rw [Array.toList_setIfInBounds, List.take_set, ht, List.map_set]
/-- '[]byte(s)' -/
theorem frow_conv (s : ByteArray) (w : World) (hs : s.size ≤ 4611686018427387904) : ∃ cap w1, (convert 9 82 (.string s)).run Try.prog w = .ok (.slice (some ⟨w.heap.size, 0, none⟩) s.size cap) w1 ∧ FRow w1 w.heap.size (.slice (some ⟨w.heap.size, 0, none⟩) s.size cap) s.size s.data.toList ∧ Below w.heap.size w w1 := by
  have hge := grownCap_ge w s.size 0 5
  have hm : grownCap w s.size 0 5 ≤ maxLen := grownCap_le_maxLen w s.size 0 5 (by unfold maxLen; omega)
  have hz : (bytesRow s (grownCap w s.size 0 5)).size = grownCap w s.size 0 5 := by
    unfold bytesRow
    simp only [Array.size_append, Array.size_map, Array.size_replicate]
    have : s.data.size = s.size := rfl
    omega
  refine ⟨_, _, run_bytes_of_string w 9 82 5 s Try.underlying9 Try.underlying82 Try.underlying5, ⟨rfl, w.heap.size, _, _, _, rfl, Nat.le_refl _, heap_alloc_new w.drew _, fun j hj h => ?_, hge, hm, hz, ?_⟩, (Below.drew (Below.refl _ _)).alloc (Nat.le_refl _) _⟩
  · have := h.1
    omega
  · unfold bytesRow
    rw [Array.toList_append, List.take_left' (by simp)]
    simp [bv]
theorem nextcap_near {need old : Nat} (h : old < need) (h64 : need ≤ old + 64) : Builtin.nextslicecap need old ≤ old + old / 4 + 1000 := by
  unfold Builtin.nextslicecap
  split
  · omega
  · split
    · omega
    · rw [growBy_four]
      repeat' split
      all_goals omega
/-- append -/
theorem run_append_frow (w : World) {v : Value} (h : FRow w B v n xs) (hb : B ≤ w.heap.size) {ad : Addr} {m c : Nat} {cs : List UInt8} (hc : cs.length = m) (hnews : ∀ j u, (cs.map bv)[j]? = some u → w.cell? (ad.add j) = some u) (h0 : 0 < m) (hm64 : m ≤ 64) (h63 : n + m ≤ 150000000000000) (ty : TypeId) :
    ∃ v' w', (Builtin.append_ #[82, 82] ty #[v, .slice (some ad) m c]).run Try.prog w = .ok v' w' ∧ FRow w' B v' (n + m) (xs ++ cs) ∧ w.grownBy w' v.ownBlock := by
  obtain ⟨i0, hi, hz0, hz1, hz2⟩ := info_parts infoU8
  obtain ⟨hl, g, cap, cur, fz, rfl, hB, hg, hz, hn, hm, hs, ht⟩ := h
  have hcl : (cs.map bv).length = m := by rw [List.length_map, hc]
  by_cases hroom : n + m ≤ cap
  · have hf := run_firstCells_some (P := Try.prog) w 1 m ad m c (cs.map bv) (by rw [hcl, Nat.mul_one]) hnews
    have hst := run_storeCells_fz Try.prog g n 5 fz (cs.map bv) 0 cur w hg hz (by rw [hcl]; omega) (fun u hu => by obtain ⟨x, _, rfl⟩ := List.mem_map.1 hu; rfl)
    simp only [Nat.add_zero] at hst
    have hrun : (Builtin.append_ #[82, 82] ty #[.slice (some ⟨g, 0, none⟩) n cap, .slice (some ad) m c]).run Try.prog w = .ok (.slice (some ⟨g, 0, none⟩) (n + m) cap) (w.setRow g (cur.toList.take n ++ cs.map bv ++ cur.toList.drop (n + (cs.map bv).length)).toArray) := by
      simp [Builtin.append_, run_underlying Try.underlying82, sizeOf, typeInfo, hi, hz1, Builtin.lenOf, hroom, hf, Addr.add_lit, hst]
    refine ⟨_, _, hrun, ⟨by rw [List.length_append, hl, hc], g, cap, _, fz, rfl, hB, setRow_heap w g cur _ 5 fz hg, ?_, hroom, hm, ?_, ?_⟩, grown_setRow w g _⟩
    · have e : (cur.toList.take n ++ cs.map bv ++ cur.toList.drop (n + (cs.map bv).length)).toArray.size = cur.size := by
        simp only [List.size_toArray, List.length_append, List.length_take, List.length_drop, Array.length_toList, hcl]
        omega
      rw [e]
      exact hz
    · simp only [List.size_toArray, List.length_append, List.length_take, List.length_drop, Array.length_toList, hcl]
      omega
    · rw [ht, List.map_append]
      refine List.take_left' ?_
      rw [List.length_append, List.length_map, List.length_map, hl, hc]
  · have holds : ∀ j u, (xs.map bv)[j]? = some u → w.cell? ((⟨g, 0, none⟩ : Addr).add j) = some u := fun j u hj => by
      rw [Addr.add_mid, Nat.zero_add]
      have hj2 : j < n := by have := (List.getElem?_eq_some_iff.1 hj).1; rw [List.length_map] at this; omega
      have h1 := congrArg (fun l => l[j]?) ht
      simp only [List.getElem?_take, if_pos hj2] at h1
      rw [hj] at h1
      unfold World.cell?
      simp only [hg]
      rw [← Array.getElem?_toList, h1]
      rfl
    have hrun := run_append_grow (P := Try.prog) w 82 ty 5 i0 (.int .u8 0) Try.underlying82 hi hz0 ⟨g, 0, none⟩ n cap (xs.map bv) (by rw [List.length_map, hl, hz1, Nat.mul_one]) holds ad m c (cs.map bv) (by rw [hcl, hz1, Nat.mul_one]) hnews (by omega) (by omega) (by
      have := nextcap_near (need := n + m) (old := cap) (by omega) (by omega)
      rw [hz2]
      omega)
    have hge := grownCap_ge w (n + m) cap 5
    have hcm : grownCap w (n + m) cap 5 ≤ maxLen := grownCap_le_maxLen w (n + m) cap 5 (by unfold maxLen; omega)
    obtain ⟨zs, hzs⟩ : ∃ zs, Builtin.zeroCells (Value.int .u8 0).cells (grownCap w (n + m) cap 5 - (n + m)) = zs := ⟨_, rfl⟩
    have hzl : zs.size = grownCap w (n + m) cap 5 - (n + m) := by
      rw [← hzs, size_zeroCells]
      exact Nat.mul_one _
    rw [hzs] at hrun
    refine ⟨_, _, hrun, ⟨by rw [List.length_append, hl, hc], w.heap.size, _, _, (0, 0), rfl, hb, heap_alloc_new w.drew _, thaw_zero _, hge, hcm, ?_, ?_⟩, ⟨rfl, rfl, rfl, by simp, fun k hk _ => Below.heap_alloc w.drew _ k hk⟩⟩
    · simp only [Array.size_append, List.size_toArray, hcl, List.length_map, hl, hzl]
      omega
    · simp only [Array.toList_append]
      rw [List.map_append]
      refine List.take_left' ?_
      rw [List.length_append, List.length_map, List.length_map, hl, hc]
theorem wpList_append_frow {ops : Array Oper} {rest : List Oper} {o : Oper} {a : Act} {Q : Exit → Act → World → Prop} (hgd : o.guard = none) (s x : Operand)
    (ho : o.op = .call { callee := .builtin .append, args := #[s, x], argTypes := #[82, 82] })
    {v : Value} (hs : a.eval s = v) (h : FRow w B v n xs) (hb : B ≤ w.heap.size) {ad : Addr} {m c : Nat} {cs : List UInt8} (hx : a.eval x = .slice (some ad) m c) (hc : cs.length = m) (hnews : ∀ j u, (cs.map bv)[j]? = some u → w.cell? (ad.add j) = some u) (h0 : 0 < m) (hm64 : m ≤ 64) (h63 : n + m ≤ 150000000000000)
    (hk : ∀ v' w', FRow w' B v' (n + m) (xs ++ cs) → w.grownBy w' v.ownBlock → wpList Try.prog ops Q rest (a.put o.dst v') w') : wpList Try.prog ops Q (o :: rest) a w :=
  wpList_plain hgd fun _ hK => by
    obtain ⟨v', w', hr, h2, h3⟩ := run_append_frow w h hb hc hnews h0 hm64 h63 (c := c) o.type
    unfold Oper.wp execOp
    simp only [ho, resolve, invoke, builtin, Sem.run_bind, Sem.run_pure, Result.andThen_ok, List.map_toArray, List.map_cons, List.map_nil, hs, hx, hr]
    exact hK _ _ (hk v' w' h2 h3)
theorem FRow.back {v : Value} (h : FRow w B v n xs) : (convert 82 9 v).run Try.prog w = .ok (.string (str xs)) w := by
  have h' := h
  obtain ⟨h0, g, cap, cur, fz, rfl, hB, hg, hz, hn, hm, hs, ht⟩ := h
  subst h0
  refine run_convert_bytes_back w 82 9 5 ⟨g, 0, none⟩ cap xs Try.underlying82 Try.underlying5 Try.underlying9 fun j hj => ?_
  rw [Addr.add_mid, Nat.zero_add, h'.cell hj, List.getD_eq_getElem?_getD, List.getElem?_eq_getElem hj]
  rfl
end
end Go.Proofs.Ytmmkopdijmplcaa.RH
