/-
  Arguments of the frame laws, opened: lists of texts, of numbers; what the bound and the reach give of them; texts appended to a row of the call's own.
-/
import Derived.Test.YtmmkopdijmplcaaFFixed
import Derived.Test.YtmmkopdijmplcaaRows
import Derived.Deep.Slices
import Derived.SliceStrings
import Derived.Deep.Upon
import Derived.Deep.RegionLawGrows
import Derived.ChangeShapes
import Derived.WideShapes
import Derived.OpenShut
import Derived.SizedLaws
import Derived.ProofKit
namespace Go.Proofs.Ytmmkopdijmplcaa.HH
open Go.RowKit Base Go.ChangeShapes Go.WideShapes
theorem add_block (a : Addr) (i : Nat) : (a.add i).block = a.block := by unfold Addr.add; split <;> rfl
/-- the slice's texts are ss, in blocks that were there -/
def StrsIn (w : World) (ao : Option Addr) (len : Nat) (ss : List ByteArray) : Prop :=
  ss.length = len ∧ ∀ k, k < len → ∃ a, ao = some a ∧ a.block < w.heap.size ∧ w.cell? (a.add k) = some (.string (ss.getD k ByteArray.empty))
theorem StrsIn.below {w w' : World} {B : Nat} {ao : Option Addr} {len : Nat} {xs : List ByteArray} (h : StrsIn w ao len xs) (hb : Below B w w') (hB : w.heap.size ≤ B) : StrsIn w' ao len xs :=
  ⟨h.1, fun k hk => by
    obtain ⟨a, e, hl, hc⟩ := h.2 k hk
    exact ⟨a, e, by have := hb.size; omega, (hb.cell (p := a.add k) (by rw [add_block]; omega)).trans hc⟩⟩
theorem StrsIn.at_ {w : World} {ao : Option Addr} {len : Nat} {ss : List ByteArray} (h : StrsIn w ao len ss) {k : Nat} (hk : k < len) : ∃ a s, ao = some a ∧ a.block < w.heap.size ∧ ss.getD k ByteArray.empty = s ∧ s ∈ ss ∧ w.cell? (a.add k) = some (.string s) := by
  obtain ⟨a, e, hl, hc⟩ := h.2 k hk
  refine ⟨a, _, e, hl, rfl, ?_, hc⟩
  rw [List.getD_eq_getElem?_getD, List.getElem?_eq_getElem (by rw [h.1]; exact hk)]
  exact List.getElem_mem _
theorem StrsIn.take {w : World} {ao : Option Addr} {len : Nat} {ss : List ByteArray} (h : StrsIn w ao len ss) {m : Nat} (hm : m ≤ len) : StrsIn w ao m (ss.take m) := by
  refine ⟨by rw [List.length_take, h.1]; omega, fun k hk => ?_⟩
  obtain ⟨a, e, hl, hc⟩ := h.2 k (by omega)
  refine ⟨a, e, hl, ?_⟩
  rw [hc]
  congr 2
  rw [List.getD_eq_getElem?_getD, List.getD_eq_getElem?_getD, List.getElem?_take, if_pos hk]
/-- a text is no longer than what the sums bear -/
def short (s : ByteArray) : Prop := s.size ≤ 288230376151711743
def lists (ss : List ByteArray) : List (List UInt8) := ss.map fun s => s.data.toList
theorem infoStr : (Try.prog.info? 9).map (fun i => (i.zero, i.size, i.bytes)) = some (some (.string .empty), 1, 16) := by kernel_rfl
/-- how many bytes they are -/
def tot (ss : List ByteArray) : Nat := (ss.map ByteArray.size).sum
theorem tot_append (a b : List ByteArray) : tot (a ++ b) = tot a + tot b := by
  unfold tot
  rw [List.map_append, List.sum_append]
theorem tot_mem {ss : List ByteArray} {s : ByteArray} (h : s ∈ ss) : s.size ≤ tot ss := by
  induction ss with
  | nil => cases h
  | cons x r ih =>
    unfold tot at ih ⊢
    rw [List.map_cons, List.sum_cons]
    cases List.mem_cons.1 h with
    | inl e => subst e; omega
    | inr e => have := ih e; omega
theorem bulk_strs {H : Type} (ss : List ByteArray) : Rows.uptoBulkAll (strs (H := H) ss) = tot ss + ss.length := by
  induction ss with
  | nil => rfl
  | cons x r ih =>
    unfold tot at ih ⊢
    show Rows.uptoBulkAll (DataW.lit (.string x.data.toList) :: strs r) = _
    rw [Rows.uptoBulkAll, ih, List.map_cons, List.sum_cons, List.length_cons]
    have e : x.data.toList.length = x.size := by rw [Array.length_toList]; rfl
    simp only [Rows.uptoBulk, e]
    omega
theorem bulk_part {H : Type} {d : DataW H} {l : List (DataW H)} (h : d ∈ l) : Rows.uptoBulk d ≤ Rows.uptoBulkAll l := by
  induction l with
  | nil => cases h
  | cons x r ih =>
    simp only [Rows.uptoBulkAll]
    cases List.mem_cons.1 h with
    | inl e => subst e; omega
    | inr e => have := ih e; omega
theorem bulk_one {H : Type} (d : DataW H) : 1 ≤ Rows.uptoBulk d := by
  cases d with
  | lit l => cases l <;> simp [Rows.uptoBulk]
  | nil => simp [Rows.uptoBulk]
  | ptr d => simp [Rows.uptoBulk]
  | slice elems spare => simp [Rows.uptoBulk]
  | agg parts => simp [Rows.uptoBulk]
  | iface t d => simp [Rows.uptoBulk]
  | map entries => simp [Rows.uptoBulk]
  | held h => simp [Rows.uptoBulk]
theorem bulk_length {H : Type} (l : List (DataW H)) : l.length ≤ Rows.uptoBulkAll l := by
  induction l with
  | nil => simp [Rows.uptoBulkAll]
  | cons x r ih => have := bulk_one x; simp only [Rows.uptoBulkAll, List.length_cons]; omega
theorem bulk_bound {H : Type} {l : List (DataW H)} (hk : Rows.uptoSmall H l = true) : Rows.uptoBulkAll l ≤ 1048576 := of_decide_eq_true hk
theorem upto_strs {H : Type} {l : List (DataW H)} (hk : Rows.uptoSmall H l = true) {d : DataW H} (hd : d ∈ l) {ss : List ByteArray} {sp : List (DataW H)} (e : d = .slice (strs ss) sp) : tot ss + ss.length ≤ 1048576 := by
  have h1 := bulk_bound hk
  have h2 := bulk_part hd
  subst e
  simp only [Rows.uptoBulk, bulk_strs] at h2
  omega
theorem upto_str {H : Type} {l : List (DataW H)} (hk : Rows.uptoSmall H l = true) {s : ByteArray} (hd : DataW.lit (.string s.data.toList) ∈ l) : s.size ≤ 1048576 := by
  have h1 := bulk_bound hk
  have h2 := bulk_part hd
  have e : s.data.toList.length = s.size := by rw [Array.length_toList]; rfl
  simp only [Rows.uptoBulk, e] at h2
  omega
set_option maxRecDepth 100000 in
theorem open_strs {H : Type} {enc : TypeId × Value → H} {w : World} {r : Reach} {b0 : Nat} {v : Value} {d : DataW H} {ps : List MemPlace} (hval : Value.okWide Try.prog w r b0 53 v) (h : DataW.Trod enc Try.prog w 0 (fun _ => true) true 53 v d ps) :
    ∃ ao len cap l, v = .slice ao len cap ∧ len ≤ cap ∧ cap ≤ maxLen ∧ StrsIn w ao len l ∧ (∀ s ∈ l, s.size ≤ maxLen) ∧ ((ao = none ∧ len = 0 ∧ cap = 0 ∧ l = []) ∨ ∃ sp, d = .slice (strs l) sp) := by
  obtain ⟨ao, len, cap, rfl⟩ := okWide_slice Try.underlying53 hval
  obtain ⟨fuel, hf⟩ := h
  rcases open_strings Try.underlying53 Try.underlying9 (by kernel_rfl) hf with ⟨h0, _⟩ | ⟨a, len', cap', ss, h0, _, hl, hm, hz, hx, hcell, hws⟩
  · simp [Value.cells] at h0
    obtain ⟨rfl, rfl, rfl⟩ := h0
    exact ⟨none, 0, 0, [], rfl, Nat.le_refl _, Nat.zero_le _, ⟨rfl, fun _ hk => absurd hk (Nat.not_lt_zero _)⟩, fun q hq => absurd hq (by simp), .inl ⟨rfl, rfl, rfl, rfl⟩⟩
  · simp [Value.cells] at h0
    obtain ⟨rfl, rfl, rfl⟩ := h0
    simp only [if_true] at hz
    refine ⟨some a, len, cap, ss.take len, rfl, hl, hm, ⟨by rw [List.length_take]; omega, fun k hk => ?_⟩, fun q hq => hws q (List.mem_of_mem_take hq), .inr ⟨_, (Prod.mk.inj hx).1⟩⟩
    have c0 := hcell k (by omega)
    refine ⟨a, rfl, by have := World.block_lt_of_cell? w _ c0; rwa [add_block] at this, ?_⟩
    rw [c0]
    congr 2
    rw [List.getD_eq_getElem?_getD, List.getD_eq_getElem?_getD, List.getElem?_take, if_pos hk]
/-- the slice's numbers are zs, in blocks that were there -/
def IntsIn (w : World) (ao : Option Addr) (len : Nat) (zs : List Int) : Prop :=
  zs.length = len ∧ ∀ k, k < len → ∃ a, ao = some a ∧ a.block < w.heap.size ∧ w.cell? (a.add k) = some (.int .i64 (zs.getD k 0))
theorem IntsIn.below {w w' : World} {B : Nat} {ao : Option Addr} {len : Nat} {xs : List Int} (h : IntsIn w ao len xs) (hb : Below B w w') (hB : w.heap.size ≤ B) : IntsIn w' ao len xs :=
  ⟨h.1, fun k hk => by
    obtain ⟨a, e, hl, hc⟩ := h.2 k hk
    exact ⟨a, e, by have := hb.size; omega, (hb.cell (p := a.add k) (by rw [add_block]; omega)).trans hc⟩⟩
theorem IntsIn.at_ {w : World} {ao : Option Addr} {len : Nat} {zs : List Int} (h : IntsIn w ao len zs) {k : Nat} (hk : k < len) : ∃ a z, ao = some a ∧ a.block < w.heap.size ∧ zs.getD k 0 = z ∧ w.cell? (a.add k) = some (.int .i64 z) := by
  obtain ⟨a, e, hl, hc⟩ := h.2 k hk
  exact ⟨a, _, e, hl, rfl, hc⟩
set_option maxRecDepth 100000 in
theorem open_intsL {H : Type} {enc : TypeId × Value → H} {w : World} {r : Reach} {b0 : Nat} {v : Value} {d : DataW H} {ps : List MemPlace} (hval : Value.okWide Try.prog w r b0 54 v) (h : DataW.Trod enc Try.prog w 0 (fun _ => true) true 54 v d ps) :
    ∃ ao len cap l, v = .slice ao len cap ∧ len ≤ cap ∧ cap ≤ maxLen ∧ IntsIn w ao len l ∧ (∀ z ∈ l, (Lit.int .i64 z).wf = true) ∧ ((ao = none ∧ len = 0 ∧ cap = 0 ∧ l = []) ∨ ∃ sp, d = .slice (lits .i64 l) sp) := by
  obtain ⟨ao, len, cap, rfl⟩ := okWide_slice Try.underlying54 hval
  obtain ⟨fuel, hf⟩ := h
  rcases open_ints Try.underlying54 Try.underlying3 (by kernel_rfl) hf with ⟨h0, _⟩ | ⟨a, len', cap', zs, h0, _, hl, hm, hz, hx, hcell, hws⟩
  · simp [Value.cells] at h0
    obtain ⟨rfl, rfl, rfl⟩ := h0
    exact ⟨none, 0, 0, [], rfl, Nat.le_refl _, Nat.zero_le _, ⟨rfl, fun _ hk => absurd hk (Nat.not_lt_zero _)⟩, fun q hq => absurd hq (by simp), .inl ⟨rfl, rfl, rfl, rfl⟩⟩
  · simp [Value.cells] at h0
    obtain ⟨rfl, rfl, rfl⟩ := h0
    simp only [if_true] at hz
    refine ⟨some a, len, cap, zs.take len, rfl, hl, hm, ⟨by rw [List.length_take]; omega, fun k hk => ?_⟩, fun q hq => hws q (List.mem_of_mem_take hq), .inr ⟨_, (Prod.mk.inj hx).1⟩⟩
    have c0 := hcell k (by omega)
    refine ⟨a, rfl, by have := World.block_lt_of_cell? w _ c0; rwa [add_block] at this, ?_⟩
    rw [c0]
    congr 2
    rw [List.getD_eq_getElem?_getD, List.getD_eq_getElem?_getD, List.getElem?_take, if_pos hk]
/-- by the form's own reach each text of a list is short -/
theorem reach_strs {H : Type} {ts : List TypeId} {ds : List (DataW H)} (h : (DataW.weightsEach Try.prog ts ds).all (· ≤ reachBytes) = true) {j : Nat} {ss : List ByteArray} {sp : List (DataW H)} (ht : ts[j]? = some 53) (hd : ds[j]? = some (.slice (strs ss) sp)) :
    ∀ s ∈ ss, s.size ≤ 140737488355327 := by
  intro s hs
  have hm : s.size ∈ (DataW.slice (strs (H := H) ss) sp).weights Try.prog 53 := by
    unfold DataW.weights
    rw [Try.underlying53]
    refine List.mem_cons_of_mem _ (List.mem_append_left _ ?_)
    clear hd ht h
    induction ss with
    | nil => cases hs
    | cons x r ih =>
      show s.size ∈ DataW.weightsAll Try.prog 9 (DataW.lit (.string x.data.toList) :: strs r)
      unfold DataW.weightsAll
      cases List.mem_cons.1 hs with
      | inl e =>
        subst e
        refine List.mem_append_left _ ?_
        have e : s.data.toList.length = s.size := by rw [Array.length_toList]; rfl
        unfold DataW.weights
        rw [e]
        exact List.mem_cons_self
      | inr e => exact List.mem_append_right _ (ih e)
  have := (List.all_eq_true.1 h) _ (DataW.weights_mem_each ht hd _ hm)
  have h1 := of_decide_eq_true this
  have h2 := reachBytes_lt
  omega
/-- a row of texts that the call owns -/
def SRow (w : World) (B : Nat) (v : Value) (ss : List ByteArray) : Prop := w.ownsRow B 9 1 v ss.length (ss.map Value.string)
theorem StrsIn.nil {w : World} {len : Nat} {ss : List ByteArray} (h : StrsIn w none len ss) : len = 0 ∧ ss = [] := by
  have h0 : len = 0 := by
    rcases Nat.eq_zero_or_pos len with e | e
    · exact e
    · obtain ⟨a, ha, _⟩ := h.2 0 e
      cases ha
  exact ⟨h0, List.eq_nil_of_length_eq_zero (by rw [h.1, h0])⟩
theorem StrsIn.cells {w : World} {a : Addr} {len : Nat} {ss : List ByteArray} (h : StrsIn w (some a) len ss) : ∀ j u, (ss.map Value.string)[j]? = some u → w.cell? (a.add j) = some u := by
  intro j u hu
  have hj : j < (ss.map Value.string).length := (List.getElem?_eq_some_iff.1 hu).1
  rw [List.length_map, h.1] at hj
  obtain ⟨a', e, _, c0⟩ := h.2 j hj
  obtain rfl : a = a' := Option.some.inj e
  rw [c0, ← hu, List.getElem?_map, List.getD_eq_getElem?_getD, List.getElem?_eq_getElem (by rw [h.1]; exact hj)]
  rfl
theorem SRow.strs {w : World} {B : Nat} {v : Value} {ss : List ByteArray} (h : SRow w B v ss) : ∃ ao cap, v = .slice ao ss.length cap ∧ ss.length ≤ cap ∧ StrsIn w ao ss.length ss := by
  unfold SRow at h
  rcases h.2 with ⟨rfl, h0⟩ | ⟨g, cap, cur, rfl, _, hb, hnc, _, hcs, ht⟩
  · rw [h0]
    exact ⟨none, 0, rfl, Nat.le_refl _, h0, fun k hk => absurd hk (Nat.not_lt_zero k)⟩
  · refine ⟨some ⟨g, 0, none⟩, cap, rfl, hnc, rfl, fun k hk => ⟨_, rfl, (Array.getElem?_eq_some_iff.1 hb).1, ?_⟩⟩
    have := h.cells (g := g) rfl k (.string (ss.getD k ByteArray.empty)) (by
      rw [List.getElem?_map, List.getD_eq_getElem?_getD, List.getElem?_eq_getElem hk]
      rfl)
    exact this
theorem run_append_strs (w : World) {base : Nat} {v : Value} {qs : List ByteArray} (hown : SRow w base v qs) (hb : base ≤ w.heap.size) {ao : Option Addr} {len cap : Nat} {ps : List ByteArray} (hps : StrsIn w ao len ps)
    (h63 : (qs.length + len) * 16 ≤ 140737488355328) (ty : TypeId) :
    ∃ v' w', (Builtin.append_ #[53, 53] ty #[v, .slice ao len cap]).run Try.prog w = .ok v' w' ∧ SRow w' base v' (qs ++ ps) ∧ w.grownBy w' v.ownBlock := by
  obtain ⟨i0, hi, hz0, hz1, hz2⟩ := info_parts infoStr
  have hl := hps.1
  cases ao with
  | none =>
    obtain ⟨rfl, rfl⟩ := hps.nil
    obtain ⟨a, c, rfl, hle, _⟩ := hown.strs
    refine ⟨_, w, run_append_nothing w _ _ _ 9 i0 Try.underlying53 hi a _ c hle _ (Src.ofNil w Try.underlying53 cap), ?_, World.grownBy.refl _ _⟩
    rw [List.append_nil]
    exact hown
  | some a =>
    obtain ⟨v', w', hr, h1, h2, _⟩ := run_append_own (P := Try.prog) w base 53 ty 9 i0 _ 1 16 Try.underlying53 hi hz0 hz1 hz2 rfl (by decide) v qs.length (qs.map Value.string) hown a len cap (ps.map Value.string) (by rw [List.length_map, hl, Nat.mul_one]) hps.cells
      (fun u hu => by obtain ⟨x, _, rfl⟩ := List.mem_map.1 hu; rfl) (by unfold maxLen; omega) h63 hb
    refine ⟨v', w', hr, ?_, h2⟩
    unfold SRow
    rw [List.length_append, hl, List.map_append]
    exact h1
theorem wpList_append_strs {w : World} {ops : Array Oper} {rest : List Oper} {o : Oper} {a : Act} {Q : Exit → Act → World → Prop} (hgd : o.guard = none) (s x : Operand)
    (ho : o.op = .call { callee := .builtin .append, args := #[s, x], argTypes := #[53, 53] })
    {base : Nat} {v : Value} {qs : List ByteArray} (hs : a.eval s = v) (hown : SRow w base v qs) (hb : base ≤ w.heap.size) {ao : Option Addr} {len cap : Nat} {ps : List ByteArray} (hx : a.eval x = .slice ao len cap) (hps : StrsIn w ao len ps)
    (h63 : (qs.length + len) * 16 ≤ 140737488355328)
    (h : ∀ v' w', SRow w' base v' (qs ++ ps) → w.grownBy w' v.ownBlock → wpList Try.prog ops Q rest (a.put o.dst v') w') : wpList Try.prog ops Q (o :: rest) a w :=
  wpList_plain hgd fun _ hK => by
    obtain ⟨v', w', hr, h2, h3⟩ := run_append_strs w hown hb hps h63 (cap := cap) o.type
    unfold Oper.wp execOp
    simp only [ho, resolve, invoke, builtin, Sem.run_bind, Sem.run_pure, Result.andThen_ok, List.map_toArray, List.map_cons, List.map_nil, hs, hx, hr]
    exact hK _ _ (h v' w' h2 h3)
theorem SRow.empty {base : Nat} (w : World) (hb : base ≤ w.heap.size) : SRow (w.alloc (.cells #[] 9)) base (.slice (some ⟨w.heap.size, 0, none⟩) 0 0) [] :=
  World.ownsRow_made w #[] 0 hb (Nat.zero_le _) rfl
theorem wf_le {z : Int} (h : (Lit.int .i64 z).wf = true) : z ≤ 9223372036854775807 := by
  have h2 : (decide (IntKind.i64.min ≤ z) && decide (z ≤ IntKind.i64.max)) = true := h
  rw [Bool.and_eq_true, decide_eq_true_eq, decide_eq_true_eq] at h2
  exact h2.2
theorem wf_ge {z : Int} (h : (Lit.int .i64 z).wf = true) : -9223372036854775808 ≤ z := by
  have h2 : (decide (IntKind.i64.min ≤ z) && decide (z ≤ IntKind.i64.max)) = true := h
  rw [Bool.and_eq_true, decide_eq_true_eq, decide_eq_true_eq] at h2
  exact h2.1
end Go.Proofs.Ytmmkopdijmplcaa.HH
