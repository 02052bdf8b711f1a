/-
  Arguments of the code laws, opened: a script, that is a list of calls of a reader.
-/
import Derived.Test.YtbgnffgceeclhaaRows
import Derived.Test.YtbgnffgceeclhaaBase
import Derived.Deep.Slices
import Derived.OpenShut
import Derived.ChangeSame
namespace Go.Proofs.Ytbgnffgceeclhaa
open Go.RowKit Base Go.ChangeShapes Go.WideShapes
theorem add_block (a : Addr) (i : Nat) : (a.add i).block = a.block := by unfold Addr.add; split <;> rfl
/-- the slice's calls are ps, in blocks that were there -/
def OpsIn (w : World) (ao : Option Addr) (len : Nat) (ps : List (Int × Int)) : Prop :=
  ps.length = len ∧ ∀ k, k < len → ∃ a, ao = some a ∧ a.block < w.heap.size ∧ w.cell? (a.add (k * 2)) = some (.int .i64 (ps.getD k (0, 0)).1) ∧ w.cell? ⟨(a.add (k * 2)).block, (a.add (k * 2)).off + 1, none⟩ = some (.int .i64 (ps.getD k (0, 0)).2)
theorem OpsIn.below {w w' : World} {B : Nat} {ao : Option Addr} {len : Nat} {xs : List (Int × Int)} (h : OpsIn w ao len xs) (hb : Below B w w') (hB : w.heap.size ≤ B) : OpsIn w' ao len xs :=
  ⟨h.1, fun k hk => by
    obtain ⟨a, e, hl, hc, hd⟩ := h.2 k hk
    exact ⟨a, e, by have := hb.size; omega, (hb.cell (p := a.add (k * 2)) (by rw [add_block]; omega)).trans hc, (hb.cell (p := ⟨(a.add (k * 2)).block, (a.add (k * 2)).off + 1, none⟩) (by show (a.add (k * 2)).block < B; rw [add_block]; omega)).trans hd⟩⟩
theorem OpsIn.at_ {w : World} {ao : Option Addr} {len : Nat} {ps : List (Int × Int)} (h : OpsIn w ao len ps) {k : Nat} (hk : k < len) : ∃ a x y, ao = some a ∧ a.block < w.heap.size ∧ ps.getD k (0, 0) = (x, y) ∧ w.cell? (a.add (k * 2)) = some (.int .i64 x) ∧ w.cell? ⟨(a.add (k * 2)).block, (a.add (k * 2)).off + 1, none⟩ = some (.int .i64 y) := by
  obtain ⟨a, e, hl, c0, c1⟩ := h.2 k hk
  exact ⟨a, _, _, e, hl, rfl, c0, c1⟩
set_option linter.unusedVariables false in
theorem open_op {H : Type} {enc : TypeId × Value → H} {w : World} {base : Nat} {spare : Nat → Bool} {held : Bool} {n : Nat} {a : Addr} {cs : List Value} {x : DataW H × List MemPlace}
    (h1 : w.cells? base a 2 = some cs) (h2 : DataW.trod enc Try.prog w base spare held n 45 cs = some x) :
    ∃ q : Int × Int, cs = [.int .i64 q.1, .int .i64 q.2] ∧ w.cell? a = some (.int .i64 q.1) ∧ w.cell? ⟨a.block, a.off + 1, none⟩ = some (.int .i64 q.2) ∧ (Lit.int .i64 q.1).wf = true ∧ (Lit.int .i64 q.2).wf = true := by
  obtain ⟨_, hl, hc⟩ := World.cells?_some h1
  obtain ⟨y0, y1, m, _, _, e0, e1⟩ := trod_struct2 Try.underlying45 h2
  have hci : Try.prog.cellsOf 3 = 1 := by kernel_rfl
  simp only [hci] at e0 e1
  match cs, hl with
  | [u, v], _ =>
    obtain ⟨p, hp, _, wp⟩ := DataW.trod_int Try.underlying3 e0
    obtain ⟨q, hq, _, wq⟩ := DataW.trod_int Try.underlying3 e1
    simp at hp hq
    subst hp
    subst hq
    have c0 := hc 0 (by omega)
    have c1 := hc 1 (by omega)
    exact ⟨(p, q), rfl, c0, c1, wp, wq⟩
theorem open_ops {H : Type} {enc : TypeId × Value → H} {w : World} {r : Reach} {b0 : Nat} {v : Value} {d : DataW H} {ps : List MemPlace} (hval : Value.okWide Try.prog w r b0 42 v) (h : DataW.Trod enc Try.prog w 0 (fun _ => true) true 42 v d ps) :
    ∃ ao len cap l, v = .slice ao len cap ∧ len ≤ cap ∧ cap ≤ maxLen ∧ OpsIn w ao len l ∧ (∀ q ∈ l, (Lit.int .i64 q.1).wf = true ∧ (Lit.int .i64 q.2).wf = true) ∧
      ((ao = none ∧ len = 0 ∧ cap = 0) ∨ ∃ D : Nat → DataW H, d = .slice ((List.range len).map D) ((List.range (cap - len)).map fun j => D (len + j))) := by
  obtain ⟨ao, len, cap, rfl⟩ := okWide_slice Try.underlying42 hval
  obtain ⟨fuel, hf⟩ := h
  have hcp : Try.prog.cellsOf 45 = 2 := by kernel_rfl
  rcases Deep.open_slice Try.underlying42 hf with ⟨h0, _⟩ | ⟨a, len', cap', m, n, D, Pl, h0, _, hl, hm, hmm, hx, hel⟩
  · simp [Value.cells] at h0
    obtain ⟨rfl, rfl, rfl⟩ := h0
    exact ⟨none, 0, 0, [], rfl, Nat.le_refl _, Nat.zero_le _, ⟨rfl, fun _ hk => absurd hk (Nat.not_lt_zero _)⟩, fun q hq => absurd hq (by simp), .inl ⟨rfl, rfl, rfl⟩⟩
  · simp [Value.cells] at h0
    obtain ⟨rfl, rfl, rfl⟩ := h0
    simp only [if_true] at hmm
    subst hmm
    rw [hcp] at hel
    obtain ⟨f, hfq⟩ := Deep.choose_lt (α := Int × Int) (n := len) (p := fun i q => w.cell? (a.add (i * 2)) = some (.int .i64 q.1) ∧ w.cell? ⟨(a.add (i * 2)).block, (a.add (i * 2)).off + 1, none⟩ = some (.int .i64 q.2) ∧ (Lit.int .i64 q.1).wf = true ∧ (Lit.int .i64 q.2).wf = true) (fun i hi => by
      obtain ⟨cs, h1, h2⟩ := hel i (by omega)
      obtain ⟨q, _, c0, c1, w0, w1⟩ := open_op h1 h2
      exact ⟨q, c0, c1, w0, w1⟩)
    refine ⟨some a, len, _, (List.range len).map f, rfl, hl, hm, ⟨by simp, fun k hk => ?_⟩, fun q hq => ?_, .inr ⟨D, (Prod.mk.inj hx).1⟩⟩
    · have hg : ((List.range len).map f).getD k (0, 0) = f k := by simp [List.getD, hk]
      rw [hg]
      obtain ⟨c0, c1, _⟩ := hfq k hk
      exact ⟨a, rfl, by have := World.block_lt_of_cell? w _ c0; rwa [add_block] at this, c0, c1⟩
    · obtain ⟨k, hk, rfl⟩ := List.mem_map.1 hq
      exact (hfq k (List.mem_range.1 hk)).2.2
end Go.Proofs.Ytbgnffgceeclhaa
