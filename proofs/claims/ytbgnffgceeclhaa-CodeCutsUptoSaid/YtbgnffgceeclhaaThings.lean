/-
  Arguments of the code laws, opened: a list of things.
-/
import Derived.Test.YtbgnffgceeclhaaRows
import Derived.Test.YtbgnffgceeclhaaBase
import Derived.Test.YtbgnffgceeclhaaOps
import Derived.Test.YtbgnffgceeclhaaBackP
import Derived.Deep.Slices
import Derived.OpenShut
import Derived.ChangeSame
namespace Go.Proofs.Ytbgnffgceeclhaa
open Go.RowKit Base Go.ChangeShapes Go.WideShapes
def th0 : Th := ⟨0, 0, str []⟩
instance : Inhabited Th := ⟨th0⟩
def Th.cells (t : Th) : List Value := [.int .i64 t.n, .int .i64 t.w, .string t.s]
/-- the slice's things are ps, in blocks that were there -/
def ThingsIn (w : World) (ao : Option Addr) (len : Nat) (ps : List Th) : Prop :=
  ps.length = len ∧ ∀ k, k < len → ∃ a, ao = some a ∧ a.block < w.heap.size ∧ w.cell? (a.add (k * 3)) = some (.int .i64 (ps.getD k th0).n) ∧ w.cell? ⟨(a.add (k * 3)).block, (a.add (k * 3)).off + 1, none⟩ = some (.int .i64 (ps.getD k th0).w) ∧ w.cell? ⟨(a.add (k * 3)).block, (a.add (k * 3)).off + 2, none⟩ = some (.string (ps.getD k th0).s)
theorem ThingsIn.below {w w' : World} {B : Nat} {ao : Option Addr} {len : Nat} {xs : List Th} (h : ThingsIn w ao len xs) (hb : Below B w w') (hB : w.heap.size ≤ B) : ThingsIn w' ao len xs :=
  ⟨h.1, fun k hk => by
    obtain ⟨a, e, hl, hc, hd, he⟩ := h.2 k hk
    exact ⟨a, e, by have := hb.size; omega, (hb.cell (p := a.add (k * 3)) (by rw [add_block]; omega)).trans hc, (hb.cell (p := ⟨(a.add (k * 3)).block, (a.add (k * 3)).off + 1, none⟩) (by show (a.add (k * 3)).block < B; rw [add_block]; omega)).trans hd, (hb.cell (p := ⟨(a.add (k * 3)).block, (a.add (k * 3)).off + 2, none⟩) (by show (a.add (k * 3)).block < B; rw [add_block]; omega)).trans he⟩⟩
theorem ThingsIn.at_ {w : World} {ao : Option Addr} {len : Nat} {ps : List Th} (h : ThingsIn w ao len ps) {k : Nat} (hk : k < len) : ∃ a t, ao = some a ∧ a.block < w.heap.size ∧ ps.getD k th0 = t ∧ w.cell? (a.add (k * 3)) = some (.int .i64 t.n) ∧ w.cell? ⟨(a.add (k * 3)).block, (a.add (k * 3)).off + 1, none⟩ = some (.int .i64 t.w) ∧ w.cell? ⟨(a.add (k * 3)).block, (a.add (k * 3)).off + 2, none⟩ = some (.string t.s) := by
  obtain ⟨a, e, hl, c0, c1, c2⟩ := h.2 k hk
  exact ⟨a, _, e, hl, rfl, c0, c1, c2⟩
def Th.wf (t : Th) : Prop := (Lit.int .i64 t.n).wf = true ∧ (Lit.int .i64 t.w).wf = true ∧ t.s.size ≤ maxLen
set_option linter.unusedVariables false in
theorem open_thing {H : Type} {enc : TypeId × Value → H} {w : World} {base : Nat} {spare : Nat → Bool} {held : Bool} {n : Nat} {a : Addr} {cs : List Value} {x : DataW H × List MemPlace}
    (h1 : w.cells? base a 3 = some cs) (h2 : DataW.trod enc Try.prog w base spare held n 34 cs = some x) :
    ∃ t : Th, cs = t.cells ∧ w.cell? a = some (.int .i64 t.n) ∧ w.cell? ⟨a.block, a.off + 1, none⟩ = some (.int .i64 t.w) ∧ w.cell? ⟨a.block, a.off + 2, none⟩ = some (.string t.s) ∧ t.wf := by
  obtain ⟨_, hl, hc⟩ := World.cells?_some h1
  obtain ⟨xs, m, _, _, _, hx, he⟩ := DataW.trod_struct Try.underlying34 h2
  have hci : Try.prog.cellsOf 3 = 1 := by kernel_rfl
  have hcs : Try.prog.cellsOf 9 = 1 := by kernel_rfl
  match cs, hl, xs, hx with
  | [u, v, s], _, [y0, y1, y2], _ =>
    have e0 : DataW.trod enc Try.prog w base spare held m 3 (([u, v, s].drop 0).take (Try.prog.cellsOf 3)) = some y0 := he 0 _ rfl
    have e1 : DataW.trod enc Try.prog w base spare held m 3 (([u, v, s].drop 1).take (Try.prog.cellsOf 3)) = some y1 := he 1 _ rfl
    have e2 : DataW.trod enc Try.prog w base spare held m 9 (([u, v, s].drop 2).take (Try.prog.cellsOf 9)) = some y2 := he 2 _ rfl
    rw [hci] at e0 e1
    rw [hcs] at e2
    obtain ⟨p, hp, _, wp⟩ := DataW.trod_int Try.underlying3 e0
    obtain ⟨q, hq, _, wq⟩ := DataW.trod_int Try.underlying3 e1
    obtain ⟨z, hz, _, wz⟩ := DataW.trod_string Try.underlying9 e2
    simp at hp hq hz
    subst hp
    subst hq
    subst hz
    have c0 := hc 0 (by omega)
    have c1 := hc 1 (by omega)
    have c2 := hc 2 (by omega)
    exact ⟨⟨p, q, z⟩, rfl, c0, c1, c2, wp, wq, wz⟩
theorem open_things {H : Type} {enc : TypeId × Value → H} {w : World} {r : Reach} {b0 : Nat} {v : Value} {d : DataW H} {ps : List MemPlace} (hval : Value.okWide Try.prog w r b0 32 v) (h : DataW.Trod enc Try.prog w 0 (fun _ => true) true 32 v d ps) :
    ∃ ao len cap l, v = .slice ao len cap ∧ len ≤ cap ∧ cap ≤ maxLen ∧ ThingsIn w ao len l ∧ (∀ t ∈ l, t.wf) ∧
      ((ao = none ∧ len = 0 ∧ cap = 0) ∨ ∃ D : Nat → DataW H, d = .slice ((List.range len).map D) ((List.range (cap - len)).map fun j => D (len + j))) := by
  obtain ⟨ao, len, cap, rfl⟩ := okWide_slice Try.underlying32 hval
  obtain ⟨fuel, hf⟩ := h
  have hcp : Try.prog.cellsOf 34 = 3 := by kernel_rfl
  rcases Deep.open_slice Try.underlying32 hf with ⟨h0, _⟩ | ⟨a, len', cap', m, n, D, Pl, h0, _, hl, hm, hmm, hx, hel⟩
  · simp [Value.cells] at h0
    obtain ⟨rfl, rfl, rfl⟩ := h0
    exact ⟨none, 0, 0, [], rfl, Nat.le_refl _, Nat.zero_le _, ⟨rfl, fun _ hk => absurd hk (Nat.not_lt_zero _)⟩, fun q hq => absurd hq (by simp), .inl ⟨rfl, rfl, rfl⟩⟩
  · simp [Value.cells] at h0
    obtain ⟨rfl, rfl, rfl⟩ := h0
    simp only [if_true] at hmm
    subst hmm
    rw [hcp] at hel
    obtain ⟨f, hfq⟩ := Deep.choose_lt (α := Th) (n := len) (p := fun i t => w.cell? (a.add (i * 3)) = some (.int .i64 t.n) ∧ w.cell? ⟨(a.add (i * 3)).block, (a.add (i * 3)).off + 1, none⟩ = some (.int .i64 t.w) ∧ w.cell? ⟨(a.add (i * 3)).block, (a.add (i * 3)).off + 2, none⟩ = some (.string t.s) ∧ t.wf) (fun i hi => by
      obtain ⟨cs, h1, h2⟩ := hel i (by omega)
      obtain ⟨t, _, c0, c1, c2, w0⟩ := open_thing h1 h2
      exact ⟨t, c0, c1, c2, w0⟩)
    refine ⟨some a, len, _, (List.range len).map f, rfl, hl, hm, ⟨by simp, fun k hk => ?_⟩, fun q hq => ?_, .inr ⟨D, (Prod.mk.inj hx).1⟩⟩
    · have hg : ((List.range len).map f).getD k th0 = f k := by simp [List.getD, hk]
      rw [hg]
      obtain ⟨c0, c1, c2, _⟩ := hfq k hk
      exact ⟨a, rfl, by have := World.block_lt_of_cell? w _ c0; rwa [add_block] at this, c0, c1, c2⟩
    · obtain ⟨k, hk, rfl⟩ := List.mem_map.1 hq
      exact (hfq k (List.mem_range.1 hk)).2.2.2
end Go.Proofs.Ytbgnffgceeclhaa
