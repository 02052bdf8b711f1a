/-
  Arguments of the lattice laws, opened: a list of pairs.
-/
import Derived.Test.YtchdalicoafamaaRows
import Derived.Test.YtchdalicoafamaaBase
import Derived.Test.YtchdalicoafamaaLat
import Derived.Test.YtchdalicoafamaaClosed
import Derived.Test.YtchdalicoafamaaLattice
import Derived.Test.YtchdalicoafamaaLists
import Derived.Test.YtchdalicoafamaaMake
import Derived.Test.YtchdalicoafamaaSame
import Derived.Test.YtchdalicoafamaaJoins
import Derived.Deep.QuietTactic
import Derived.BigQuiet
import Derived.WalkSmall
import Derived.ChangeKeysEq
import Derived.Deep.Slices
import Derived.OpenShut
import Derived.Deep.LoopGhost
namespace Go.Proofs.Ytchdalicoafamaa
open Go.RowKit Base Go.ChangeShapes Go.WideShapes
set_option linter.unusedVariables false in
theorem open_pair {H : Type} {enc : TypeId × Value → H} {w : World} {base : Nat} {spare : Nat → Bool} {held : Bool} {n : Nat} {a : Addr} {cs : List Value} {x : DataW H × List MemPlace}
    (h1 : w.cells? base a 2 = some cs) (h2 : DataW.trod enc Try.prog w base spare held n 33 cs = some x) :
    ∃ q : Int × Int, cs = [.int .i64 q.1, .int .i64 q.2] ∧ w.cell? a = some (.int .i64 q.1) ∧ w.cell? ⟨a.block, a.off + 1, none⟩ = some (.int .i64 q.2) ∧ (Lit.int .i64 q.1).wf = true ∧ (Lit.int .i64 q.2).wf = true := by
  obtain ⟨_, hl, hc⟩ := World.cells?_some h1
  obtain ⟨xs, m, _, _, _, hx, he⟩ := DataW.trod_array Try.underlying33 h2
  have hci : Try.prog.cellsOf 3 = 1 := by kernel_rfl
  rw [hci] at he
  match cs, hl, xs, hx with
  | [u, v], _, [y0, y1], _ =>
    have e0 := he 0 (by omega)
    have e1 := he 1 (by omega)
    obtain ⟨p, hp, _, wp⟩ := DataW.trod_int Try.underlying3 e0
    obtain ⟨q, hq, _, wq⟩ := DataW.trod_int Try.underlying3 e1
    simp at hp hq
    subst hp
    subst hq
    have c0 := hc 0 (by omega)
    have c1 := hc 1 (by omega)
    exact ⟨(p, q), rfl, c0, c1, wp, wq⟩
theorem open_pairs {H : Type} {enc : TypeId × Value → H} {w : World} {r : Reach} {b0 : Nat} {v : Value} {d : DataW H} {ps : List MemPlace} (hval : Value.okWide Try.prog w r b0 22 v) (h : DataW.Trod enc Try.prog w 0 (fun _ => true) true 22 v d ps) :
    ∃ ao len cap l, v = .slice ao len cap ∧ len ≤ cap ∧ cap ≤ maxLen ∧ PairsIn w ao len l ∧ (∀ q ∈ l, (Lit.int .i64 q.1).wf = true ∧ (Lit.int .i64 q.2).wf = true) ∧
      ((ao = none ∧ len = 0 ∧ cap = 0) ∨ ∃ D : Nat → DataW H, d = .slice ((List.range len).map D) ((List.range (cap - len)).map fun j => D (len + j))) := by
  obtain ⟨ao, len, cap, rfl⟩ := okWide_slice Try.underlying22 hval
  obtain ⟨fuel, hf⟩ := h
  have hcp : Try.prog.cellsOf 33 = 2 := by kernel_rfl
  rcases Deep.open_slice Try.underlying22 hf with ⟨h0, _⟩ | ⟨a, len', cap', m, n, D, Pl, h0, _, hl, hm, hmm, hx, hel⟩
  · simp [Value.cells] at h0
    obtain ⟨rfl, rfl, rfl⟩ := h0
    exact ⟨none, 0, 0, [], rfl, Nat.le_refl _, Nat.zero_le _, nil_pairs w, fun q hq => absurd hq (by simp), .inl ⟨rfl, rfl, rfl⟩⟩
  · simp [Value.cells] at h0
    obtain ⟨rfl, rfl, rfl⟩ := h0
    simp only [if_true] at hmm
    subst hmm
    rw [hcp] at hel
    obtain ⟨f, hfq⟩ := Deep.choose_lt (α := Int × Int) (n := len) (p := fun i q => w.cell? (a.add (i * 2)) = some (.int .i64 q.1) ∧ w.cell? ⟨(a.add (i * 2)).block, (a.add (i * 2)).off + 1, none⟩ = some (.int .i64 q.2) ∧ (Lit.int .i64 q.1).wf = true ∧ (Lit.int .i64 q.2).wf = true) (fun i hi => by
      obtain ⟨cs, h1, h2⟩ := hel i (by omega)
      obtain ⟨q, _, c0, c1, w0, w1⟩ := open_pair h1 h2
      exact ⟨q, c0, c1, w0, w1⟩)
    refine ⟨some a, len, _, (List.range len).map f, rfl, hl, hm, ⟨by simp, fun k hk => ?_⟩, fun q hq => ?_, .inr ⟨D, (Prod.mk.inj hx).1⟩⟩
    · have hg : ((List.range len).map f).getD k (0, 0) = f k := by simp [List.getD, hk]
      rw [hg]
      obtain ⟨c0, c1, _⟩ := hfq k hk
      exact ⟨a, rfl, by have := World.block_lt_of_cell? w _ c0; rwa [add_block] at this, c0, c1⟩
    · obtain ⟨k, hk, rfl⟩ := List.mem_map.1 hq
      exact (hfq k (List.mem_range.1 hk)).2.2
end Go.Proofs.Ytchdalicoafamaa
