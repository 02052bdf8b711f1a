/-
  TopLine: whatever is sent, however it is turned, whatever its noise, the law returns true, and the arguments read as before; no condition.
-/
import Derived.Test.YtmmkopdijmplcaaRows
import Derived.Test.YtmmkopdijmplcaaBase
import Derived.Test.YtmmkopdijmplcaaFOpen
import Derived.Test.YtmmkopdijmplcaaLTopW
import Derived.ProofKit
import Derived.OpenShut
import Derived.ShutString
import Derived.ChangeOld
import Derived.SizedLaws
import Derived.Carry
import Derived.Deep.Slices
namespace Go.Proofs.Ytmmkopdijmplcaa.topl
open Go.RowKit Base HH FF Go.ChangeShapes Go.WideShapes Go.ChangeAt
open Go.ChangeMaps (open_string shut_string)
set_option linter.unusedVariables false
theorem open_pair {H : Type} {enc : TypeId × Value → H} {w : World} {base : Nat} {spare : Nat → Bool} {held : Bool} {n : Nat} {a : Addr} {cs : List Value} {x : DataW H × List MemPlace}
    (h1 : w.cells? base a 2 = some cs) (h2 : DataW.trod enc Try.prog w base spare held n 96 cs = some x) :
    ∃ q : Int × Int, w.cell? a = some (.int .i64 q.1) ∧ w.cell? ⟨a.block, a.off + 1, none⟩ = some (.int .i64 q.2) := by
  obtain ⟨_, hl, hc⟩ := World.cells?_some h1
  obtain ⟨xs, m, _, _, _, hx, he⟩ := DataW.trod_array Try.underlying96 h2
  have hci : Try.prog.cellsOf 3 = 1 := by kernel_rfl
  rw [hci] at he
  match cs, hl, xs, hx with
  | [u, v], _, [y0, y1], _ =>
    have e0 := he 0 (by omega)
    have e1 := he 1 (by omega)
    obtain ⟨p, hp, _, wp⟩ := DataW.trod_int Try.underlying3 e0
    obtain ⟨q, hq, _, wq⟩ := DataW.trod_int Try.underlying3 e1
    simp at hp hq
    subst hp
    subst hq
    have c0 := hc 0 (by omega)
    have c1 := hc 1 (by omega)
    exact ⟨(p, q), c0, c1⟩
theorem open_pairs_at {H : Type} {enc : TypeId × Value → H} {w : World} {z : Value} {yz : DataW H × List MemPlace} {m : Nat} (hf : DataW.trod enc Try.prog w 0 (fun _ => true) true m 22 [z] = some yz) :
    ∃ ao len cap l, z = .slice ao len cap ∧ len ≤ cap ∧ ln.PairsIn w ao len l ∧ ((ao = none ∧ len = 0 ∧ cap = 0) ∨ ∃ D : Nat → DataW H, yz.1 = .slice ((List.range len).map D) ((List.range (cap - len)).map fun j => D (len + j))) := by
  have hcp : Try.prog.cellsOf 96 = 2 := by kernel_rfl
  rcases Deep.open_slice Try.underlying22 hf with ⟨h0, _⟩ | ⟨a, len', cap', m, n, D, Pl, h0, _, hl, hm, hmm, hx, hel⟩
  · simp at h0
    subst h0
    exact ⟨none, 0, 0, [], rfl, Nat.le_refl _, ⟨rfl, fun k hk => absurd hk (Nat.not_lt_zero k)⟩, .inl ⟨rfl, rfl, rfl⟩⟩
  · simp at h0
    subst h0
    simp only [if_true] at hmm
    subst hmm
    rw [hcp] at hel
    obtain ⟨f, hfq⟩ := Deep.choose_lt (α := Int × Int) (n := len') (p := fun i q => w.cell? (a.add (i * 2)) = some (.int .i64 q.1) ∧ w.cell? ⟨(a.add (i * 2)).block, (a.add (i * 2)).off + 1, none⟩ = some (.int .i64 q.2)) (fun i hi => by
      obtain ⟨cs, h1, h2⟩ := hel i (by omega)
      exact open_pair h1 h2)
    refine ⟨some a, len', _, (List.range len').map f, rfl, hl, ⟨by simp, fun k hk => ?_⟩, .inr ⟨D, by rw [hx]⟩⟩
    have hg : ((List.range len').map f).getD k (0, 0) = f k := by simp [List.getD, hk]
    rw [hg]
    obtain ⟨c0, c1⟩ := hfq k hk
    exact ⟨a, rfl, by have := World.block_lt_of_cell? w _ c0; rwa [ln.add_block] at this, c0, c1⟩
theorem own : ownKnob Try.prog.godebug = none := by kernel_rfl
theorem laidOut : laidOutB Try.prog = true := by kernel_rfl
set_option maxRecDepth 100000 in
theorem lifted (os : Os) (started : os.Started) (H : Type) (enc : TypeId × Value → H) :
    ReturnsInHanded {} Try.checked os 4 .any (Rows.topLineSpec.pre6 enc Try.prog Try.f4 Rows.topLineRow.domain false) (Rows.topLineSpec.post enc Try.prog Try.f4 false true false false) := by
  refine returnsInHanded_of_change_sized (C := Try.checked) own started (by kernel_rfl) Try.func4
    (ChangeSpec.witness6 (enc := enc) (C := Try.checked) false ⟨#[], #[.agg #[.string .empty, .int .i64 0, .int .i64 0, .int .i64 0, .string .empty, .int .i64 0, .slice none 0 0]], []⟩ 8 (by kernel_rfl) (by kernel_rfl) (by kernel_rfl) (by kernel_rfl)) ?_
  intro W base args ds gs before hval0 hW hcnd hsz0 _
  have hsz : (DataW.weightsEach Try.prog (Try.f4.params.toList ++ Rows.topLineSpec.plain.varTypes Try.prog) (ds ++ gs)).all (· ≤ reachBytes) = true := hsz0
  have hval : ∀ (j : Nat) t v, Try.f4.params[j]? = some t → args[j]? = some v → Value.okWide Try.prog W .any base t v := hval0
  have hW' := hW
  obtain ⟨p, q, hA0, hV, rfl, hfz, hnd⟩ := hW
  have hA : DataW.TrodAll enc Try.prog W 0 (fun _ => true) true Try.f4.params.toList args.toList ds p := hA0
  rw [Try.params4] at hA hval hsz
  obtain ⟨v0, vs0, d0, ds0, p0, q0, hargs, rfl, rfl, h0, r0⟩ := trodAll_cons hA
  obtain ⟨rfl, rfl, rfl⟩ := trodAll_nil r0
  obtain rfl : args = #[v0] := by cases args; simp_all
  obtain ⟨rfl, rfl⟩ := trodVars_none hV
  have hb47 := reachBytes_lt
  have h0k := h0
  have hlt0 : ∀ x ∈ p0, x.block < W.heap.size := fun x hx => by simpa using hW'.lt x (by simp [hx])
  obtain ⟨key0, la0, lb0, lc0, pl0, tu0, zz0, yz0, m0, rfl, rfl, ht0, wa0, wb0, wc0, wt0⟩ := open_sent (hval 0 24 v0 rfl rfl) h0
  obtain ⟨zk0, zp0, zn0⟩ := sized_sent hsz (j := 0) rfl rfl
  obtain ⟨ao, len, cap, ps, rfl, hlc, hps, hd⟩ := open_pairs_at ht0
  have hlen : len * 16 ≤ 140737488355327 := by
    rcases hd with ⟨_, h0, _⟩ | ⟨D, hd⟩
    · omega
    · have h2 : Try.prog.bytesOf 96 = 16 := by kernel_rfl
      have h1 := zn0 ((((List.range len).map D).length + ((List.range (cap - len)).map fun j => D (len + j)).length) * Try.prog.bytesOf 96) (by rw [hd]; simp [DataW.weights, Try.underlying22])
      rw [h2] at h1
      simp at h1
      omega
  clear hA0 hval0
  refine (walk W (by omega) hps hlen).mono fun e W' ⟨he, bel⟩ => ?_
  subst he
  exact ⟨_, rfl, _, _, _, [], _, [], hW', trodAll_mk1 (shut_bool Try.underlying4 _), trodAll_cons_mk (Below.trod laidOut (by kernel_rfl) (of_decide_eq_true (by kernel_rfl)) h0k bel hlt0) trodAll_mk0, rfl, bel.frame _, fun h => by cases h⟩

theorem proved : Rows.TopLineSaid :=
  OpenClaim.holds_of_wide 4 Try.f4 rfl rfl rfl rfl rfl rfl rfl ⟨rfl, rfl, rfl, rfl, rfl⟩ rfl rfl rfl rfl rfl (by kernel_rfl) Try.func4 (by kernel_rfl)
    (of_decide_eq_true (by kernel_rfl)) (by unfold Func.isWrapper; first | (rw [if_pos (by decide +kernel)]; kernel_rfl) | (rw [if_neg (by decide +kernel)]; exact ⟨rfl, rfl⟩))
    (fun os started H enc _ => lifted os started H enc)
#print axioms proved
end Go.Proofs.Ytmmkopdijmplcaa.topl
