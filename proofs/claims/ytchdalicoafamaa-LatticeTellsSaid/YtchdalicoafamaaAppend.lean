/-
  Pairs appended to a row of pairs that the call owns, whatever slice they come from; as one step of a region that draws its order, and in a plain one.
-/
import Derived.Test.YtchdalicoafamaaRows
import Derived.Test.YtchdalicoafamaaBase
import Derived.Test.YtchdalicoafamaaLists
import Derived.Test.YtchdalicoafamaaMake
import Derived.Test.YtchdalicoafamaaSame
import Derived.Deep.Upon
import Derived.Deep.RegionLawGrows
import Derived.ChangeShapes
import Derived.WideShapes
import Derived.OpenShut
namespace Go.Proofs.Ytchdalicoafamaa
open Go.RowKit Base Go.ChangeShapes Go.WideShapes
/-- the cells of pairs -/
def flatI (ps : List (Int × Int)) : List Value := ps.flatMap fun p => [.int .i64 p.1, .int .i64 p.2]
theorem flatI_length (ps : List (Int × Int)) : (flatI ps).length = ps.length * 2 := by
  unfold flatI
  induction ps with
  | nil => rfl
  | cons p l ih => rw [List.flatMap_cons, List.length_append, ih]; simp; omega
theorem flatI_append (ps qs : List (Int × Int)) : flatI (ps ++ qs) = flatI ps ++ flatI qs := by unfold flatI; rw [List.flatMap_append]
theorem flatI_get (ps : List (Int × Int)) {k : Nat} (hk : k < ps.length) : (flatI ps)[k * 2]? = some (.int .i64 (ps.getD k (0, 0)).1) ∧ (flatI ps)[k * 2 + 1]? = some (.int .i64 (ps.getD k (0, 0)).2) := by
  unfold flatI
  induction ps generalizing k with
  | nil => simp at hk
  | cons p l ih =>
    cases k with
    | zero => exact ⟨rfl, rfl⟩
    | succ k =>
      have := ih (k := k) (by simpa using hk)
      rw [List.flatMap_cons]
      have e1 : (k + 1) * 2 = k * 2 + 1 + 1 := by omega
      rw [e1]
      exact this
theorem flatI_one (ps : List (Int × Int)) : ∀ u ∈ flatI ps, u.oneCell' = true := by
  intro u hu
  unfold flatI at hu
  obtain ⟨p, _, hp⟩ := List.mem_flatMap.1 hu
  simp at hp
  rcases hp with rfl | rfl <;> rfl
theorem add_next (a : Addr) (k : Nat) : a.add (k + 1) = ⟨(a.add k).block, (a.add k).off + 1, none⟩ := by
  unfold Addr.add
  by_cases hk : k = 0
  · subst hk; simp
  · simp [hk, Nat.add_assoc]
theorem PairsIn.cells {w : World} {a : Addr} {len : Nat} {ps : List (Int × Int)} (h : PairsIn w (some a) len ps) : ∀ j u, (flatI ps)[j]? = some u → w.cell? (a.add j) = some u := by
  intro j u hu
  have hj : j < (flatI ps).length := (List.getElem?_eq_some_iff.1 hu).1
  rw [flatI_length] at hj
  have hl := h.1
  have hk : j / 2 < ps.length := by omega
  generalize hkk : j / 2 = k at hk
  obtain ⟨a', e, _, c0, c1⟩ := h.2 k (by omega)
  obtain rfl : a = a' := Option.some.inj e
  obtain ⟨g0, g1⟩ := flatI_get ps hk
  rcases Nat.mod_two_eq_zero_or_one j with e | e
  · obtain rfl : j = k * 2 := by omega
    rw [c0, ← g0, hu]
  · obtain rfl : j = k * 2 + 1 := by omega
    rw [add_next, c1, ← g1, hu]
theorem PairsIn.nil {w : World} {len : Nat} {ps : List (Int × Int)} (h : PairsIn w none len ps) : len = 0 ∧ ps = [] := by
  have h0 : len = 0 := by
    rcases Nat.eq_zero_or_pos len with e | e
    · exact e
    · obtain ⟨a, ha, _⟩ := h.2 0 e
      cases ha
  exact ⟨h0, List.eq_nil_of_length_eq_zero (by rw [h.1, h0])⟩
/-- a row of pairs that the call owns -/
def PRow (w : World) (B : Nat) (v : Value) (qs : List (Int × Int)) : Prop := w.ownsRow B 33 2 v qs.length (flatI qs)
theorem PRow.pairs {w : World} {B : Nat} {v : Value} {qs : List (Int × Int)} (h : PRow w B v qs) : ∃ ao cap, v = .slice ao qs.length cap ∧ qs.length ≤ maxLen ∧ PairsIn w ao qs.length qs := by
  obtain ⟨ao, cap, hv, hm, hc⟩ := owns_cells h
  refine ⟨ao, cap, hv, hm, rfl, fun k hk => ?_⟩
  obtain ⟨g, e, _, hg, hk'⟩ := hc (k * 2) (by omega)
  obtain ⟨g', e', _, hg', hk''⟩ := hc (k * 2 + 1) (by omega)
  obtain rfl : g = g' := by rw [e] at e'; cases e'; rfl
  refine ⟨_, e, hg, ?_, ?_⟩
  · rw [add_zero_at, hk']; exact (flatI_get qs hk).1
  · rw [add_zero_at]; exact hk''.trans (flatI_get qs hk).2
theorem run_append_pairs (w : World) {base : Nat} {v : Value} {qs : List (Int × Int)} (hown : PRow w base v qs) (hb : base ≤ w.heap.size) {ao : Option Addr} {len cap : Nat} {ps : List (Int × Int)} (hps : PairsIn w ao len ps)
    (h63 : (qs.length + len) * 16 ≤ 140737488355328) (ty : TypeId) :
    ∃ v' w', (Builtin.append_ #[22, 22] ty #[v, .slice ao len cap]).run Try.prog w = .ok v' w' ∧ PRow w' base v' (qs ++ ps) ∧ w.grownBy w' v.ownBlock := by
  obtain ⟨i0, hi, hz0, hz1, hz2⟩ := info_parts infoPair
  have hl := hps.1
  cases ao with
  | none =>
    obtain ⟨rfl, rfl⟩ := hps.nil
    obtain ⟨a, c, rfl, _, _⟩ := hown.pairs
    have hle : qs.length ≤ c := by
      rcases hown.2 with ⟨hv, h0⟩ | ⟨g, cap, cur, hv, _, _, hnc, _⟩
      · omega
      · cases hv; exact hnc
    refine ⟨_, w, run_append_nothing w _ _ _ 33 i0 Try.underlying22 hi a _ c hle _ (Src.ofNil w Try.underlying22 cap), ?_, World.grownBy.refl _ _⟩
    rw [List.append_nil]
    exact hown
  | some a =>
    obtain ⟨v', w', hr, h1, h2, _⟩ := run_append_own (P := Try.prog) w base 22 ty 33 i0 _ 2 16 Try.underlying22 hi hz0 hz1 hz2 rfl (by decide) v qs.length (flatI qs) hown a len cap (flatI ps) (by rw [flatI_length, hl]) hps.cells (flatI_one ps)
      (by unfold maxLen; omega) h63 hb
    refine ⟨v', w', hr, ?_, h2⟩
    unfold PRow
    rw [List.length_append, hl, flatI_append]
    exact h1
/-- at a step of a region that draws its order -/
theorem step_append_pairs {w : World} {ops : Array Oper} {o : Oper} {a : Act} {K : Act → World → Prop} {Q : Exit → Act → World → Prop} {E : Prop} (hgd : o.guard = none) (s x : Operand)
    (ho : o.op = .call { callee := .builtin .append, args := #[s, x], argTypes := #[22, 22] })
    {base : Nat} {v : Value} {qs : List (Int × Int)} (hs : a.eval s = v) (hown : PRow w base v qs) (hb : base ≤ w.heap.size) {ao : Option Addr} {len cap : Nat} {ps : List (Int × Int)} (hx : a.eval x = .slice ao len cap) (hps : PairsIn w ao len ps)
    (h63 : (qs.length + len) * 16 ≤ 140737488355328)
    (h : ∀ v' w', PRow w' base v' (qs ++ ps) → w.grownBy w' v.ownBlock → K (a.put o.dst v') w') :
    if Region.wanted o (yielded ops a.tmps) = true then Oper.wp Try.prog o a w K Q else E := by
  have hw : Region.wanted o (yielded ops a.tmps) = true := by simp [Region.wanted, hgd]
  rw [if_pos hw]
  obtain ⟨v', w', hr, h2, h3⟩ := run_append_pairs w hown hb hps h63 (cap := cap) o.type
  unfold Oper.wp execOp
  simp only [ho, resolve, invoke, builtin, Sem.run_bind, Sem.run_pure, Result.andThen_ok, List.map_toArray, List.map_cons, List.map_nil, hs, hx, hr]
  exact h v' w' h2 h3
/-- in a plain region -/
theorem wpList_append_pairs {w : World} {ops : Array Oper} {rest : List Oper} {o : Oper} {a : Act} {Q : Exit → Act → World → Prop} (hgd : o.guard = none) (s x : Operand)
    (ho : o.op = .call { callee := .builtin .append, args := #[s, x], argTypes := #[22, 22] })
    {base : Nat} {v : Value} {qs : List (Int × Int)} (hs : a.eval s = v) (hown : PRow w base v qs) (hb : base ≤ w.heap.size) {ao : Option Addr} {len cap : Nat} {ps : List (Int × Int)} (hx : a.eval x = .slice ao len cap) (hps : PairsIn w ao len ps)
    (h63 : (qs.length + len) * 16 ≤ 140737488355328)
    (h : ∀ v' w', PRow w' base v' (qs ++ ps) → w.grownBy w' v.ownBlock → wpList Try.prog ops Q rest (a.put o.dst v') w') : wpList Try.prog ops Q (o :: rest) a w :=
  wpList_plain hgd fun _ hK => by
    obtain ⟨v', w', hr, h2, h3⟩ := run_append_pairs w hown hb hps h63 (cap := cap) o.type
    unfold Oper.wp execOp
    simp only [ho, resolve, invoke, builtin, Sem.run_bind, Sem.run_pure, Result.andThen_ok, List.map_toArray, List.map_cons, List.map_nil, hs, hx, hr]
    exact hK _ _ (h v' w' h2 h3)
/-- a row that was made empty -/
theorem PRow.empty {base : Nat} (w : World) (hb : base ≤ w.heap.size) : PRow (w.alloc (.cells #[] 33)) base (.slice (some ⟨w.heap.size, 0, none⟩) 0 0) [] :=
  World.ownsRow_made w #[] 0 hb (Nat.zero_le _) rfl
theorem PRow.alloc {w : World} {B : Nat} {v : Value} {qs : List (Int × Int)} (h : PRow w B v qs) (o : Obj) : PRow (w.alloc o) B v qs := World.ownsRow.alloc h o
/-- one pair, in a block of its own -/
theorem PairsIn.made (w : World) (x y : Int) : PairsIn (w.alloc (.cells #[.int .i64 x, .int .i64 y] 33)) (some ⟨w.heap.size, 0, none⟩) 1 [(x, y)] := by
  refine ⟨rfl, fun k hk => ?_⟩
  obtain rfl : k = 0 := by omega
  refine ⟨_, rfl, by simp, ?_, ?_⟩
  · exact World.cell?_alloc_new w _ _ 0
  · exact World.cell?_alloc_new w _ _ 1
theorem PairsIn.alloc {w : World} {ao : Option Addr} {len : Nat} {ps : List (Int × Int)} (h : PairsIn w ao len ps) (o : Obj) : PairsIn (w.alloc o) ao len ps :=
  h.below ((Below.refl w.heap.size w).alloc (Nat.le_refl _) o) (Nat.le_refl _)
theorem PRow.drew {w : World} {B : Nat} {v : Value} {qs : List (Int × Int)} (h : PRow w B v qs) : PRow w.drew B v qs := h
theorem PRow.pairs_len {w : World} {B : Nat} {v : Value} {qs : List (Int × Int)} (h : PRow w B v qs) {n : Nat} (hn : qs.length = n) : ∃ ao cap, v = .slice ao n cap ∧ n ≤ maxLen ∧ PairsIn w ao n qs := by
  subst hn
  exact h.pairs
theorem PRow.empty_at {base : Nat} (w : World) (hb : base ≤ w.heap.size) {H : Nat} (hH : w.heap.size = H) : PRow (w.alloc (.cells #[] 33)) base (.slice (some ⟨H, 0, none⟩) 0 0) [] := by
  subst hH
  exact PRow.empty w hb
theorem flows_s {w : World} {g n : Nat} {u d : Nat → BitVec 8} (h : LatAt w g n u d) {a b : Int} {r : Bool} (hr : Lat.flowsB n u a b = r) : Calls Try.prog 12 #[.pointer (some ⟨g, 0, none⟩), .int .i64 a, .int .i64 b] w fun e w' => e = .returned (.bool r) ∧ w = w' := by
  subst hr
  exact (flows_any h a b).mono fun _ _ ⟨h1, h2⟩ => ⟨h1, h2.symm⟩
theorem PRow.lt {w : World} {B : Nat} {v : Value} {qs : List (Int × Int)} (h : PRow w B v qs) : ∀ k, v.ownBlock = some k → B ≤ k ∧ k < w.heap.size := World.ownsRow.lt h
theorem PairsIn.drew {w : World} {ao : Option Addr} {len : Nat} {ps : List (Int × Int)} (h : PairsIn w ao len ps) : PairsIn w.drew ao len ps := h
theorem PairsIn.grownBy {w w' : World} {row : Option Nat} {a : Addr} {len : Nat} {ps : List (Int × Int)} (h : PairsIn w (some a) len ps) (hg : w.grownBy w' row) (hne : some a.block ≠ row) : PairsIn w' (some a) len ps :=
  ⟨h.1, fun k hk => by
    obtain ⟨a', e, hl, hc, hd⟩ := h.2 k hk
    obtain rfl : a = a' := Option.some.inj e
    exact ⟨a, rfl, by have := hg.size; omega, hg.cell hc (by rw [add_block]; exact hne), hg.cell hd (by show some (a.add (k * 2)).block ≠ row; rw [add_block]; exact hne)⟩⟩
set_option linter.unusedVariables false in
theorem open_two {H : Type} {enc : TypeId × Value → H} {w : World} {r : Reach} {b0 : Nat} {v : Value} {d : DataW H} {ps : List MemPlace} (hval : Value.okWide Try.prog w r b0 33 v) (h : DataW.Trod enc Try.prog w 0 (fun _ => true) true 33 v d ps) :
    ∃ q : Int × Int, v = .agg #[.int .i64 q.1, .int .i64 q.2] ∧ (Lit.int .i64 q.1).wf = true ∧ (Lit.int .i64 q.2).wf = true := by
  simp only [Value.okWide, Try.underlying33] at hval
  obtain ⟨cs, rfl, hsz, _⟩ := hval
  have hcp : Try.prog.cellsOf 33 = 2 := by kernel_rfl
  have hci : Try.prog.cellsOf 3 = 1 := by kernel_rfl
  rw [hcp] at hsz
  obtain ⟨fuel, hf⟩ := h
  obtain ⟨l⟩ := cs
  match l, hsz with
  | [u, v], _ =>
    simp only [Value.cells] at hf
    obtain ⟨xs, m, _, _, _, hx, he⟩ := DataW.trod_array Try.underlying33 hf
    rw [hci] at he
    match xs, hx with
    | [y0, y1], _ =>
      obtain ⟨p, hp, _, wp⟩ := DataW.trod_int Try.underlying3 (he 0 (by omega))
      obtain ⟨q, hq, _, wq⟩ := DataW.trod_int Try.underlying3 (he 1 (by omega))
      simp at hp hq
      subst hp
      subst hq
      exact ⟨(p, q), rfl, wp, wq⟩
end Go.Proofs.Ytchdalicoafamaa
