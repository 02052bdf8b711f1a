/-
  A list of a queue's calls in memory, opened; a row of texts of the call's own that is cut at its beginning and appended to.
-/
import Derived.Test.YtmmkopdijmplcaaFArgs
set_option linter.unusedVariables false
namespace Go.Proofs.Ytmmkopdijmplcaa.FF
open Go.RowKit Base HH Go.ChangeShapes Go.WideShapes
/-- the slice's calls are ps, in blocks that were there -/
def FOpsIn (w : World) (ao : Option Addr) (len : Nat) (ps : List (Int × ByteArray)) : Prop :=
  ps.length = len ∧ ∀ k, k < len → ∃ a, ao = some a ∧ a.block < w.heap.size ∧ w.cell? (a.add (k * 2)) = some (.int .i64 (ps.getD k (0, ByteArray.empty)).1) ∧ w.cell? ⟨(a.add (k * 2)).block, (a.add (k * 2)).off + 1, none⟩ = some (.string (ps.getD k (0, ByteArray.empty)).2)
theorem FOpsIn.below {w w' : World} {B : Nat} {ao : Option Addr} {len : Nat} {xs : List (Int × ByteArray)} (h : FOpsIn w ao len xs) (hb : Below B w w') (hB : w.heap.size ≤ B) : FOpsIn w' ao len xs :=
  ⟨h.1, fun k hk => by
    obtain ⟨a, e, hl, hc, hd⟩ := h.2 k hk
    exact ⟨a, e, by have := hb.size; omega, (hb.cell (p := a.add (k * 2)) (by rw [add_block]; omega)).trans hc, (hb.cell (p := ⟨(a.add (k * 2)).block, (a.add (k * 2)).off + 1, none⟩) (by show (a.add (k * 2)).block < B; rw [add_block]; omega)).trans hd⟩⟩
theorem FOpsIn.at_ {w : World} {ao : Option Addr} {len : Nat} {ps : List (Int × ByteArray)} (h : FOpsIn w ao len ps) {k : Nat} (hk : k < len) : ∃ a x y, ao = some a ∧ a.block < w.heap.size ∧ ps.getD k (0, ByteArray.empty) = (x, y) ∧ w.cell? (a.add (k * 2)) = some (.int .i64 x) ∧ w.cell? ⟨(a.add (k * 2)).block, (a.add (k * 2)).off + 1, none⟩ = some (.string y) := by
  obtain ⟨a, e, hl, c0, c1⟩ := h.2 k hk
  exact ⟨a, _, _, e, hl, rfl, c0, c1⟩
theorem open_fop {H : Type} {enc : TypeId × Value → H} {w : World} {base : Nat} {spare : Nat → Bool} {held : Bool} {n : Nat} {a : Addr} {cs : List Value} {x : DataW H × List MemPlace}
    (h1 : w.cells? base a 2 = some cs) (h2 : DataW.trod enc Try.prog w base spare held n 66 cs = some x) :
    ∃ q : Int × ByteArray, cs = [.int .i64 q.1, .string q.2] ∧ w.cell? a = some (.int .i64 q.1) ∧ w.cell? ⟨a.block, a.off + 1, none⟩ = some (.string q.2) := by
  obtain ⟨_, hl, hc⟩ := World.cells?_some h1
  obtain ⟨y0, y1, m, _, _, e0, e1⟩ := trod_struct2 Try.underlying66 h2
  have hci : Try.prog.cellsOf 3 = 1 := by kernel_rfl
  have hcs : Try.prog.cellsOf 9 = 1 := by kernel_rfl
  simp only [hci] at e0 e1
  simp only [hcs] at e1
  match cs, hl with
  | [u, v], _ =>
    obtain ⟨p, hp, _, wp⟩ := DataW.trod_int Try.underlying3 e0
    obtain ⟨q, hq, _, wq⟩ := DataW.trod_string Try.underlying9 e1
    simp at hp hq
    subst hp
    subst hq
    have c0 := hc 0 (by omega)
    have c1 := hc 1 (by omega)
    exact ⟨(p, q), rfl, c0, c1⟩
set_option maxRecDepth 100000 in
theorem open_fops {H : Type} {enc : TypeId × Value → H} {w : World} {r : Reach} {b0 : Nat} {v : Value} {d : DataW H} {ps : List MemPlace} (hval : Value.okWide Try.prog w r b0 61 v) (h : DataW.Trod enc Try.prog w 0 (fun _ => true) true 61 v d ps) :
    ∃ ao len cap l, v = .slice ao len cap ∧ len ≤ cap ∧ cap ≤ maxLen ∧ FOpsIn w ao len l ∧
      ((ao = none ∧ len = 0 ∧ cap = 0) ∨ ∃ D : Nat → DataW H, d = .slice ((List.range len).map D) ((List.range (cap - len)).map fun j => D (len + j))) := by
  obtain ⟨ao, len, cap, rfl⟩ := okWide_slice Try.underlying61 hval
  obtain ⟨fuel, hf⟩ := h
  have hcp : Try.prog.cellsOf 66 = 2 := by kernel_rfl
  rcases Deep.open_slice Try.underlying61 hf with ⟨h0, _⟩ | ⟨a, len', cap', m, n, D, Pl, h0, _, hl, hm, hmm, hx, hel⟩
  · simp [Value.cells] at h0
    obtain ⟨rfl, rfl, rfl⟩ := h0
    exact ⟨none, 0, 0, [], rfl, Nat.le_refl _, Nat.zero_le _, ⟨rfl, fun _ hk => absurd hk (Nat.not_lt_zero _)⟩, .inl ⟨rfl, rfl, rfl⟩⟩
  · simp [Value.cells] at h0
    obtain ⟨rfl, rfl, rfl⟩ := h0
    simp only [if_true] at hmm
    subst hmm
    rw [hcp] at hel
    obtain ⟨f, hfq⟩ := Deep.choose_lt (α := Int × ByteArray) (n := len) (p := fun i q => w.cell? (a.add (i * 2)) = some (.int .i64 q.1) ∧ w.cell? ⟨(a.add (i * 2)).block, (a.add (i * 2)).off + 1, none⟩ = some (.string q.2)) (fun i hi => by
      obtain ⟨cs, h1, h2⟩ := hel i (by omega)
      obtain ⟨q, _, c0, c1⟩ := open_fop h1 h2
      exact ⟨q, c0, c1⟩)
    refine ⟨some a, len, _, (List.range len).map f, rfl, hl, hm, ⟨by simp, fun k hk => ?_⟩, .inr ⟨D, (Prod.mk.inj hx).1⟩⟩
    have hg : ((List.range len).map f).getD k (0, ByteArray.empty) = f k := by simp [List.getD, hk]
    rw [hg]
    obtain ⟨c0, c1⟩ := hfq k hk
    exact ⟨a, rfl, by have := World.block_lt_of_cell? w _ c0; rwa [add_block] at this, c0, c1⟩
/-! ### a row that is cut at its beginning -/
/-- the texts lie from place o of a block of the call's own on -/
def TRow (w : World) (B : Nat) (v : Value) (ss : List ByteArray) : Prop :=
  ∃ g o cap cur, v = .slice (some ⟨g, o, none⟩) ss.length cap ∧ B ≤ g ∧ Row w g 9 cur ∧ ss.length ≤ cap ∧ cap ≤ maxLen ∧ o + cap ≤ cur.length ∧ (cur.drop o).take ss.length = ss.map Value.string
theorem TRow.empty {B : Nat} (w : World) (hb : B ≤ w.heap.size) : TRow (w.alloc (.cells #[] 9)) B (.slice (some ⟨w.heap.size, 0, none⟩) 0 0) [] :=
  ⟨w.heap.size, 0, 0, [], rfl, hb, Row.new w [] _, Nat.le_refl _, Nat.zero_le _, Nat.le_refl _, rfl⟩
theorem TRow.shape {w : World} {B : Nat} {v : Value} {ss : List ByteArray} (h : TRow w B v ss) : ∃ g o cap, v = .slice (some ⟨g, o, none⟩) ss.length cap ∧ ss.length ≤ cap ∧ B ≤ g ∧ g < w.heap.size := by
  obtain ⟨g, o, cap, cur, rfl, hB, hr, h1, h2, h3, h4⟩ := h
  exact ⟨g, o, cap, rfl, h1, hB, hr.lt⟩
theorem TRow.below {w w1 : World} {B : Nat} {v : Value} {ss : List ByteArray} (h : TRow w B v ss) (hb : Below w.heap.size w w1) : TRow w1 B v ss := by
  obtain ⟨g, o, cap, cur, rfl, hB, hr, h1, h2, h3, h4⟩ := h
  exact ⟨g, o, cap, cur, rfl, hB, hr.below hb hr.lt, h1, h2, h3, h4⟩
theorem TRow.grown {w w1 : World} {B : Nat} {v : Value} {ss : List ByteArray} (h : TRow w B v ss) {q : Nat} (hg : w.grownBy w1 (some q)) (hq : q < B) : TRow w1 B v ss := by
  obtain ⟨g, o, cap, cur, rfl, hB, hr, h1, h2, h3, h4⟩ := h
  exact ⟨g, o, cap, cur, rfl, hB, hr.grown hg (fun e => by injection e with e; omega), h1, h2, h3, h4⟩
theorem TRow.alloc {w : World} {B : Nat} {v : Value} {ss : List ByteArray} (h : TRow w B v ss) (o : Obj) : TRow (w.alloc o) B v ss := h.below ((Below.refl _ _).alloc (Nat.le_refl _) _)
theorem TRow.cell {w : World} {B g o cap : Nat} {x : ByteArray} {r : List ByteArray} (h : TRow w B (.slice (some ⟨g, o, none⟩) (r.length + 1) cap) (x :: r)) : w.cell? ⟨g, o, none⟩ = some (.string x) := by
  obtain ⟨g', o', cap', cur, he, hB, hr, h1, h2, h3, h4⟩ := h
  injection he with ha hl hc
  injection ha with ha
  injection ha with e1 e2 e3
  subst e1
  subst e2
  refine hr.cell ?_
  have := congrArg (fun l => l[0]?) h4
  simp only [List.length_cons, List.getElem?_take, Nat.zero_lt_succ, if_true, List.getElem?_drop, Nat.add_zero] at this
  rw [this]
  rfl
theorem TRow.tail {w : World} {B g o cap : Nat} {x : ByteArray} {r : List ByteArray} (h : TRow w B (.slice (some ⟨g, o, none⟩) (r.length + 1) cap) (x :: r)) (p : Nat) (hp : p = if cap = 1 then o else o + 1) : TRow w B (.slice (some ⟨g, p, none⟩) r.length (cap - 1)) r := by
  obtain ⟨g', o', cap', cur, he, hB, hr, h1, h2, h3, h4⟩ := h
  injection he with ha hl hc
  injection ha with ha
  injection ha with e1 e2 e3
  subst e1
  subst e2
  subst hc
  rw [List.length_cons] at h1 h4
  refine ⟨g, p, cap - 1, cur, rfl, hB, hr, by omega, by omega, by split at hp <;> omega, ?_⟩
  have h5 : (cur.drop (o + 1)).take r.length = r.map Value.string := by
    have := congrArg List.tail h4
    rw [List.map_cons, List.tail_cons] at this
    rw [← this]
    cases hd : cur.drop o with
    | nil =>
      have hl0 : cur.length ≤ o := by
        have := congrArg List.length hd
        simp at this
        omega
      omega
    | cons y ys =>
      rw [← List.drop_drop, hd]
      rfl
  split at hp
  · have hr0 : r.length = 0 := by omega
    have hr1 : r = [] := List.eq_nil_of_length_eq_zero hr0
    subst hr1
    rfl
  · rw [hp]
    exact h5
theorem run_append_room_at {P : Program} (w : World) (t ty e : TypeId) (i : TypeInfo) (ht : P.underlying t = some (.slice e)) (hi : P.info? e = some i) (hs1 : i.size = 1)
    (g o sLen sCap : Nat) (cur : List Value) (hg : Row w g e cur) (ad : Addr) (c : Nat) (x : Value) (hnews : ∀ j u, [x][j]? = some u → w.cell? (ad.add j) = some u) (h1 : x.oneCell' = true)
    (hroom : sLen + 1 ≤ sCap) (hfit : o + sLen + 1 ≤ cur.length) :
    (Builtin.append_ #[t, t] ty #[.slice (some ⟨g, o, none⟩) sLen sCap, .slice (some ad) 1 c]).run P w =
      .ok (.slice (some ⟨g, o, none⟩) (sLen + 1) sCap) (w.setRow g (cur.take (o + sLen) ++ [x] ++ cur.drop (o + sLen + 1)).toArray) := by
  have hf := run_firstCells_some (P := P) w i.size 1 ad 1 c [x] (by rw [hs1]; rfl) hnews
  have hst := run_storeCells_at P g (o + sLen) e [x] 0 cur.toArray w hg (by simpa using hfit) (one_cell _ h1)
  simp only [Nat.add_zero] at hst
  rw [hs1] at hf
  simp [Builtin.append_, run_underlying ht, sizeOf, typeInfo, hi, Builtin.lenOf, hroom, hf, Addr.add_lit, hst, hs1]
theorem run_append_text (w : World) {B : Nat} {v : Value} {ss : List ByteArray} (hown : TRow w B v ss) (hb : B ≤ w.heap.size) {ad : Addr} {c : Nat} {s : ByteArray} (hnews : ∀ j u, [Value.string s][j]? = some u → w.cell? (ad.add j) = some u) (h63 : ss.length ≤ 1000) (ty : TypeId) :
    ∃ v' w', (Builtin.append_ #[53, 53] ty #[v, .slice (some ad) 1 c]).run Try.prog w = .ok v' w' ∧ TRow w' B v' (ss ++ [s]) ∧ w.grownBy w' v.ownBlock := by
  obtain ⟨i0, hi, hz0, hz1, hz2⟩ := info_parts infoStr
  obtain ⟨g, o, cap, cur, rfl, hB, hr, h1, h2, h3, h4⟩ := hown
  by_cases hroom : ss.length + 1 ≤ cap
  · have hrun := run_append_room_at (P := Try.prog) w 53 ty 9 i0 Try.underlying53 hi hz1 g o ss.length cap cur hr ad c (.string s) hnews rfl hroom (by omega)
    refine ⟨_, _, hrun, ⟨g, o, cap, _, by rw [List.length_append]; rfl, hB, row_setRow hr _, by rw [List.length_append]; exact hroom, h2, ?_, ?_⟩, grown_setRow w g _⟩
    · simp only [List.length_append, List.length_take, List.length_drop, List.length_cons, List.length_nil]
      omega
    · rw [List.append_assoc, List.drop_append_of_le_length (by rw [List.length_take]; omega), List.length_append, List.map_append, ← h4]
      have hd : (cur.take (o + ss.length)).drop o = (cur.drop o).take ss.length := by rw [List.drop_take, Nat.add_sub_cancel_left]
      rw [hd, ← List.append_assoc]
      refine List.take_left' ?_
      rw [List.length_append, List.length_take, List.length_drop]
      simp
      omega
  · have holds : ∀ j u, (ss.map Value.string)[j]? = some u → w.cell? ((⟨g, o, none⟩ : Addr).add j) = some u := fun j u hj => by
      rw [Addr.add_mid]
      refine hr.cell ?_
      have hj2 : j < ss.length := by have := (List.getElem?_eq_some_iff.1 hj).1; rwa [List.length_map] at this
      rw [← hj, ← h4, List.getElem?_take, if_pos hj2, List.getElem?_drop]
    have hrun := run_append_grow (P := Try.prog) w 53 ty 9 i0 (.string .empty) Try.underlying53 hi hz0 ⟨g, o, none⟩ ss.length cap (ss.map Value.string) (by rw [List.length_map, hz1, Nat.mul_one]) holds ad 1 c [.string s] (by rw [hz1]; rfl) hnews (by omega) (by omega) (growslice_fits (by omega) (by rw [hz2]; omega))
    have hge := grownCap_ge w (ss.length + 1) cap 9
    have hcm : grownCap w (ss.length + 1) cap 9 ≤ maxLen := grownCap_le_maxLen w (ss.length + 1) cap 9 (by unfold maxLen; omega)
    obtain ⟨zs, hzs⟩ : ∃ zs, Builtin.zeroCells (Value.string .empty).cells (grownCap w (ss.length + 1) cap 9 - (ss.length + 1)) = zs := ⟨_, rfl⟩
    have hzl : zs.toList.length = grownCap w (ss.length + 1) cap 9 - (ss.length + 1) := by
      rw [Array.length_toList, ← hzs, size_zeroCells]
      exact Nat.mul_one _
    rw [hzs] at hrun
    refine ⟨_, _, hrun, ⟨w.heap.size, 0, grownCap w (ss.length + 1) cap 9, (ss.map Value.string) ++ [.string s] ++ zs.toList, by rw [List.length_append]; rfl, hb, ?_, by rw [List.length_append]; exact hge, hcm, ?_, ?_⟩, ⟨rfl, rfl, rfl, by simp, fun k hk _ => Below.heap_alloc w.drew _ k hk⟩⟩
    · have := heap_alloc_new w.drew (.cells ((ss.map Value.string).toArray ++ [Value.string s].toArray ++ zs) 9)
      have e : ((ss.map Value.string) ++ [Value.string s] ++ zs.toList).toArray = (ss.map Value.string).toArray ++ [Value.string s].toArray ++ zs := by apply Array.ext'; simp
      unfold Row
      rw [e]
      exact this
    · rw [List.length_append, List.length_append, List.length_map, hzl]
      simp
      omega
    · rw [List.drop_zero, List.map_append]
      refine List.take_left' ?_
      rw [List.length_append, List.length_append, List.length_map]
      rfl
theorem wpList_append_text {w : World} {ops : Array Oper} {rest : List Oper} {o : Oper} {a : Act} {Q : Exit → Act → World → Prop} (hgd : o.guard = none) (s x : Operand)
    (ho : o.op = .call { callee := .builtin .append, args := #[s, x], argTypes := #[53, 53] })
    {B : Nat} {v : Value} {ss : List ByteArray} (hs : a.eval s = v) (hown : TRow w B v ss) (hb : B ≤ w.heap.size) {ad : Addr} {c : Nat} {t : ByteArray} (hx : a.eval x = .slice (some ad) 1 c) (hnews : ∀ j u, [Value.string t][j]? = some u → w.cell? (ad.add j) = some u)
    (h63 : ss.length ≤ 1000)
    (h : ∀ v' w', TRow w' B v' (ss ++ [t]) → w.grownBy w' v.ownBlock → wpList Try.prog ops Q rest (a.put o.dst v') w') : wpList Try.prog ops Q (o :: rest) a w :=
  wpList_plain hgd fun _ hK => by
    obtain ⟨v', w', hr, h2, h3⟩ := run_append_text w hown hb hnews h63 (c := c) o.type
    unfold Oper.wp execOp
    simp only [ho, resolve, invoke, builtin, Sem.run_bind, Sem.run_pure, Result.andThen_ok, List.map_toArray, List.map_cons, List.map_nil, hs, hx, hr]
    exact hK _ _ (h v' w' h2 h3)
end Go.Proofs.Ytmmkopdijmplcaa.FF
