/-
  noise of the line: numbers as points below half a step.
-/
import Derived.Test.YtmmkopdijmplcaaLRest
import Derived.Test.YtmmkopdijmplcaaLAdd
import Derived.Deep.RegionHeld3
import Derived.WalkLawsBesides
import Derived.IntWalk
import Derived.Lib.Hide
set_option linter.unusedVariables false
set_option maxRecDepth 100000
namespace Go.Proofs.Ytmmkopdijmplcaa.ln
open Go.RowKit Base HH FF RH
/-- a noise's part of a number's rest -/
theorem noi_run (W : World) {k : Nat} (hk : k < 1001) : (binOp .quo 95 (.float .f64 (floatOfInt .f64 ((k : Int) - 500))) (.float .f64 4652007308841189376)).run Try.prog W = .ok (.float .f64 (noi k)) W :=
  run_float_arith (P := Try.prog) W .quo 95 .f64 _ _ _ (show floatBits .quo .f64 _ _ = some (noi k) from noi_is hk)
theorem add_block (a : Addr) (i : Nat) : (a.add i).block = a.block := by unfold Addr.add; split <;> rfl
/-- the slice's pairs are ps, in blocks that were there -/
def PairsIn (w : World) (ao : Option Addr) (len : Nat) (ps : List (Int × Int)) : Prop :=
  ps.length = len ∧ ∀ k, k < len → ∃ a, ao = some a ∧ a.block < w.heap.size ∧ w.cell? (a.add (k * 2)) = some (.int .i64 (ps.getD k (0, 0)).1) ∧ w.cell? ⟨(a.add (k * 2)).block, (a.add (k * 2)).off + 1, none⟩ = some (.int .i64 (ps.getD k (0, 0)).2)
/-- a pair's point -/
def nPt (p : Int × Int) : Nat × Nat := (noi (rst p.1), noi (rst p.2))
/-- a row of points, maybe empty, that is not nil -/
def NRow (w : World) (v : Value) (n : Nat) (ys : List (Nat × Nat)) : Prop := ∃ g c, v = .slice (some ⟨g, 0, none⟩) n c ∧ g < w.heap.size ∧ ∀ j, j < n → w.cell? ⟨g, j, none⟩ = some (cv (ys.getD j (0, 0)))
/-- at a step of a region: append of a point to a row of the call's own -/
theorem step_append_pt {w : World} {ops : Array Oper} {o : Oper} {a : Act} {K : Act → World → Prop} {Q : Exit → Act → World → Prop} {E : Prop} (hgd : o.guard = none) (s x : Operand)
    (ho : o.op = .call { callee := .builtin .append, args := #[s, x], argTypes := #[41, 41] })
    {base n g : Nat} {v : Value} {xs : List (Nat × Nat)} {p : Nat × Nat} (hs : a.eval s = v) (hown : w.ownsRow base 86 1 v n (xs.map cv)) (hb : base ≤ w.heap.size) (hx : a.eval x = .slice (some ⟨g, 0, none⟩) 1 1) (hc : w.cell? ⟨g, 0, none⟩ = some (cv p))
    (h63 : (n + 1) * 16 ≤ 140737488355328)
    (h : ∀ v' w', w'.ownsRow base 86 1 v' (n + 1) ((xs ++ [p]).map cv) → w.grownBy w' v.ownBlock → (v' = .slice none 0 0 ↔ v = .slice none 0 0 ∧ 1 = 0) → K (a.put o.dst v') w') :
    if Region.wanted o (yielded ops a.tmps) = true then Oper.wp Try.prog o a w K Q else E := by
  obtain ⟨i0, hi, hz0, hz1, hz2⟩ := infoC_parts
  have hw : Region.wanted o (yielded ops a.tmps) = true := by simp [Region.wanted, hgd]
  rw [if_pos hw]
  refine wp_append_own w s x 41 ho base 86 i0 (.complex .f64 0 0) 1 16 Try.underlying41 hi hz0 hz1 hz2 rfl (by decide) v n (xs.map cv) hs hown ⟨g, 0, none⟩ 1 1 [cv p] hx rfl (fun j u hj => ?_) (fun u hu => ?_) (by unfold maxLen; omega) h63 hb fun v' w' h1 h2 h3 => h v' w' (by rw [List.map_append]; exact h1) h2 h3
  · cases j with
    | zero =>
      obtain rfl := Option.some.inj hj
      exact hc
    | succ j => cases hj
  · obtain rfl := List.mem_singleton.1 hu
    rfl
set_option maxHeartbeats 4000000 in
theorem noise_v {w : World} {ao : Option Addr} {len cap : Nat} {ps : List (Int × Int)} (hps : PairsIn w ao len ps) (hlen : len * 16 ≤ 140737488355327) :
    Calls Try.prog 25 #[.slice ao len cap] w fun e w' => ∃ v', e = .returned v' ∧ NRow w' v' len (ps.map nPt) ∧ Below w.heap.size w w' := by
  have hpl := hps.1
  go_enter Try.func25, Try.ntmps25
  go_wp2_with fail
  go_loopw [3, 4] (fun v vi wr => ∃ i : Nat, i ≤ len ∧ vi = .int .i64 i ∧ wr.ownsRow w.heap.size 86 1 v i (((ps.take i).map nPt).map cv) ∧ v ≠ .slice none 0 0 ∧ Below w.heap.size w wr) (fun _ vi _ => len - (intOf vi).toNat)
  case atStart => exact ⟨0, Nat.zero_le _, rfl, World.ownsRow_made w #[] 0 (Nat.le_refl _) (Nat.zero_le _) rfl, (fun e => by cases e), (Below.refl _ _).alloc (Nat.le_refl _) _⟩
  case round =>
    obtain ⟨i, hi, rfl, ho, hnn, hb⟩ := hrel
    by_cases hlt : i < len
    · have hlt' : (i : Int) < len := by omega
      have hi0 : (0 : Int) ≤ (i : Int) := by omega
      obtain ⟨p, rfl, hpb, cx0, cy0⟩ := hps.2 i hlt
      have cx := (hb.cell (p := p.add (i * 2)) (by rw [add_block]; exact hpb)).trans cx0
      have cy := (hb.cell (p := ⟨(p.add (i * 2)).block, (p.add (i * 2)).off + 1, none⟩) (by rw [add_block]; exact hpb)).trans cy0
      have hsu : Hid ((ps.take (i + 1)).map nPt = (ps.take i).map nPt ++ [nPt (ps.getD i (0, 0))]) := by
        show _ = _
        rw [List.take_succ_eq_append_getElem (by omega), List.map_append, List.getD_eq_getElem?_getD, List.getElem?_eq_getElem (by omega)]
        rfl
      generalize ps.getD i (0, 0) = q at *
      obtain ⟨x, y⟩ := q
      obtain ⟨k1, hk1⟩ : ∃ k, rst x = k := ⟨_, rfl⟩
      obtain ⟨k2, hk2⟩ : ∃ k, rst y = k := ⟨_, rfl⟩
      have l1 : k1 < 1001 := by rw [← hk1]; exact rst_lt x
      have l2 : k2 < 1001 := by rw [← hk2]; exact rst_lt y
      have hnp : Hid (nPt (x, y) = (noi k1, noi k2)) := by show _ = _; unfold nPt; rw [hk1, hk2]
      have w1 : IntKind.i64.wrap ((k1 : Int) - 500) = (k1 : Int) - 500 := IntWalk.i64_in _ (by omega)
      have w2 : IntKind.i64.wrap ((k2 : Int) - 500) = (k2 : Int) - 500 := IntWalk.i64_in _ (by omega)
      have n1 := fun W => noi_run W l1
      have n2 := fun W => noi_run W l2
      replace hk1 := Lib.hid hk1
      replace hk2 := Lib.hid hk2
      replace l1 := Lib.hid l1
      replace l2 := Lib.hid l2
      simp only at cx cy cx0 cy0
      have hbs := hb.size
      have hbA := (hb.drew).alloc (by simp; omega) (.cells #[.complex .f64 (noi k1) (noi k2)] 86)
      have cnew : (wr.drew.alloc (.cells #[.complex .f64 (noi k1) (noi k2)] 86)).cell? ⟨wr.heap.size, 0, none⟩ = some (cv (noi k1, noi k2)) := World.cell?_alloc_new wr.drew _ _ 0
      go_wp2_with fail
      go_region_held3 (fun w' => w'.cell? (p.add (i * 2)) = some (.int .i64 x) ∧ w'.cell? ⟨(p.add (i * 2)).block, (p.add (i * 2)).off + 1, none⟩ = some (.int .i64 y))
        (first | exact ⟨cx, cy⟩ | exact ⟨(hbA.cell (p := p.add (i * 2)) (by rw [add_block]; exact hpb)).trans cx0, (hbA.cell (p := ⟨(p.add (i * 2)).block, (p.add (i * 2)).off + 1, none⟩) (by rw [add_block]; exact hpb)).trans cy0⟩ | exact ⟨(hb4.cell (p := p.add (i * 2)) (by rw [add_block]; exact hpb)).trans cx0, (hb4.cell (p := ⟨(p.add (i * 2)).block, (p.add (i * 2)).off + 1, none⟩) (by rw [add_block]; exact hpb)).trans cy0⟩ | assumption)
        (first
          | (refine step_append_pt (g := wr.heap.size) (p := (noi k1, noi k2)) rfl (.tmp 12) (.tmp 32) rfl rfl (World.ownsRow.alloc (w := wr.drew) ho _) (by simp; omega) rfl cnew (by omega) ?_; intro v' w4 ho4 hg4 hnn4; have hb4 := hbA.grown hg4 (by simp; omega) (fun q e => (ho.lt q e).1))
          | (go_at_call 57; (with_reducible refine (rest_v hk1 _).mono ?_); rintro e w' ⟨rfl, rfl⟩)
          | (go_at_call 57; (with_reducible refine (rest_v hk2 _).mono ?_); rintro e w' ⟨rfl, rfl⟩))
      all_goals
        have hnn' : v' ≠ .slice none 0 0 := fun e => hnn (hnn4.1 e).1
        rw [← hnp.out, ← hsu.out] at ho4
        clear hnn4 hnn ho hb hbA cnew hg4
        go_wp2_with fail
        go_roundw
        case rel => first | exact ⟨i + 1, by omega, by go_num, ho4, hnn', hb4⟩ | ((repeat apply Exists.intro); exact ⟨⟨i + 1, by omega, by go_num, ho4, hnn', hb4⟩, rfl⟩)
        case measure => simp [intOf]; omega
    · obtain rfl : i = len := by omega
      have hlt' : ¬ (i : Int) < i := by omega
      go_wp2_with fail
      go_ret
      refine ⟨_, rfl, ?_, hb⟩
      obtain ⟨_, ⟨h1, h2⟩ | ⟨g, c, cur, rfl, hB, hg, hn, hm, hs, ht⟩⟩ := ho
      · exact absurd h1 hnn
      · refine ⟨g, c, rfl, (Array.getElem?_eq_some_iff.1 hg).1, fun j hj => ?_⟩
        rw [show ps.take i = ps from List.take_of_length_le (by omega)] at ht
        have h1 := congrArg (fun l => l[j]?) ht
        simp only [List.getElem?_take, Nat.mul_one, if_pos hj] at h1
        unfold World.cell?
        rw [hg]
        have hj2 : j < (ps.map nPt).length := by rw [List.length_map]; omega
        rw [List.getElem?_map, List.getElem?_eq_getElem hj2] at h1
        rw [List.getD_eq_getElem?_getD, List.getElem?_eq_getElem hj2]
        simpa using h1
end Go.Proofs.Ytmmkopdijmplcaa.ln
