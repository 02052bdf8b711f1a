/-
  Push, Pop and Clone of a queue of package frame, for whatever queue and text.
-/
import Derived.Test.YtmmkopdijmplcaaFWin
import Derived.StillTailTactics
import Derived.Laws.CopyOwn
set_option linter.unusedVariables false
namespace Go.Proofs.Ytmmkopdijmplcaa.FF
open Go.RowKit Base HH
theorem bel_drewN {B : Nat} {w w1 : World} (h : Below B w w1) (n : Nat) : Below B w (w1.drewN n) := ⟨h.os, h.tape, h.output, h.size, h.block⟩
theorem gro_drewN {w w1 : World} {r : Option Nat} (h : w.grownBy w1 r) (n : Nat) : w.grownBy (w1.drewN n) r := ⟨h.os, h.tape, h.output, h.size, h.block⟩
theorem gro_cell {w w1 : World} {g : Nat} (h : w.grownBy w1 (some g)) (j : Nat) (v : Value) : w.grownBy (w1.setCell ⟨g, j, none⟩ v) (some g) :=
  ⟨h.os, h.tape, h.output, by simpa [World.setCell] using h.size, fun k hk hne => (Below.heap_setCell w1 ⟨g, j, none⟩ v k (fun e => hne (by rw [e]))).trans (h.block k hk hne)⟩
theorem qC_setN {l junk : List ByteArray} (h : l.length + junk.length = 8) (n m d : Nat) : (qC l junk n d).set 8 (.int .i64 (m : Int)) = qC l junk m d := by
  have hl : ((l ++ junk).map Value.string).length = 8 := by rw [List.length_map, List.length_append, h]
  unfold qC
  rw [List.set_append_right _ _ (by omega), hl]
  rfl
theorem qC_push {l junk : List ByteArray} (h : l.length + junk.length = 8) (hl : l.length < 8) (s : ByteArray) (n d : Nat) : (qC l junk n d).set l.length (.string s) = qC (l ++ [s]) junk.tail n d := by
  cases junk with
  | nil => simp at h; omega
  | cons j r =>
    unfold qC
    rw [List.set_append_left _ _ (by rw [List.length_map, List.length_append, h]; exact hl), ← List.map_set, List.set_append_right _ _ (Nat.le_refl _), Nat.sub_self]
    simp
set_option maxHeartbeats 400000 in
theorem qpush_no {w : World} {g d : Nat} {l : List ByteArray} (h : QAt w g l d) (hd : l.length = d) (s : ByteArray) : Calls Try.prog 35 #[.pointer (some ⟨g, 0, none⟩), .string s] w fun e w' => e = .returned (.bool false) ∧ Below w.heap.size w w' := by
  obtain ⟨junk, h8, _, _, _, hr⟩ := h
  have c8 := hr.cell (qC_n h8 l.length d).1
  have c9 := hr.cell (qC_n h8 l.length d).2
  rw [hd] at c8
  have hdd : ((d : Int) == (d : Int)) = true := beq_self_eq_true _
  clear hr h8 hd
  go_enter Try.func35, Try.ntmps35
  go_wp2_with fail
  go_quiet (fail)
  go_wp2_with fail
  go_ret
  exact ⟨rfl, bel_drewN (Below.refl _ _) _⟩
set_option maxRecDepth 100000 in
set_option maxHeartbeats 1000000 in
theorem qpush_yes {w : World} {g d : Nat} {l : List ByteArray} (h : QAt w g l d) (hd : l.length < d) (s : ByteArray) : Calls Try.prog 35 #[.pointer (some ⟨g, 0, none⟩), .string s] w fun e w' => e = .returned (.bool true) ∧ QAt w' g (l ++ [s]) d ∧ w.grownBy w' (some g) := by
  obtain ⟨junk, h8, hld, hd8, hd1, hr⟩ := h
  have c8 := hr.cell (qC_n h8 l.length d).1
  have c9 := hr.cell (qC_n h8 l.length d).2
  have ne : ((l.length : Int) == (d : Int)) = false := by rw [beq_eq_false_iff_ne]; omega
  have n8 : (l.length : Int) < 8 := by omega
  have n0 : (0 : Int) ≤ l.length := by omega
  have hp := Lib.hid (qC_push h8 (by omega) s l.length d)
  have hn := Lib.hid (qC_setN (l := l ++ [s]) (junk := junk.tail) (by rw [List.length_append, List.length_tail]; simp; omega) l.length (l.length + 1) d)
  obtain ⟨n, hnl⟩ : ∃ n, l.length = n := ⟨_, rfl⟩
  rw [hnl] at c8 ne n8 n0
  replace hnl := Lib.hid hnl
  go_enter Try.func35, Try.ntmps35
  go_wp2_with fail
  go_quiet (fail)
  go_wp2_with fail
  have hg0 := gro_drewN (World.grownBy.refl w (some g)) nq
  have hr0 := hr.drewN nq
  have c8' : (w.drewN nq).cell? ⟨g, 8, none⟩ = some (.int .i64 n) := c8
  have f0 := hr0.free n
  have f8 := hr0.free 8
  obtain ⟨x, hx⟩ : ∃ x, (l ++ junk).getD n ByteArray.empty = x := ⟨_, rfl⟩
  have cn := hr0.cell (qC_text l.length d (k := n) (by rw [List.length_append]; omega))
  rw [hx] at cn
  clear c8 c9 hr hx
  generalize w.drewN nq = w1 at *
  have hr1 := (hr0.set n (.string s)).drew
  have hg1 := grown_drew (gro_cell hg0 n (.string s))
  rw [← hnl.out, hp.out] at hr1
  rw [hnl.out] at hr1
  have hr2 := hr1.set 8 (.int .i64 ((n : Int) + 1))
  have hg2 := gro_cell hg1 8 (.int .i64 ((n : Int) + 1))
  rw [hnl.out] at hn
  have e1 : ((n : Int) + 1) = ((n + 1 : Nat) : Int) := by omega
  rw [e1, hn.out] at hr2
  have hr2 := Lib.hid hr2
  have hg2 := Lib.hid hg2
  rw [e1] at hg2
  clear hp hr1 hg1 hr0 hg0
  replace e1 := Lib.hid e1
  go_still_tail 9, (by kernel_rfl)
  go_wp2_with fail
  go_ret
  exact ⟨rfl, ⟨junk.tail, by rw [List.length_append, List.length_tail]; simp; omega, by rw [List.length_append]; simp; omega, hd8, hd1, by rw [show (l ++ [s]).length = n + 1 from by rw [List.length_append, hnl.out]; rfl]; exact hr2.out⟩, hg2.out⟩
/-- copy within a row, in a region that draws its order: the row behind it, and that nothing else has turned -/
theorem step_copy_row {P : Program} {ops : Array Oper} {o : Oper} {a : Act} {w : World} {K : Act → World → Prop} {Q : Exit → Act → World → Prop} {E : Prop} (hgd : o.guard = none) (d s : Operand) (dT sT : TypeId)
    (ho : o.op = .call { callee := .builtin .copy, args := #[d, s], argTypes := #[dT, sT] }) (elem : TypeId) (hu : P.underlying dT = some (.slice elem)) (hsz : (P.info? elem).map (·.size) = some 1)
    (g off so dLen dCap sLen sCap : Nat) (hd : a.eval d = .slice (some ⟨g, off, none⟩) dLen dCap) (hs : a.eval s = .slice (some ⟨g, so, none⟩) sLen sCap)
    (cur : List Value) (t : TypeId) (hg : Row w g t cur) (cs : List Value) (hn : cs.length = Nat.min sLen dLen) (hsrc : ∀ j v, cs[j]? = some v → w.cell? ((⟨g, so, none⟩ : Addr).add j) = some v)
    (hfit : off + cs.length ≤ cur.length) (h1 : ∀ v ∈ cs, v.oneCell' = true)
    (h : ∀ w', Hid (Row w' g t (splice cur off cs)) → Hid (w.grownBy w' (some g)) → K (a.put o.dst (goInt cs.length)) w') :
    if Region.wanted o (yielded ops a.tmps) = true then Oper.wp P o a w K Q else E := by
  have hw : Region.wanted o (yielded ops a.tmps) = true := by simp [Region.wanted, hgd]
  rw [if_pos hw]
  have hrun := run_copy_row (P := P) w dT sT o.type elem g off dLen dCap ⟨g, so, none⟩ sLen sCap cur.toArray t cs hu hsz hg hn hsrc (by simpa using hfit) h1
  unfold Oper.wp
  simp [execOp, ho, resolve, invoke, builtin, hd, hs, hrun, Result.andThen]
  exact h _ (show _ = _ by simpa [splice] using setRow_heap w g _ _ t _ hg) (grown_setRow w g _)
theorem gro_trans {w w1 w2 : World} {g : Nat} (h : w.grownBy w1 (some g)) (h' : w1.grownBy w2 (some g)) : w.grownBy w2 (some g) :=
  ⟨h'.os.trans h.os, h'.tape.trans h.tape, h'.output.trans h.output, Nat.le_trans h.size h'.size, fun k hk hne => (h'.block k (Nat.lt_of_lt_of_le hk h.size) hne).trans (h.block k hk hne)⟩
theorem qC_splice {x : ByteArray} {r junk : List ByteArray} (h : (x :: r).length + junk.length = 8) (n d : Nat) : splice (qC (x :: r) junk n d) 0 (r.map Value.string) = qC r ((x :: r ++ junk).drop r.length) n d := by
  unfold splice qC
  rw [List.take_zero, List.nil_append, Nat.zero_add, List.length_map, List.drop_append_of_le_length (by simp; omega), ← List.map_drop, List.map_append, List.append_assoc]
set_option maxHeartbeats 400000 in
theorem qpop_no {w : World} {g d : Nat} (h : QAt w g [] d) : Calls Try.prog 36 #[.pointer (some ⟨g, 0, none⟩)] w fun e w' => e = .returned (.tuple #[.string (str []), .bool false]) ∧ w = w' := by
  obtain ⟨junk, h8, _, _, _, hr⟩ := h
  have c8 := hr.cell (qC_n h8 0 d).1
  change w.cell? _ = some (.int .i64 0) at c8
  clear hr h8
  go_enter Try.func36, Try.ntmps36
  go_wp2_with fail
  go_ret2
  exact ⟨rfl, rfl⟩
set_option maxRecDepth 100000 in
set_option maxHeartbeats 1000000 in
theorem qpop_yes {w : World} {g d : Nat} {x : ByteArray} {r : List ByteArray} (h : QAt w g (x :: r) d) : Calls Try.prog 36 #[.pointer (some ⟨g, 0, none⟩)] w fun e w' => e = .returned (.tuple #[.string x, .bool true]) ∧ QAt w' g r d ∧ w.grownBy w' (some g) := by
  obtain ⟨junk, h8, hld, hd8, hd1, hr⟩ := h
  have c8 := hr.cell (qC_n h8 (x :: r).length d).1
  have c0 := hr.cell (qC_text (l := x :: r) (junk := junk) (x :: r).length d (k := 0) (by simp))
  change w.cell? _ = some (.string x) at c0
  obtain ⟨m, hm⟩ : ∃ m, r.length = m := ⟨_, rfl⟩
  have hxl : (x :: r).length = m + 1 := by rw [List.length_cons, hm]
  rw [hxl] at c8 h8 hld hr
  have hm8 : m < 8 := by omega
  have hsp := Lib.hid (qC_splice (x := x) (r := r) (junk := junk) (by rw [hxl]; exact h8) (m + 1) d)
  have hjl : r.length + ((x :: r ++ junk).drop r.length).length = 8 := by rw [List.length_drop, List.length_append, hxl]; omega
  have hsn := Lib.hid (qC_setN hjl (m + 1) m d)
  have hclen : (qC (x :: r) junk (m + 1) d).length = 10 := by unfold qC; rw [List.length_append, List.length_map, List.length_append, hxl, h8]; rfl
  have hsrc : ∀ j v, (r.map Value.string)[j]? = some v → w.drew.cell? ((⟨g, 1, none⟩ : Addr).add j) = some v := fun j v hj => by
    rw [Addr.add_mid]
    refine hr.drew.cell ?_
    have hj' : j < r.length := by have := (List.getElem?_eq_some_iff.1 hj).1; rwa [List.length_map] at this
    unfold qC
    rw [List.getElem?_append_left (by rw [List.length_map, List.length_append, hxl]; omega), List.map_append, List.getElem?_append_left (by rw [List.length_map, hxl]; omega), ← hj, List.map_cons, Nat.add_comm 1 j]
    rfl
  have hone : ∀ v ∈ r.map Value.string, v.oneCell' = true := fun v hv => by
    obtain ⟨y, _, rfl⟩ := List.mem_map.1 hv
    rfl
  have hfit : 0 + (r.map Value.string).length ≤ (qC (x :: r) junk (m + 1) d).length := by rw [hclen, List.length_map]; omega
  have hn : (r.map Value.string).length = Nat.min m 8 := by
    rw [List.length_map, hm]
    exact (Nat.min_eq_left (by omega)).symm
  have n1 : (1 : Int) ≤ (m : Int) + 1 := by omega
  have n8 : (m : Int) + 1 ≤ 8 := by omega
  have n0 : ((m : Int) + 1 == 0) = false := by rw [beq_eq_false_iff_ne]; omega
  replace hm := Lib.hid hm
  replace hxl := Lib.hid hxl
  replace hclen := Lib.hid hclen
  replace hn := Lib.hid hn
  replace hjl := Lib.hid hjl
  replace h8 := Lib.hid h8
  go_enter Try.func36, Try.ntmps36
  go_wp2_with fail
  go_region_law ((refine step_copy_row rfl (.tmp 18) (.tmp 26) 53 53 rfl 9 Try.underlying53 (by kernel_rfl) g 0 1 8 8 m 7 (by kernel_rfl) (by kernel_rfl) _ 101 hr.drew _ hn.out hsrc hfit hone ?_; intro w3 hr3 hg3))
  have hr3 := hr3.out
  rw [hsp.out] at hr3
  have hg4 := gro_trans (grown_drew (World.grownBy.refl w (some g))) hg3.out
  have d8 := hr3.cell (qC_n hjl.out (m + 1) d).1
  have g8 := hr3.free 8
  have hr5 := hr3.set 8 (.int .i64 (m : Int))
  rw [hsn.out] at hr5
  have hg5 := gro_cell hg4 8 (.int .i64 (m : Int))
  have hr5 := Lib.hid hr5
  have hg5 := Lib.hid hg5
  clear hr hr3 hg3 hg4 hsrc hone hfit hsp hsn c0 c8
  go_wp2_with fail
  go_ret2
  exact ⟨rfl, ⟨_, hjl.out, by have := hm.out; omega, hd8, hd1, by rw [hm.out] at hr5 ⊢; exact hr5.out⟩, hg5.out⟩
theorem QAt.lt {w : World} {g d : Nat} {l : List ByteArray} (h : QAt w g l d) : g < w.heap.size := by obtain ⟨_, _, _, _, _, hr⟩ := h; exact hr.lt
theorem QAt.below {w w1 : World} {g d D : Nat} {l : List ByteArray} (h : QAt w g l d) (hb : Below D w w1) (hD : g < D) : QAt w1 g l d := by
  obtain ⟨j, a, b, c, e, hr⟩ := h
  exact ⟨j, a, b, c, e, hr.below hb hD⟩
theorem QAt.grown {w w1 : World} {g d : Nat} {l : List ByteArray} (h : QAt w g l d) {r : Option Nat} (hg : w.grownBy w1 r) (hne : r ≠ some g) : QAt w1 g l d := by
  obtain ⟨j, a, b, c, e, hr⟩ := h
  exact ⟨j, a, b, c, e, hr.grown hg hne⟩
def zeroQ : Array Value := Array.replicate 8 (.string ByteArray.empty) ++ #[.int .i64 0, .int .i64 0]
theorem qC_one (l junk : List ByteArray) (n d : Nat) : (qC l junk n d).toArray.all (·.oneCell') = true := by
  rw [Array.all_eq_true_iff_forall_mem]
  intro v hv
  have hv2 : v ∈ qC l junk n d := by simpa using hv
  unfold qC at hv2
  rw [List.mem_append] at hv2
  rcases hv2 with hv2 | hv2
  · obtain ⟨x, _, rfl⟩ := List.mem_map.1 hv2
    rfl
  · simp at hv2
    rcases hv2 with rfl | rfl <;> rfl
set_option maxRecDepth 100000 in
set_option maxHeartbeats 1000000 in
theorem qclone_any {w : World} {g d : Nat} {l : List ByteArray} (h : QAt w g l d) : Calls Try.prog 37 #[.pointer (some ⟨g, 0, none⟩)] w fun e w' => e = .returned (.pointer (some ⟨w.heap.size, 0, none⟩)) ∧ QAt w' w.heap.size l d ∧ Below w.heap.size w w' ∧ w'.heap.size = w.heap.size + 1 := by
  obtain ⟨junk, h8, hld, hd8, hd1, hR⟩ := h
  have hl : (qC l junk l.length d).length = 10 := by unfold qC; rw [List.length_append, List.length_map, List.length_append, h8]; rfl
  have h1 : (qC l junk l.length d).toArray.all (·.oneCell') = true := qC_one _ _ _ _
  have hsz : (Try.prog.info? 101).map (·.size) = some (qC l junk l.length d).toArray.size := by
    rw [List.size_toArray, hl]
    kernel_rfl
  have hzz : zeroQ.size = (qC l junk l.length d).toArray.size := (show zeroQ.size = 10 from rfl).trans (by rw [List.size_toArray, hl])
  go_enter Try.func37, Try.ntmps37
  generalize hC : qC l junk l.length d = C at *
  replace hC := Lib.hid hC
  replace hl := Lib.hid hl
  replace h1 := Lib.hid h1
  replace hsz := Lib.hid hsz
  replace hzz := Lib.hid hzz
  go_wp2_with (first
    | (refine wpList_load_row rfl 101 _ rfl g rfl 101 _ (0, 0) _ hR Try.underlying101 rfl hsz.out ?_)
    | (refine wpList_allocIs rfl 101 rfl _ rfl w.heap.size rfl (.cells zeroQ 101) (by kernel_rfl) ?_)
    | (refine wpList_store_rowTo rfl _ _ _ rfl rfl w.heap.size _ rfl rfl 101 zeroQ (heap_alloc_new w _) hsz.out hzz.out h1.out ?_))
  go_ret
  refine ⟨rfl, ⟨junk, h8, hld, hd8, hd1, ?_⟩, below_setRow ((Below.refl _ _).alloc (Nat.le_refl _) _) (Nat.le_refl _) _, by simp [World.setRow]⟩
  rw [hC.out]
  exact setRow_heap _ _ _ _ 101 _ (heap_alloc_new w _)
end Go.Proofs.Ytmmkopdijmplcaa.FF
