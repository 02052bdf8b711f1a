/-
  What a hash holds, plainly: the state behind the whole blocks, the bytes of the last block, the number of all; what more bytes make of it.
-/
import Derived.Test.YtmmkopdijmplcaaHRnd
import Derived.Deep.MidRow
import Derived.Laws.CopyOwn
import Derived.Lib.BufferWrite
namespace Go.Proofs.Ytmmkopdijmplcaa.HH
open Go.RowKit Base
/-- the block's bytes, of which the first are what stands behind the last whole block -/
structure Hs (l : List UInt8) (B : List UInt8) : Prop where
  len : B.length = 64
  tail : B.take (l.length % 64) = l.drop (64 * (l.length / 64))
def hsG (s : Sha.St) (B : List UInt8) (n : Int) : List Value := (stA s).toList ++ B.map bv ++ [.int .i64 n]
def hsC (l B : List UInt8) : List Value := hsG (Sha.run (l.length / 64) l) B (l.length : Int)
/-- block g is a hash to which l was written -/
def HashAt (w : World) (g : Nat) (l : List UInt8) : Prop := ∃ B, Hs l B ∧ Row w g 122 (hsC l B)
theorem run_append (k : Nat) (l s : List UInt8) (h : 64 * k ≤ l.length) : Sha.run k (l ++ s) = Sha.run k l := by
  induction k with
  | zero => rfl
  | succ k ih =>
    unfold Sha.run
    rw [ih (by omega), List.drop_append_of_le_length (by omega), List.take_append_of_le_length (by rw [List.length_drop]; omega)]
theorem stA_length (s : Sha.St) : (stA s).toList.length = 8 := rfl
theorem hsG_size (s : Sha.St) {B : List UInt8} (h : B.length = 64) (n : Int) : (hsG s B n)[72]? = some (.int .i64 n) := by
  unfold hsG
  rw [List.getElem?_append_right (by rw [List.length_append, List.length_map, h, stA_length]; decide), List.length_append, List.length_map, h, stA_length]
  rfl
theorem hsG_byte (s : Sha.St) {B : List UInt8} (h : B.length = 64) (n : Int) {j : Nat} (hj : j < 64) : (hsG s B n)[8 + j]? = some (bv (B.getD j 0)) := by
  unfold hsG
  rw [List.getElem?_append_left (by rw [List.length_append, List.length_map, h, stA_length]; omega), List.getElem?_append_right (by rw [stA_length]; omega), stA_length]
  rw [show 8 + j - 8 = j from by omega, List.getElem?_map, List.getElem?_eq_getElem (by rw [h]; exact hj), List.getD_eq_getElem?_getD, List.getElem?_eq_getElem (by rw [h]; exact hj)]
  rfl
theorem hsG_state (s : Sha.St) (B : List UInt8) (n : Int) {j : Nat} (hj : j < 8) : (hsG s B n)[j]? = some (w32 (stg s j)) := by
  unfold hsG
  rw [List.append_assoc, List.getElem?_append_left (by rw [stA_length]; exact hj)]
  exact stA_at s hj
theorem hsG_length (s : Sha.St) {B : List UInt8} (h : B.length = 64) (n : Int) : (hsG s B n).length = 73 := by
  unfold hsG
  rw [List.length_append, List.length_append, List.length_map, h, stA_length]
  rfl
theorem hsG_setSize (s : Sha.St) {B : List UInt8} (h : B.length = 64) (n m : Int) : (hsG s B n).set 72 (.int .i64 m) = hsG s B m := by
  unfold hsG
  rw [List.set_append_right _ _ (by rw [List.length_append, List.length_map, h, stA_length]; decide), List.length_append, List.length_map, h, stA_length]
  rfl
theorem splice_mid {α : Type} (p m q cs : List α) (x : Nat) (h : x + cs.length ≤ m.length) : splice (p ++ m ++ q) (p.length + x) cs = p ++ splice m x cs ++ q := by
  unfold splice
  rw [List.append_assoc, List.take_append, List.take_of_length_le (by omega), Nat.add_sub_cancel_left, List.take_append_of_le_length (by omega)]
  rw [List.drop_append, List.drop_of_length_le (by omega), show p.length + x + cs.length - p.length = x + cs.length from by omega, List.drop_append_of_le_length h]
  simp [List.append_assoc]
theorem splice_map {α β : Type} (f : α → β) (m cs : List α) (x : Nat) : splice (m.map f) x (cs.map f) = (splice m x cs).map f := by
  unfold splice
  simp [List.map_take, List.map_drop]
theorem hsG_splice (s : Sha.St) {B : List UInt8} (n : Int) (cs : List UInt8) (x : Nat) (hx : x + cs.length ≤ B.length) : splice (hsG s B n) (8 + x) (cs.map bv) = hsG s (splice B x cs) n := by
  unfold hsG
  rw [← stA_length s, splice_mid _ _ _ _ _ (by rw [List.length_map, List.length_map]; exact hx), splice_map]
theorem splice_take {α : Type} (m cs : List α) (x : Nat) (h : x + cs.length ≤ m.length) : (splice m x cs).take (x + cs.length) = m.take x ++ cs := by
  unfold splice
  rw [← List.append_assoc]
  exact List.take_left' (by rw [List.length_append, List.length_take]; omega)
/-- more bytes that do not fill the block -/
theorem more_part {l B cs : List UInt8} (h : Hs l B) (hc : l.length % 64 + cs.length < 64) : Hs (l ++ cs) (splice B (l.length % 64) cs) ∧ hsG (Sha.run (l.length / 64) l) (splice B (l.length % 64) cs) ((l ++ cs).length : Int) = hsC (l ++ cs) (splice B (l.length % 64) cs) := by
  have e1 : (l ++ cs).length % 64 = l.length % 64 + cs.length := by rw [List.length_append]; omega
  have e2 : (l ++ cs).length / 64 = l.length / 64 := by rw [List.length_append]; omega
  have hl := h.len
  refine ⟨⟨by rw [length_splice _ _ _ (by omega)]; exact hl, ?_⟩, ?_⟩
  · rw [e1, e2, splice_take _ _ _ (by omega), h.tail, List.drop_append_of_le_length (by omega)]
  · unfold hsC
    rw [e2, run_append _ _ _ (by omega)]
/-- more bytes that fill it -/
theorem more_full {l B cs : List UInt8} (h : Hs l B) (hc : l.length % 64 + cs.length = 64) : Hs (l ++ cs) (splice B (l.length % 64) cs) ∧ hsG (Sha.next (Sha.run (l.length / 64) l) (splice B (l.length % 64) cs)) (splice B (l.length % 64) cs) ((l ++ cs).length : Int) = hsC (l ++ cs) (splice B (l.length % 64) cs) := by
  have e1 : (l ++ cs).length % 64 = 0 := by rw [List.length_append]; omega
  have e2 : (l ++ cs).length / 64 = l.length / 64 + 1 := by rw [List.length_append]; omega
  have hl := h.len
  have hB : splice B (l.length % 64) cs = (l ++ cs).drop (64 * (l.length / 64)) := by
    have := splice_take B cs (l.length % 64) (by omega)
    rw [List.take_of_length_le (by rw [length_splice _ _ _ (by omega)]; omega), h.tail] at this
    rw [this, List.drop_append_of_le_length (by omega)]
  refine ⟨⟨by rw [length_splice _ _ _ (by omega)]; exact hl, ?_⟩, ?_⟩
  · rw [e1, e2, List.take_zero, List.drop_of_length_le (by rw [List.length_append]; omega)]
  · unfold hsC
    rw [e2]
    conv => rhs; unfold Sha.run
    rw [run_append _ _ _ (by omega), ← hB, List.take_of_length_le (by rw [length_splice _ _ _ (by omega)]; omega)]
theorem hsG_setState (s t : Sha.St) (B : List UInt8) (n : Int) : ((((((((hsG s B n).set 0 (w32 t.a)).set 1 (w32 t.b)).set 2 (w32 t.c)).set 3 (w32 t.d)).set 4 (w32 t.e)).set 5 (w32 t.f)).set 6 (w32 t.g)).set 7 (w32 t.h) = hsG t B n := rfl
/-! ### copy from a text, as much as there is room for -/
theorem run_copy_part {P : Program} (w : World) (dT sT ty elem : TypeId) (g o dLen dCap : Nat) (s : ByteArray) (n : Nat) (cur : List Value) (t : TypeId)
    (hu : P.underlying dT = some (.slice elem)) (hs : (P.info? elem).map (·.size) = some 1) (hg : Row w g t cur) (hn : Nat.min s.size dLen = n) (hfit : o + n ≤ cur.length) :
    (Builtin.copy_ #[dT, sT] ty #[.slice (some ⟨g, o, none⟩) dLen dCap, .string s]).run P w = .ok (goInt n) (w.setRow g (splice cur o ((s.data.toList.take n).map bv)).toArray) := by
  have hns : n ≤ s.data.toList.length := by rw [← hn]; show _ ≤ s.size; exact Nat.min_le_left _ _
  have hlen : ((s.data.toList.take n).map bv).length = n := by rw [List.length_map, List.length_take]; omega
  have hst := run_storeCells_at P g o t ((s.data.toList.take n).map bv) 0 cur.toArray w hg (by rw [hlen]; simpa using hfit) (fun v hv => by
    obtain ⟨b, _, rfl⟩ := List.mem_map.1 hv
    rfl)
  have htk : List.take n (List.map (fun b : UInt8 => Value.int IntKind.u8 (b.toNat : Int)) s.data.toList) = (s.data.toList.take n).map bv := by
    rw [List.map_take]
    rfl
  rw [hlen] at hst
  simp only [Nat.add_zero] at hst
  cases hq : P.info? elem with
  | none => simp [hq] at hs
  | some i =>
    simp [Builtin.copy_, run_underlying hu, Builtin.lenOf, Builtin.firstCells, sizeOf, typeInfo, hq, hn]
    rw [← List.map_take]
    change Result.andThen ((storeCells _ ((s.data.toList.take n).map bv)).run P w) _ = _
    rw [hst]
    show Result.ok _ _ = Result.ok _ _
    unfold splice
    rw [← List.map_take, hlen, List.append_assoc]
theorem step_copy_part {P : Program} {ops : Array Oper} {o : Oper} {a : Act} {w : World} {K : Act → World → Prop} {Q : Exit → Act → World → Prop} {E : Prop} (hgd : o.guard = none) (d s : Operand) (dT sT : TypeId)
    (ho : o.op = .call { callee := .builtin .copy, args := #[d, s], argTypes := #[dT, sT] }) (elem : TypeId) (hu : P.underlying dT = some (.slice elem)) (hsz : (P.info? elem).map (·.size) = some 1)
    (g off dLen dCap : Nat) (hd : a.eval d = .slice (some ⟨g, off, none⟩) dLen dCap) (x : ByteArray) (hs : a.eval s = .string x) (n : Nat) (hn : Nat.min x.size dLen = n)
    (cur : List Value) (t : TypeId) (hg : Row w g t cur) (hfit : off + n ≤ cur.length)
    (h : K (a.put o.dst (goInt n)) (w.setRow g (splice cur off ((x.data.toList.take n).map bv)).toArray)) :
    if Region.wanted o (yielded ops a.tmps) = true then Oper.wp P o a w K Q else E := by
  have hw : Region.wanted o (yielded ops a.tmps) = true := by simp [Region.wanted, hgd]
  rw [if_pos hw]
  have hrun := run_copy_part (P := P) w dT sT o.type elem g off dLen dCap x n cur t hu hsz hg hn hfit
  generalize splice cur off ((x.data.toList.take n).map bv) = ys at *
  unfold Oper.wp
  simp [execOp, ho, resolve, invoke, builtin, hd, hs, hrun, Result.andThen, Oper.upon]
  exact h
theorem row_setRow {w : World} {g : Nat} {t : TypeId} {xs : List Value} (h : Row w g t xs) (ys : List Value) : Row (w.setRow g ys.toArray) g t ys := setRow_heap _ _ _ _ t _ h
theorem grown_setRow (w : World) (g : Nat) (ys : Array Value) : w.grownBy (w.setRow g ys) (some g) :=
  ⟨rfl, rfl, rfl, by simp [World.setRow], fun k hk hne => setRow_other w g k ys (fun e => hne (by rw [e]))⟩
end Go.Proofs.Ytmmkopdijmplcaa.HH
