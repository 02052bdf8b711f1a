/-
  The numbers K, a new hash, and bytes as a number: what the calls return, in whatever memory.
-/
import Derived.Test.YtmmkopdijmplcaaHWord
import Derived.Test.YtmmkopdijmplcaaNum
import Derived.Deep.QuietTactic
import Derived.BigQuiet
import Derived.StillTailTactics
import Derived.Deep.LoopGhost
import Derived.Deep.CutRange
import Derived.Deep.CutBlock
import Derived.Laws.CopyOwn
import Derived.Great.Walk
namespace Go.Proofs.Ytmmkopdijmplcaa.HH
open Go.RowKit Base
theorem getD_at (s : ByteArray) (k : Nat) (h : k < s.size) : s.data.toList.getD k 0 = s[k]'h := by
  rw [List.getD, List.getElem?_eq_getElem (by simpa using h)]
  rfl
theorem take_getD (l : List UInt8) (k : Nat) (h : k < l.length) : l.take (k + 1) = l.take k ++ [l.getD k 0] := by
  rw [List.take_succ_eq_append_getElem h]
  simp [List.getD, List.getElem?_eq_getElem h]
set_option maxHeartbeats 400000 in
theorem value_any (s : ByteArray) (w : World) (hs : s.size ≤ maxLen) :
    Calls Try.prog 79 #[.string s] w fun e w' => e = .returned (.int .u64 ((num64 s.data.toList).toNat : Int)) ∧ w = w' := by
  unfold maxLen at hs
  go_enter Try.func79, Try.ntmps79
  go_wp2
  go_loop [3, 7] (fun r i => ∃ k : Nat, k ≤ s.size ∧ i = .int .i64 k ∧ r = .int .u64 ((num64 (s.data.toList.take k)).toNat : Int)) (fun _ i => s.size - (intOf i).toNat)
  case atStart => exact ⟨0, Nat.zero_le _, rfl, rfl⟩
  case round =>
    obtain ⟨k, hk, rfl, rfl⟩ := hrel
    by_cases hlt : k < s.size
    · have HT : Hid (num64 (s.data.toList.take (k + 1)) = n64 (num64 (s.data.toList.take k)) (s[k]'hlt)) := by
        rw [take_getD _ k (by simpa using hlt), num64_snoc, getD_at s k hlt]
        exact rfl
      have hb : (s[k]'hlt).toNat < 256 := (s[k]'hlt).toNat_lt
      generalize num64 (s.data.toList.take k) = X at HT ⊢
      go_wp2
      go_round
      case rel => exact ⟨k + 1, by omega, by go_num, by rw [HT.out, IntKind.wrap_u64, n64_u64]⟩
      case measure => simp [intOf]; omega
    · obtain rfl : k = s.size := by omega
      have hl : s.data.toList.take s.size = s.data.toList := List.take_of_length_le (by simp)
      rw [hl]
      clear hl
      go_wp2
      go_ret
      exact ⟨rfl, rfl⟩
def keyA : Array Value := (Sha.keyL.map w32).toArray
def zeroK : Array Value := Array.replicate 64 (.int .u32 0)
theorem wpList_allocIs {P : Program} {ops : Array Oper} {rest : List Oper} {o : Oper} {a : Act} {w : World} {Q : Exit → Act → World → Prop} (hg : o.guard = none) (t : TypeId) (_ : o.op = .alloc t) (dst : Option Tmp) (hdst : o.dst = dst)
    (N : Nat) (hN : w.heap.size = N) (ob : Obj) (hrun : (execOp a.eval o).run P w = .ok (.value (.pointer (some ⟨w.heap.size, 0, none⟩))) (w.alloc ob))
    (h : wpList P ops Q rest (a.put dst (.pointer (some ⟨N, 0, none⟩))) (w.alloc ob)) : wpList P ops Q (o :: rest) a w := by
  subst hN
  exact Great.wpList_allocTo hg dst hdst _ ob hrun h
set_option maxHeartbeats 1000000 in
theorem keys_any (w : World) : Calls Try.prog 70 #[] w fun e w' => e = .returned (.agg keyA) ∧ Below w.heap.size w w' := by
  go_enter Try.func70, Try.ntmps70
  go_wp2_with (first
    | (refine wpList_allocIs rfl 123 rfl _ rfl w.heap.size rfl (.cells zeroK 123) (by kernel_rfl) ?_)
    | (refine wpList_buildTo rfl _ _ rfl _ rfl keyA (by kernel_rfl) ?_)
    | (refine wpList_store_rowTo rfl _ _ _ rfl rfl w.heap.size keyA rfl rfl 123 zeroK (heap_alloc_new w _) (by kernel_rfl) rfl (by kernel_rfl) ?_))
  exact bodyPost_ret (v := .agg keyA) (results_cell_row Try.results70 _ _ w.heap.size 123 keyA (0, 0) _ rfl (setRow_heap _ _ _ _ 123 _ (heap_alloc_new w _)) Try.underlying123 rfl (by kernel_rfl)) rfl ⟨rfl, below_setRow ((Below.refl _ _).alloc (Nat.le_refl _) _) (Nat.le_refl _) _⟩
def hnewA : Array Value := #[w32 Sha.iv.a, w32 Sha.iv.b, w32 Sha.iv.c, w32 Sha.iv.d, w32 Sha.iv.e, w32 Sha.iv.f, w32 Sha.iv.g, w32 Sha.iv.h] ++ Array.replicate 64 (.int .u8 0) ++ #[.int .i64 0]
def stA (s : Sha.St) : Array Value := #[w32 s.a, w32 s.b, w32 s.c, w32 s.d, w32 s.e, w32 s.f, w32 s.g, w32 s.h]
set_option maxHeartbeats 400000 in
theorem new_any (w : World) : Calls Try.prog 61 #[] w fun e w' => e = .returned (.pointer (some ⟨w.heap.size, 0, none⟩)) ∧ w.alloc (.cells hnewA 122) = w' := by
  go_enter Try.func61, Try.ntmps61
  go_wp2_with (first
    | (refine wpList_buildTo rfl 119 _ rfl _ rfl (stA Sha.iv) (by kernel_rfl) ?_)
    | (refine wpList_buildTo rfl 122 _ rfl _ rfl hnewA (by kernel_rfl) ?_)
    | (refine Great.wpList_boxTo rfl _ _ rfl _ rfl _ rfl _ rfl ?_))
  go_ret
  exact ⟨rfl, rfl⟩
end Go.Proofs.Ytmmkopdijmplcaa.HH
