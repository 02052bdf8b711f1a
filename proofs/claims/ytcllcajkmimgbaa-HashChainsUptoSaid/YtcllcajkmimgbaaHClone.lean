/-
  A hash's clone and its size: what the calls return; the hash stays.
-/
import Derived.Test.YtcllcajkmimgbaaHSelf
namespace Go.Proofs.Ytcllcajkmimgbaa.HH
open Go.RowKit Base
set_option maxRecDepth 100000 in
set_option maxHeartbeats 1000000 in
theorem size_any {w : World} {g : Nat} {l : List UInt8} (h : HashAt w g l) : Calls Try.prog 23 #[.pointer (some ⟨g, 0, none⟩)] w fun e w' => e = .returned (.int .i64 (l.length : Int)) ∧ w = w' := by
  obtain ⟨B, hB, hR⟩ := h
  have c72 := hR.cell (hsG_size _ hB.len _)
  go_enter Try.func23, Try.ntmps23
  go_wp2_with fail
  go_ret
  exact ⟨rfl, rfl⟩
set_option maxRecDepth 100000 in
set_option maxHeartbeats 1000000 in
theorem clone_any {w : World} {g : Nat} {l : List UInt8} (h : HashAt w g l) : Calls Try.prog 24 #[.pointer (some ⟨g, 0, none⟩)] w fun e w' => e = .returned (.pointer (some ⟨w.heap.size, 0, none⟩)) ∧ HashAt w' w.heap.size l ∧ Below w.heap.size w w' := by
  obtain ⟨B, hB, hR⟩ := h
  have hl : (hsC l B).length = 73 := hsG_length _ hB.len _
  have h1 : (hsC l B).toArray.all (·.oneCell') = true := hsC_one l B
  have hsz : (Try.prog.info? 53).map (·.size) = some (hsC l B).toArray.size := by
    rw [List.size_toArray, hl]
    kernel_rfl
  have hzz : zeroH.size = (hsC l B).toArray.size := (show zeroH.size = 73 from rfl).trans (by rw [List.size_toArray, hl])
  go_enter Try.func24, Try.ntmps24
  generalize hC : hsC l B = C at *
  replace hC := Lib.hid hC
  replace hl := Lib.hid hl
  replace h1 := Lib.hid h1
  replace hsz := Lib.hid hsz
  replace hzz := Lib.hid hzz
  go_wp2_with (first
    | (refine wpList_load_row rfl 53 _ rfl g rfl 53 _ (0, 0) _ hR Try.underlying53 rfl hsz.out ?_)
    | (refine wpList_allocIs rfl 53 rfl _ rfl w.heap.size rfl (.cells zeroH 53) (by kernel_rfl) ?_)
    | (refine wpList_store_rowTo rfl _ _ _ rfl rfl w.heap.size _ rfl rfl 53 zeroH (heap_alloc_new w _) hsz.out hzz.out h1.out ?_))
  go_ret
  refine ⟨rfl, ⟨B, hB, ?_⟩, below_setRow ((Below.refl _ _).alloc (Nat.le_refl _) _) (Nat.le_refl _) _⟩
  rw [hC.out]
  exact setRow_heap _ _ _ _ 53 _ (heap_alloc_new w _)
end Go.Proofs.Ytcllcajkmimgbaa.HH
