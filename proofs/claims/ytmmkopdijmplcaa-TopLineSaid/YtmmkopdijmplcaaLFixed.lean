/-
  The calls of the line that the document fixes answer as fixed: the call returns true, in whatever memory.
-/
import Derived.Test.YtmmkopdijmplcaaLRecv
import Derived.Test.YtmmkopdijmplcaaFFixed
import Derived.Lib.Hide
set_option linter.unusedVariables false
set_option maxRecDepth 100000
namespace Go.Proofs.Ytmmkopdijmplcaa.ln
open Go.RowKit Base HH FF RH
theorem PRow.cells {w : World} {B n g cap : Nat} {xs : List (Nat × Nat)} (h : PRow w B (.slice (some ⟨g, 0, none⟩) n cap) n xs) : ∀ j u, (xs.map cv)[j]? = some u → w.cell? ⟨g, j, none⟩ = some u := by
  intro j u hj
  rw [List.getElem?_map] at hj
  obtain ⟨p, hp, rfl⟩ := Option.map_eq_some_iff.1 hj
  exact h.cell hp
theorem bits1 : bits .and .i64 1 3 = ((1 : Nat) : Int) := by decide +kernel
set_option maxHeartbeats 4000000 in
theorem lfixed_any (w : World) : Calls Try.prog 20 #[] w fun e w' => e = .returned (.bool true) ∧ Below w.heap.size w w' := by
  have z1 := Lib.hid xAb_size
  go_enter Try.func20, Try.ntmps20
  go_wp2_with fail
  refine (c_enc w).mono ?_
  rintro e w1 ⟨rfl, hb1⟩
  generalize hx : xAb = x at *
  have d1 := fun w => c_dec1 w
  rw [hx] at d1
  replace hx := Lib.hid hx
  replace d1 := Lib.hid d1
  have z1' := z1.out
  have zl : x.data.toList.length = 52 := by show x.data.size = 52; exact z1'
  go_wp2_with fail
  (with_reducible refine (send_v (s := x) (w := w1) (by omega)).mono ?_)
  rintro e w2 ⟨v2, rfl, hP2, hb2'⟩
  rw [z1'] at hP2
  have hb2 := hb1.trans (hb2'.mono hb1.size)
  clear hb1 hb2'
  obtain ⟨g2, c2, rfl, hc2, _, hg2⟩ := hP2.lt
  go_wp2_with fail
  (with_reducible refine (turn_v (k := 1) (r := 1) (xs := sendL x.data.toList) (by rw [sendL_length, zl]) (by omega) (by omega) hg2 hP2.cells bits1 (by omega)).mono ?_)
  rintro e w3 ⟨v3, rfl, hP3, hb3'⟩
  have hb3 := hb2.trans (hb3'.mono hb2.size)
  clear hb2 hb3' hP2
  obtain ⟨g3, c3, rfl, hc3, _, hg3⟩ := hP3.lt
  have hxs : mapTo (fun _ => turnP 1) (sendL x.data.toList) (1 + 2 * 52) = outL x.data.toList 1 [] 0 := by rw [outL_zero]; unfold turned; rw [zl]
  rw [hxs] at hP3
  go_wp2_with fail
  (with_reducible refine (receive_v (m := 52) (k := 1) (r := 3) (l := x.data.toList) (by rw [outL_length, zl]) (by omega) (by omega) hg3 hP3.cells (by omega) (by omega) (outL_pilot _ 1 [] (Nat.zero_le _)) zl (fun j hj => outL_says x.data.toList (r := 1) (by omega) [] (Nat.zero_le _) (by omega))).mono ?_)
  rintro e w4 ⟨rfl, hb4'⟩
  have hb4 := hb3.trans (hb4'.mono hb3.size)
  clear hb3 hb4' hP3 hxs
  rw [str_of x]
  go_wp2_with fail
  refine (d1.out _).mono ?_
  rintro e w5 ⟨rfl, hb5'⟩
  have hb5 := hb4.trans (hb5'.mono hb4.size)
  clear hb4 hb5' d1
  go_wp2_with fail
  go_ret
  exact ⟨rfl, hb5⟩
end Go.Proofs.Ytmmkopdijmplcaa.ln
