/-
  The calls of package frame that the document fixes answer as fixed: the call returns true, in whatever memory.
-/
import Derived.Test.YtmmkopdijmplcaaFQue
set_option linter.unusedVariables false
namespace Go.Proofs.Ytmmkopdijmplcaa.FF
open Go.RowKit Base HH
def kK : ByteArray := ⟨#[107]⟩
def kL : ByteArray := ⟨#[108]⟩
def pAb : ByteArray := ⟨#[97, 98]⟩
def xAb : ByteArray := str (Frm.whole [107] 1 2 3 [97, 98])
theorem mac_kl : Sha.mac [108] (Frm.body 1 2 3 [97, 98]) ≠ Sha.mac [107] (Frm.body 1 2 3 [97, 98]) := by decide +kernel
theorem xAb_size : xAb.size = 52 := by
  unfold xAb
  rw [str_size, Frm.whole_length]
  rfl
theorem xAb_head : (xAb.extract 0 20).toList = [1, 0, 0, 0, 0, 0, 0, 0, 2, 0, 0, 0, 0, 0, 0, 0, 3, 2, 97, 98] := by
  rw [ByteArray.toList_eq, ext_take _ _ _ (by rw [xAb_size]; decide)]
  unfold xAb
  rw [str_toList]
  unfold Frm.whole
  rw [List.drop_zero, List.take_append_of_le_length (by rw [Frm.body_length]; decide), List.take_of_length_le (by rw [Frm.body_length]; decide)]
  decide +kernel
theorem c_enc (w : World) : Calls Try.prog 11 #[.string ⟨#[107]⟩, .int .i64 1, .int .i64 2, .int .i64 3, .string ⟨#[97, 98]⟩] w fun e w' => e = .returned (.tuple #[.string xAb, .int .i64 0]) ∧ Below w.heap.size w w' :=
  enc_yes (key := ⟨#[107]⟩) (p := ⟨#[97, 98]⟩) (level := 1) (epoch := 2) (seq := 3) w (by decide) (by decide) (by decide) (by decide) (by decide) (Lib.hid rfl)
theorem xAb_list : xAb.data.toList = Frm.whole [107] 1 2 3 [97, 98] := rfl
theorem c_dec1 (w : World) : Calls Try.prog 19 #[.string ⟨#[107]⟩, .int .i64 1, .int .i64 2, .string xAb] w fun e w' => e = .returned (.tuple #[.int .i64 3, .string ⟨#[97, 98]⟩, .int .i64 0]) ∧ Below w.heap.size w w' := by
  have h := Frm.back [107] (lev := 1) (ep := 2) (seq := 3) (p := [97, 98]) (by decide) (by decide) (by decide) (by decide)
  exact dec_any (key := ⟨#[107]⟩) (level := 1) (epoch := 2) (n := 3) (p := ⟨#[97, 98]⟩) (x := 0) (by decide) (by rw [xAb_size]; decide) (Lib.hid h.1) (Lib.hid h.2.1) (Lib.hid (by rw [xAb_list]; exact congrArg str h.2.2))
theorem dec_none {key s : List UInt8} {level epoch : Int} (h : Frm.decE key level epoch s ≠ 0) : Frm.decN key level epoch s = 0 ∧ Frm.decP key level epoch s = [] := by
  unfold Frm.decN Frm.decP
  exact ⟨if_neg h, if_neg h⟩
theorem c_dec2 (w : World) : Calls Try.prog 19 #[.string ⟨#[108]⟩, .int .i64 1, .int .i64 2, .string xAb] w fun e w' => e = .returned (.tuple #[.int .i64 0, .string ⟨#[]⟩, .int .i64 192]) ∧ Below w.heap.size w w' := by
  have h : Frm.decE [108] 1 2 xAb.data.toList = 192 := by
    rw [xAb_list, Frm.dec_whole [107] [108] (lev := 1) (ep := 2) (seq := 3) (p := [97, 98]) (by decide) (by decide) (by decide) (by decide), if_pos mac_kl]
  have h2 := dec_none (show Frm.decE [108] 1 2 xAb.data.toList ≠ 0 by rw [h]; decide)
  exact dec_any (key := ⟨#[108]⟩) (level := 1) (epoch := 2) (n := 0) (p := ⟨#[]⟩) (x := 192) (by decide) (by rw [xAb_size]; decide) (Lib.hid h) (Lib.hid h2.1) (Lib.hid (congrArg str h2.2))
theorem c_dec3 (w : World) : Calls Try.prog 19 #[.string ⟨#[107]⟩, .int .i64 1, .int .i64 3, .string xAb] w fun e w' => e = .returned (.tuple #[.int .i64 0, .string ⟨#[]⟩, .int .i64 193]) ∧ Below w.heap.size w w' := by
  have h : Frm.decE [107] 1 3 xAb.data.toList = 193 :=
    Frm.other [107] (lev := 1) (ep := 2) (seq := 3) (p := [97, 98]) (by decide) (by decide) (by decide) (by decide) (by decide)
  have h2 := dec_none (show Frm.decE [107] 1 3 xAb.data.toList ≠ 0 by rw [h]; decide)
  exact dec_any (key := ⟨#[107]⟩) (level := 1) (epoch := 3) (n := 0) (p := ⟨#[]⟩) (x := 193) (by decide) (by rw [xAb_size]; decide) (Lib.hid h) (Lib.hid h2.1) (Lib.hid (congrArg str h2.2))
theorem WinAt.lt {w : World} {g : Nat} {z : Int} (h : WinAt w g z) : g < w.heap.size := Row.lt h
theorem WinAt.below {w w1 : World} {g D : Nat} {z : Int} (h : WinAt w g z) (hb : Below D w w1) (hD : g < D) : WinAt w1 g z := Row.below h hb hD
theorem WinAt.grown {w w1 : World} {g : Nat} {z : Int} (h : WinAt w g z) {r : Option Nat} (hg : w.grownBy w1 r) (hne : r ≠ some g) : WinAt w1 g z := Row.grown h hg hne
set_option maxRecDepth 100000 in
set_option maxHeartbeats 2000000 in
theorem ffixed_any (w : World) : Calls Try.prog 28 #[] w fun e w' => e = .returned (.bool true) ∧ Below w.heap.size w w' := by
  have z1 := Lib.hid xAb_size
  have z2 := Lib.hid xAb_head
  go_enter Try.func28, Try.ntmps28
  go_wp2_with fail
  refine (c_enc w).mono ?_
  rintro e w1 ⟨rfl, hb1⟩
  generalize hx : xAb = x at *
  have d1 := fun w => c_dec1 w
  have d2 := fun w => c_dec2 w
  have d3 := fun w => c_dec3 w
  rw [hx] at d1 d2 d3
  replace hx := Lib.hid hx
  replace d1 := Lib.hid d1
  replace d2 := Lib.hid d2
  replace d3 := Lib.hid d3
  go_wp2_with fail
  refine (d1.out _).mono ?_
  rintro e w2 ⟨rfl, hb2'⟩
  have hb2 := hb1.trans (hb2'.mono hb1.size)
  clear hb1 hb2' d1
  go_wp2_with fail
  refine (d2.out _).mono ?_
  rintro e w3 ⟨rfl, hb3'⟩
  have hb3 := hb2.trans (hb3'.mono hb2.size)
  clear hb2 hb3' d2
  go_wp2_with fail
  refine (d3.out _).mono ?_
  rintro e w4 ⟨rfl, hb4'⟩
  have hb4 := hb3.trans (hb4'.mono hb3.size)
  clear hb3 hb4' d3
  go_wp2_with fail
  refine (wnew_any w4).mono ?_
  rintro e w5 ⟨rfl, hw5, hb5', hz5⟩
  have hb5 := hb4.trans (hb5'.mono hb4.size)
  have hgw := hb4.size
  clear hb4 hb5'
  obtain ⟨gw, hgw2⟩ : ∃ g, w4.heap.size = g := ⟨_, rfl⟩
  rw [hgw2] at hw5 hgw hz5 ⊢
  replace hgw2 := Lib.hid hgw2
  replace hz5 := Lib.hid hz5
  go_wp2_with fail
  refine (qnew_yes 2 w5 (by omega) (by omega)).mono ?_
  rintro e w6 ⟨rfl, hq6, hb6', hz6⟩
  have hw6 := hw5.below hb6' hw5.lt
  have hb6 := hb5.trans (hb6'.mono hb5.size)
  have hgq := hw5.lt
  obtain ⟨gq, hgq2⟩ : ∃ g, w5.heap.size = g := ⟨_, rfl⟩
  rw [hgq2] at hq6 hgq hz6 ⊢
  replace hgq2 := Lib.hid hgq2
  replace hz6 := Lib.hid hz6
  clear hw5 hb5 hb6'
  have nwq : some gw ≠ some gq := fun e => by injection e with e; omega
  have nqw : some gq ≠ some gw := fun e => by injection e with e; omega
  replace nwq := Lib.hid nwq
  replace nqw := Lib.hid nqw
  go_wp2_with fail
  refine (wlast_any hw6).mono ?_
  rintro e w' ⟨rfl, rfl⟩
  go_wp2_with fail
  refine (waccept_yes hw6 (by omega)).mono ?_
  rintro e w7 ⟨rfl, hw7, hg7⟩
  have hq7 := hq6.grown hg7 nwq.out
  have hb7 := hb6.grown hg7 hb6.size (fun k e => by injection e with e; omega)
  clear hw6 hq6 hb6 hg7
  go_wp2_with fail
  refine (waccept_no hw7 (by omega)).mono ?_
  rintro e w' ⟨rfl, rfl⟩
  go_wp2_with fail
  refine (waccept_yes hw7 (by omega)).mono ?_
  rintro e w8 ⟨rfl, hw8, hg8⟩
  have hq8 := hq7.grown hg8 nwq.out
  have hb8 := hb7.grown hg8 hb7.size (fun k e => by injection e with e; omega)
  clear hw7 hq7 hb7 hg8
  go_wp2_with fail
  refine (waccept_no hw8 (by omega)).mono ?_
  rintro e w' ⟨rfl, rfl⟩
  go_wp2_with fail
  refine (wlast_any hw8).mono ?_
  rintro e w' ⟨rfl, rfl⟩
  clear hw8
  go_wp2_with fail
  refine (qpush_yes hq8 (by decide) ⟨#[97]⟩).mono ?_
  rintro e w9 ⟨rfl, hq9, hg9⟩
  have hb9 := hb8.grown hg9 hb8.size (fun k e => by injection e with e; omega)
  clear hq8 hb8 hg9
  go_wp2_with fail
  refine (qpush_yes hq9 (by decide) ⟨#[98]⟩).mono ?_
  rintro e w10 ⟨rfl, hq10, hg10⟩
  have hb10 := hb9.grown hg10 hb9.size (fun k e => by injection e with e; omega)
  clear hq9 hb9 hg10
  go_wp2_with fail
  refine (qpush_no hq10 (by decide) ⟨#[99]⟩).mono ?_
  rintro e w11 ⟨rfl, hb11'⟩
  have hq11 := hq10.below hb11' hq10.lt
  have hb11 := hb10.trans (hb11'.mono hb10.size)
  clear hq10 hb10 hb11'
  go_wp2_with fail
  refine (qlen_any hq11).mono ?_
  rintro e w' ⟨rfl, rfl⟩
  go_wp2_with fail
  refine (qpop_yes (x := ⟨#[97]⟩) (r := [⟨#[98]⟩]) hq11).mono ?_
  rintro e w12 ⟨rfl, hq12, hg12⟩
  have hb12 := hb11.grown hg12 hb11.size (fun k e => by injection e with e; omega)
  clear hq11 hb11 hg12 hq12
  have z1' := z1.out
  have z2' := z2.out
  go_wp2_with fail
  go_ret
  exact ⟨rfl, hb12⟩
end Go.Proofs.Ytmmkopdijmplcaa.FF
