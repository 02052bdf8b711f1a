/-
  The walk of FrameTells: for every key, label and two texts within the reach the call returns true.
-/
import Derived.Test.YtmmkopdijmplcaaTDec
import Derived.Test.YtmmkopdijmplcaaFArgs
import Derived.Deep.RegionHeld3
import Derived.IntWalk
set_option linter.unusedVariables false
namespace Go.Proofs.Ytmmkopdijmplcaa.ftell
open Go.RowKit Base HH FF RT
set_option maxRecDepth 100000 in
set_option maxHeartbeats 4000000 in
theorem walk (W : World) {key t0 t1 : ByteArray} {level epoch seq : Int} (hk : key.size ≤ 140737488355328) (h0 : t0.size ≤ 140737488355328) (h1 : t1.size ≤ 140737488355328) :
    Calls Try.prog 5 #[.string key, .agg #[.int .i64 level, .int .i64 epoch, .int .i64 seq], .agg #[.string t0, .string t1]] W fun e w' => e = .returned (.bool true) ∧ Below W.heap.size W w' := by
  go_enter Try.func5, Try.ntmps5
  have hNl := Row.new W [.int .i64 level, .int .i64 epoch, .int .i64 seq] 50
  have hNl := hNl.alloc (.cells #[.string t0, .string t1] 51)
  have hNt := Row.new (W.alloc (.cells #[.int .i64 level, .int .i64 epoch, .int .i64 seq] 50)) [.string t0, .string t1] 51
  rw [World.size_alloc] at hNt
  have hbN := ((Below.refl W.heap.size W).alloc (Nat.le_refl _) (.cells #[.int .i64 level, .int .i64 epoch, .int .i64 seq] 50)).alloc (by simp) (.cells #[.string t0, .string t1] 51)
  obtain ⟨x, hx⟩ : ∃ x, str (Frm.encS key.data.toList level epoch seq t0.data.toList) = x := ⟨_, rfl⟩
  obtain ⟨ec, hec⟩ : ∃ ec, Frm.encE level epoch seq t0.data.toList = ec := ⟨_, rfl⟩
  obtain ⟨n, hn⟩ : ∃ n, Frm.decN key.data.toList level epoch t1.data.toList = n := ⟨_, rfl⟩
  obtain ⟨p, hp⟩ : ∃ p, str (Frm.decP key.data.toList level epoch t1.data.toList) = p := ⟨_, rfl⟩
  obtain ⟨dc, hdc⟩ : ∃ dc, Frm.decE key.data.toList level epoch t1.data.toList = dc := ⟨_, rfl⟩
  replace hx := Lib.hid hx
  replace hec := Lib.hid hec
  replace hn := Lib.hid hn
  replace hp := Lib.hid hp
  replace hdc := Lib.hid hdc
  have D1 := Lib.hid (fun w : World => enc_any (w := w) (show key.size ≤ 288230376151711743 by omega) hx hec)
  have D2 := Lib.hid (fun w : World => renc_any (w := w) hk hx hec)
  have D3 := Lib.hid (fun w : World => dec_any (w := w) (show key.size ≤ 288230376151711743 by omega) (show t1.size ≤ 288230376151711743 by omega) hdc hn hp)
  have D4 := Lib.hid (fun w : World => rdec_any (w := w) hk h1 hdc hn hp)
  have q1 : (x.toList == x.toList) = true := beq_self_eq_true _
  have q2 : (p.toList == p.toList) = true := beq_self_eq_true _
  obtain ⟨gl, hgl⟩ : ∃ g, W.heap.size = g := ⟨_, rfl⟩
  go_wp2_with fail
  generalize (W.alloc (.cells #[.int .i64 level, .int .i64 epoch, .int .i64 seq] 50)).alloc (.cells #[.string t0, .string t1] 51) = w1 at *
  (with_reducible refine (D1.out _).mono ?_)
  rintro e w2 ⟨rfl, hb2'⟩
  have hNl2 := hNl.below hb2' hNl.lt
  have hNt2 := hNt.below hb2' hNt.lt
  have hb2 := hbN.trans (hb2'.mono hbN.size)
  rw [hgl] at hNl2 hNt2
  replace hgl := Lib.hid hgl
  clear hNl hNt hbN hb2' D1
  have c0 := hNl2.cell (j := 0) rfl
  have c1 := hNl2.cell (j := 1) rfl
  have c2 := hNl2.cell (j := 2) rfl
  have e0 := hNt2.cell (j := 0) rfl
  go_wp2_with fail
  (with_reducible refine (D2.out _).mono ?_)
  rintro e w3 ⟨rfl, hb3'⟩
  have hNl3 := hNl2.below hb3' hNl2.lt
  have hNt3 := hNt2.below hb3' hNt2.lt
  have hb3 := hb2.trans (hb3'.mono hb2.size)
  clear hNl2 hNt2 hb2 hb3' D2 c0 c1 c2 e0
  have c0 := hNl3.cell (j := 0) rfl
  have c1 := hNl3.cell (j := 1) rfl
  have e1 := hNt3.cell (j := 1) rfl
  go_wp2_with fail
  (with_reducible refine (D3.out _).mono ?_)
  rintro e w4 ⟨rfl, hb4'⟩
  have hNl4 := hNl3.below hb4' hNl3.lt
  have hNt4 := hNt3.below hb4' hNt3.lt
  have hb4 := hb3.trans (hb4'.mono hb3.size)
  clear hNl3 hNt3 hb3 hb4' D3 c0 c1 e1
  have c0 := hNl4.cell (j := 0) rfl
  have c1 := hNl4.cell (j := 1) rfl
  have e1 := hNt4.cell (j := 1) rfl
  go_wp2_with fail
  (with_reducible refine (D4.out _).mono ?_)
  rintro e w5 ⟨rfl, hb5'⟩
  have hb5 := hb4.trans (hb5'.mono hb4.size)
  clear hNl4 hNt4 hb4 hb5' D4 c0 c1 e1
  go_wp2_with fail
  refine (ffixed_any w5).mono ?_
  rintro e w6 ⟨rfl, hb6'⟩
  have hb6 := hb5.trans (hb6'.mono hb5.size)
  go_wp2_with fail
  go_ret
  exact ⟨rfl, hb6⟩
end Go.Proofs.Ytmmkopdijmplcaa.ftell
