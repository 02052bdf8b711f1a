/-
  The walk of FrameBack: for every key, label and two texts within the reach the call returns true.
-/
import Derived.Test.YtmmkopdijmplcaaFArgs
import Derived.Deep.CutBlock
import Derived.Deep.RegionHeld3
import Derived.IntWalk
set_option linter.unusedVariables false
set_option linter.unusedSectionVars false
namespace Go.Proofs.Ytmmkopdijmplcaa.fback
open Go.RowKit Base HH FF
theorem ba_list {F : ByteArray} (h : F.size ≠ 0) : F.toList.isEmpty = false := by
  rw [ByteArray.toList_eq]
  cases hl : F.data.toList with
  | nil =>
    exfalso
    apply h
    show F.data.size = 0
    rw [← Array.length_toList, hl]
    rfl
  | cons => rfl
theorem whole_size {key p : ByteArray} {l e s : Nat} : (str (Frm.whole key.data.toList l e s p.data.toList)).size = 50 + p.size := by
  rw [str_size, Frm.whole_length]
  rfl
/-- what the coded frame says -/
structure Ok (key p x : ByteArray) (lev ep sq : Nat) : Prop where
  hl : lev < 8
  he : ep ≤ 4611686018427387904
  hs : sq ≤ 4611686018427387904
  hp : p.size ≤ 200
  hx : x = str (Frm.whole key.data.toList lev ep sq p.data.toList)
section
variable {key p x : ByteArray} {lev ep sq : Nat} (h : Ok key p x lev ep sq) (hk : key.size ≤ 288230376151711743)
include h hk
theorem Ok.size : x.size = 50 + p.size := by
  rw [h.hx]
  exact whole_size
theorem Ok.enc (w : World) : Calls Try.prog 11 #[.string key, .int .i64 lev, .int .i64 ep, .int .i64 sq, .string p] w fun e w' => e = .returned (.tuple #[.string x, .int .i64 0]) ∧ Below w.heap.size w w' :=
  enc_yes w hk h.hl h.he h.hs h.hp (Lib.hid h.hx.symm)
theorem Ok.dec (w : World) : Calls Try.prog 19 #[.string key, .int .i64 lev, .int .i64 ep, .string x] w fun e w' => e = .returned (.tuple #[.int .i64 sq, .string p, .int .i64 0]) ∧ Below w.heap.size w w' := by
  obtain ⟨h1, h2, h3⟩ := Frm.back key.data.toList (lev := lev) (ep := ep) (seq := sq) (p := p.data.toList) h.hl h.he h.hs h.hp
  have hx : x.data.toList = Frm.whole key.data.toList lev ep sq p.data.toList := by rw [h.hx]; rfl
  rw [← hx] at h1 h2 h3
  exact dec_any hk (by rw [h.size hk]; have := h.hp; omega) (Lib.hid h1) (Lib.hid h2) (Lib.hid (by rw [h3]; exact str_of p))
theorem Ok.other (w : World) {level epoch : Int} (hn : ¬ ((lev : Int) = level ∧ (ep : Int) = epoch)) : Calls Try.prog 19 #[.string key, .int .i64 level, .int .i64 epoch, .string x] w fun e w' => e = .returned (.tuple #[.int .i64 0, .string ⟨#[]⟩, .int .i64 193]) ∧ Below w.heap.size w w' := by
  have h1 := Frm.other key.data.toList (lev := lev) (ep := ep) (seq := sq) (p := p.data.toList) h.hl h.he h.hs h.hp hn
  have hx : x.data.toList = Frm.whole key.data.toList lev ep sq p.data.toList := by rw [h.hx]; rfl
  rw [← hx] at h1
  obtain ⟨h2, h3⟩ := dec_none (show Frm.decE key.data.toList level epoch x.data.toList ≠ 0 by rw [h1]; decide)
  exact dec_any hk (by rw [h.size hk]; have := h.hp; omega) (Lib.hid h1) (n := 0) (Lib.hid h2) (Lib.hid (congrArg str h3))
theorem Ok.longer (w : World) {y : ByteArray} (hy : x ++ ⟨#[120]⟩ = y) {level epoch : Int} : Calls Try.prog 19 #[.string key, .int .i64 level, .int .i64 epoch, .string y] w fun e w' => e = .returned (.tuple #[.int .i64 0, .string ⟨#[]⟩, .int .i64 190]) ∧ Below w.heap.size w w' := by
  have h1 := Frm.longer key.data.toList (lev := lev) (ep := ep) (seq := sq) (p := p.data.toList) h.hp level epoch 120
  have hy2 : y.data.toList = Frm.whole key.data.toList lev ep sq p.data.toList ++ [120] := by rw [← hy, ByteArray.data_append, h.hx]; simp [str]
  have hy3 : y.size = 51 + p.size := by
    show y.data.size = _
    rw [← Array.length_toList, hy2, List.length_append, Frm.whole_length]
    show 50 + p.size + 1 = _
    omega
  rw [← hy2] at h1
  obtain ⟨h2, h3⟩ := dec_none (show Frm.decE key.data.toList level epoch y.data.toList ≠ 0 by rw [h1]; decide)
  exact dec_any hk (by rw [hy3]; have := h.hp; omega) (Lib.hid h1) (n := 0) (Lib.hid h2) (Lib.hid (congrArg str h3))
theorem Ok.shorter (w : World) {y : ByteArray} (hy : x.extract 0 (x.size - 1) = y) {level epoch : Int} : Calls Try.prog 19 #[.string key, .int .i64 level, .int .i64 epoch, .string y] w fun e w' => e = .returned (.tuple #[.int .i64 0, .string ⟨#[]⟩, .int .i64 190]) ∧ Below w.heap.size w w' := by
  have h1 := Frm.shorter key.data.toList (lev := lev) (ep := ep) (seq := sq) (p := p.data.toList) h.hp level epoch
  have hz := h.size hk
  have hy2 : y.data.toList = (Frm.whole key.data.toList lev ep sq p.data.toList).take (49 + p.data.toList.length) := by
    rw [← hy, ext_take _ _ _ (by omega), hz, h.hx, List.drop_zero, show 50 + p.size - 1 - 0 = 49 + p.data.toList.length from by show _ = 49 + p.size; omega]
    rfl
  have hy3 : y.size ≤ 250 := by
    rw [← hy, ByteArray.size_extract]
    have := h.hp
    omega
  rw [← hy2] at h1
  obtain ⟨h2, h3⟩ := dec_none (show Frm.decE key.data.toList level epoch y.data.toList ≠ 0 by rw [h1]; decide)
  exact dec_any hk (by omega) (Lib.hid h1) (n := 0) (Lib.hid h2) (Lib.hid (congrArg str h3))
end
set_option maxRecDepth 100000 in
set_option maxHeartbeats 4000000 in
theorem walk (W : World) {key t0 t1 : ByteArray} {level epoch seq : Int} (hk : key.size ≤ 288230376151711743) (h0 : t0.size ≤ 288230376151711743) (h1 : t1.size ≤ 288230376151711743) :
    Calls Try.prog 6 #[.string key, .agg #[.int .i64 level, .int .i64 epoch, .int .i64 seq], .agg #[.string t0, .string t1]] W fun e w' => e = .returned (.bool true) ∧ Below W.heap.size W w' := by
  go_enter Try.func6, Try.ntmps6
  have hNl := Row.new W [.int .i64 level, .int .i64 epoch, .int .i64 seq] 50
  have hNl := hNl.alloc (.cells #[.string t0, .string t1] 51)
  have hNt := Row.new (W.alloc (.cells #[.int .i64 level, .int .i64 epoch, .int .i64 seq] 50)) [.string t0, .string t1] 51
  rw [World.size_alloc] at hNt
  have hbN := ((Below.refl W.heap.size W).alloc (Nat.le_refl _) (.cells #[.int .i64 level, .int .i64 epoch, .int .i64 seq] 50)).alloc (by simp) (.cells #[.string t0, .string t1] 51)
  obtain ⟨x, hx⟩ : ∃ x, str (Frm.encS key.data.toList level epoch seq t0.data.toList) = x := ⟨_, rfl⟩
  obtain ⟨ec, hec⟩ : ∃ ec, Frm.encE level epoch seq t0.data.toList = ec := ⟨_, rfl⟩
  replace hx := Lib.hid hx
  replace hec := Lib.hid hec
  go_wp2_with fail
  generalize (W.alloc (.cells #[.int .i64 level, .int .i64 epoch, .int .i64 seq] 50)).alloc (.cells #[.string t0, .string t1] 51) = w1 at *
  refine (enc_any hk hx hec).mono ?_
  rintro e w2 ⟨rfl, hb2'⟩
  have hNl2 := hNl.below hb2' hNl.lt
  have hNt2 := hNt.below hb2' hNt.lt
  have hb2 := hbN.trans (hb2'.mono hbN.size)
  obtain ⟨gl, hgl⟩ : ∃ g, W.heap.size = g := ⟨_, rfl⟩
  rw [hgl] at hNl2 hNt2 ⊢
  have hgW : W.heap.size ≤ gl := by omega
  replace hgl := Lib.hid hgl
  clear hNl hNt hbN hb2'
  go_upto_if 40 with fail
  go_cut [] from 9 to 118 (fun wx => Row wx gl 50 [.int .i64 level, .int .i64 epoch, .int .i64 seq] ∧ Row wx (gl + 1) 51 [.string t0, .string t1] ∧ Below W.heap.size W wx)
  case first =>
    by_cases he0 : ec = 0
    · have he0' : (ec == 0) = true := by rw [beq_iff_eq]; exact he0
      obtain ⟨hf, hp, hxe⟩ := Frm.encS_yes (key := key.data.toList) (hec.out.trans he0)
      unfold Frm.fine Frm.most at hf
      obtain ⟨a1, a2, a3, a4, a5, a6⟩ := hf
      obtain ⟨lev, rfl⟩ := Int.eq_ofNat_of_zero_le a1
      obtain ⟨ep, rfl⟩ := Int.eq_ofNat_of_zero_le a3
      obtain ⟨sq, rfl⟩ := Int.eq_ofNat_of_zero_le a5
      have hok : Ok key t0 x lev ep sq := ⟨by omega, by omega, by omega, hp, by rw [← hx.out, hxe]; rfl⟩
      have hxs := hok.size hk
      have hxl : x.toList.isEmpty = false := ba_list (by omega)
      have hpl : (t0.toList == t0.toList) = true := beq_self_eq_true _
      have hsn : ((sq : Int) != (sq : Int)) = false := bne_self_eq_false _
      obtain ⟨y, hy⟩ : ∃ y, x ++ ⟨#[120]⟩ = y := ⟨_, rfl⟩
      obtain ⟨z, hz⟩ : ∃ z, x.extract 0 (x.size - 1) = z := ⟨_, rfl⟩
      have hz' : x.extract 0 ((x.size : Int) - 1).toNat = z := by rw [show ((x.size : Int) - 1).toNat = x.size - 1 from by omega]; exact hz
      have hs1 : (1 : Int) ≤ x.size := by omega
      have hp' : t0.size ≤ 200 := hp
      have hs2 : x.size ≤ 250 := by omega
      have hs3 : ¬ (9223372036854775807 < x.size + 1) := by omega
      have D1 := Lib.hid (fun w => hok.dec hk w)
      have D2 := Lib.hid (fun w => hok.longer hk w hy (level := lev) (epoch := ep))
      have D3 := Lib.hid (fun w => hok.shorter hk w hz (level := lev) (epoch := ep))
      have D4 := Lib.hid (fun w => hok.other hk w (level := (lev : Int) + 1) (epoch := ep) (by omega))
      have hl8 : (lev : Int) < 8 := a2
      replace he0 := Lib.hid he0
      replace hxs := Lib.hid hxs
      replace hxe := Lib.hid hxe
      clear hok
      have c0 := hNl2.cell (j := 0) rfl
      have c1 := hNl2.cell (j := 1) rfl
      go_wp2_with fail
      (with_reducible refine (D1.out _).mono ?_)
      rintro e w3 ⟨rfl, hb3'⟩
      have hNl3 := hNl2.below hb3' hNl2.lt
      have hNt3 := hNt2.below hb3' hNt2.lt
      have hb3 := hb2.trans (hb3'.mono hb2.size)
      clear hNl2 hNt2 hb2 hb3' c0 c1 D1
      have c0 := hNl3.cell (j := 0) rfl
      have c1 := hNl3.cell (j := 1) rfl
      go_wp2_with fail
      try rw [hy]
      (with_reducible refine (D2.out _).mono ?_)
      rintro e w4 ⟨rfl, hb4'⟩
      have hNl4 := hNl3.below hb4' hNl3.lt
      have hNt4 := hNt3.below hb4' hNt3.lt
      have hb4 := hb3.trans (hb4'.mono hb3.size)
      clear hNl3 hNt3 hb3 hb4' c0 c1 D2
      replace hy := Lib.hid hy
      have c0 := hNl4.cell (j := 0) rfl
      have c1 := hNl4.cell (j := 1) rfl
      go_wp2_with fail
      have hs6 : (0 : Int) ≤ (x.size : Int) - 1 := by omega
      have hs7 : (x.size : Int) - 1 ≤ x.size := by omega
      have hw1 : IntKind.i64.wrap ((x.size : Int) - 1) = (x.size : Int) - 1 := IntWalk.i64_in _ (by omega)
      go_region_held3 (fun w' => w'.cell? ⟨gl, 0, none⟩ = some (.int .i64 lev) ∧ w'.cell? ⟨gl, 1, none⟩ = some (.int .i64 ep)) (first | exact ⟨c0, c1⟩ | exact ⟨(hNl4.drew.below (by assumption) hNl4.lt).cell (j := 0) rfl, (hNl4.drew.below (by assumption) hNl4.lt).cell (j := 1) rfl⟩) ((go_at_call 19; (with_reducible refine (D3.out _).mono ?_); rintro e w5 ⟨rfl, hb5'⟩))
      clear hw1 hs6 hs7 hz
      have hNl5 := hNl4.drew.below hb5' hNl4.lt
      have hNt5 := hNt4.drew.below hb5' hNt4.lt
      have hb5 := hb4.trans ((Below.refl w4.heap.size w4).drew.trans (hb5'.mono (Nat.le_refl _)) |>.mono hb4.size)
      clear hNl4 hNt4 hb4 hb5' c0 c1 D3 hz'
      have c0 := hNl5.cell (j := 0) rfl
      have c1 := hNl5.cell (j := 1) rfl
      go_wp2_with fail
      (with_reducible refine (D4.out _).mono ?_)
      rintro e w6 ⟨rfl, hb6'⟩
      have hNl6 := hNl5.below hb6' hNl5.lt
      have hNt6 := hNt5.below hb6' hNt5.lt
      have hb6 := hb5.trans (hb6'.mono hb5.size)
      clear hNl5 hNt5 hb5 hb6' c0 c1 D4
      have c2 := hNl6.cell (j := 2) rfl
      have e0 := hNt6.cell (j := 0) rfl
      go_wp2_with fail
      go_meet
      case rel => exact ⟨hNl6, hNt6, hb6⟩
    · have he0' : (ec == 0) = false := by rw [beq_eq_false_iff_ne]; exact he0
      replace he0 := Lib.hid he0
      go_wp2_with fail
      go_meet
      case rel => exact ⟨hNl2, hNt2, hb2⟩
  case rest =>
    obtain ⟨hNl3, hNt3, hb3⟩ := hcut
    clear hNl2 hNt2 hb2 hx hec
    obtain ⟨n, hn⟩ : ∃ n, Frm.decN key.data.toList level epoch t1.data.toList = n := ⟨_, rfl⟩
    obtain ⟨p, hp⟩ : ∃ p, str (Frm.decP key.data.toList level epoch t1.data.toList) = p := ⟨_, rfl⟩
    obtain ⟨dc, hdc⟩ : ∃ dc, Frm.decE key.data.toList level epoch t1.data.toList = dc := ⟨_, rfl⟩
    have c0 := hNl3.cell (j := 0) rfl
    have c1 := hNl3.cell (j := 1) rfl
    have e1 := hNt3.cell (j := 1) rfl
    by_cases hd0 : dc = 0
    · have hd0' : (dc != 0) = false := by rw [bne_eq_false_iff_eq]; exact hd0
      obtain ⟨q1, q2, q3⟩ := Frm.only (hdc.trans hd0)
      rw [hn] at q1 q3
      have hpp : Frm.decP key.data.toList level epoch t1.data.toList = p.data.toList := by rw [← hp]; rfl
      rw [hpp] at q2 q3
      unfold Frm.fine Frm.most at q1
      obtain ⟨a1, a2, a3, a4, a5, a6⟩ := q1
      obtain ⟨lev, rfl⟩ := Int.eq_ofNat_of_zero_le a1
      obtain ⟨ep, rfl⟩ := Int.eq_ofNat_of_zero_le a3
      have hok : Ok key p t1 lev ep n := ⟨by omega, by omega, by omega, q2, by rw [← str_of t1, ← q3]; rfl⟩
      have D1 := Lib.hid (fun w => hok.enc hk w)
      have htt : (t1.toList == t1.toList) = true := beq_self_eq_true _
      have DA := Lib.hid (fun w : World => dec_any (key := key) (s := t1) (level := lev) (epoch := ep) (w := w) hk h1 (Lib.hid hdc) (Lib.hid hn) (Lib.hid hp))
      clear hok q3 q2 hpp hp hn hdc a1 a2 a3 a4 a5 a6
      subst hd0
      go_wp2_with fail
      (with_reducible refine (DA.out _).mono ?_)
      rintro e w4 ⟨rfl, hb4'⟩
      have hNl4 := hNl3.below hb4' hNl3.lt
      have hNt4 := hNt3.below hb4' hNt3.lt
      have hb4 := hb3.trans (hb4'.mono hb3.size)
      clear hNl3 hNt3 hb3 hb4' c0 c1 e1
      have c0 := hNl4.cell (j := 0) rfl
      have c1 := hNl4.cell (j := 1) rfl
      go_wp2_with fail
      (with_reducible refine (D1.out _).mono ?_)
      rintro e w5 ⟨rfl, hb5'⟩
      have hNt5 := hNt4.below hb5' hNt4.lt
      have hb5 := hb4.trans (hb5'.mono hb4.size)
      clear hNl4 hNt4 hb4 hb5' c0 c1
      have e1 := hNt5.cell (j := 1) rfl
      go_wp2_with fail
      refine (ffixed_any w5).mono ?_
      rintro e w6 ⟨rfl, hb6'⟩
      have hb6 := hb5.trans (hb6'.mono hb5.size)
      go_wp2_with fail
      go_ret
      exact ⟨rfl, hb6⟩
    · have hd0' : (dc != 0) = true := by rw [bne_iff_ne]; exact hd0
      obtain ⟨n0, p0⟩ := dec_none (show Frm.decE key.data.toList level epoch t1.data.toList ≠ 0 by rw [hdc]; exact hd0)
      have DA := Lib.hid (fun w : World => dec_any (key := key) (s := t1) (level := level) (epoch := epoch) (w := w) (p := ⟨#[]⟩) hk h1 (Lib.hid hdc) (n := 0) (Lib.hid n0) (Lib.hid (congrArg str p0)))
      clear hp hn n0 p0
      replace hdc := Lib.hid hdc
      replace hd0 := Lib.hid hd0
      go_wp2_with fail
      (with_reducible refine (DA.out _).mono ?_)
      rintro e w4 ⟨rfl, hb4'⟩
      have hb4 := hb3.trans (hb4'.mono hb3.size)
      clear hNl3 hNt3 hb3 hb4' c0 c1 e1
      go_wp2_with fail
      refine (ffixed_any w4).mono ?_
      rintro e w6 ⟨rfl, hb6'⟩
      have hb6 := hb4.trans (hb6'.mono hb4.size)
      go_wp2_with fail
      go_ret
      exact ⟨rfl, hb6⟩
end Go.Proofs.Ytmmkopdijmplcaa.fback
