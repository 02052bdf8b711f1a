/-
  A frame read number by number: what the reader's calls return over a frame's bytes; the fixed calls of the seals.
-/
import Derived.Test.YtmmkopdijmplcaaFBackW
import Derived.Test.YtmmkopdijmplcaaKReader
import Derived.Deep.RegionHeld3
set_option linter.unusedVariables false
set_option linter.unusedSectionVars false
set_option maxRecDepth 100000
namespace Go.Proofs.Ytmmkopdijmplcaa.seals
open Go.RowKit Base HH FF fback
theorem num_at {w : World} {b : Nat} {x : ByteArray} {p k p2 v : Nat} {n : Int} (h : RdAt w b ⟨x, p, 0⟩) (hn : Hid (n = (k : Int))) (h1 : 1 ≤ k) (h8 : k ≤ 8) (hl : p + k ≤ x.size) (hv : Hid (Frm.valN ((x.data.toList.drop p).take k) = v)) (hv63 : v ≤ 4611686018427387904) (h2 : Hid (p + k = p2)) :
    Calls Try.prog 13 #[.pointer (some ⟨b, 0, none⟩), .int .i64 n] w fun e w' => e = .returned (.int .i64 (v : Int)) ∧ RdAt w' b ⟨x, p2, 0⟩ ∧ w.grownBy w' (some b) := by
  rw [hn.out]
  have e1 : (⟨x, p, 0⟩ : Rd).numV (k : Int) = (v : Int) := by
    unfold Rd.numV
    rw [if_neg (fun h0 => h0 rfl), if_neg (by omega), if_neg (by show ¬ ((x.size : Int) - (p : Int) < k); omega)]
    show (num64 ((x.data.toList.drop p).take (k : Int).toNat)).toInt = _
    rw [Int.toNat_natCast]
    have hv2 := hv.out
    have h3 := num64_val ((x.data.toList.drop p).take k) (by rw [List.length_take]; omega)
    rw [BitVec.toInt_eq_toNat_of_lt (by omega), h3, hv2]
  have e2 : (⟨x, p, 0⟩ : Rd).numR (k : Int) = ⟨x, p2, 0⟩ := by
    unfold Rd.numR
    rw [if_neg (fun h0 => h0 rfl), if_neg (by omega), if_neg (by show ¬ ((x.size : Int) - (p : Int) < k); omega), ← h2.out]
    rfl
  have := num_any h (k : Int)
  rw [e1, e2] at this
  exact this
theorem bytes_at {w : World} {b : Nat} {x y : ByteArray} {p k p2 : Nat} {n : Int} (h : RdAt w b ⟨x, p, 0⟩) (hn : Hid (n = (k : Int))) (hl : p + k ≤ x.size) (hy : Hid (x.extract p (p + k) = y)) (h2 : Hid (p + k = p2)) :
    Calls Try.prog 14 #[.pointer (some ⟨b, 0, none⟩), .int .i64 n] w fun e w' => e = .returned (.string y) ∧ RdAt w' b ⟨x, p2, 0⟩ ∧ w.grownBy w' (some b) := by
  rw [hn.out]
  have e1 : (⟨x, p, 0⟩ : Rd).bytesV (k : Int) = y := by
    unfold Rd.bytesV
    rw [if_neg (fun h0 => h0 rfl), if_neg (by omega), if_neg (by show ¬ ((x.size : Int) - (p : Int) < k); omega)]
    exact hy.out
  have e2 : (⟨x, p, 0⟩ : Rd).bytesR (k : Int) = ⟨x, p2, 0⟩ := by
    unfold Rd.bytesR
    rw [if_neg (fun h0 => h0 rfl), if_neg (by omega), if_neg (by show ¬ ((x.size : Int) - (p : Int) < k); omega), ← h2.out]
    rfl
  have := bytes_any h (k : Int)
  rw [e1, e2] at this
  exact this
theorem left_at {w : World} {b : Nat} {x : ByteArray} {p : Nat} {n : Int} (h : RdAt w b ⟨x, p, 0⟩) (hn : Hid ((x.size : Int) - (p : Int) = n)) : Calls Try.prog 39 #[.pointer (some ⟨b, 0, none⟩)] w fun e w' => ∃ q, e = .returned (.int .i64 n) ∧ w' = w.drewN q := by
  rw [← hn.out]
  exact (left_any h).mono fun _ _ ⟨h1, q, h2⟩ => ⟨q, h1, h2⟩
theorem at_at {w : World} {b : Nat} {x : ByteArray} {p : Nat} {n : Int} (h : RdAt w b ⟨x, p, 0⟩) (hn : Hid ((p : Int) = n)) : Calls Try.prog 15 #[.pointer (some ⟨b, 0, none⟩)] w fun e w' => e = .returned (.int .i64 n) ∧ w = w' := by
  rw [← hn.out]
  exact at_any h
theorem done_at {w : World} {b : Nat} {x : ByteArray} (h : RdAt w b ⟨x, x.size, 0⟩) : Calls Try.prog 17 #[.pointer (some ⟨b, 0, none⟩)] w fun e w' => ∃ q, e = .returned (.tuple #[.int .i64 0, .int .i64 0]) ∧ w' = w.drewN q := by
  have e1 : (⟨x, x.size, 0⟩ : Rd).doneE = 0 := by
    unfold Rd.doneE
    rw [if_pos rfl, if_neg (Nat.lt_irrefl _)]
  have e2 : (⟨x, x.size, 0⟩ : Rd).doneP = 0 := by
    unfold Rd.doneP
    rw [if_pos rfl, if_neg (Nat.lt_irrefl _)]
  have := done_any h
  rw [e1, e2] at this
  exact this.mono fun _ _ ⟨h1, q, h2⟩ => ⟨q, h1, h2⟩
section
variable {key p x : ByteArray} {lev ep sq : Nat} (h : Ok key p x lev ep sq)
include h
theorem Ok_list : x.data.toList = Frm.whole key.data.toList lev ep sq p.data.toList := by rw [h.hx]; rfl
theorem Ok_n0 : Frm.valN ((x.data.toList.drop 0).take 1) = lev := by
  have a := Frm.whole_get key.data.toList lev ep sq p.data.toList []
  rw [List.append_nil, ← Ok_list h] at a
  have hl : x.data.toList.length = 50 + p.size := by rw [Ok_list h, Frm.whole_length]; rfl
  rw [List.drop_zero, Frm.take_one (by omega), a.1]
  show 0 * 256 + (UInt8.ofNat lev).toNat = lev
  have := h.hl
  rw [UInt8.toNat_ofNat']
  omega
theorem Ok_n17 : Frm.valN ((x.data.toList.drop 17).take 1) = p.size := by
  have a := Frm.whole_get key.data.toList lev ep sq p.data.toList []
  rw [List.append_nil, ← Ok_list h] at a
  have hl : x.data.toList.length = 50 + p.size := by rw [Ok_list h, Frm.whole_length]; rfl
  have hg : (x.data.toList.drop 17).getD 0 0 = x.data.toList.getD 17 0 := by rw [List.getD_eq_getElem?_getD, List.getD_eq_getElem?_getD, List.getElem?_drop]
  rw [Frm.take_one (by rw [List.length_drop]; omega), hg, a.2]
  show 0 * 256 + (UInt8.ofNat p.size).toNat = p.size
  have := h.hp
  rw [UInt8.toNat_ofNat']
  omega
theorem Ok_n1 : Frm.valN ((x.data.toList.drop 1).take 8) = ep := by
  have a := Frm.whole_nums key.data.toList lev ep sq p.data.toList []
  rw [List.append_nil, ← Ok_list h] at a
  rw [a.1]
  exact Frm.val_be8 _ (by have := h.he; omega)
theorem Ok_n9 : Frm.valN ((x.data.toList.drop 9).take 8) = sq := by
  have a := Frm.whole_nums key.data.toList lev ep sq p.data.toList []
  rw [List.append_nil, ← Ok_list h] at a
  rw [a.2]
  exact Frm.val_be8 _ (by have := h.hs; omega)
theorem Ok_size : x.size = 50 + p.size := by
  rw [h.hx]
  exact whole_size
theorem ba_of {a b : ByteArray} (e : a.data.toList = b.data.toList) : a = b := by rw [← str_of a, ← str_of b, e]
theorem Ok_ahead : x.extract 0 (18 + p.size) = str (Frm.body lev ep sq p.data.toList) := by
  apply ba_of h
  rw [ext_take _ _ _ (by rw [Ok_size h]; omega), Ok_list h, List.drop_zero]
  unfold Frm.whole
  exact List.take_left' (by rw [Frm.body_length]; show 18 + p.size = _; omega)
theorem Ok_payload : x.extract 18 (18 + p.size) = p := by
  apply ba_of h
  rw [ext_take _ _ _ (by rw [Ok_size h]; omega), Ok_list h]
  unfold Frm.whole Frm.body
  rw [List.append_assoc, List.drop_left' (Frm.head_length _ _ _ _)]
  exact List.take_left' (by show p.size = _; omega)
theorem Ok_mac : x.extract (18 + p.size) (18 + p.size + 32) = str (Sha.mac key.data.toList (Frm.body lev ep sq p.data.toList)) := by
  apply ba_of h
  rw [ext_take _ _ _ (by rw [Ok_size h]; omega), Ok_list h]
  unfold Frm.whole
  rw [List.drop_left' (by rw [Frm.body_length]; rfl)]
  exact List.take_of_length_le (by rw [Frm.mac_length]; omega)
end
theorem rd_drew {w : World} {b : Nat} {r : Rd} (h : RdAt w b r) : RdAt w.drew b r := ⟨h.blk, h.size, h.at_le⟩
theorem new_at (s : ByteArray) (w : World) (hs : s.size ≤ 9223372036854775807) : Calls Try.prog 12 #[.string s] w fun e w' => e = .returned (.pointer (some ⟨w.heap.size, 0, none⟩)) ∧ RdAt w' w.heap.size ⟨s, 0, 0⟩ ∧ Below w.heap.size w w' := (new_any s w hs).mono fun _ _ ⟨h1, h2, h3, _⟩ => ⟨h1, h2, h3⟩
theorem ok_ab : Ok ⟨#[107]⟩ ⟨#[97, 98]⟩ xAb 1 2 3 := ⟨by decide, by decide, by decide, by decide, rfl⟩
set_option maxHeartbeats 2000000 in
theorem sfixed_x (W : World) {x m ah : ByteArray} (z1 : Hid (x.size = 52)) (v0 : Hid (Frm.valN ((x.data.toList.drop 0).take 1) = 1)) (v1 : Hid (Frm.valN ((x.data.toList.drop 1).take 8) = 2)) (v9 : Hid (Frm.valN ((x.data.toList.drop 9).take 8) = 3)) (v17 : Hid (Frm.valN ((x.data.toList.drop 17).take 1) = 2))
    (vp : Hid (x.extract 18 (18 + 2) = ⟨#[97, 98]⟩)) (va : x.extract 0 20 = ah) (vm : Hid (x.extract 20 (20 + 32) = m)) (hml : Hid (str (Sha.mac (⟨#[107]⟩ : ByteArray).data.toList ah.data.toList) = m)) (has : ah.size ≤ 20)
    (hE : Hid (∀ w, Calls Try.prog 11 #[.string ⟨#[107]⟩, .int .i64 1, .int .i64 2, .int .i64 3, .string ⟨#[97, 98]⟩] w fun e w' => e = .returned (.tuple #[.string x, .int .i64 0]) ∧ Below w.heap.size w w')) :
    Calls Try.prog 10 #[] W fun e w' => e = .returned (.bool true) ∧ Below W.heap.size W w' := by
  have hmm : (m.toList == m.toList) = true := beq_self_eq_true _
  have hHM := Lib.hid (fun w => mac_v (w := w) (s := ⟨#[107]⟩) (r := ah) (by decide) (by omega) hml)
  clear hml
  go_enter Try.func10, Try.ntmps10
  go_wp2_with fail
  (with_reducible refine (hE.out W).mono ?_)
  rintro e w1 ⟨rfl, hb1⟩
  go_wp2_with fail
  refine (new_at x w1 (by rw [z1.out]; decide)).mono ?_
  rintro e w2 ⟨rfl, hr2, hb2'⟩
  have hb2 := hb1.trans (hb2'.mono hb1.size)
  have hgW := hb1.size
  obtain ⟨gr, hgr⟩ : ∃ g, w1.heap.size = g := ⟨_, rfl⟩
  rw [hgr] at hr2 hgW ⊢
  replace hgr := Lib.hid hgr
  clear hb1 hb2'
  have z1' := z1.out
  go_wp2_with fail
  clear z1'
  (with_reducible refine (num_at hr2 (n := 1) (k := 1) (p2 := 1) (Lib.hid rfl) (by omega) (by omega) (by rw [z1.out]; omega) v0 (by omega) (Lib.hid rfl)).mono ?_)
  rintro e w3 ⟨rfl, hr3, hg3⟩
  have hb3 := hb2.grown hg3 hb2.size (fun q e => by injection e with e; omega)
  clear hr2 hb2 hg3
  go_wp2_with fail
  (with_reducible refine (num_at hr3 (n := 8) (k := 8) (p2 := 9) (Lib.hid rfl) (by omega) (by omega) (by rw [z1.out]; omega) v1 (by omega) (Lib.hid rfl)).mono ?_)
  rintro e w4 ⟨rfl, hr4, hg4⟩
  have hb4 := hb3.grown hg4 hb3.size (fun q e => by injection e with e; omega)
  clear hr3 hb3 hg4
  go_wp2_with fail
  (with_reducible refine (num_at hr4 (n := 8) (k := 8) (p2 := 17) (Lib.hid rfl) (by omega) (by omega) (by rw [z1.out]; omega) v9 (by omega) (Lib.hid rfl)).mono ?_)
  rintro e w5 ⟨rfl, hr5, hg5⟩
  have hb5 := hb4.grown hg5 hb4.size (fun q e => by injection e with e; omega)
  clear hr4 hb4 hg5
  go_wp2_with fail
  (with_reducible refine (num_at hr5 (n := 1) (k := 1) (p2 := 18) (Lib.hid rfl) (by omega) (by omega) (by rw [z1.out]; omega) v17 (by omega) (Lib.hid rfl)).mono ?_)
  rintro e w6 ⟨rfl, hr6, hg6⟩
  have hb6 := hb5.grown hg6 hb5.size (fun q e => by injection e with e; omega)
  clear hr5 hb5 hg6
  go_wp2_with fail
  (with_reducible refine (bytes_at hr6 (n := 2) (k := 2) (p2 := 20) (Lib.hid rfl) (by rw [z1.out]; omega) vp (Lib.hid rfl)).mono ?_)
  rintro e w7 ⟨rfl, hr7, hg7⟩
  have hb7 := hb6.grown hg7 hb6.size (fun q e => by injection e with e; omega)
  clear hr6 hb6 hg7
  go_wp2_with fail
  (with_reducible refine (left_at hr7 (n := 32) (Lib.hid (by have := z1.out; omega))).mono ?_)
  rintro e w' ⟨q, rfl, rfl⟩
  have hr8 := rdAt_drewN hr7 q
  have hb8 := bel_drewN hb7 q
  clear hr7 hb7
  generalize w7.drewN q = w8 at *
  have z1' := z1.out
  have hr9 := rd_drew hr8
  go_wp2_with fail
  go_region_held3 (fun _ => True) (trivial) (first
    | (go_at_call 14; (with_reducible refine (bytes_at hr9 (n := 32) (k := 32) (p2 := 52) (Lib.hid rfl) (by rw [z1.out]; omega) vm (Lib.hid rfl)).mono ?_); rintro e w9 ⟨rfl, hr10, hg10⟩)
    | (go_at_call 16; (with_reducible refine (hHM.out _).mono ?_); rintro e w10 ⟨rfl, hb10'⟩))
  have hb9 := hb8.drew.grown hg10 hb8.size (fun q e => by injection e with e; omega)
  have hb10 := hb9.trans (hb10'.mono hb9.size)
  go_wp2_with fail
  go_ret
  exact ⟨rfl, hb10⟩
theorem k107 : (⟨#[107]⟩ : ByteArray).data.toList = [107] := rfl
theorem p9798 : (⟨#[97, 98]⟩ : ByteArray).data.toList = [97, 98] := rfl
theorem s9798 : (⟨#[97, 98]⟩ : ByteArray).size = 2 := rfl
theorem sfixed_any (W : World) : Calls Try.prog 10 #[] W fun e w' => e = .returned (.bool true) ∧ Below W.heap.size W w' := by
  obtain ⟨x, hx⟩ : ∃ x, x = xAb := ⟨_, rfl⟩
  have hok := ok_ab
  have hE := c_enc
  rw [← hx] at hok hE
  have v0 := Ok_n0 hok
  have v1 := Ok_n1 hok
  have v9 := Ok_n9 hok
  have v17 := Ok_n17 hok
  have vp := Ok_payload hok
  have va := Ok_ahead hok
  have vm := Ok_mac hok
  have z1 := Ok_size hok
  rw [s9798] at v17 vp va vm z1
  rw [p9798] at va vm
  rw [k107] at vm
  obtain ⟨bd, hbd⟩ : ∃ bd, Frm.body 1 2 3 [97, 98] = bd := ⟨_, rfl⟩
  have hbl : bd.length = 20 := by rw [← hbd, Frm.body_length]; rfl
  rw [hbd] at va vm
  refine sfixed_x W (x := x) (m := str (Sha.mac [107] bd)) (ah := str bd) (Lib.hid z1) (Lib.hid v0) (Lib.hid v1) (Lib.hid v9) (Lib.hid v17) (Lib.hid vp) va (Lib.hid vm) (Lib.hid ?_) (by rw [str_size, hbl]; exact Nat.le_refl 20) (Lib.hid hE)
  rw [k107, str_toList]
end Go.Proofs.Ytmmkopdijmplcaa.seals
