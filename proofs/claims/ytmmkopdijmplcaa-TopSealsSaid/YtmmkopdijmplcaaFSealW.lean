/-
  The walk of TopSeals: for every two keys and whatever is sent, within the reach, the call returns true.
-/
import Derived.Test.YtmmkopdijmplcaaFRead
import Derived.Deep.CutBlock
set_option linter.unusedVariables false
set_option maxRecDepth 100000
namespace Go.Proofs.Ytmmkopdijmplcaa.seals
open Go.RowKit Base HH FF fback
theorem put_is (w : World) (n k : Int) {t : ByteArray} (ht : Hid (str (putL n k) = t)) : Calls Try.prog 18 #[.int .i64 n, .int .i64 k] w fun e w' => e = .returned (.string t) ∧ Below w.heap.size w w' := by
  rw [← ht.out]
  exact put_any n k w
/-- a number's forms agree -/
theorem put_big (n k : Nat) (h1 : 1 ≤ k) (h8 : k ≤ 8) : putL (n : Int) (k : Int) = bigTo n k k := by
  unfold putL
  rw [if_pos (by omega), Int.toNat_natCast]
  unfold putTo bigTo
  apply List.map_congr_left
  intro i _
  unfold Go.Proofs.Ytmmkopdijmplcaa.b8 HH.b8
  congr 1
  have h : ((n : Int) / 2 ^ (8 * (k - 1 - i)) % 256) = ((n / 256 ^ (k - 1 - i) % 256 : Nat) : Int) := by
    rw [Int.natCast_emod, Int.natCast_ediv, Int.natCast_pow, Int.pow_mul]
    rfl
  rw [h, Int.toNat_natCast]
set_option maxHeartbeats 4000000 in
theorem walk_no (W : World) {key other k2 p : ByteArray} {level epoch seq tu : Int} {nz : Value} (hk : key.size ≤ 288230376151711743) (hE : Frm.encE level epoch seq p.data.toList ≠ 0) :
    Calls Try.prog 3 #[.string key, .string other, .agg #[.string k2, .int .i64 level, .int .i64 epoch, .int .i64 seq, .string p, .int .i64 tu, nz]] W fun e w' => e = .returned (.bool true) ∧ Below W.heap.size W w' := by
  obtain ⟨ec, hec⟩ : ∃ ec, Frm.encE level epoch seq p.data.toList = ec := ⟨_, rfl⟩
  have hx : Hid (str (Frm.encS key.data.toList level epoch seq p.data.toList) = ⟨#[]⟩) := congrArg str (Frm.encS_no hE)
  rw [hec] at hE
  have hE' : (ec != 0) = true := by rw [bne_iff_ne]; exact hE
  replace hE := Lib.hid hE
  replace hec := Lib.hid hec
  have hbN := (Below.refl W.heap.size W).alloc (Nat.le_refl _) (.cells #[.string k2, .int .i64 level, .int .i64 epoch, .int .i64 seq, .string p, .int .i64 tu, nz] 24)
  have hNs := Row.new W [.string k2, .int .i64 level, .int .i64 epoch, .int .i64 seq, .string p, .int .i64 tu, nz] 24
  go_enter Try.func3, Try.ntmps3
  go_wp2_with fail
  generalize W.alloc (.cells #[.string k2, .int .i64 level, .int .i64 epoch, .int .i64 seq, .string p, .int .i64 tu, nz] 24) = w1 at *
  refine (sfixed_any w1).mono ?_
  rintro e w2 ⟨rfl, hb2'⟩
  have hNs2 := hNs.below hb2' hNs.lt
  have hb2 := hbN.trans (hb2'.mono hbN.size)
  have c1 := hNs2.cell (j := 1) rfl
  have c2 := hNs2.cell (j := 2) rfl
  have c3 := hNs2.cell (j := 3) rfl
  have c4 := hNs2.cell (j := 4) rfl
  clear hNs hbN hb2'
  go_wp2_with fail
  (with_reducible refine (enc_any hk hx hec).mono ?_)
  rintro e w3 ⟨rfl, hb3'⟩
  have hb3 := hb2.trans (hb3'.mono hb2.size)
  clear c1 c2 c3 c4
  go_wp2_with fail
  go_ret
  exact ⟨rfl, hb3⟩
set_option maxHeartbeats 8000000 in
theorem walk_yes (W : World) {key other k2 p x ah m m2 x2 : ByteArray} {lev ep sq : Nat} {tu dc : Int} {nz : Value} (hko : other.size ≤ 288230376151711743) (hk : key.size ≤ 288230376151711743) (hok : Ok key p x lev ep sq) (hok2 : Ok other p x2 lev ep sq)
    (hah : x.extract 0 (18 + p.size) = ah) (hm : Hid (x.extract (18 + p.size) (18 + p.size + 32) = m)) (hx2 : ah ++ m2 = x2) (hM : Hid (∀ w, Calls Try.prog 16 #[.string key, .string ah] w fun e w' => e = .returned (.string m) ∧ Below w.heap.size w w')) (hM2 : Hid (∀ w, Calls Try.prog 16 #[.string other, .string ah] w fun e w' => e = .returned (.string m2) ∧ Below w.heap.size w w'))
    (has : ah.size ≤ 218) (hms : m2.size ≤ 32) (hD : Hid (∀ w, Calls Try.prog 19 #[.string other, .int .i64 lev, .int .i64 ep, .string x] w fun e w' => ∃ (a : Int) (b : ByteArray), e = .returned (.tuple #[.int .i64 a, .string b, .int .i64 dc]) ∧ Below w.heap.size w w'))
    (hdc : ((m2.toList == m.toList) = true ∧ dc = 0) ∨ ((m2.toList == m.toList) = false ∧ dc = 192))
    {P1 P2 P3 P4 Q2 Q3 Q4 : ByteArray} (hp1 : Hid (str (putL lev 1) = P1)) (hp2 : Hid (str (putL ep 8) = P2)) (hp3 : Hid (str (putL sq 8) = P3)) (hp4 : Hid (str (putL p.size 1) = P4)) (hq2 : P1 ++ P2 = Q2) (hq3 : Q2 ++ P3 = Q3) (hq4 : Q3 ++ P4 = Q4) (hq5 : Q4 ++ p = ah) (hsz : P1.size + P2.size + P3.size + P4.size ≤ 100) :
    Calls Try.prog 3 #[.string key, .string other, .agg #[.string k2, .int .i64 lev, .int .i64 ep, .int .i64 sq, .string p, .int .i64 tu, nz]] W fun e w' => e = .returned (.bool true) ∧ Below W.heap.size W w' := by
  have zx := Lib.hid (Ok_size hok)
  have hpz := hok.hp
  have v0 := Lib.hid (Ok_n0 hok)
  have v1 := Lib.hid (Ok_n1 hok)
  have v9 := Lib.hid (Ok_n9 hok)
  have v17 := Lib.hid (Ok_n17 hok)
  have vp := Lib.hid (Ok_payload hok)
  have l8 := hok.hl
  have l62 := hok.he
  have s62 := hok.hs
  have hE := Lib.hid (fun w => hok.enc hk w)
  have hD2 := Lib.hid (fun w => hok2.dec hko w)
  have g1 : ¬ (9223372036854775807 < P1.size + P2.size) := by omega
  have g2 : ¬ (9223372036854775807 < Q2.size + P3.size) := by rw [← hq2, ByteArray.size_append]; omega
  have g3 : ¬ (9223372036854775807 < Q3.size + P4.size) := by rw [← hq3, ← hq2, ByteArray.size_append, ByteArray.size_append]; omega
  have g4 : ¬ (9223372036854775807 < Q4.size + p.size) := by rw [← hq4, ← hq3, ← hq2, ByteArray.size_append, ByteArray.size_append, ByteArray.size_append]; omega
  have g5 : ¬ (9223372036854775807 < ah.size + m2.size) := by omega
  replace hsz := Lib.hid hsz
  replace has := Lib.hid has
  replace hms := Lib.hid hms
  replace hq2 := Lib.hid hq2
  replace hq3 := Lib.hid hq3
  replace hq4 := Lib.hid hq4
  replace hq5 := Lib.hid hq5
  replace hx2 := Lib.hid hx2
  replace hdc := Lib.hid hdc
  obtain ⟨A, hA⟩ : ∃ A, 18 + p.size = A := ⟨_, rfl⟩
  rw [hA] at hah hm
  have hAx : (A : Int) ≤ x.size := by have := zx.out; omega
  have hA32 : Hid (A + 32 = x.size) := by show _ = _; have := zx.out; omega
  replace hA := Lib.hid hA
  replace hah := Lib.hid hah
  clear hok hok2
  have hbN := (Below.refl W.heap.size W).alloc (Nat.le_refl _) (.cells #[.string k2, .int .i64 lev, .int .i64 ep, .int .i64 sq, .string p, .int .i64 tu, nz] 24)
  have hNs := Row.new W [.string k2, .int .i64 lev, .int .i64 ep, .int .i64 sq, .string p, .int .i64 tu, nz] 24
  obtain ⟨gs, hgs⟩ : ∃ g, W.heap.size = g := ⟨_, rfl⟩
  have hgW : W.heap.size ≤ gs := by omega
  go_enter Try.func3, Try.ntmps3
  go_wp2_with fail
  generalize W.alloc (.cells #[.string k2, .int .i64 lev, .int .i64 ep, .int .i64 sq, .string p, .int .i64 tu, nz] 24) = w1 at *
  refine (sfixed_any w1).mono ?_
  rintro e w2 ⟨rfl, hb2'⟩
  have hNs2 := hNs.below hb2' hNs.lt
  have hb2 := hbN.trans (hb2'.mono hbN.size)
  rw [hgs] at hNs2
  clear hNs hbN hb2'
  replace hgs := Lib.hid hgs
  have c1 := hNs2.cell (j := 1) rfl
  have c2 := hNs2.cell (j := 2) rfl
  have c3 := hNs2.cell (j := 3) rfl
  have c4 := hNs2.cell (j := 4) rfl
  go_wp2_with fail
  (with_reducible refine (hE.out _).mono ?_)
  rintro e w3 ⟨rfl, hb3'⟩
  have hNs3 := hNs2.below hb3' hNs2.lt
  have hb3 := hb2.trans (hb3'.mono hb2.size)
  clear hNs2 hb2 hb3' c1 c2 c3 c4 hE
  go_wp2_with fail
  refine (new_at x w3 (by have := zx.out; omega)).mono ?_
  rintro e w4 ⟨rfl, hr4, hb4'⟩
  have hNs4 := hNs3.below hb4' hNs3.lt
  have hb4 := hb3.trans (hb4'.mono hb3.size)
  have hgr := hNs3.lt
  obtain ⟨gr, hgr2⟩ : ∃ g, w3.heap.size = g := ⟨_, rfl⟩
  rw [hgr2] at hr4 hgr ⊢
  have hne : some gr ≠ some gs := fun e => by injection e with e; omega
  replace hne := Lib.hid hne
  replace hgr2 := Lib.hid hgr2
  clear hNs3 hb3 hb4'
  have hNd := hNs4.drew
  have c1 := hNd.cell (j := 1) rfl
  have c2 := hNd.cell (j := 2) rfl
  have c3 := hNd.cell (j := 3) rfl
  have c4 := hNd.cell (j := 4) rfl
  have hrd := rd_drew hr4
  go_wp2_with fail
  go_region_held3 (fun w' => w'.cell? ⟨gs, 1, none⟩ = some (.int .i64 lev) ∧ w'.cell? ⟨gs, 2, none⟩ = some (.int .i64 ep) ∧ w'.cell? ⟨gs, 3, none⟩ = some (.int .i64 sq) ∧ w'.cell? ⟨gs, 4, none⟩ = some (.string p))
    (first | exact ⟨c1, c2, c3, c4⟩ | exact ⟨hN5.cell rfl, hN5.cell rfl, hN5.cell rfl, hN5.cell rfl⟩ | exact ⟨hN6.cell rfl, hN6.cell rfl, hN6.cell rfl, hN6.cell rfl⟩ | exact ⟨hN7.cell rfl, hN7.cell rfl, hN7.cell rfl, hN7.cell rfl⟩ | exact ⟨hN8.cell rfl, hN8.cell rfl, hN8.cell rfl, hN8.cell rfl⟩ | exact ⟨hN9.cell rfl, hN9.cell rfl, hN9.cell rfl, hN9.cell rfl⟩)
    (first
      | (go_at_call 14; (with_reducible refine (bytes_at hr8 (n := p.size) (k := p.size) (p2 := A) (Lib.hid rfl) (by have := zx.out; omega) vp hA).mono ?_); rintro e w9 ⟨rfl, hr9, hg9⟩; have hN9 := hN8.grown hg9 hne.out)
      | (go_at_call 13; (with_reducible refine (num_at hrd (n := 1) (k := 1) (p2 := 1) (Lib.hid rfl) (by omega) (by omega) (by have := zx.out; omega) v0 (by omega) (Lib.hid rfl)).mono ?_); rintro e w5 ⟨rfl, hr5, hg5⟩; have hN5 := hNd.grown hg5 hne.out)
      | (go_at_call 13; (with_reducible refine (num_at hr5 (n := 8) (k := 8) (p2 := 9) (Lib.hid rfl) (by omega) (by omega) (by have := zx.out; omega) v1 (by omega) (Lib.hid rfl)).mono ?_); rintro e w6 ⟨rfl, hr6, hg6⟩; have hN6 := hN5.grown hg6 hne.out)
      | (go_at_call 13; (with_reducible refine (num_at hr6 (n := 8) (k := 8) (p2 := 17) (Lib.hid rfl) (by omega) (by omega) (by have := zx.out; omega) v9 (by omega) (Lib.hid rfl)).mono ?_); rintro e w7 ⟨rfl, hr7, hg7⟩; have hN7 := hN6.grown hg7 hne.out)
      | (go_at_call 13; (with_reducible refine (num_at hr7 (n := 1) (k := 1) (p2 := 18) (Lib.hid rfl) (by omega) (by omega) (by have := zx.out; omega) v17 (by omega) (Lib.hid rfl)).mono ?_); rintro e w8 ⟨rfl, hr8, hg8⟩; have hN8 := hN7.grown hg8 hne.out))
  have hbd := hb4.drew
  have hb5 := hbd.grown hg5 hbd.size (fun q e => by injection e with e; omega)
  have hb6 := hb5.grown hg6 hb5.size (fun q e => by injection e with e; omega)
  have hb7 := hb6.grown hg7 hb6.size (fun q e => by injection e with e; omega)
  have hb8 := hb7.grown hg8 hb7.size (fun q e => by injection e with e; omega)
  have hb9 := hb8.grown hg9 hb8.size (fun q e => by injection e with e; omega)
  clear hbd hb5 hb6 hb7 hb8 hg5 hg6 hg7 hg8 hg9 hr5 hr6 hr7 hr8 hN5 hN6 hN7 hN8 hrd hNd hr4 hNs4 hb4 c1 c2 c3 c4 v0 v1 v9 v17 vp
  go_wp2_with fail
  (with_reducible refine (at_at hr9 (Lib.hid rfl)).mono ?_)
  rintro e w' ⟨rfl, rfl⟩
  have hah' := hah.out
  have hmm : (m.toList == m.toList) = true := beq_self_eq_true _
  have haa : (ah.toList == ah.toList) = true := beq_self_eq_true _
  have hpp : (p.toList == p.toList) = true := beq_self_eq_true _
  have hss : ((sq : Int) != (sq : Int)) = false := bne_self_eq_false _
  go_wp2_with fail
  (with_reducible refine (bytes_at hr9 (n := 32) (k := 32) (p2 := x.size) (Lib.hid rfl) (by have := hA32.out; omega) hm hA32).mono ?_)
  rintro e w10 ⟨rfl, hr10, hg10⟩
  have hN10 := hN9.grown hg10 hne.out
  have hb10 := hb9.grown hg10 hb9.size (fun q e => by injection e with e; omega)
  clear hN9 hb9 hg10 hr9 hah'
  go_wp2_with fail
  (with_reducible refine (hM.out _).mono ?_)
  rintro e w11 ⟨rfl, hb11'⟩
  have hN11 := hN10.below hb11' hN10.lt
  have hr11 := rdAt_below hr10 hb11'
  have hb11 := hb10.trans (hb11'.mono hb10.size)
  clear hN10 hb10 hb11' hr10
  go_wp2_with fail
  (with_reducible refine (done_at hr11).mono ?_)
  rintro e w' ⟨q, rfl, rfl⟩
  have hN12 := hN11.drewN q
  have hb12 := bel_drewN hb11 q
  clear hN11 hr11 hb11
  generalize w11.drewN q = w12 at *
  have hNd := hN12.drew
  have c1 := hNd.cell (j := 1) rfl
  have c2 := hNd.cell (j := 2) rfl
  have c3 := hNd.cell (j := 3) rfl
  have c4 := hNd.cell (j := 4) rfl
  have q2 := hq2.out
  have q3 := hq3.out
  have q4 := hq4.out
  have q5 := hq5.out
  go_wp2_with fail
  go_region_held3 (fun w' => w'.cell? ⟨gs, 1, none⟩ = some (.int .i64 lev) ∧ w'.cell? ⟨gs, 2, none⟩ = some (.int .i64 ep) ∧ w'.cell? ⟨gs, 3, none⟩ = some (.int .i64 sq) ∧ w'.cell? ⟨gs, 4, none⟩ = some (.string p))
    (first | exact ⟨c1, c2, c3, c4⟩ | exact ⟨hN13.cell rfl, hN13.cell rfl, hN13.cell rfl, hN13.cell rfl⟩ | exact ⟨hN14.cell rfl, hN14.cell rfl, hN14.cell rfl, hN14.cell rfl⟩ | exact ⟨hN15.cell rfl, hN15.cell rfl, hN15.cell rfl, hN15.cell rfl⟩ | exact ⟨hN16.cell rfl, hN16.cell rfl, hN16.cell rfl, hN16.cell rfl⟩)
    (first
      | (go_at_call 18; (with_reducible refine (put_is _ _ _ hp1).mono ?_); rintro e w13 ⟨rfl, hb13⟩; have hN13 := hNd.below hb13 hNd.lt)
      | (go_at_call 18; (with_reducible refine (put_is _ _ _ hp2).mono ?_); rintro e w14 ⟨rfl, hb14⟩; have hN14 := hN13.below hb14 hN13.lt)
      | (go_at_call 18; (with_reducible refine (put_is _ _ _ hp3).mono ?_); rintro e w15 ⟨rfl, hb15⟩; have hN15 := hN14.below hb15 hN14.lt)
      | (go_at_call 18; (with_reducible refine (put_is _ _ _ hp4).mono ?_); rintro e w16 ⟨rfl, hb16⟩; have hN16 := hN15.below hb16 hN15.lt))
  have hbd := hb12.drew
  have hb13' := hbd.trans (hb13.mono hbd.size)
  have hb14' := hb13'.trans (hb14.mono hb13'.size)
  have hb15' := hb14'.trans (hb15.mono hb14'.size)
  have hb16' := hb15'.trans (hb16.mono hb15'.size)
  clear hbd hb13 hb14 hb15 hb16 hb13' hb14' hb15' hN13 hN14 hN15 hNd hN12 hb12 c1 c2 c3 c4 q2 q3 q4 q5 g1 g2 g3 g4 hq2 hq3 hq4 hq5 hp1 hp2 hp3 hp4
  have hNd := hN16.drew
  have c1 := hNd.cell (j := 1) rfl
  have c2 := hNd.cell (j := 2) rfl
  have x2' := hx2.out
  go_wp2_with fail
  go_region_held3 (fun w' => w'.cell? ⟨gs, 1, none⟩ = some (.int .i64 lev) ∧ w'.cell? ⟨gs, 2, none⟩ = some (.int .i64 ep))
    (first | exact ⟨c1, c2⟩ | exact ⟨hN17.cell rfl, hN17.cell rfl⟩ | exact ⟨hN18.cell rfl, hN18.cell rfl⟩)
    (first
      | (go_at_call 16; (with_reducible refine (hM2.out _).mono ?_); rintro e w17 ⟨rfl, hb17⟩; have hN17 := hNd.below hb17 hNd.lt)
      | (go_at_call 19; (with_reducible refine (hD2.out _).mono ?_); rintro e w18 ⟨rfl, hb18⟩; have hN18 := hN17.below hb18 hN17.lt))
  have hbd := hb16'.drew
  have hb17' := hbd.trans (hb17.mono hbd.size)
  have hb18' := hb17'.trans (hb18.mono hb17'.size)
  clear hbd hb17 hb18 hb17' hN17 hNd hN16 hb16' c1 c2 x2' g5
  have c1 := hN18.cell (j := 1) rfl
  have c2 := hN18.cell (j := 2) rfl
  have c3 := hN18.cell (j := 3) rfl
  have c4 := hN18.cell (j := 4) rfl
  go_wp2_with fail
  (with_reducible refine (hD.out _).mono ?_)
  rintro e w19 ⟨da, db, rfl, hb19'⟩
  have hb19 := hb18'.trans (hb19'.mono hb18'.size)
  clear hN18 hb18' hb19' c1 c2 c3 c4
  go_wp2_with fail
  (with_reducible refine (hM2.out _).mono ?_)
  rintro e w20 ⟨rfl, hb20'⟩
  have hb20 := hb19.trans (hb20'.mono hb19.size)
  go_wp2_with fail
  (with_reducible refine (hM.out _).mono ?_)
  rintro e w21 ⟨rfl, hb21'⟩
  have hb21 := hb20.trans (hb21'.mono hb20.size)
  clear hb19 hb20' hb20 hb21'
  rcases hdc.out with ⟨k1, rfl⟩ | ⟨k1, rfl⟩
  all_goals
    go_wp2_with fail
    go_ret
    exact ⟨rfl, hb21⟩
theorem walk (W : World) {key other k2 p : ByteArray} {level epoch seq tu : Int} {nz : Value} (hko : other.size ≤ 140737488355327) (hk : key.size ≤ 140737488355327) :
    Calls Try.prog 3 #[.string key, .string other, .agg #[.string k2, .int .i64 level, .int .i64 epoch, .int .i64 seq, .string p, .int .i64 tu, nz]] W fun e w' => e = .returned (.bool true) ∧ Below W.heap.size W w' := by
  by_cases hE : Frm.encE level epoch seq p.data.toList = 0
  · obtain ⟨hf, hp, _⟩ := Frm.encS_yes (key := key.data.toList) hE
    unfold Frm.fine Frm.most at hf
    obtain ⟨a1, a2, a3, a4, a5, a6⟩ := hf
    obtain ⟨lev, rfl⟩ := Int.eq_ofNat_of_zero_le a1
    obtain ⟨ep, rfl⟩ := Int.eq_ofNat_of_zero_le a3
    obtain ⟨sq, rfl⟩ := Int.eq_ofNat_of_zero_le a5
    have hok : Ok key p (str (Frm.whole key.data.toList lev ep sq p.data.toList)) lev ep sq := ⟨by omega, by omega, by omega, hp, rfl⟩
    have hok2 : Ok other p (str (Frm.whole other.data.toList lev ep sq p.data.toList)) lev ep sq := ⟨by omega, by omega, by omega, hp, rfl⟩
    have hbl : (Frm.body lev ep sq p.data.toList).length = 18 + p.size := Frm.body_length _ _ _ _
    have hp' : p.size ≤ 200 := hp
    obtain ⟨bd, hbd⟩ : ∃ bd, Frm.body lev ep sq p.data.toList = bd := ⟨_, rfl⟩
    have hA := Ok_ahead hok
    have hM := Ok_mac hok
    have hD := fun w => dec_any (key := other) (s := str (Frm.whole key.data.toList lev ep sq p.data.toList)) (level := lev) (epoch := ep) (w := w) (by omega) (by rw [Ok_size hok]; omega) (Lib.hid rfl) (Lib.hid rfl) (Lib.hid rfl)
    have hdw := Frm.dec_whole key.data.toList other.data.toList (lev := lev) (ep := ep) (seq := sq) (p := p.data.toList) (by omega) hok.he hok.hs hp lev ep
    rw [hbd] at hA hM hdw hbl
    rw [if_pos (show ((lev : Int) = lev ∧ (ep : Int) = ep) from ⟨rfl, rfl⟩)] at hdw
    have e1 : putL (lev : Int) 1 = bigTo lev 1 1 := put_big lev 1 (by omega) (by omega)
    have e2 : putL (ep : Int) 8 = bigTo ep 8 8 := put_big ep 8 (by omega) (by omega)
    have e3 : putL (sq : Int) 8 = bigTo sq 8 8 := put_big sq 8 (by omega) (by omega)
    have e4 : putL (p.size : Int) 1 = bigTo p.size 1 1 := put_big p.size 1 (by omega) (by omega)
    refine walk_yes W (x := str (Frm.whole key.data.toList lev ep sq p.data.toList)) (x2 := str (Frm.whole other.data.toList lev ep sq p.data.toList)) (ah := str bd) (m := str (Sha.mac key.data.toList bd)) (m2 := str (Sha.mac other.data.toList bd)) (by omega) (by omega) hok hok2 hA (Lib.hid hM) ?_
      (Lib.hid (fun w => mac_v (by omega) (by rw [str_size]; omega) (Lib.hid (by rw [str_toList])))) (Lib.hid (fun w => mac_v (by omega) (by rw [str_size]; omega) (Lib.hid (by rw [str_toList])))) (by rw [str_size]; omega) (by rw [str_size, Frm.mac_length]; omega)
      (Lib.hid (fun w => (hD w).mono fun _ _ ⟨h1, h2⟩ => ⟨_, _, h1, h2⟩)) ?_ (Lib.hid rfl) (Lib.hid rfl) (Lib.hid rfl) (Lib.hid rfl) rfl rfl rfl ?_ ?_
    · apply ba_of hok
      rw [ByteArray.data_append]
      show ((str bd).data ++ (str (Sha.mac other.data.toList bd)).data).toList = Frm.whole other.data.toList lev ep sq p.data.toList
      unfold Frm.whole
      rw [hbd, Array.toList_append]
      rfl
    · rw [str_toList]
      by_cases hq : Sha.mac other.data.toList bd = Sha.mac key.data.toList bd
      · rw [if_neg (not_not_intro hq)] at hdw
        exact .inl ⟨list_eq hq, hdw⟩
      · rw [if_pos hq] at hdw
        exact .inr ⟨list_ne hq, hdw⟩
    · rw [e1, e2, e3, e4]
      apply ba_of hok
      rw [← hbd]
      unfold Frm.body
      rw [← nums_laid]
      simp only [ByteArray.data_append, Array.toList_append]
      show bigTo lev 1 1 ++ bigTo ep 8 8 ++ bigTo sq 8 8 ++ bigTo p.size 1 1 ++ p.data.toList = (bigTo lev 1 1 ++ (bigTo ep 8 8 ++ (bigTo sq 8 8 ++ (bigTo p.size 1 1 ++ [])))) ++ p.data.toList
      simp only [List.append_assoc, List.append_nil]
    · rw [e1, e2, e3, e4, str_size, str_size, str_size, str_size, bigTo_length, bigTo_length, bigTo_length, bigTo_length]
      decide
  · exact walk_no W (by omega) hE
end Go.Proofs.Ytmmkopdijmplcaa.seals
