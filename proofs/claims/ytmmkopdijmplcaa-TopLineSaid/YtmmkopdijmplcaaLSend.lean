/-
  Send of the line: bytes as points.
-/
import Derived.Test.YtmmkopdijmplcaaLRow
import Derived.Test.YtmmkopdijmplcaaRRow
import Derived.Maps.AppendAt
import Derived.IntWalk
import Derived.Lib.Hide
set_option linter.unusedVariables false
set_option maxRecDepth 100000
namespace Go.Proofs.Ytmmkopdijmplcaa.ln
open Go.RowKit Base HH FF RH
/-- a byte as two points -/
def bytePts (b : UInt8) : List (Nat × Nat) := [(prt (b.toNat / 64), prt (b.toNat / 16 % 4)), (prt (b.toNat % 16 / 4), prt (b.toNat % 4))]
def sendL (l : List UInt8) : List (Nat × Nat) := (prt 3, prt 3) :: l.flatMap bytePts
theorem sendL_length (l : List UInt8) : (sendL l).length = 1 + 2 * l.length := by
  unfold sendL
  rw [List.length_cons]
  induction l with
  | nil => rfl
  | cons b r ih => rw [List.flatMap_cons, List.length_append, List.length_cons]; show (2 + _) + 1 = _; omega
theorem sendL_succ (l : List UInt8) (k : Nat) (h : k < l.length) : sendL (l.take (k + 1)) = sendL (l.take k) ++ bytePts (l.getD k 0) := by
  unfold sendL
  rw [List.take_succ_eq_append_getElem h, List.flatMap_append, List.getD_eq_getElem?_getD, List.getElem?_eq_getElem h]
  simp
theorem byte_bits : ∀ n : Nat, n < 256 → (n : Int) / 16 = ((4 * (n / 64) + n / 16 % 4 : Nat) : Int) ∧ bits .and .u8 (n : Int) 15 = ((4 * (n % 16 / 4) + n % 4 : Nat) : Int) := by decide +kernel
theorem two_new (w : World) (p q : Nat × Nat) : ∀ j u, ([p, q].map cv)[j]? = some u → (w.alloc (.cells #[cv p, cv q] 86)).cell? ((⟨w.heap.size, 0, none⟩ : Addr).add j) = some u := fun j u hj => by
  have h := Row.new w [cv p, cv q] 86
  rw [Addr.add_mid, Nat.zero_add]
  exact h.cell hj
theorem prt3 : prt 3 = 4613937818241073152 := by decide +kernel
set_option maxHeartbeats 4000000 in
theorem send_v {w : World} {s : ByteArray} (hs : s.size ≤ 1000) :
    Calls Try.prog 21 #[.string s] w fun e w' => ∃ v', e = .returned (.tuple #[v', .int .i64 0]) ∧ PRow w' w.heap.size v' (1 + 2 * s.size) (sendL s.data.toList) ∧ Below w.heap.size w w' := by
  obtain ⟨i0, hi, hz0, hz1, hz2⟩ := infoC_parts
  obtain ⟨w0, hw0⟩ : ∃ w0, w.alloc (.cells #[.complex .f64 4613937818241073152 4613937818241073152] 86) = w0 := ⟨_, rfl⟩
  obtain ⟨c0, w1, hcv, hF0, hb1'⟩ := frow_conv s w0 (by omega)
  have hsz0 : w0.heap.size = w.heap.size + 1 := by rw [← hw0]; simp
  have hP0 : PRow w0 w.heap.size (.slice (some ⟨w.heap.size, 0, none⟩) 1 1) 1 (sendL (s.data.toList.take 0)) := by
    rw [← hw0]
    refine ⟨rfl, w.heap.size, 1, _, rfl, Nat.le_refl _, heap_alloc_new w _, Nat.le_refl _, by decide, rfl, ?_⟩
    show [_] = [cv (prt 3, prt 3)]
    rw [prt3]
    rfl
  have hP1 := hP0.below hb1'
  have hb0 : Below w.heap.size w w0 := by rw [← hw0]; exact (Below.refl w.heap.size w).alloc (Nat.le_refl _) _
  have hb1 := hb0.trans (hb1'.mono (by omega))
  obtain ⟨l, hl⟩ : ∃ l, s.data.toList = l := ⟨_, rfl⟩
  have hll : l.length = s.size := by rw [← hl]; rfl
  rw [hl] at hP1 hF0 ⊢
  obtain ⟨n, hn⟩ : ∃ n, s.size = n := ⟨_, rfl⟩
  rw [hn] at hF0 hcv hs hll ⊢
  have g1 : ¬ (4096 : Int) < 2 * (n : Int) + 1 := by omega
  have gg : ¬ (4096 : Int) < 2 * (s.size : Int) + 1 := by omega
  replace hl := Lib.hid hl
  replace hn := Lib.hid hn
  have hcb := fun j (hj : j < n) => hF0.cell hj
  obtain ⟨gB, hgB⟩ : ∃ g, w0.heap.size = g := ⟨_, rfl⟩
  have hgBl : gB < w1.heap.size := by obtain ⟨g, _, e, _, _, h⟩ := hF0.lt; rw [← hgB]; injection e with e1; injection e1 with e2; injection e2 with e3; omega
  rw [hgB] at hcb hcv hsz0
  replace hcb := Lib.hid hcb
  clear hF0 hP0 hb0 hb1'
  go_enter Try.func21, Try.ntmps21
  go_wp2_with fail
  rw [show w.heap.size + 1 = gB from by omega]
  replace hsz0 := Lib.hid hsz0
  go_loopw [4, 16] (fun v vi wr => ∃ k : Nat, k ≤ n ∧ vi = .int .i64 k ∧ PRow wr w.heap.size v (1 + 2 * k) (sendL (l.take k)) ∧ (∀ g, v.ownBlock = some g → g ≠ gB) ∧ Below w.heap.size w wr ∧ (∀ j, j < n → wr.cell? ⟨gB, j, none⟩ = some (bv (l.getD j 0))) ∧ gB < wr.heap.size) (fun _ vi _ => n - (intOf vi).toNat)
  case atStart => exact ⟨0, Nat.zero_le _, rfl, hP1, fun g e => by have := own_b e; have := hsz0.out; omega, hb1, hcb.out, hgBl⟩
  case round =>
    clear hP1 hb1 hcv
    obtain ⟨k, hk, rfl, hP, hne, hb, hcell, hgBl⟩ := hrel
    replace hcell := Lib.hid hcell
    have hbs := hb.size
    obtain ⟨g, cap, rfl, hcap, hgB1, hgl⟩ := hP.lt
    by_cases hlt : k < n
    · have hlt' : (k : Int) < n := by omega
      have k0 : (0 : Int) ≤ (k : Int) := by omega
      have c1 := hcell.out k hlt
      have hsu := Lib.hid (sendL_succ l k (by omega))
      generalize l.getD k 0 = b at *
      obtain ⟨b1, b2⟩ := byte_bits b.toNat b.toNat_lt
      have hb256 : b.toNat < 256 := b.toNat_lt
      simp only [bv] at c1
      obtain ⟨d1, hd1⟩ : ∃ d, b.toNat / 64 = d := ⟨_, rfl⟩
      obtain ⟨d2, hd2⟩ : ∃ d, b.toNat / 16 % 4 = d := ⟨_, rfl⟩
      obtain ⟨d3, hd3⟩ : ∃ d, b.toNat % 16 / 4 = d := ⟨_, rfl⟩
      obtain ⟨d4, hd4⟩ : ∃ d, b.toNat % 4 = d := ⟨_, rfl⟩
      have hbp : Hid (bytePts b = [(prt d1, prt d2), (prt d3, prt d4)]) := by show _ = _; unfold bytePts; rw [hd1, hd2, hd3, hd4]
      rw [hd1, hd2] at b1
      rw [hd3, hd4] at b2
      have q1 : d1 < 4 := by omega
      have q2 : d2 < 4 := by omega
      have q3 : d3 < 4 := by omega
      have q4 : d4 < 4 := by omega
      obtain ⟨m1, hm1⟩ : ∃ m, 4 * d1 + d2 = m := ⟨_, rfl⟩
      obtain ⟨m2, hm2⟩ : ∃ m, 4 * d3 + d4 = m := ⟨_, rfl⟩
      rw [hm1] at b1
      rw [hm2] at b2
      replace hm1 := Lib.hid hm1
      replace hm2 := Lib.hid hm2
      replace hd1 := Lib.hid hd1
      replace hd2 := Lib.hid hd2
      replace hd3 := Lib.hid hd3
      replace hd4 := Lib.hid hd4
      go_wp2_with fail
      (try rw [b1])
      (with_reducible refine (point_v hm1 q1 q2 _).mono ?_)
      rintro e w' ⟨rfl, rfl⟩
      go_wp2_with fail
      (try rw [b2])
      (with_reducible refine (point_v hm2 q3 q4 _).mono ?_)
      rintro e w' ⟨rfl, rfl⟩
      go_wp2_with (at_builtin; (refine wpList_append_own_at _ rfl (.tmp 20) (.tmp 27) 41 rfl w.heap.size 86 i0 (.complex .f64 0 0) 1 16 Try.underlying41 hi hz0 hz1 hz2 rfl (by decide) _ _ _ (by rfl) (PRow.own (hP.below ((Below.refl wr.heap.size wr).alloc (Nat.le_refl _) (.cells #[.complex .f64 (prt d1) (prt d2), .complex .f64 (prt d3) (prt d4)] 86)))) ⟨wr.heap.size, 0, none⟩ 2 2 ([(prt d1, prt d2), (prt d3, prt d4)].map cv) (by rfl) rfl ?c1 ?c2 ?c3 ?c4 ?c5 ?_))
      case c1 => exact two_new wr _ _
      case c2 => exact cv_one _
      case c3 => unfold maxLen; omega
      case c4 => omega
      case c5 => simp; omega
      intro v' w4 ho' hg' _ hat'
      have hb1 := hb.alloc hbs (.cells #[.complex .f64 (prt d1) (prt d2), .complex .f64 (prt d3) (prt d4)] 86)
      have hb4 := hb1.grown hg' (by simp; omega) (fun q e => by have := own_b e; omega)
      have hP4 : PRow w4 w.heap.size v' (1 + 2 * (k + 1)) (sendL (l.take (k + 1))) := by
        rw [hsu.out, hbp.out]
        refine PRow.of_own ?_ ?_ (by omega)
        · rw [List.map_append]
          rw [show 1 + 2 * (k + 1) = 1 + 2 * k + 2 from by omega]
          exact ho'
        · rw [List.length_append, sendL_length, List.length_take]
          show 1 + 2 * min k l.length + 2 = _
          omega
      have hne4 : ∀ q, v'.ownBlock = some q → q ≠ gB := fun q hq => by
        rcases hat' with e | e
        · exact hne q (e ▸ hq)
        · have e2 := Option.some.inj (hq.symm.trans e)
          (try simp at e2)
          have := hgBl
          omega
      have hcell4 : ∀ j, j < n → w4.cell? ⟨gB, j, none⟩ = some (bv (l.getD j 0)) := fun j hj =>
        hg'.cell ((((Below.refl wr.heap.size wr).alloc (Nat.le_refl _) _).cell (p := ⟨gB, j, none⟩) hgBl).trans (hcell.out j hj)) (fun e => hne g rfl (Option.some.inj e).symm)
      have hgB4 : gB < w4.heap.size := Nat.lt_of_lt_of_le hgBl (Nat.le_trans (by simp) hg'.size)
      clear hP hb hb1 ho' hg' hcell c1
      go_wp2_with fail
      go_roundw
      case rel => first | exact ⟨k + 1, by omega, by go_num, hP4, hne4, hb4, hcell4, hgB4⟩ | ((repeat apply Exists.intro); exact ⟨⟨k + 1, by omega, by go_num, hP4, hne4, hb4, hcell4, hgB4⟩, rfl⟩)
      case measure => simp [intOf]; omega
    · obtain rfl : k = n := by omega
      have hlt' : ¬ (k : Int) < k := by omega
      have ht : l.take k = l := List.take_of_length_le (by omega)
      rw [ht] at hP
      go_wp2_with fail
      go_ret2
      exact ⟨_, rfl, hP, hb⟩
end Go.Proofs.Ytmmkopdijmplcaa.ln
