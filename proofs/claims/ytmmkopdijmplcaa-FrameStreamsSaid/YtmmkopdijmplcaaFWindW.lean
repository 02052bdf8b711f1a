/-
  The walk of FrameWindows: for every list of numbers and every place the call returns true.
-/
import Derived.Test.YtmmkopdijmplcaaFArgs
set_option linter.unusedVariables false
namespace Go.Proofs.Ytmmkopdijmplcaa.fwind
open Go.RowKit Base HH FF
/-- the greatest of the first k, -1 if they are all below -/
def mx (l : List Int) (k : Nat) : Int := (l.take k).foldl max (-1)
theorem mx_succ (l : List Int) {k : Nat} (h : k < l.length) {z : Int} (hz : l.getD k 0 = z) : mx l (k + 1) = max (mx l k) z := by
  unfold mx
  have e : l[k] = z := by rw [← hz, List.getD_eq_getElem?_getD, List.getElem?_eq_getElem h]; rfl
  rw [List.take_succ_eq_append_getElem h, List.foldl_append, e]
  rfl
theorem mx_ge (l : List Int) (k : Nat) : -1 ≤ mx l k := by
  unfold mx
  suffices h : ∀ (l : List Int) (a : Int), a ≤ l.foldl max a from h _ _
  intro l
  induction l with
  | nil => intro a; exact Int.le_refl _
  | cons c l ih =>
    intro a
    rw [List.foldl_cons]
    exact Int.le_trans (by omega) (ih _)
theorem mx_le (l : List Int) (hl : ∀ z ∈ l, z ≤ 9223372036854775807) (k : Nat) : mx l k ≤ 9223372036854775807 := by
  unfold mx
  suffices h : ∀ (l : List Int) (a : Int), (∀ z ∈ l, z ≤ 9223372036854775807) → a ≤ 9223372036854775807 → l.foldl max a ≤ 9223372036854775807 from h _ _ (fun z hz => hl z (List.mem_of_mem_take hz)) (by omega)
  intro l
  induction l with
  | nil => intro a _ ha; exact ha
  | cons c l ih =>
    intro a h ha
    rw [List.foldl_cons]
    exact ih _ (fun z hz => h z (List.mem_cons_of_mem _ hz)) (by have := h c List.mem_cons_self; omega)
/-- a number is offered: something comes of it -/
theorem waccept_some {w : World} {g : Nat} {z n : Int} (h : WinAt w g z) : Calls Try.prog 31 #[.pointer (some ⟨g, 0, none⟩), .int .i64 n] w fun e w' => ∃ b, e = .returned (.bool b) ∧ w.grownBy w' (some g) := by
  by_cases hn : z < n
  · exact (waccept_yes h hn).mono fun _ _ ⟨h1, _, h3⟩ => ⟨_, h1, h3⟩
  · exact (waccept_no h (by omega)).mono fun _ _ ⟨h1, h2⟩ => ⟨_, h1, h2 ▸ World.grownBy.refl _ _⟩
set_option maxRecDepth 100000 in
set_option maxHeartbeats 2000000 in
theorem walk (W : World) {mo : Option Addr} {mlen mcap : Nat} {ms : List Int} {at_ : Int} (hms : IntsIn W mo mlen ms) (hml : mlen ≤ 4611686018427387904) (hwf : ∀ z ∈ ms, z ≤ 9223372036854775807) :
    Calls Try.prog 8 #[.slice mo mlen mcap, .int .i64 at_] W fun e w' => e = .returned (.bool true) ∧ Below W.heap.size W w' := by
  have hlen := hms.1
  have hwf := Lib.hid hwf
  go_enter Try.func8, Try.ntmps8
  go_wp2_with fail
  refine (wnew_any W).mono ?_
  rintro e w1 ⟨rfl, hw1, hb1, hz1⟩
  obtain ⟨gw, hgw⟩ : ∃ g, W.heap.size = g := ⟨_, rfl⟩
  have hgW : W.heap.size ≤ gw := by omega
  rw [hgw] at hw1 ⊢
  replace hgw := Lib.hid hgw
  clear hz1
  have hm0 : mx ms 0 = -1 := rfl
  rw [← hm0] at hw1
  have hm0' := Lib.hid hm0
  clear hm0
  go_wp2_with fail
  go_loopw [6, 7, 8, 9] (fun last i _ _ wr => ∃ k : Nat, k ≤ mlen ∧ i = .int .i64 k ∧ last = .int .i64 (mx ms k) ∧ WinAt wr gw (mx ms k) ∧ Below W.heap.size W wr) (fun _ i _ _ _ => mlen - (intOf i).toNat)
  case atStart => exact ⟨0, Nat.zero_le _, rfl, by rw [hm0'.out], hw1, hb1⟩
  case round =>
    clear hw1 hb1
    obtain ⟨k, hk, rfl, rfl, hw, hb⟩ := hrel
    by_cases hlt : k < mlen
    · have hlt' : (k : Int) < mlen := by omega
      obtain ⟨a, z, rfl, hab, hz, hc0⟩ := (hms.below hb (Nat.le_refl _)).at_ hlt
      have hsc := mx_succ ms (by omega) hz
      have hge := mx_ge ms k
      have hle := mx_le ms hwf.out k
      have hzm : z ≤ 9223372036854775807 := hwf.out z (by
        rw [← hz, List.getD_eq_getElem?_getD, List.getElem?_eq_getElem (by omega)]
        exact List.getElem_mem _)
      obtain ⟨m, hm⟩ : ∃ m, mx ms k = m := ⟨_, rfl⟩
      obtain ⟨m1, hm1⟩ : ∃ m, mx ms (k + 1) = m := ⟨_, rfl⟩
      rw [hm] at hsc hge hle hw ⊢
      rw [hm1] at hsc
      replace hm := Lib.hid hm
      replace hm1 := Lib.hid hm1
      replace hz := Lib.hid hz
      replace hlen := Lib.hid hlen
      have hbs := hb.size
      have hgl := hw.lt
      clear hc0
      go_upto_if 21 with fail
      go_cut [8] from 19 to 35 (fun s8 wx => WinAt wx gw m ∧ Below W.heap.size W wx)
      case first =>
        by_cases hat : (k : Int) = at_
        · have hat' : ((k : Int) == at_) = true := by rw [beq_iff_eq]; exact hat
          replace hat := Lib.hid hat
          go_wp2_with fail
          refine (wclone_any hw).mono ?_
          rintro e w2 ⟨rfl, hc2, hb2', hz2⟩
          have hb2 := hb.trans (hb2'.mono hbs)
          have hw2 := hw.below hb2' hgl
          obtain ⟨gc, hgc⟩ : ∃ g, wr.heap.size = g := ⟨_, rfl⟩
          rw [hgc] at hc2 hgl hbs ⊢
          have hne : some gc ≠ some gw := fun e => by injection e with e; omega
          replace hgc := Lib.hid hgc
          replace hne := Lib.hid hne
          clear hw hb hb2' hz2
          go_wp2_with fail
          refine (wlast_any hc2).mono ?_
          rintro e w' ⟨rfl, rfl⟩
          go_wp2_with fail
          refine (waccept_some hc2).mono ?_
          rintro e w3 ⟨b, rfl, hg3⟩
          have hw3 := hw2.grown hg3 hne.out
          have hb3 := hb2.grown hg3 hb2.size (fun k e => by injection e with e; omega)
          clear hc2 hw2 hb2 hg3
          go_wp2_with fail
          go_meet
          case rel => exact ⟨hw3, hb3⟩
        · have hat' : ((k : Int) == at_) = false := by rw [beq_eq_false_iff_ne]; exact hat
          replace hat := Lib.hid hat
          go_wp2_with fail
          go_meet
          case rel => exact ⟨hw, hb⟩
      case rest =>
        obtain ⟨hw2, hb2⟩ := hcut
        clear hw hb hbs hgl
        have hc0 : wc.cell? (a.add k) = some (.int .i64 z) := by
          obtain ⟨a', z', e, _, h2, h3⟩ := (hms.below hb2 (Nat.le_refl _)).at_ hlt
          cases e
          rw [← hz.out, h2]
          exact h3
        have hbs := hb2.size
        by_cases hzm2 : m < z
        · have hzm3 : ¬ z ≤ m := by omega
          have hmx : max m z = z := Int.max_eq_right (by omega)
          rw [hmx] at hsc
          subst hsc
          go_wp2_with fail
          refine (waccept_yes hw2 hzm2).mono ?_
          rintro e w3 ⟨rfl, hw3, hg3⟩
          have hb3 := hb2.grown hg3 hbs (fun k e => by injection e with e; omega)
          have hc3 : w3.cell? (a.add k) = some (.int .i64 m1) := by
            obtain ⟨a', z', e, _, h2, h3⟩ := (hms.below hb3 (Nat.le_refl _)).at_ hlt
            cases e
            rw [← hz.out, h2]
            exact h3
          clear hc0 hw2 hb2 hg3
          go_wp2_with fail
          refine (wlast_any hw3).mono ?_
          rintro e w' ⟨rfl, rfl⟩
          go_wp2_with fail
          go_roundw
          case rel => first | exact ⟨k + 1, by omega, by go_num, by rw [hm1.out], by rw [hm1.out]; exact hw3, hb3⟩ | ((repeat apply Exists.intro); exact ⟨⟨k + 1, by omega, by go_num, by rw [hm1.out], by rw [hm1.out]; exact hw3, hb3⟩, rfl⟩)
          case measure => simp [intOf]; omega
        · have hzm3 : z ≤ m := by omega
          have hmx : max m z = m := Int.max_eq_left (by omega)
          rw [hmx] at hsc
          subst hsc
          go_wp2_with fail
          refine (waccept_no hw2 hzm3).mono ?_
          rintro e w' ⟨rfl, rfl⟩
          go_wp2_with fail
          refine (wlast_any hw2).mono ?_
          rintro e w' ⟨rfl, rfl⟩
          go_wp2_with fail
          go_roundw
          case rel => first | exact ⟨k + 1, by omega, by go_num, by rw [hm1.out], by rw [hm1.out]; exact hw2, hb2⟩ | ((repeat apply Exists.intro); exact ⟨⟨k + 1, by omega, by go_num, by rw [hm1.out], by rw [hm1.out]; exact hw2, hb2⟩, rfl⟩)
          case measure => simp [intOf]; omega
    · have hlt' : ¬ (k : Int) < mlen := by omega
      go_wp2_with fail
      refine (ffixed_any wr).mono ?_
      rintro e w2 ⟨rfl, hb2⟩
      have hb3 := hb.trans (hb2.mono hb.size)
      go_wp2_with fail
      go_ret
      exact ⟨rfl, hb3⟩
end Go.Proofs.Ytmmkopdijmplcaa.fwind
