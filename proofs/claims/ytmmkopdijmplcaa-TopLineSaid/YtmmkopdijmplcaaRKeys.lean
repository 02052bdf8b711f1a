/-
  Primes, Keys, four and ror of the document's hash: the first primes; the numbers K; a number as four bytes; a number turned.
-/
import Derived.Test.YtmmkopdijmplcaaRRoot
import Derived.Maps.AppendAt
set_option linter.unusedVariables false
set_option maxRecDepth 100000
namespace Go.Proofs.Ytmmkopdijmplcaa.RH
open Go.RowKit Base HH
theorem infoU32 : (Try.prog.info? 117).map (fun i => (i.zero, i.size, i.bytes)) = some (some (.int .u32 0), 1, 4) := by kernel_rfl
set_option maxHeartbeats 1000000 in
theorem rror_any (x : BitVec 32) (n : Nat) (h0 : 0 < n) (h1 : n < 32) (w : World) : Calls Try.prog 83 #[.int .u32 (x.toNat : Int), .int .i64 (n : Int)] w fun e w' => e = .returned (.int .u32 ((Sha.ror x n).toNat : Int)) ∧ ∃ m, w' = w.drewN m := by
  have hx := x.isLt
  have a1 : 0 ≤ 32 - (n : Int) := by omega
  have a2 : 32 - (n : Int) < 32 := by omega
  have a3 : (0 : Int) < n := by omega
  have a4 : (n : Int) < 32 := by omega
  have a5 : (0 : Int) ≤ n := by omega
  have a6 : IntKind.i64.wrap (32 - (n : Int)) = 32 - (n : Int) := IntWalk.i64_in _ (by omega)
  have a7 : (32 - (n : Int)).toNat = 32 - n := by omega
  have e : bits .or .u32 ((x.toNat : Int) / 2 ^ n) ((x.toNat : Int) * 2 ^ (32 - n) % 4294967296) = ((Sha.ror x n).toNat : Int) := by
    rw [x32_shl, x32_shr, x32_or]
    rfl
  go_enter Try.func83, Try.ntmps83
  go_wp2_with fail
  go_quiet (fail)
  go_wp2_with fail
  go_ret
  exact ⟨rfl, _, rfl⟩
theorem w4_is (x : BitVec 32) : [Value.int .u8 ((x.toNat : Int) / 16777216), .int .u8 ((x.toNat : Int) / 65536 % 256), .int .u8 ((x.toNat : Int) / 256 % 256), .int .u8 ((x.toNat : Int) % 256)] = (Sha.w4 x).map bv := by
  rw [← w4_big]
  show _ = [bv (b8 x.toNat 3), bv (b8 x.toNat 2), bv (b8 x.toNat 1), bv (b8 x.toNat 0)]
  rw [bv_b8, bv_b8, bv_b8, bv_b8]
  have hx := x.isLt
  congr 2
  · show (x.toNat : Int) / 16777216 = (x.toNat : Int) / 16777216 % 256
    omega
  · show [_, _] = [Value.int .u8 ((x.toNat : Int) / 256 % 256), Value.int .u8 ((x.toNat : Int) / 1 % 256)]
    rw [Int.ediv_one]
set_option maxHeartbeats 1000000 in
theorem four_any (x : BitVec 32) (w : World) : Calls Try.prog 82 #[.int .u32 (x.toNat : Int)] w fun e w' => e = .returned (.slice (some ⟨w.heap.size, 0, none⟩) 4 4) ∧ Row w' w.heap.size 5 ((Sha.w4 x).map bv) ∧ Below w.heap.size w w' := by
  go_enter Try.func82, Try.ntmps82
  have hR : Hid (Row (w.alloc (.cells #[.int .u8 ((x.toNat : Int) / 16777216), .int .u8 ((x.toNat : Int) / 65536 % 256), .int .u8 ((x.toNat : Int) / 256 % 256), .int .u8 ((x.toNat : Int) % 256)] 5)) w.heap.size 5 ((Sha.w4 x).map bv)) := by
    show Row _ _ _ _
    rw [← w4_is]
    exact Row.new _ _ _
  go_wp2_with fail
  go_ret
  exact ⟨rfl, hR.out, (Below.refl _ _).alloc (Nat.le_refl _) _⟩
/-- so far no divisor among the first i -/
def allP (p i : Nat) : Bool := (primes.take i).all fun q => p % q != 0
theorem allP_succ (p : Nat) {i : Nat} (h : i < 64) : allP p (i + 1) = (allP p i && (p % primes.getD i 0 != 0)) := by
  unfold allP
  rw [List.take_succ_eq_append_getElem (by rw [primes_length]; exact h), List.all_append, getD_is (by rw [primes_length]; exact h)]
  simp
/-- a slice of n digits has been returned -/
def PrimesPost (n : Nat) (w : World) (e : Ending) (w' : World) : Prop := ∃ g cap, e = .returned (.slice (some ⟨g, 0, none⟩) n cap) ∧ w.heap.size ≤ g ∧ DigIn w' ⟨g, 0, none⟩ n (primes.take n) ∧ Below w.heap.size w w'
set_option maxHeartbeats 4000000 in
theorem primes_any {w : World} {n : Nat} (hn : n ≤ 64) (hn1 : 1 ≤ n) :
    Calls Try.prog 77 #[.int .i64 n] w (PrimesPost n w) := by
  obtain ⟨i0, hi, hz0, hz1, hz2⟩ := info_parts infoU64
  have hc2 := cnt_two
  have hc312 := Lib.hid cnt_end
  have ho0 : (w.alloc (.cells #[] 111)).ownsRow w.heap.size 111 1 (.slice (some ⟨w.heap.size, 0, none⟩) 0 0) (cnt 2) ((primes.take (cnt 2)).map u64c) := by
    rw [hc2]
    exact World.ownsRow_made w #[] 0 (Nat.le_refl _) (Nat.zero_le _) rfl
  have hb0 := (Below.refl w.heap.size w).alloc (Nat.le_refl _) (.cells #[] 111)
  have hcn : cnt 2 ≤ n := by omega
  replace hc2 := Lib.hid hc2
  go_enter Try.func77, Try.ntmps77
  go_wp2_with fail
  go_loopw [3, 4, 5, 6] (fun v vp _ _ wr => ∃ p : Nat, 2 ≤ p ∧ p ≤ 312 ∧ cnt p ≤ n ∧ vp = .int .u64 p ∧ wr.ownsRow w.heap.size 111 1 v (cnt p) ((primes.take (cnt p)).map u64c) ∧ Below w.heap.size w wr) (fun _ vp _ _ _ => 312 - (intOf vp).toNat)
  case atStart => exact ⟨2, by omega, by omega, hcn, rfl, ho0, hb0⟩
  case round =>
    clear ho0 hb0 hcn
    obtain ⟨p, hp2, hp312, hcn, rfl, ho, hb⟩ := hrel
    have hbs := hb.size
    obtain ⟨m, hm⟩ : ∃ m, cnt p = m := ⟨_, rfl⟩
    have hm64 := cnt_le p
    rw [hm] at hcn ho hm64
    obtain ⟨ao, cap, rfl⟩ : ∃ ao cap, u3 = .slice ao m cap := by
      rcases ho.2 with ⟨hv, h0⟩ | ⟨g, c, cur, hv, _⟩
      · subst h0
        exact ⟨none, 0, hv⟩
      · exact ⟨_, c, hv⟩
    by_cases hlt : m < n
    · have hlt' : (m : Int) < n := by omega
      have hp311 : p < 312 := by
        rcases Nat.lt_or_ge p 312 with h | h
        · exact h
        · obtain rfl : p = 312 := by omega
          have := hc312.out
          omega
      obtain ⟨s1, s2, s3⟩ := cnt_step p hp311 hp2
      have hisP : isP p = allP p m := by unfold isP allP; rw [hm]
      rw [hm, hisP] at s1 s3
      replace s1 := Lib.hid s1
      replace s2 := Lib.hid s2
      replace s3 := Lib.hid s3
      replace hisP := Lib.hid hisP
      replace hm := Lib.hid hm
      have ho1 := ho
      go_wp2_with fail
      go_loop [5, 6] (fun vb vi => ∃ i : Nat, i ≤ m ∧ vi = .int .i64 i ∧ vb = .bool (allP p i)) (fun _ vi => m - (intOf vi).toNat)
      case atStart => exact ⟨0, Nat.zero_le _, rfl, rfl⟩
      case round =>
        obtain ⟨i, him, rfl, rfl⟩ := hrel
        by_cases hil : i < m
        · have hil' : (i : Int) < m := by omega
          obtain ⟨g, rfl⟩ : ∃ g, ao = some ⟨g, 0, none⟩ := by
            rcases ho.2 with ⟨_, h0⟩ | ⟨g, c, cur, hv, _⟩
            · omega
            · injection hv with h1
              exact ⟨g, h1⟩
          have cq : wr.cell? ⟨g, i, none⟩ = some (.int .u64 (primes.getD i 0 : Nat)) := by
            have := ho.cells (g := g) rfl i (u64c (primes.getD i 0)) (by
              rw [List.getElem?_map, List.getElem?_take, if_pos hil, List.getElem?_eq_getElem (by rw [primes_length]; omega), getD_is (by rw [primes_length]; omega)]
              rfl)
            rw [Addr.add_mid, Nat.zero_add] at this
            exact this
          have hq2 := (primes_low i (by omega)).1
          have hq3 := (primes_low i (by omega)).2
          have hsc := allP_succ p (i := i) (by omega)
          generalize primes.getD i 0 = q at *
          obtain ⟨A, hA⟩ : ∃ A, allP p i = A := ⟨_, rfl⟩
          obtain ⟨A1, hA1⟩ : ∃ A, allP p (i + 1) = A := ⟨_, rfl⟩
          rw [hA, hA1] at hsc
          rw [hA]
          obtain ⟨M, hM⟩ : ∃ M, (p % q != 0) = M := ⟨_, rfl⟩
          have hMi : (((p : Int) % (q : Int)) != 0) = M := by
            rw [← hM, Bool.eq_iff_iff, bne_iff_ne, bne_iff_ne]
            omega
          rw [hM] at hsc
          have hq0 : ¬ ((q : Int) = 0) := by omega
          have hq0' : ((q : Int) == 0) = false := by rw [beq_eq_false_iff_ne]; omega
          have hqp : (0 : Int) < q := by omega
          replace hA := Lib.hid hA
          replace hA1 := Lib.hid hA1
          replace hsc := Lib.hid hsc
          replace hM := Lib.hid hM
          clear ho
          cases A with
          | true =>
            go_wp2_with fail
            go_round
            case rel => exact ⟨i + 1, by omega, by go_num, by rw [hA1.out, hsc.out, Bool.true_and]⟩
            case measure => simp [intOf] <;> omega
          | false =>
            go_wp2_with fail
            go_round
            case rel => exact ⟨i + 1, by omega, by go_num, by rw [hA1.out, hsc.out, Bool.false_and]⟩
            case measure => simp [intOf] <;> omega
        · obtain rfl : i = m := by omega
          have hil' : ¬ (i : Int) < i := by omega
          obtain ⟨A, hA⟩ : ∃ A, allP p i = A := ⟨_, rfl⟩
          rw [hA]
          have t1 := s1.out
          have t2 := s2.out
          have t3 := s3.out
          rw [hA] at t1 t3
          replace hA := Lib.hid hA
          have hpu : (p : Int) + 1 < 18446744073709551616 := by omega
          cases A with
          | true =>
            rw [if_pos rfl] at t1 t3
            replace t1 := Lib.hid t1
            replace t3 := Lib.hid t3
            go_wp2_with (at_builtin; refine wpList_append_own _ rfl (.tmp 31) (.tmp 33) 134 rfl w.heap.size 111 i0 (.int .u64 0) 1 8 Try.underlying134 hi hz0 hz1 hz2 rfl (by decide) _ _ _ rfl (ho1.alloc _) ⟨wr.heap.size, 0, none⟩ 1 1 [.int .u64 (p : Int)] rfl rfl ?c1 ?c2 ?c3 ?c4 ?c5 ?_)
            case c2 => rfl
            case c3 => unfold maxLen; omega
            case c4 => omega
            case c5 => omega
            intro v' w1 ho' hg' _
            have hb' : Below w.heap.size w w1 := (hb.alloc hbs _).grown hg' (by simp; omega) (fun g hg => (ho1.lt g hg).1)
            have ho2 : w1.ownsRow w.heap.size 111 1 v' (cnt (p + 1)) ((primes.take (cnt (p + 1))).map u64c) := by
              rw [← t1.out, t3.out, List.map_append, List.map_take]
              exact ho'
            clear ho1 ho hg' ho' hb
            go_wp2_with fail
            go_roundw
            case rel => first | exact ⟨p + 1, by omega, by omega, by rw [t3.out]; omega, by go_num, ho2, hb'⟩ | ((repeat apply Exists.intro); exact ⟨⟨p + 1, by omega, by omega, by rw [t3.out]; omega, by go_num, ho2, hb'⟩, rfl⟩)
            case measure => simp [intOf]; omega
          | false =>
            rw [if_neg (by decide)] at t1 t3
            have ho2 : wr.ownsRow w.heap.size 111 1 (.slice ao i cap) (cnt (p + 1)) ((primes.take (cnt (p + 1))).map u64c) := by
              rw [t3]
              exact ho1
            replace t1 := Lib.hid t1
            replace t3 := Lib.hid t3
            clear ho1 ho
            go_wp2_with fail
            go_roundw
            case rel => first | exact ⟨p + 1, by omega, by omega, by rw [t3.out]; omega, by go_num, ho2, hb⟩ | ((repeat apply Exists.intro); exact ⟨⟨p + 1, by omega, by omega, by rw [t3.out]; omega, by go_num, ho2, hb⟩, rfl⟩)
            case measure => simp [intOf]; omega
    · obtain rfl : m = n := by omega
      have hlt' : ¬ (m : Int) < m := by omega
      replace hm := Lib.hid hm
      obtain ⟨g, rfl⟩ : ∃ g, ao = some ⟨g, 0, none⟩ := by
        rcases ho.2 with ⟨_, h0⟩ | ⟨g, c, cur, hv, _⟩
        · omega
        · injection hv with h1
          exact ⟨g, h1⟩
      have hD : DigIn wr ⟨g, 0, none⟩ m (primes.take m) := ⟨by rw [List.length_take, primes_length]; omega, (ho.lt g rfl).2, fun k hk => by
        refine ho.cells (g := g) rfl k _ ?_
        rw [List.getElem?_map, List.getElem?_eq_getElem (by rw [List.length_take, primes_length]; omega), getD_is (by rw [List.length_take, primes_length]; omega)]
        rfl⟩
      go_wp2_with fail
      go_ret
      exact ⟨g, cap, rfl, (ho.lt g rfl).1, hD, hb⟩
end Go.Proofs.Ytmmkopdijmplcaa.RH
