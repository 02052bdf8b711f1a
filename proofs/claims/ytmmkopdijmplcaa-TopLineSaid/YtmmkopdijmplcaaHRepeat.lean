/-
  bytes.Repeat of one byte, 64 times: a new row of 64 such bytes.
-/
import Derived.Test.YtmmkopdijmplcaaHCalls
import Derived.Lib.MakeNoZero
import Derived.Laws.Externs
namespace Go.Proofs.Ytmmkopdijmplcaa.HH
open Go.RowKit Base
set_option maxHeartbeats 1000000 in
theorem mul64_one (w : World) : Calls Try.prog 74 #[.int .u64 1, .int .u64 64] w fun e w' => e = .returned (.tuple #[.int .u64 0, .int .u64 64]) ∧ w = w' := by
  have a1 : bits .and .u64 1 4294967295 = 1 := by decide +kernel
  have a2 : bits .and .u64 64 4294967295 = 64 := by decide +kernel
  have a3 : bits .and .u64 0 4294967295 = 0 := by decide +kernel
  go_enter Try.func74, Try.ntmps74
  go_wp2
  go_ret2
  exact ⟨rfl, rfl⟩
set_option maxHeartbeats 1000000 in
theorem mul_one (w : World) : Calls Try.prog 64 #[.int .u64 1, .int .u64 64] w fun e w' => e = .returned (.tuple #[.int .u64 0, .int .u64 64]) ∧ w = w' := by
  go_enter Try.func64, Try.ntmps64
  go_wp2_with fail
  refine (mul64_one w).mono ?_
  rintro e w' ⟨rfl, rfl⟩
  go_wp2
  go_ret2
  exact ⟨rfl, rfl⟩
set_option maxHeartbeats 400000 in
theorem repeat_any {w : World} {a : Addr} {c : UInt8} (hc : w.cell? a = some (bv c)) : Calls Try.prog 49 #[.slice (some a) 1 1, .int .i64 64] w fun e w' => ∃ g rest, e = .returned (.slice (some ⟨g, 0, none⟩) 64 64) ∧ w.heap.size ≤ g ∧ Row w' g 5 (List.replicate 64 (bv c) ++ rest) ∧ Below w.heap.size w w' := by
  go_enter Try.func49, Try.ntmps49
  go_wp2_with fail
  refine (mul_one w).mono ?_
  rintro e w' ⟨rfl, rfl⟩
  obtain ⟨cs, hrunM, hle, _⟩ := Lib.run_makeNoZero (P := Try.prog) w #[3] 82 5 Try.underlying82 64 (by omega)
  have hcall : (callFunc 65 #[.int .i64 (64 : Int)]).run Try.prog w = .ok (.value (.slice (some ⟨w.heap.size, 0, none⟩) 64 cs.size)) ((w.alloc (.cells cs 5)).drewN 2) := by
    rw [run_callFunc_extern (fn := Try.f65) rfl (by kernel_rfl) (by kernel_rfl) (by kernel_rfl) (e := Extern.BytealgMakeNoZero.makeNoZero #[3] #[82]) (by kernel_rfl)]
    have e : (#[Value.int .i64 (64 : Int)] : Array Value) = #[Value.int .i64 ((64 : Nat) : Int)] := rfl
    rw [e, hrunM]
    rfl
  have hRg : Row ((w.alloc (.cells cs 5)).drewN 2) w.heap.size 5 cs.toList := heap_alloc_new w _
  have hbg : Below w.heap.size w ((w.alloc (.cells cs 5)).drewN 2) := below_drewN ((Below.refl _ _).alloc (Nat.le_refl _) _) 2
  have hal : a.block < w.heap.size := World.block_lt_of_cell? w _ hc
  have hsrc : ∀ j v, [bv c][j]? = some v → ((w.alloc (.cells cs 5)).drewN 2).cell? (a.add j) = some v := fun j v hj => by
    have hj0 : j < 1 := (List.getElem?_eq_some_iff.1 hj).1
    obtain rfl : j = 0 := by omega
    simp at hj
    subst hj
    have e0 : a.add 0 = a := by
      unfold Addr.add
      split <;> simp_all
    rw [e0]
    exact (hbg.cell hal).trans hc
  have hfit : 0 + [bv c].length ≤ cs.toList.length := by simp; omega
  have hlen : 64 ≤ cs.toList.length := by simpa using hle
  clear hrunM
  generalize hL : cs.toList = L at *
  replace hL := Lib.hid hL
  go_wp2_with (refine wpList_copy_splice rfl (.tmp 58) (.tmp 59) 82 82 rfl 5 Try.underlying82 (by kernel_rfl) _ _ _ _ _ _ rfl rfl w.heap.size 0 L 5 hRg [bv c] rfl (fun _ => ⟨rfl, _, rfl, hsrc⟩) hfit (one_cell _ rfl) w.heap.size w hbg (Nat.le_refl _) ?_)
  intro w2 hg2 hb2
  have hR2 : Row w2 w.heap.size 5 (splice L 0 [bv c]) := hg2.out
  have hlen2 : 64 ≤ (splice L 0 [bv c]).length := by rw [length_splice _ _ _ hfit]; exact hlen
  have hat : ∀ i, i < 1 → (splice L 0 [bv c])[i]? = some (bv c) := fun i hi => by
    obtain rfl : i = 0 := by omega
    rfl
  clear hg2 hRg hbg hsrc hfit hlen
  generalize splice L 0 [bv c] = L2 at *
  go_wp2_with fail
  go_loopw [10] (fun bp wr => ∃ (k : Nat) (cur : List Value), 1 ≤ k ∧ k ≤ 64 ∧ bp = .int .i64 k ∧ Row wr w.heap.size 5 cur ∧ 64 ≤ cur.length ∧ (∀ i, i < k → cur[i]? = some (bv c)) ∧ Below w.heap.size w wr) (fun bp _ => 64 - (intOf bp).toNat)
  case atStart => exact ⟨1, L2, Nat.le_refl _, by omega, rfl, hR2, hlen2, hat, hb2⟩
  case round =>
    clear hR2 hlen2 hat hb2
    obtain ⟨k, cur, hk1, hk64, rfl, hR, hlen, hat, hb⟩ := hrel
    by_cases hlt : k < 64
    · have hlt' : (k : Int) < 64 := by omega
      have hk0 : (0 : Int) ≤ k := by omega
      obtain ⟨m, hm⟩ : ∃ m, Nat.min k (64 - k) = m := ⟨_, rfl⟩
      have hm1 : m ≤ k := by rw [← hm]; exact Nat.min_le_left _ _
      have hm2 : m ≤ 64 - k := by rw [← hm]; exact Nat.min_le_right _ _
      have hm3 : 0 < m := by rw [← hm]; exact Nat.lt_min.2 ⟨by omega, by omega⟩
      have hcl : (List.replicate m (bv c)).length = m := List.length_replicate
      have hsrc : ∀ j v, (List.replicate m (bv c))[j]? = some v → wr.drew.cell? ((⟨w.heap.size, 0, none⟩ : Addr).add j) = some v := fun j v hj => by
        have hj0 : j < m := by have := (List.getElem?_eq_some_iff.1 hj).1; rw [hcl] at this; exact this
        rw [Addr.add_mid, Nat.zero_add]
        refine hR.drew.cell ?_
        rw [hat j (by omega), ← hj, List.getElem?_replicate, if_pos hj0]
      have hone : ∀ v ∈ List.replicate m (bv c), v.oneCell' = true := fun v hv => by
        obtain rfl := (List.mem_replicate.1 hv).2
        rfl
      have hfit : k + (List.replicate m (bv c)).length ≤ cur.length := by rw [hcl]; omega
      have hn : (List.replicate m (bv c)).length = Nat.min k (64 - k) := by rw [hcl, hm]
      have hne : ¬ (64 = k) := by omega
      have hle64 : (k : Int) ≤ 64 := by omega
      have hmn : min (k : Int) 64 = (k : Int) := by omega
      obtain ⟨cs', hcs'⟩ : ∃ cs', List.replicate m (bv c) = cs' := ⟨_, rfl⟩
      rw [hcs'] at hsrc hone hfit hn hcl
      replace hcs' := Lib.hid hcs'
      replace hm := Lib.hid hm
      replace hcl := Lib.hid hcl
      replace hn := Lib.hid hn
      go_wp2_with fail
      go_region_law (refine step_copy_splice rfl (.tmp 70) (.tmp 73) 82 82 rfl 5 Try.underlying82 (by kernel_rfl) (some ⟨w.heap.size, k, none⟩) (some ⟨w.heap.size, 0, none⟩) (64 - k) (64 - k) k 64 (by kernel_rfl) (by kernel_rfl) w.heap.size k cur 5 hR.drew cs' hn.out (fun _ => ⟨rfl, _, rfl, hsrc⟩) hfit hone w.heap.size w hb.drew (Nat.le_refl _) ?_; intro w3 hg3 hb3)
      have hw : IntKind.i64.wrap ((k : Int) + (cs'.length : Int)) = ((k + m : Nat) : Int) := by
        rw [hcl.out, IntWalk.i64_in _ (by omega)]
        rfl
      rw [hw]
      simp only [Act.put, List.getElem_toArray, List.getElem_cons_succ, List.getElem_cons_zero, List.setIfInBounds_toArray, List.set_cons_succ, List.set_cons_zero]
      have hR3 : Row w3 w.heap.size 5 (splice cur k cs') := hg3.out
      have hlen3 : 64 ≤ (splice cur k cs').length := by rw [length_splice _ _ _ hfit]; exact hlen
      have hat3 : ∀ i, i < k + m → (splice cur k cs')[i]? = some (bv c) := fun i hi => by
        have e : (splice cur k cs')[i]? = ((splice cur k cs').take (k + cs'.length))[i]? := by
          rw [List.getElem?_take, if_pos (by rw [hcl.out]; exact hi)]
        rw [e, splice_take _ _ _ hfit]
        by_cases hik : i < k
        · rw [List.getElem?_append_left (by rw [List.length_take]; omega), List.getElem?_take, if_pos hik]
          exact hat i hik
        · rw [List.getElem?_append_right (by rw [List.length_take]; omega), ← hcs'.out, List.getElem?_replicate, if_pos (by rw [List.length_take]; omega)]
      clear hg3 hR hb hsrc hone hfit hn
      go_wp2_with fail
      go_roundw
      case rel => first | exact ⟨k + m, _, by omega, by omega, rfl, hR3, hlen3, hat3, hb3⟩ | ((repeat apply Exists.intro); exact ⟨⟨k + m, _, by omega, by omega, rfl, hR3, hlen3, hat3, hb3⟩, rfl⟩)
      case measure => simp [intOf]; omega
    · obtain rfl : k = 64 := by omega
      clear hlt
      have hsplit : List.replicate 64 (bv c) ++ cur.drop 64 = cur := by
        have e : cur.take 64 = List.replicate 64 (bv c) := by
          apply List.ext_getElem?
          intro i
          rw [List.getElem?_take, List.getElem?_replicate]
          by_cases hi : i < 64
          · rw [if_pos hi, if_pos hi]; exact hat i hi
          · rw [if_neg hi, if_neg hi]
        rw [← e]
        exact List.take_append_drop 64 cur
      rw [← hsplit] at hR
      go_wp2_with fail
      go_ret
      exact ⟨_, _, rfl, Nat.le_refl _, hR, hb⟩
end Go.Proofs.Ytmmkopdijmplcaa.HH
