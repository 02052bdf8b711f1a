/-
  The walk of HashJoins: for all lists of texts within the bound the call returns true.
-/
import Derived.Test.YtcllcajkmimgbaaHArgs
namespace Go.Proofs.Ytcllcajkmimgbaa.hjoins
open Go.RowKit Base HH
theorem lists_append (a b : List ByteArray) : lists (a ++ b) = lists a ++ lists b := by unfold lists; rw [List.map_append]
theorem chain_append (l : List UInt8) (a b : List (List UInt8)) : Sha.chain l (a ++ b) = Sha.chain (Sha.chain l a) b := by unfold Sha.chain; rw [List.foldl_append]
set_option maxRecDepth 8000 in
set_option maxHeartbeats 2000000 in
theorem walk (W : World) {link : ByteArray} (hl : short link) {ao bo : Option Addr} {alen acap blen bcap : Nat} {xs ys : List ByteArray} (ha : StrsIn W ao alen xs) (hb : StrsIn W bo blen ys) (hsa : ∀ s ∈ xs, short s) (hsb : ∀ s ∈ ys, short s) (hal : alen ≤ 1048576) (hbl : blen ≤ 1048576) :
    Calls Try.prog 7 #[.string link, .slice ao alen acap, .slice bo blen bcap] W fun e w' => e = .returned (.bool true) ∧ Below W.heap.size W w' := by
  obtain ⟨t1, ht1⟩ : ∃ t, str (Sha.chain link.data.toList (lists xs)) = t := ⟨_, rfl⟩
  obtain ⟨t2, ht2⟩ : ∃ t, str (Sha.chain t1.data.toList (lists ys)) = t := ⟨_, rfl⟩
  have ht3 : str (Sha.chain link.data.toList (lists (xs ++ ys))) = t2 := by
    rw [lists_append, chain_append, ← ht2, ← ht1]
    rfl
  have hst1 : short t1 := by
    have := chTo_short hl (ss := xs) (Nat.le_refl _)
    rw [chTo_all, ht1] at this
    exact this
  have hla := ha.1
  have hlb := hb.1
  replace ht1 := Lib.hid ht1
  replace ht2 := Lib.hid ht2
  replace ht3 := Lib.hid ht3
  go_enter Try.func7, Try.ntmps7
  have hr1 := SRow.empty (base := W.heap.size) W (Nat.le_refl _)
  have hb1 := (Below.refl W.heap.size W).alloc (Nat.le_refl _) (.cells #[] 9)
  have ha1 := ha.below hb1 (Nat.le_refl _)
  go_wp2_with (at_builtin; refine wpList_append_strs rfl (.tmp 8) (.tmp 9) rfl rfl hr1 (by simp) rfl ha1 ?c1 ?_)
  case c1 => simp; omega
  intro v2 w2 hr2 hg2
  have hb2 : Below W.heap.size W w2 := hb1.grown hg2 (by simp) (fun k e => by cases e; exact Nat.le_refl _)
  have hb2' := hb.below hb2 (Nat.le_refl _)
  have hbs2 := hb2.size
  clear hr1 hb1 ha1 hg2
  go_wp2_with (at_builtin; refine wpList_append_strs rfl (.tmp 10) (.tmp 11) rfl rfl hr2 hbs2 rfl hb2' ?c2 ?_)
  case c2 => omega
  intro v3 w3 hr3 hg3
  have hb3 : Below W.heap.size W w3 := hb2.grown hg3 hbs2 (fun k e => (World.ownsRow.lt hr2 k e).1)
  obtain ⟨n3, hn3⟩ : ∃ n, (xs ++ ys).length = n := ⟨_, rfl⟩
  obtain ⟨co, ccap, hv3, _, hp3⟩ := hr3.strs
  have hn3b : n3 ≤ 2097152 := by
    rw [← hn3, List.length_append]
    omega
  rw [hn3] at hv3 hp3
  subst hv3
  replace hn3 := Lib.hid hn3
  replace hla := Lib.hid hla
  replace hlb := Lib.hid hlb
  clear hr2 hb2 hb2' hbs2 hg3 hr3
  go_wp2_with fail
  refine (fixed_any w3).mono ?_
  rintro e w4 ⟨rfl, hb4'⟩
  have hb4 := hb3.trans (hb4'.mono hb3.size)
  have hp4 := hp3.below hb4' (Nat.le_refl _)
  clear hb4' hp3 hb3
  go_wp2_with fail
  (with_reducible refine (chain_v hp4 (by omega) hl (fun s hs => (List.mem_append.1 hs).elim (hsa s) (hsb s)) ht3).mono ?_)
  rintro e w5 ⟨rfl, hb5'⟩
  have hb5 := hb4.trans (hb5'.mono hb4.size)
  clear hb5' hp4 hb4
  go_wp2_with fail
  (with_reducible refine (chain_v (ha.below hb5 (Nat.le_refl _)) (by omega) hl hsa ht1).mono ?_)
  rintro e w6 ⟨rfl, hb6'⟩
  have hb6 := hb5.trans (hb6'.mono hb5.size)
  clear hb6' hb5
  go_wp2_with fail
  (with_reducible refine (chain_v (hb.below hb6 (Nat.le_refl _)) (by omega) hst1 hsb ht2).mono ?_)
  rintro e w7 ⟨rfl, hb7'⟩
  have hb7 := hb6.trans (hb7'.mono hb6.size)
  clear hb7' hb6
  go_wp2_with fail
  go_ret
  exact ⟨rfl, hb7⟩
end Go.Proofs.Ytcllcajkmimgbaa.hjoins
