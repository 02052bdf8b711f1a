/-
  The walk of HashChains: for all texts and lists of texts within the bound the call returns true.
-/
import Derived.Test.YtcllcajkmimgbaaRLink
set_option linter.unusedVariables false
namespace Go.Proofs.Ytcllcajkmimgbaa.hchains
open Go.RowKit Base HH RH
set_option maxRecDepth 8000 in
set_option maxHeartbeats 1000000 in
theorem walk (W : World) {link : ByteArray} (hl : link.size ≤ 10000000) {ao : Option Addr} {alen acap : Nat} {xs : List ByteArray} (ha : StrsIn W ao alen xs) (hsa : ∀ s ∈ xs, s.size ≤ 10000000) (hla : alen ≤ 4611686018427387904) :
    Calls Try.prog 5 #[.string link, .slice ao alen acap] W fun e w' => e = .returned (.bool true) ∧ Below W.heap.size W w' := by
  obtain ⟨t1, ht1⟩ : ∃ t, str (Sha.chain link.data.toList (lists xs)) = t := ⟨_, rfl⟩
  obtain ⟨t2, ht2⟩ : ∃ t, str (Sha.link link.data.toList link.data.toList) = t := ⟨_, rfl⟩
  have hsl : short link := by unfold short; omega
  have hsx : ∀ s ∈ xs, short s := fun s hs => by have := hsa s hs; unfold short; omega
  have q1 : (t1.toList == t1.toList) = true := beq_self_eq_true _
  have q2 : (t2.toList == t2.toList) = true := beq_self_eq_true _
  replace ht1 := Lib.hid ht1
  replace ht2 := Lib.hid ht2
  go_enter Try.func5, Try.ntmps5
  go_wp2_with fail
  refine (fixed_any W).mono ?_
  rintro e w1 ⟨rfl, hb1⟩
  have ha1 := ha.below hb1 (Nat.le_refl _)
  go_wp2_with fail
  (with_reducible refine (chain_v ha1 hla hsl hsx ht1).mono ?_)
  rintro e w2 ⟨rfl, hb2'⟩
  have hb2 := hb1.trans (hb2'.mono hb1.size)
  have ha2 := ha.below hb2 (Nat.le_refl _)
  clear hb1 hb2' ha1
  go_wp2_with fail
  (with_reducible refine (rchain_any link _ ha2 hla hl hsa ht1).mono ?_)
  rintro e w3 ⟨rfl, hb3'⟩
  have hb3 := hb2.trans (hb3'.mono hb2.size)
  clear hb2 hb3' ha2
  go_wp2_with fail
  (with_reducible refine (link_v hsl hsl ht2).mono ?_)
  rintro e w4 ⟨rfl, hb4'⟩
  have hb4 := hb3.trans (hb4'.mono hb3.size)
  clear hb3 hb4'
  go_wp2_with fail
  (with_reducible refine (rlink_any hl hl ht2).mono ?_)
  rintro e w5 ⟨rfl, hb5'⟩
  have hb5 := hb4.trans (hb5'.mono hb4.size)
  clear hb4 hb5'
  go_wp2_with fail
  go_ret
  exact ⟨rfl, hb5⟩
end Go.Proofs.Ytcllcajkmimgbaa.hchains
