/-
  The calls of package hash that the document fixes answer as fixed: the call returns true, in whatever memory.
-/
import Derived.Test.YtcllcajkmimgbaaHChain
import Derived.Test.YtcllcajkmimgbaaHClone
namespace Go.Proofs.Ytcllcajkmimgbaa.HH
open Go.RowKit Base
def tAbc : ByteArray := ⟨#[186, 120, 22, 191, 143, 1, 207, 234, 65, 65, 64, 222, 93, 174, 34, 35, 176, 3, 97, 163, 150, 23, 122, 156, 180, 16, 255, 97, 242, 0, 21, 173]⟩
def tJef : ByteArray := ⟨#[91, 220, 193, 70, 191, 96, 117, 78, 106, 4, 36, 38, 8, 149, 117, 199, 90, 0, 63, 8, 157, 39, 57, 131, 157, 236, 88, 185, 100, 236, 56, 67]⟩
theorem sha_abc : str (Sha.sha [97, 98, 99]) = tAbc := by decide +kernel
theorem mac_jef : str (Sha.mac [74, 101, 102, 101] [119, 104, 97, 116, 32, 100, 111, 32, 121, 97, 32, 119, 97, 110, 116, 32, 102, 111, 114, 32, 110, 111, 116, 104, 105, 110, 103, 63]) = tJef := by decide +kernel
theorem sum_v {s t : ByteArray} {w : World} (hs : s.size ≤ 1152921504606846975) (ht : Hid (str (Sha.sha s.data.toList) = t)) : Calls Try.prog 12 #[.string s] w fun e w' => e = .returned (.string t) ∧ Below w.heap.size w w' := by
  rw [← ht.out]
  exact sum_any s w hs
theorem mac_v {s r t : ByteArray} {w : World} (hs : short s) (hr : short r) (ht : Hid (str (Sha.mac s.data.toList r.data.toList) = t)) : Calls Try.prog 14 #[.string s, .string r] w fun e w' => e = .returned (.string t) ∧ Below w.heap.size w w' := by
  rw [← ht.out]
  exact mac_any s r w hs hr
theorem chain_v {link t : ByteArray} {w : World} {ao : Option Addr} {len cap : Nat} {ss : List ByteArray} (hps : StrsIn w ao len ss) (hlm : len ≤ 4611686018427387904) (hl : short link) (hss : ∀ s ∈ ss, short s) (ht : Hid (str (Sha.chain link.data.toList (lists ss)) = t)) :
    Calls Try.prog 16 #[.string link, .slice ao len cap] w fun e w' => e = .returned (.string t) ∧ Below w.heap.size w w' := by
  rw [← ht.out]
  exact chain_any link w hps hlm hl hss
theorem summ_v {w : World} {g : Nat} {l : List UInt8} {t : ByteArray} (h : HashAt w g l) (hln : l.length ≤ 1152921504606846975) (ht : Hid (str (Sha.sha l) = t)) :
    Calls Try.prog 22 #[.pointer (some ⟨g, 0, none⟩)] w fun e w' => e = .returned (.string t) ∧ Below w.heap.size w w' := by
  rw [← ht.out]
  exact summ_any h hln
theorem nil_strs (w : World) : StrsIn w none 0 [] := ⟨rfl, fun k hk => absurd hk (Nat.not_lt_zero k)⟩
theorem c_abc (w : World) : Calls Try.prog 12 #[.string ⟨#[97, 98, 99]⟩] w fun e w' => e = .returned (.string tAbc) ∧ Below w.heap.size w w' := by
  have h := sum_any ⟨#[97, 98, 99]⟩ w (by decide)
  rw [show (⟨#[97, 98, 99]⟩ : ByteArray).data.toList = [97, 98, 99] from rfl, sha_abc] at h
  exact h
theorem c_jef (w : World) : Calls Try.prog 14 #[.string ⟨#[74, 101, 102, 101]⟩, .string ⟨#[119, 104, 97, 116, 32, 100, 111, 32, 121, 97, 32, 119, 97, 110, 116, 32, 102, 111, 114, 32, 110, 111, 116, 104, 105, 110, 103, 63]⟩] w fun e w' => e = .returned (.string tJef) ∧ Below w.heap.size w w' := by
  have h := mac_any ⟨#[74, 101, 102, 101]⟩ ⟨#[119, 104, 97, 116, 32, 100, 111, 32, 121, 97, 32, 119, 97, 110, 116, 32, 102, 111, 114, 32, 110, 111, 116, 104, 105, 110, 103, 63]⟩ w (by decide) (by decide)
  rw [show (⟨#[74, 101, 102, 101]⟩ : ByteArray).data.toList = [74, 101, 102, 101] from rfl, show (⟨#[119, 104, 97, 116, 32, 100, 111, 32, 121, 97, 32, 119, 97, 110, 116, 32, 102, 111, 114, 32, 110, 111, 116, 104, 105, 110, 103, 63]⟩ : ByteArray).data.toList = [119, 104, 97, 116, 32, 100, 111, 32, 121, 97, 32, 119, 97, 110, 116, 32, 102, 111, 114, 32, 110, 111, 116, 104, 105, 110, 103, 63] from rfl, mac_jef] at h
  exact h
theorem c_self {w : World} {g : Nat} (h : HashAt w g [97, 98, 99]) : Calls Try.prog 22 #[.pointer (some ⟨g, 0, none⟩)] w fun e w' => e = .returned (.string tAbc) ∧ Below w.heap.size w w' := by
  have h := summ_any h (by decide)
  rw [sha_abc] at h
  exact h
def tX : ByteArray := str (Sha.sha [120, 0, 0, 0, 0, 0, 0, 0, 0])
theorem c_x0 (w : World) : Calls Try.prog 12 #[.string ⟨#[120, 0, 0, 0, 0, 0, 0, 0, 0]⟩] w fun e w' => e = .returned (.string tX) ∧ Below w.heap.size w w' := by
  have h := sum_any ⟨#[120, 0, 0, 0, 0, 0, 0, 0, 0]⟩ w (by decide)
  rw [show (⟨#[120, 0, 0, 0, 0, 0, 0, 0, 0]⟩ : ByteArray).data.toList = [120, 0, 0, 0, 0, 0, 0, 0, 0] from rfl] at h
  exact h
theorem c_link (w : World) : Calls Try.prog 18 #[.string ⟨#[120]⟩, .string ⟨#[]⟩] w fun e w' => e = .returned (.string tX) ∧ Below w.heap.size w w' := by
  have h := link_any ⟨#[120]⟩ ⟨#[]⟩ w (by decide) (by decide)
  unfold Sha.link at h
  rw [show (⟨#[120]⟩ : ByteArray).data.toList ++ Sha.be8 (⟨#[]⟩ : ByteArray).data.toList.length ++ (⟨#[]⟩ : ByteArray).data.toList = [120, 0, 0, 0, 0, 0, 0, 0, 0] from by decide +kernel] at h
  exact h
theorem c_chain (w : World) : Calls Try.prog 16 #[.string ⟨#[120]⟩, .slice none 0 0] w fun e w' => e = .returned (.string ⟨#[120]⟩) ∧ Below w.heap.size w w' :=
  chain_any ⟨#[120]⟩ w (nil_strs w) (Nat.zero_le _) (by unfold short; decide) (fun s hs => absurd hs (by simp))
set_option maxRecDepth 8000 in
set_option maxHeartbeats 1000000 in
theorem fixed_any (w : World) : Calls Try.prog 11 #[] w fun e w' => e = .returned (.bool true) ∧ Below w.heap.size w w' := by
  go_enter Try.func11, Try.ntmps11
  go_wp2_with fail
  refine (c_abc w).mono ?_
  rintro e w1 ⟨rfl, hb1⟩
  go_wp2_with fail
  refine (c_jef w1).mono ?_
  rintro e w2 ⟨rfl, hb2'⟩
  have hb2 := hb1.trans (hb2'.mono hb1.size)
  clear hb1 hb2'
  go_wp2_with fail
  refine (new_hash w2).mono ?_
  rintro e w3 ⟨rfl, hh3, hb3', hz3⟩
  have hb3 := hb2.trans (hb3'.mono hb2.size)
  have hs2 := hb2.size
  clear hb2 hb3' hz3
  go_wp2_with fail
  refine (write_any hh3 ⟨#[97]⟩ (by decide)).mono ?_
  rintro e w4 ⟨rfl, hh4, hg4⟩
  have hb4 := hb3.grown hg4 hb3.size (fun k e => by injection e with e; omega)
  clear hb3 hg4 hh3
  go_wp2_with fail
  refine (write_any hh4 ⟨#[98, 99]⟩ (by decide)).mono ?_
  rintro e w5 ⟨rfl, hh5, hg5⟩
  have hb5 := hb4.grown hg5 hb4.size (fun k e => by injection e with e; omega)
  change HashAt w5 w2.heap.size [97, 98, 99] at hh5
  clear hb4 hg5 hh4
  have z1 : tAbc.size = 32 := rfl
  have z2 : tJef.size = 32 := rfl
  have p1 : (tAbc.extract 0 4).toList = [186, 120, 22, 191] := by decide +kernel
  have p2 : (tAbc.extract 28 32).toList = [242, 0, 21, 173] := by decide +kernel
  have p3 : (tJef.extract 0 4).toList = [91, 220, 193, 70] := by decide +kernel
  go_wp2_with fail
  refine (c_self hh5).mono ?_
  rintro e w6 ⟨rfl, hb6'⟩
  have hh6 := hh5.below hb6' hh5.lt
  have hb6 := hb5.trans (hb6'.mono hb5.size)
  clear hb5 hb6' hh5
  go_wp2_with fail
  refine (size_any hh6).mono ?_
  rintro e w' ⟨rfl, rfl⟩
  rw [show (([97, 98, 99] : List UInt8).length : Int) = 3 from rfl]
  go_wp2_with fail
  refine (c_chain w6).mono ?_
  rintro e w7 ⟨rfl, hb7'⟩
  have hb7 := hb6.trans (hb7'.mono hb6.size)
  clear hb6 hb7' hh6
  go_wp2_with fail
  refine (c_link w7).mono ?_
  rintro e w8 ⟨rfl, hb8'⟩
  have hb8 := hb7.trans (hb8'.mono hb7.size)
  clear hb7 hb8'
  go_wp2_with fail
  refine (c_x0 w8).mono ?_
  rintro e w9 ⟨rfl, hb9'⟩
  have hb9 := hb8.trans (hb9'.mono hb8.size)
  clear hb8 hb9'
  go_wp2_with fail
  go_ret
  exact ⟨rfl, hb9⟩
end Go.Proofs.Ytcllcajkmimgbaa.HH
