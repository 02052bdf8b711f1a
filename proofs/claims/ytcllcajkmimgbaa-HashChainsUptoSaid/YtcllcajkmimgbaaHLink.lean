/-
  hash.Link: for all texts of no more than 2^58 bytes the call returns the link.
-/
import Derived.Test.YtcllcajkmimgbaaHCalls
namespace Go.Proofs.Ytcllcajkmimgbaa.HH
open Go.RowKit Base
theorem be8_big (n : Nat) : bigTo n 8 8 = Sha.be8 n := rfl
set_option maxHeartbeats 1000000 in
theorem link_any (s r : ByteArray) (w : World) (hs : s.size ≤ 288230376151711743) (hr : r.size ≤ 288230376151711743) : Calls Try.prog 18 #[.string s, .string r] w fun e w' => e = .returned (.string (str (Sha.link s.data.toList r.data.toList))) ∧ Below w.heap.size w w' := by
  have hys : Hid ([] ++ (bigTo r.size 8 8).map bv = (Sha.be8 r.size).map bv) := by
    show _ = _
    rw [List.nil_append, be8_big]
  have h64 : Hid (r.size < 18446744073709551616) := by show _ < _; omega
  have hl8 : (Sha.be8 r.size).length = 8 := by unfold Sha.be8; simp
  have hlk : Hid (Sha.link s.data.toList r.data.toList = Sha.sha (s.data.toList ++ Sha.be8 r.size ++ r.data.toList)) := rfl
  generalize hb8 : Sha.be8 r.size = b8s at *
  replace hb8 := Lib.hid hb8
  go_enter Try.func18, Try.ntmps18
  go_wp2_with fail
  refine (new_hash w).mono ?_
  rintro e w1 ⟨rfl, hh1, hb1, hz1⟩
  go_wp2_with fail
  refine (write_any hh1 s (by simp; omega)).mono ?_
  rintro e w2 ⟨rfl, hh2, hg2⟩
  rw [List.nil_append] at hh2
  have hb2 : Below w.heap.size w w2 := hb1.grown hg2 hb1.size (fun k e => by injection e with e; omega)
  have hw2 := hg2.size
  clear hh1 hg2 hb1
  go_wp2_with fail
  refine (big_v (World.ownsRow_nil _ w2.heap.size _ _) (Nat.le_refl _) r.size 8 (Lib.hid rfl) (Lib.hid rfl) (by omega) (by omega) h64 hys).mono ?_
  rintro e w3 ⟨v3, rfl, ho3, hb3⟩
  have hcv := run_back w3 30 9 5 Try.underlying30 Try.underlying5 Try.underlying9 ho3
  have hh3 := hh2.below hb3 hh2.lt
  have hb4 := hb2.trans (hb3.mono hb2.size)
  clear hh2 hb2 hb3 ho3
  go_wp2_with fail
  refine (write_any hh3 (str b8s) (by rw [str_size, hl8]; show s.size + 8 ≤ _; omega)).mono ?_
  rintro e w5 ⟨rfl, hh5, hg5⟩
  rw [str_toList] at hh5
  have hb5 : Below w.heap.size w w5 := hb4.grown hg5 hb4.size (fun k e => by injection e with e; omega)
  clear hh3 hg5 hb4 hcv
  go_wp2_with fail
  refine (write_any hh5 r (by rw [List.length_append, hl8]; show s.size + 8 + r.size ≤ _; omega)).mono ?_
  rintro e w6 ⟨rfl, hh6, hg6⟩
  have hb6 : Below w.heap.size w w6 := hb5.grown hg6 hb5.size (fun k e => by injection e with e; omega)
  clear hh5 hg6 hb5
  go_wp2_with fail
  refine (summ_any hh6 (by rw [List.length_append, List.length_append, hl8]; show s.size + 8 + r.size ≤ _; omega)).mono ?_
  rintro e w7 ⟨rfl, hb7⟩
  have hb8' := hb6.trans (hb7.mono hb6.size)
  clear hh6 hb7 hb6
  go_wp2_with fail
  go_ret
  exact ⟨by rw [hlk.out, List.append_assoc]; rfl, hb8'⟩
end Go.Proofs.Ytcllcajkmimgbaa.HH
