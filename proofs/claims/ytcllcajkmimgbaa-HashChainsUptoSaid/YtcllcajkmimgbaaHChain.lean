/-
  A list of texts in memory; hash.Chain over it: the call returns the last link.
-/
import Derived.Test.YtcllcajkmimgbaaHMac
import Derived.Test.YtcllcajkmimgbaaHLink
import Derived.Deep.Slices
import Derived.OpenShut
import Derived.SliceStrings
namespace Go.Proofs.Ytcllcajkmimgbaa.HH
open Go.RowKit Base
theorem add_block (a : Addr) (i : Nat) : (a.add i).block = a.block := by unfold Addr.add; split <;> rfl
/-- the slice's texts are ss, in blocks that were there -/
def StrsIn (w : World) (ao : Option Addr) (len : Nat) (ss : List ByteArray) : Prop :=
  ss.length = len ∧ ∀ k, k < len → ∃ a, ao = some a ∧ a.block < w.heap.size ∧ w.cell? (a.add k) = some (.string (ss.getD k ByteArray.empty))
theorem StrsIn.below {w w' : World} {B : Nat} {ao : Option Addr} {len : Nat} {xs : List ByteArray} (h : StrsIn w ao len xs) (hb : Below B w w') (hB : w.heap.size ≤ B) : StrsIn w' ao len xs :=
  ⟨h.1, fun k hk => by
    obtain ⟨a, e, hl, hc⟩ := h.2 k hk
    exact ⟨a, e, by have := hb.size; omega, (hb.cell (p := a.add k) (by rw [add_block]; omega)).trans hc⟩⟩
theorem StrsIn.at_ {w : World} {ao : Option Addr} {len : Nat} {ss : List ByteArray} (h : StrsIn w ao len ss) {k : Nat} (hk : k < len) : ∃ a s, ao = some a ∧ a.block < w.heap.size ∧ ss.getD k ByteArray.empty = s ∧ s ∈ ss ∧ w.cell? (a.add k) = some (.string s) := by
  obtain ⟨a, e, hl, hc⟩ := h.2 k hk
  refine ⟨a, _, e, hl, rfl, ?_, hc⟩
  rw [List.getD_eq_getElem?_getD, List.getElem?_eq_getElem (by rw [h.1]; exact hk)]
  exact List.getElem_mem _
theorem StrsIn.take {w : World} {ao : Option Addr} {len : Nat} {ss : List ByteArray} (h : StrsIn w ao len ss) {m : Nat} (hm : m ≤ len) : StrsIn w ao m (ss.take m) := by
  refine ⟨by rw [List.length_take, h.1]; omega, fun k hk => ?_⟩
  obtain ⟨a, e, hl, hc⟩ := h.2 k (by omega)
  refine ⟨a, e, hl, ?_⟩
  rw [hc]
  congr 2
  rw [List.getD_eq_getElem?_getD, List.getD_eq_getElem?_getD, List.getElem?_take, if_pos hk]
/-- a text is no longer than what the sums bear -/
def short (s : ByteArray) : Prop := s.size ≤ 288230376151711743
def lists (ss : List ByteArray) : List (List UInt8) := ss.map fun s => s.data.toList
/-- the link behind the first k -/
def chTo (link : ByteArray) (ss : List ByteArray) (k : Nat) : ByteArray := str (Sha.chain link.data.toList (lists (ss.take k)))
theorem chTo_zero (link : ByteArray) (ss : List ByteArray) : chTo link ss 0 = link := str_of link
theorem chTo_succ (link : ByteArray) (ss : List ByteArray) {k : Nat} (hk : k < ss.length) {s : ByteArray} (hs : ss.getD k ByteArray.empty = s) : chTo link ss (k + 1) = str (Sha.link (chTo link ss k).data.toList s.data.toList) := by
  unfold chTo lists
  have e : ss[k] = s := by rw [← hs, List.getD_eq_getElem?_getD, List.getElem?_eq_getElem hk]; rfl
  rw [List.take_succ_eq_append_getElem hk, List.map_append, e]
  unfold Sha.chain
  rw [List.foldl_append]
  rfl
theorem chTo_all (link : ByteArray) (ss : List ByteArray) : chTo link ss ss.length = str (Sha.chain link.data.toList (lists ss)) := by
  unfold chTo
  rw [List.take_length]
theorem link_length (a b : List UInt8) : (Sha.link a b).length = 32 := sha_length _
theorem chTo_short {link : ByteArray} {ss : List ByteArray} (h : short link) {k : Nat} (hk : k ≤ ss.length) : short (chTo link ss k) := by
  cases k with
  | zero => rw [chTo_zero]; exact h
  | succ k =>
    rw [chTo_succ link ss (by omega) rfl]
    unfold short
    rw [str_size, link_length]
    decide
theorem link_v {s r t : ByteArray} {w : World} (hs : short s) (hr : short r) (ht : Hid (str (Sha.link s.data.toList r.data.toList) = t)) : Calls Try.prog 18 #[.string s, .string r] w fun e w' => e = .returned (.string t) ∧ Below w.heap.size w w' := by
  rw [← ht.out]
  exact link_any s r w hs hr
set_option maxHeartbeats 1000000 in
theorem chain_any (link : ByteArray) (w : World) {ao : Option Addr} {len cap : Nat} {ss : List ByteArray} (hps : StrsIn w ao len ss) (hlm : len ≤ 4611686018427387904) (hl : short link) (hss : ∀ s ∈ ss, short s) :
    Calls Try.prog 16 #[.string link, .slice ao len cap] w fun e w' => e = .returned (.string (str (Sha.chain link.data.toList (lists ss)))) ∧ Below w.heap.size w w' := by
  have hlen := hps.1
  go_enter Try.func16, Try.ntmps16
  go_wp2_with fail
  go_loopw [0, 9] (fun lv i wr => ∃ k : Nat, k ≤ len ∧ i = .int .i64 k ∧ lv = .string (chTo link ss k) ∧ Below w.heap.size w wr) (fun _ i _ => len - (intOf i).toNat)
  case atStart => exact ⟨0, Nat.zero_le _, rfl, by rw [chTo_zero], Below.refl _ _⟩
  case round =>
    obtain ⟨k, hk, rfl, rfl, hb⟩ := hrel
    by_cases hlt : k < len
    · have hlt' : (k : Int) < len := by omega
      obtain ⟨a, s, rfl, hab, hs, hmem, hc⟩ := (hps.below hb (Nat.le_refl _)).at_ hlt
      have hstep := chTo_succ link ss (by omega) hs
      have hsh := chTo_short hl (ss := ss) (k := k) (by omega)
      have hsr := hss s hmem
      obtain ⟨x, hx⟩ : ∃ x, chTo link ss k = x := ⟨_, rfl⟩
      obtain ⟨y, hy⟩ : ∃ y, chTo link ss (k + 1) = y := ⟨_, rfl⟩
      rw [hx, hy] at hstep
      rw [hx] at hsh ⊢
      replace hy := Lib.hid hy
      replace hx := Lib.hid hx
      have hst := Lib.hid hstep.symm
      clear hstep
      replace hs := Lib.hid hs
      go_wp2_with fail
      refine (link_v hsh hsr hst).mono ?_
      rintro e w1 ⟨rfl, hb1⟩
      have hb2 := hb.trans (hb1.mono hb.size)
      clear hc hb hb1
      go_wp2_with fail
      go_roundw
      case rel => exact ⟨k + 1, by omega, by go_num, by rw [hy.out], hb2⟩
      case measure => simp [intOf]; omega
    · obtain rfl : k = len := by omega
      have hlt' : ¬ (k : Int) < k := by omega
      have hall := chTo_all link ss
      rw [hlen] at hall
      replace hall := Lib.hid hall
      go_wp2_with fail
      go_ret
      exact ⟨by rw [← hall.out]; rfl, hb⟩
end Go.Proofs.Ytcllcajkmimgbaa.HH
