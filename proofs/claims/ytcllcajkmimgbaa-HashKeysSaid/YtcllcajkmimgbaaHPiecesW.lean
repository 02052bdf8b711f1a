/-
  The walk of HashPieces: for every list of texts within the bound the call returns true.
-/
import Derived.Test.YtcllcajkmimgbaaHArgs
import Derived.Test.YtcllcajkmimgbaaHCutsW
import Derived.Test.YtcllcajkmimgbaaHLinksW
import Derived.Deep.RegionHeld3
import Derived.Lib.AppendStr
namespace Go.Proofs.Ytcllcajkmimgbaa.hpieces
open Go.RowKit Base HH hcuts hlinks
open Go.Lib (wpList_append_own_string)
/-- the first k, one behind the other -/
def pcs (ms : List ByteArray) (k : Nat) : List UInt8 := (lists (ms.take k)).flatten
theorem pcs_succ (ms : List ByteArray) {k : Nat} (hk : k < ms.length) {m : ByteArray} (hm : ms.getD k ByteArray.empty = m) : pcs ms (k + 1) = pcs ms k ++ m.data.toList := by
  unfold pcs lists
  have e : ms[k] = m := by rw [← hm, List.getD_eq_getElem?_getD, List.getElem?_eq_getElem hk]; rfl
  rw [List.take_succ_eq_append_getElem hk, List.map_append, e, List.flatten_append]
  simp
theorem pcs_length (ms : List ByteArray) (k : Nat) : (pcs ms k).length ≤ tot ms := by
  unfold pcs
  rw [flat_length]
  exact tot_take ms k
abbrev other : ByteArray := ⟨#[111, 116, 104, 101, 114]⟩
theorem owned_grown {w w1 : World} {B n : Nat} {v : Value} {xs : List Value} {row : Option Nat} (h : w.ownsRow B 5 1 v n xs) (hg : w.grownBy w1 row) (hne : ∀ g, v.ownBlock = some g → row ≠ some g) : w1.ownsRow B 5 1 v n xs := by
  refine ⟨h.1, ?_⟩
  rcases h.2 with h1 | ⟨g, c, cur, hv, hb, hh, hr⟩
  · exact .inl h1
  · refine .inr ⟨g, c, cur, hv, hb, ?_, hr⟩
    rw [hg.block g (Array.getElem?_eq_some_iff.1 hh).1 (fun e => hne g (by rw [hv]; rfl) e.symm)]
    exact hh
theorem owned_shape {w : World} {B n : Nat} {v : Value} {xs : List Value} (h : w.ownsRow B 5 1 v n xs) : ∃ ao cap, v = .slice ao n cap := by
  rcases h.2 with ⟨hv, h0⟩ | ⟨g, c, cur, hv, _⟩
  · subst h0
    exact ⟨none, 0, hv⟩
  · exact ⟨_, c, hv⟩
/-- sums, in whatever world that has what this one has -/
theorem summ_b {w : World} {g : Nat} {l : List UInt8} {t : ByteArray} (h : HashAt w g l) (hln : l.length ≤ 1152921504606846975) (ht : Hid (str (Sha.sha l) = t)) (w' : World) (hb : Below w.heap.size w w') :
    Calls Try.prog 22 #[.pointer (some ⟨g, 0, none⟩)] w' fun e w'' => e = .returned (.string t) ∧ Below w.heap.size w w'' :=
  (summ_v (h.below hb h.lt) hln ht).mono fun _ _ ⟨he, hx⟩ => ⟨he, hb.trans (hx.mono hb.size)⟩
theorem sum_b {w : World} {s t : ByteArray} (hs : s.size ≤ 1152921504606846975) (ht : Hid (str (Sha.sha s.data.toList) = t)) (w' : World) (hb : Below w.heap.size w w') :
    Calls Try.prog 12 #[.string s] w' fun e w'' => e = .returned (.string t) ∧ Below w.heap.size w w'' :=
  (sum_v hs ht).mono fun _ _ ⟨he, hx⟩ => ⟨he, hb.trans (hx.mono hb.size)⟩
theorem size_b {w : World} {g : Nat} {l : List UInt8} (h : HashAt w g l) {n : Int} (hn : Hid ((l.length : Int) = n)) (w' : World) (hb : Below w.heap.size w w') : Calls Try.prog 23 #[.pointer (some ⟨g, 0, none⟩)] w' fun e w'' => e = .returned (.int .i64 n) ∧ w' = w'' :=
  size_v (h.below hb h.lt) hn
theorem back_b {w : World} {B n : Nat} {v : Value} {l : List UInt8} (h : w.ownsRow B 5 1 v n (l.map bv)) (w' : World) (hb : Below w.heap.size w w') : (convert 30 9 v).run Try.prog w' = .ok (.string (str l)) w' :=
  run_back w' 30 9 5 Try.underlying30 Try.underlying5 Try.underlying9 (owned_keep h hb)
set_option maxRecDepth 8000 in
set_option maxHeartbeats 4000000 in
theorem walk (W : World) {mo : Option Addr} {mlen mcap : Nat} {ms : List ByteArray} (hms : StrsIn W mo mlen ms) (hb : tot ms ≤ 4194304) (hml : mlen ≤ 4194304) :
    Calls Try.prog 10 #[.slice mo mlen mcap] W fun e w' => e = .returned (.bool true) ∧ Below W.heap.size W w' := by
  obtain ⟨i0, hi, hz0, hz1, hz2⟩ := info_parts infoU8
  go_enter Try.func10, Try.ntmps10
  go_wp2_with fail
  refine (new_hash W).mono ?_
  rintro e w1 ⟨rfl, ha1, hb1, hz1'⟩
  obtain ⟨ga, hga⟩ : ∃ g, W.heap.size = g := ⟨_, rfl⟩
  have hgaW : W.heap.size ≤ ga := by omega
  rw [hga] at ha1 ⊢
  replace hga := Lib.hid hga
  clear hz1'
  go_wp2_with fail
  refine (fixed_any w1).mono ?_
  rintro e w3 ⟨rfl, hb3'⟩
  have ha3 := ha1.below hb3' ha1.lt
  have hb3 := hb1.trans (hb3'.mono hb1.size)
  clear ha1 hb3' hb1
  go_wp2_with fail
  have hgl := ha3.lt
  have ho4 : (w3.alloc (.cells #[] 5)).ownsRow (ga + 1) 5 1 (.slice (some ⟨w3.heap.size, 0, none⟩) 0 0) 0 ((pcs ms 0).map bv) := World.ownsRow_made w3 #[] 0 (by omega) (Nat.zero_le _) rfl
  have hb4 := hb3.alloc hb3.size (.cells #[] 5)
  have ha4 : HashAt (w3.alloc (.cells #[] 5)) ga (pcs ms 0) := ha3.below ((Below.refl w3.heap.size w3).alloc (Nat.le_refl _) _) hgl
  clear ha3 hb3 hgl
  go_loopw [4, 5] (fun v i wr => ∃ k : Nat, k ≤ mlen ∧ i = .int .i64 k ∧ wr.ownsRow (ga + 1) 5 1 v (pcs ms k).length ((pcs ms k).map bv) ∧ HashAt wr ga (pcs ms k) ∧ Below W.heap.size W wr) (fun _ i _ => mlen - (intOf i).toNat)
  case atStart => exact ⟨0, Nat.zero_le _, rfl, ho4, ha4, hb4⟩
  case round =>
    clear ho4 ha4 hb4
    obtain ⟨k, hk, rfl, ho, ha, hbl⟩ := hrel
    have hml' := hms.1
    by_cases hlt : k < mlen
    · have hlt' : (k : Int) < mlen := by omega
      obtain ⟨a, m, rfl, hab, hm, hmem, hc⟩ := hms.at_ hlt
      have hx : Hid (pcs ms k ++ m.data.toList = pcs ms (k + 1)) := (pcs_succ ms (by omega) hm).symm
      have hl1 := pcs_length ms k
      have hl2 := pcs_length ms (k + 1)
      have hmt := tot_mem hmem
      replace hm := Lib.hid hm
      replace hml' := Lib.hid hml'
      have hms' := hms
      obtain ⟨l0, hl0⟩ : ∃ l, pcs ms k = l := ⟨_, rfl⟩
      obtain ⟨l1, hl1e⟩ : ∃ l, pcs ms (k + 1) = l := ⟨_, rfl⟩
      rw [hl0] at hx hl1 ho ha
      rw [hl1e] at hx hl2
      replace hl1e := Lib.hid hl1e
      replace hl0 := Lib.hid hl0
      obtain ⟨n0, hn0⟩ : ∃ n, l0.length = n := ⟨_, rfl⟩
      rw [hn0] at ho hl1
      replace hn0 := Lib.hid hn0
      go_wp2_with fail
      (with_reducible refine (clone_any ha).mono ?_)
      rintro e w5 ⟨rfl, hcl5, hb5'⟩
      have ha5 := ha.below hb5' ha.lt
      have ho5 := owned_keep ho hb5'
      have hb5 := hbl.trans (hb5'.mono hbl.size)
      have hgc := ha.lt
      obtain ⟨gc, hgc2⟩ : ∃ g, wr.heap.size = g := ⟨_, rfl⟩
      rw [hgc2] at hcl5 hgc ⊢
      have hneC : some gc ≠ some ga := fun e => by injection e with e; omega
      have hneA : some ga ≠ some gc := fun e => by injection e with e; omega
      have hgcW : W.heap.size ≤ gc := by omega
      have hob := World.ownsRow.lt ho
      rw [hgc2] at hob
      replace hob := Lib.hid hob
      replace hgc2 := Lib.hid hgc2
      clear ha ho hbl hb5'
      obtain ⟨lo, hlo⟩ : ∃ l, l0 ++ [111, 116, 104, 101, 114] = l := ⟨_, rfl⟩
      have hxo : Hid (l0 ++ other.data.toList = lo) := hlo
      have hlol : lo.length = n0 + 5 := by rw [← hlo, List.length_append, hn0.out]; rfl
      replace hlol := Lib.hid hlol
      replace hlo := Lib.hid hlo
      go_wp2_with fail
      (with_reducible refine (write_v (s := other) hcl5 (by rw [hn0.out, show other.size = 5 from rfl]; omega) hxo).mono ?_)
      rintro e w6 ⟨rfl, hcl6, hgr6⟩
      have ha6 := ha5.grown hgr6 hneC
      have ho6 := owned_grown ho5 hgr6 (fun g hg e => by injection e with e; have := (hob.out g hg).2; omega)
      have hb6 := hb5.grown hgr6 hb5.size (fun k e => by injection e with e; omega)
      clear hcl5 ha5 ho5 hb5 hgr6 hxo hc
      have hc6 : w6.cell? (a.add k) = some (.string m) := by
        obtain ⟨a', m', e, _, h2, _, h3⟩ := (hms.below hb6 (Nat.le_refl _)).at_ hlt
        cases e
        rw [hm.out] at h2
        rw [h2]
        exact h3
      go_wp2_with fail
      (with_reducible refine (write_v ha6 (by rw [hn0.out]; omega) hx).mono ?_)
      rintro e w7 ⟨rfl, ha7, hgr7⟩
      have hcl7 := hcl6.grown hgr7 hneA
      have ho7 := owned_grown ho6 hgr7 (fun g hg e => by injection e with e; have := (hob.out g hg).1; omega)
      have hb7 := hb6.grown hgr7 hb6.size (fun k e => by injection e with e; omega)
      clear hcl6 ha6 ho6 hb6 hgr7 hc6
      obtain ⟨t1, ht1⟩ : ∃ t, str (Sha.sha lo) = t := ⟨_, rfl⟩
      have ht1' : Hid (str (Sha.sha (str l0 ++ other).data.toList) = t1) := by
        show _ = _
        rw [← ht1, ← hlo.out, ByteArray.data_append]
        simp [str]
      replace ht1 := Lib.hid ht1
      have hcc : ¬ (9223372036854775807 < (str l0).size + 5) := by rw [str_size, hn0.out]; omega
      have hS1 := Lib.hid (summ_b hcl7 (by rw [hlol.out]; omega) ht1)
      have hS2 := Lib.hid (fun w' => sum_b (w := w7) (s := str l0 ++ other) (by rw [ByteArray.size_append, str_size, hn0.out, show other.size = 5 from rfl]; omega) ht1' w')
      have hbk := Lib.hid (back_b ho7)
      have hbd : Below w7.heap.size w7 w7.drew := (Below.refl _ _).drew
      clear hcl7
      go_wp2_with fail
      go_region_held3 (fun w' => (convert 30 9 u4).run Try.prog w' = .ok (.string (str l0)) w')
        (first | exact hbk.out _ (by assumption))
        (first
          | (go_at_call 22; (with_reducible refine (hS1.out _ (by assumption)).mono ?_); rintro e wA ⟨rfl, hbA⟩)
          | (go_at_call 12; (with_reducible refine (hS2.out _ (by assumption)).mono ?_); rintro e wB ⟨rfl, hbB⟩))
      have ha8 := ha7.below hbB ha7.lt
      have ho8 := owned_keep ho7 hbB
      have hb8 := hb7.trans (hbB.mono hb7.size)
      clear hS1 hS2 hbk hbd hbA hbB ha7 ho7 hb7 hcc
      have hc8 : wB.cell? (a.add k) = some (.string m) := by
        obtain ⟨a', m', e, _, h2, _, h3⟩ := (hms.below hb8 (Nat.le_refl _)).at_ hlt
        cases e
        rw [hm.out] at h2
        rw [h2]
        exact h3
      have hg8 := ha8.lt
      go_wp2_with (at_builtin; refine wpList_append_own_string _ rfl (.tmp 40) (.tmp 44) 30 9 rfl (ga + 1) 5 i0 Try.underlying30 Try.underlying9 hi hz0 hz1 hz2 _ _ _ rfl ho8 _ rfl ?c1 ?c2 ?c3 ?_)
      case c1 => unfold maxLen; omega
      case c2 => omega
      case c3 => omega
      intro v9 w9 ho9 hgr9 _
      have ha9 := ha8.grown hgr9 (fun e => by have := (hob.out ga e).1; omega)
      have hb9 := hb8.grown hgr9 hb8.size (fun k e => by have := (hob.out k e).1; omega)
      obtain ⟨n1, hn1⟩ : ∃ n, l1.length = n := ⟨_, rfl⟩
      have ho10 : w9.ownsRow (ga + 1) 5 1 v9 n1 (l1.map bv) := by
        have e1 : (l0.map bv ++ Lib.strCells m) = l1.map bv := by
          rw [← hx.out, List.map_append]
          rfl
        have e2 : n0 + m.size = n1 := by
          rw [← hn1, ← hx.out, List.length_append, hn0.out]
          rfl
        rw [← e1, ← e2]
        exact ho9
      rw [hn1] at hl2
      replace hn1 := Lib.hid hn1
      clear ha8 hb8 ho8 hc8 hgr9 ho9
      obtain ⟨ao9, cap9, rfl⟩ := owned_shape ho10
      obtain ⟨t2, ht2⟩ : ∃ t, str (Sha.sha l1) = t := ⟨_, rfl⟩
      have ht2' : Hid (str (Sha.sha (str l1).data.toList) = t2) := ht2
      replace ht2 := Lib.hid ht2
      have hn1i : Hid ((l1.length : Int) = (n1 : Int)) := by
        show _ = _
        rw [hn1.out]
      have hS1 := Lib.hid (summ_b ha9 (by rw [hn1.out]; omega) ht2)
      have hS2 := Lib.hid (fun w' => sum_b (w := w9) (s := str l1) (by rw [str_size, hn1.out]; omega) ht2' w')
      have hS3 := Lib.hid (size_b ha9 hn1i)
      have hbk := Lib.hid (back_b ho10)
      have hbd : Below w9.heap.size w9 w9.drew := (Below.refl _ _).drew
      go_wp2_with fail
      go_region_held3 (fun w' => (convert 30 9 (.slice ao9 n1 cap9)).run Try.prog w' = .ok (.string (str l1)) w')
        (first | exact hbk.out _ (by assumption))
        (first
          | (go_at_call 22; (with_reducible refine (hS1.out _ (by assumption)).mono ?_); rintro e wA ⟨rfl, hbA⟩)
          | (go_at_call 12; (with_reducible refine (hS2.out _ (by assumption)).mono ?_); rintro e wB ⟨rfl, hbB⟩)
          | (go_at_call 23; (with_reducible refine (hS3.out _ (by assumption)).mono ?_); rintro e wC ⟨rfl, rfl⟩))
      have ha11 := ha9.below hbB ha9.lt
      have ho11 := owned_keep ho10 hbB
      have hb11 := hb9.trans (hbB.mono hb9.size)
      rw [← hn1.out] at ho11
      clear hS1 hS2 hS3 hbk hbd hbA hbB ha9 ho10 hb9
      go_wp2_with fail
      go_roundw
      case rel => first | exact ⟨k + 1, by omega, by go_num, by rw [hl1e.out, hn1.out] at *; exact ho11, by rw [hl1e.out]; exact ha11, hb11⟩ | ((repeat apply Exists.intro); exact ⟨⟨k + 1, by omega, by go_num, by rw [hl1e.out]; exact ho11, by rw [hl1e.out]; exact ha11, hb11⟩, rfl⟩)
      case measure => simp [intOf]; omega
    · have hlt' : ¬ (k : Int) < mlen := by omega
      obtain ⟨l1, hl1e⟩ : ∃ l, pcs ms k = l := ⟨_, rfl⟩
      have hl2 := pcs_length ms k
      rw [hl1e] at ho ha hl2
      obtain ⟨n1, hn1⟩ : ∃ n, l1.length = n := ⟨_, rfl⟩
      rw [hn1] at ho hl2
      replace hn1 := Lib.hid hn1
      replace hl1e := Lib.hid hl1e
      obtain ⟨ao9, cap9, rfl⟩ := owned_shape ho
      obtain ⟨t2, ht2⟩ : ∃ t, str (Sha.sha l1) = t := ⟨_, rfl⟩
      have ht2' : Hid (str (Sha.sha (str l1).data.toList) = t2) := ht2
      replace ht2 := Lib.hid ht2
      have hS1 := Lib.hid (summ_b ha (by rw [hn1.out]; omega) ht2)
      have hS2 := Lib.hid (fun w' => sum_b (w := wr) (s := str l1) (by rw [str_size, hn1.out]; omega) ht2' w')
      have hbk := Lib.hid (back_b ho)
      have hbd : Below wr.heap.size wr wr.drew := (Below.refl _ _).drew
      clear hml'
      go_wp2_with fail
      go_region_held3 (fun w' => (convert 30 9 (.slice ao9 n1 cap9)).run Try.prog w' = .ok (.string (str l1)) w')
        (first | exact hbk.out _ (by assumption))
        (first
          | (go_at_call 22; (with_reducible refine (hS1.out _ (by assumption)).mono ?_); rintro e wA ⟨rfl, hbA⟩)
          | (go_at_call 12; (with_reducible refine (hS2.out _ (by assumption)).mono ?_); rintro e wB ⟨rfl, hbB⟩))
      have hb11 := hbl.trans (hbB.mono hbl.size)
      go_wp2_with fail
      go_ret
      exact ⟨rfl, hb11⟩
end Go.Proofs.Ytcllcajkmimgbaa.hpieces
