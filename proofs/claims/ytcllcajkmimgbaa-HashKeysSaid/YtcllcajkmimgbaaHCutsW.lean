/-
  The walk of HashCuts: for every text, every cuts and every list of texts within the bound the call returns true.
-/
import Derived.Test.YtcllcajkmimgbaaHArgs
namespace Go.Proofs.Ytcllcajkmimgbaa.hcuts
open Go.RowKit Base HH
theorem take_extract (s : ByteArray) {f z : Nat} (h : f ≤ z) : s.data.toList.take f ++ (s.extract f z).data.toList = s.data.toList.take z := by
  rw [ByteArray.data_extract]
  simp only [Array.toList_extract, List.extract_eq_take_drop]
  have h1 : s.data.toList.take z = (s.data.toList.take z).take f ++ (s.data.toList.take z).drop f := (List.take_append_drop f _).symm
  rw [List.take_take, Nat.min_eq_left h, List.drop_take] at h1
  exact h1.symm
/-- what was written when k more were -/
def cat (s : ByteArray) (ms : List ByteArray) (k : Nat) : List UInt8 := s.data.toList ++ (lists (ms.take k)).flatten
theorem cat_zero (s : ByteArray) (ms : List ByteArray) : cat s ms 0 = s.data.toList := List.append_nil _
theorem cat_succ (s : ByteArray) (ms : List ByteArray) {k : Nat} (hk : k < ms.length) {m : ByteArray} (hm : ms.getD k ByteArray.empty = m) : cat s ms (k + 1) = cat s ms k ++ m.data.toList := by
  unfold cat lists
  have e : ms[k] = m := by rw [← hm, List.getD_eq_getElem?_getD, List.getElem?_eq_getElem hk]; rfl
  rw [List.take_succ_eq_append_getElem hk, List.map_append, e, List.flatten_append, List.append_assoc]
  simp
theorem flat_length (ms : List ByteArray) : (lists ms).flatten.length = tot ms := by
  induction ms with
  | nil => rfl
  | cons m r ih =>
    unfold lists tot at ih ⊢
    rw [List.map_cons, List.flatten_cons, List.length_append, ih, List.map_cons, List.sum_cons]
    rfl
theorem tot_take (ms : List ByteArray) (k : Nat) : tot (ms.take k) ≤ tot ms := by
  have h := tot_append (ms.take k) (ms.drop k)
  rw [List.take_append_drop] at h
  omega
theorem cat_length (s : ByteArray) (ms : List ByteArray) (k : Nat) : (cat s ms k).length ≤ s.size + tot ms := by
  unfold cat
  rw [List.length_append, flat_length]
  have := tot_take ms k
  show s.size + _ ≤ _
  omega
set_option maxRecDepth 8000 in
set_option maxHeartbeats 4000000 in
theorem walk (W : World) {s : ByteArray} {co mo : Option Addr} {clen ccap mlen mcap : Nat} {cs : List Int} {ms : List ByteArray} (hcs : IntsIn W co clen cs) (hms : StrsIn W mo mlen ms) (hb : s.size + tot ms ≤ 4194304) (hcl : clen ≤ 17592186044416) (hml : mlen ≤ 4194304) :
    Calls Try.prog 8 #[.string s, .slice co clen ccap, .slice mo mlen mcap] W fun e w' => e = .returned (.bool true) ∧ Below W.heap.size W w' := by
  go_enter Try.func8, Try.ntmps8
  go_wp2_with fail
  refine (new_hash W).mono ?_
  rintro e w1 ⟨rfl, ha1, hb1, hz1⟩
  go_wp2_with fail
  refine (new_hash w1).mono ?_
  rintro e w2 ⟨rfl, hg2, hb2', hz2⟩
  have ha2 := ha1.below hb2' ha1.lt
  have hb2 := hb1.trans (hb2'.mono hb1.size)
  obtain ⟨ga, hga⟩ : ∃ g, W.heap.size = g := ⟨_, rfl⟩
  obtain ⟨gb, hgb⟩ : ∃ g, w1.heap.size = g := ⟨_, rfl⟩
  have hgab : ga < gb := by omega
  have hgaW : W.heap.size ≤ ga := by omega
  have hneA : some ga ≠ some gb := fun e => by injection e with e; omega
  have hneB : some gb ≠ some ga := fun e => by injection e with e; omega
  rw [hga] at ha2
  rw [hgb] at hg2
  rw [hgb]
  clear ha1 hb1 hb2' hz1 hz2
  go_wp2_with fail
  refine (fixed_any w2).mono ?_
  rintro e w3 ⟨rfl, hb3'⟩
  have ha3 := ha2.below hb3' ha2.lt
  have hg3 := hg2.below hb3' hg2.lt
  have hb3 := hb2.trans (hb3'.mono hb2.size)
  clear ha2 hg2 hb3' hb2
  replace hga := Lib.hid hga
  replace hgb := Lib.hid hgb
  have hn0 : Hid ([] ++ s.data.toList = s.data.toList) := rfl
  go_wp2_with fail
  (with_reducible refine (write_v ha3 (by simp; omega) hn0).mono ?_)
  rintro e w4 ⟨rfl, ha4, hgr4⟩
  have hg4 := hg3.grown hgr4 hneA
  have hb4 := hb3.grown hgr4 hb3.size (fun k e => by injection e with e; omega)
  clear ha3 hg3 hgr4 hb3 hn0
  go_wp2_with fail
  go_loopw [9, 10] (fun fv i wr => ∃ k f : Nat, k ≤ clen ∧ f ≤ s.size ∧ i = .int .i64 k ∧ fv = .int .i64 f ∧ HashAt wr ga s.data.toList ∧ HashAt wr gb (s.data.toList.take f) ∧ Below W.heap.size W wr) (fun _ i _ => clen - (intOf i).toNat)
  case atStart => exact ⟨0, 0, Nat.zero_le _, Nat.zero_le _, rfl, rfl, ha4, hg4, hb4⟩
  case round =>
    clear ha4 hg4 hb4
    obtain ⟨k, f, hk, hf, rfl, rfl, ha, hg, hbl⟩ := hrel
    by_cases hlt : k < clen
    · have hlt' : (k : Int) < clen := by omega
      obtain ⟨a, z, rfl, hab, hz, hc⟩ := (hcs.below hbl (Nat.le_refl _)).at_ hlt
      replace hz := Lib.hid hz
      by_cases hz1 : z < f
      · have hd : decide (z < (f : Int)) = true := by simpa using hz1
        go_wp2_with fail
        go_roundw
        case rel => exact ⟨k + 1, f, by omega, hf, by go_num, rfl, ha, hg, hbl⟩
        case measure => simp [intOf]; omega
      · by_cases hz2 : (s.size : Int) < z
        · go_wp2_with fail
          go_roundw
          case rel => exact ⟨k + 1, f, by omega, hf, by go_num, rfl, ha, hg, hbl⟩
          case measure => simp [intOf]; omega
        · obtain ⟨t, rfl⟩ := Int.eq_ofNat_of_zero_le (show 0 ≤ z by omega)
          have ht1 : f ≤ t := by omega
          have ht2 : t ≤ s.size := by omega
          have ht1' : (f : Int) ≤ t := by omega
          have ht2' : (t : Int) ≤ s.size := by omega
          have hx : Hid (s.data.toList.take f ++ (s.extract f t).data.toList = s.data.toList.take t) := take_extract s ht1
          go_wp2_with fail
          (with_reducible refine (write_v hg (by rw [List.length_take, ByteArray.size_extract]; omega) hx).mono ?_)
          rintro e w5 ⟨rfl, hg5, hgr5⟩
          have ha5 := ha.grown hgr5 hneB
          have hb5 := hbl.grown hgr5 hbl.size (fun k e => by injection e with e; omega)
          clear ha hg hbl hgr5
          go_wp2_with fail
          go_roundw
          case rel => exact ⟨k + 1, t, by omega, ht2, by go_num, rfl, ha5, hg5, hb5⟩
          case measure => simp [intOf]; omega
    · have hlt' : ¬ (k : Int) < clen := by omega
      have hf' : (f : Int) ≤ s.size := by omega
      have hx : Hid (s.data.toList.take f ++ (s.extract f s.size).data.toList = s.data.toList) := by
        show _ = _
        rw [take_extract s hf]
        exact List.take_of_length_le (Nat.le_refl _)
      go_wp2_with fail
      (with_reducible refine (write_v hg (by rw [List.length_take, ByteArray.size_extract]; omega) hx).mono ?_)
      rintro e w5 ⟨rfl, hg5, hgr5⟩
      have ha5 := ha.grown hgr5 hneB
      have hb5 := hbl.grown hgr5 hbl.size (fun k e => by injection e with e; omega)
      clear ha hg hbl hgr5 hcs
      obtain ⟨t, ht⟩ : ∃ t, str (Sha.sha s.data.toList) = t := ⟨_, rfl⟩
      replace ht := Lib.hid ht
      obtain ⟨n, hn⟩ : ∃ n : Int, (s.data.toList.length : Int) = n := ⟨_, rfl⟩
      replace hn := Lib.hid hn
      have hsl : s.data.toList.length = s.size := rfl
      replace hsl := Lib.hid hsl
      go_wp2_with fail
      (with_reducible refine (summ_v ha5 (by rw [hsl.out]; omega) ht).mono ?_)
      rintro e w6 ⟨rfl, hx6⟩
      have ha6 := ha5.below hx6 ha5.lt
      have hg6 := hg5.below hx6 hg5.lt
      have hb6 := hb5.trans (hx6.mono hb5.size)
      clear ha5 hg5 hb5 hx6
      go_wp2_with fail
      (with_reducible refine (summ_v hg6 (by rw [hsl.out]; omega) ht).mono ?_)
      rintro e w7 ⟨rfl, hx7⟩
      have ha7 := ha6.below hx7 ha6.lt
      have hg7 := hg6.below hx7 hg6.lt
      have hb7 := hb6.trans (hx7.mono hb6.size)
      clear ha6 hg6 hb6 hx7
      go_wp2_with fail
      (with_reducible refine (size_v ha7 hn).mono ?_)
      rintro e wz ⟨rfl, rfl⟩
      go_wp2_with fail
      (with_reducible refine (size_v hg7 hn).mono ?_)
      rintro e wz ⟨rfl, rfl⟩
      go_wp2_with fail
      (with_reducible refine (summ_v ha7 (by rw [hsl.out]; omega) ht).mono ?_)
      rintro e w8 ⟨rfl, hx8⟩
      have ha8 := ha7.below hx8 ha7.lt
      have hg8 := hg7.below hx8 hg7.lt
      have hb8 := hb7.trans (hx8.mono hb7.size)
      clear ha7 hg7 hb7 hx8
      go_wp2_with fail
      (with_reducible refine (sum_v (by omega) ht).mono ?_)
      rintro e w9 ⟨rfl, hx9⟩
      have ha9 := ha8.below hx9 ha8.lt
      have hg9 := hg8.below hx9 hg8.lt
      have hb9 := hb8.trans (hx9.mono hb8.size)
      clear ha8 hg8 hb8 hx9
      go_wp2_with fail
      obtain ⟨wo, rfl⟩ : ∃ wo : World, wo = wr := ⟨_, rfl⟩
      go_loopw [12] (fun i wr => ∃ k : Nat, k ≤ mlen ∧ i = .int .i64 k ∧ HashAt wr ga (cat s ms k) ∧ HashAt wr gb (cat s ms k) ∧ Below W.heap.size W wr) (fun i _ => mlen - (intOf i).toNat)
      case atStart => exact ⟨0, Nat.zero_le _, rfl, by rw [cat_zero]; exact ha9, by rw [cat_zero]; exact hg9, hb9⟩
      case round =>
        clear ha9 hg9 hb9
        obtain ⟨k, hk, rfl, ha, hg, hbl⟩ := hrel
        by_cases hlt : k < mlen
        · have hlt' : (k : Int) < mlen := by omega
          have hml' := hms.1
          obtain ⟨a, m, rfl, hab, hm, hmem, hc⟩ := (hms.below hbl (Nat.le_refl _)).at_ hlt
          have hx : Hid (cat s ms k ++ m.data.toList = cat s ms (k + 1)) := (cat_succ s ms (by omega) hm).symm
          have hl1 := cat_length s ms k
          have hl2 := cat_length s ms (k + 1)
          have hmt := tot_mem hmem
          have hcm : ∀ w', Below W.heap.size W w' → w'.cell? (a.add k) = some (.string m) := fun w' hb' => by
            obtain ⟨a', m', e, _, h2, _, h3⟩ := (hms.below hb' (Nat.le_refl _)).at_ hlt
            cases e
            rw [hm] at h2
            rw [h2]
            exact h3
          replace hm := Lib.hid hm
          replace hml' := Lib.hid hml'
          replace hcm := Lib.hid hcm
          obtain ⟨l1, hl1e⟩ : ∃ l, cat s ms (k + 1) = l := ⟨_, rfl⟩
          rw [hl1e] at hx hl2
          replace hl1e := Lib.hid hl1e
          go_wp2_with fail
          (with_reducible refine (write_v ha (by omega) hx).mono ?_)
          rintro e w11 ⟨rfl, ha11, hgr11⟩
          have hg11 := hg.grown hgr11 hneA
          have hb11 := hbl.grown hgr11 hbl.size (fun k e => by injection e with e; omega)
          clear ha hg hbl hgr11 hc
          have hc11 := hcm.out _ hb11
          go_wp2_with fail
          (with_reducible refine (write_v hg11 (by omega) hx).mono ?_)
          rintro e w12 ⟨rfl, hg12, hgr12⟩
          have ha12 := ha11.grown hgr12 hneB
          have hb12 := hb11.grown hgr12 hb11.size (fun k e => by injection e with e; omega)
          clear ha11 hg11 hb11 hgr12 hc11
          obtain ⟨t1, ht1⟩ : ∃ t, str (Sha.sha l1) = t := ⟨_, rfl⟩
          replace ht1 := Lib.hid ht1
          obtain ⟨n1, hn1⟩ : ∃ n : Int, (l1.length : Int) = n := ⟨_, rfl⟩
          replace hn1 := Lib.hid hn1
          go_wp2_with fail
          (with_reducible refine (summ_v ha12 (by omega) ht1).mono ?_)
          rintro e w13 ⟨rfl, hx13⟩
          have ha13 := ha12.below hx13 ha12.lt
          have hg13 := hg12.below hx13 hg12.lt
          have hb13 := hb12.trans (hx13.mono hb12.size)
          clear ha12 hg12 hb12 hx13
          go_wp2_with fail
          (with_reducible refine (summ_v hg13 (by omega) ht1).mono ?_)
          rintro e w14 ⟨rfl, hx14⟩
          have ha14 := ha13.below hx14 ha13.lt
          have hg14 := hg13.below hx14 hg13.lt
          have hb14 := hb13.trans (hx14.mono hb13.size)
          clear ha13 hg13 hb13 hx14
          go_wp2_with fail
          (with_reducible refine (size_v ha14 hn1).mono ?_)
          rintro e wz ⟨rfl, rfl⟩
          go_wp2_with fail
          (with_reducible refine (size_v hg14 hn1).mono ?_)
          rintro e wz ⟨rfl, rfl⟩
          go_wp2_with fail
          go_roundw
          case rel => first | exact ⟨k + 1, by omega, by go_num, by rw [hl1e.out]; exact ha14, by rw [hl1e.out]; exact hg14, hb14⟩ | ((repeat apply Exists.intro); exact ⟨⟨k + 1, by omega, by go_num, by rw [hl1e.out]; exact ha14, by rw [hl1e.out]; exact hg14, hb14⟩, rfl⟩)
          case measure => simp [intOf]; omega
        · have hlt' : ¬ (k : Int) < mlen := by omega
          go_wp2_with fail
          go_ret
          exact ⟨rfl, hbl⟩
end Go.Proofs.Ytcllcajkmimgbaa.hcuts
