/-
  hash.Mac: for all keys and texts the call returns the mac.
-/
import Derived.Test.YtmmkopdijmplcaaHRepeat
import Derived.Deep.CutBlock
namespace Go.Proofs.Ytmmkopdijmplcaa.HH
open Go.RowKit Base
/-- the padded key when k of its bytes are laid over -/
def kpTo (x : UInt8) (key : List UInt8) (k : Nat) : List UInt8 := (List.range 64).map fun i => if i < k then x ^^^ key.getD i 0 else x
theorem kpTo_length (x : UInt8) (key : List UInt8) (k : Nat) : (kpTo x key k).length = 64 := by
  unfold kpTo
  rw [List.length_map, List.length_range]
theorem kpTo_at (x : UInt8) (key : List UInt8) (k i : Nat) (h : i < 64) : (kpTo x key k)[i]? = some (if i < k then x ^^^ key.getD i 0 else x) := by
  unfold kpTo
  rw [List.getElem?_map, List.getElem?_range h, Option.map_some]
theorem kpTo_zero (x : UInt8) (key : List UInt8) : kpTo x key 0 = List.replicate 64 x := by
  apply List.ext_getElem?
  intro i
  rw [List.getElem?_replicate]
  by_cases h : i < 64
  · rw [kpTo_at x key 0 i h, if_neg (Nat.not_lt_zero _), if_pos h]
  · rw [if_neg h, List.getElem?_eq_none (by rw [kpTo_length]; omega)]
theorem kpTo_set (x : UInt8) (key : List UInt8) (k : Nat) : (kpTo x key k).set k (x ^^^ key.getD k 0) = kpTo x key (k + 1) := by
  apply List.ext_getElem?
  intro i
  rw [List.getElem?_set, kpTo_length]
  by_cases h8 : i < 64
  · rw [kpTo_at _ _ _ _ h8, kpTo_at _ _ _ _ h8]
    by_cases hk : k = i
    · subst hk
      rw [if_pos rfl, if_pos h8, if_pos (Nat.lt_succ_self _)]
    · rw [if_neg hk]
      by_cases h : i < k
      · rw [if_pos h, if_pos (by omega)]
      · rw [if_neg h, if_neg (by omega)]
  · rw [List.getElem?_eq_none (l := kpTo x key k) (by rw [kpTo_length]; omega), List.getElem?_eq_none (l := kpTo x key (k + 1)) (by rw [kpTo_length]; omega)]
    by_cases hk : k = i
    · rw [if_pos hk, if_neg (by omega)]
    · rw [if_neg hk]
theorem kpTo_all (x : UInt8) (key : List UInt8) (_h : key.length ≤ 64) : kpTo x key key.length = Sha.kpad key x := by
  apply List.ext_getElem?
  intro i
  by_cases h8 : i < 64
  · rw [kpTo_at _ _ _ _ h8]
    unfold Sha.kpad
    rw [List.getElem?_map, List.getElem?_range h8, Option.map_some]
    congr 1
    by_cases hi : i < key.length
    · rw [if_pos hi, UInt8.xor_comm]
    · rw [if_neg hi, List.getD_eq_getElem?_getD, List.getElem?_eq_none (by omega)]
      exact (UInt8.zero_xor).symm
  · rw [List.getElem?_eq_none (by rw [kpTo_length]; omega), List.getElem?_eq_none (by unfold Sha.kpad; rw [List.length_map, List.length_range]; omega)]
theorem out_length (s : Sha.St) : (Sha.out s).length = 32 := rfl
theorem sha_length (l : List UInt8) : (Sha.sha l).length = 32 := out_length _
theorem key_row {x : UInt8} {key : List UInt8} {k : Nat} (rest : List Value) (h : k < 64) : ((kpTo x key k).map bv ++ rest)[k]? = some (bv x) := by
  rw [List.getElem?_append_left (by rw [List.length_map, kpTo_length]; exact h), List.getElem?_map, kpTo_at _ _ _ _ h, if_neg (Nat.lt_irrefl _)]
  rfl
theorem key_row_set {x : UInt8} {key : List UInt8} {k : Nat} (rest : List Value) (h : k < 64) : ((kpTo x key k).map bv ++ rest).set k (bv (x ^^^ key.getD k 0)) = (kpTo x key (k + 1)).map bv ++ rest := by
  rw [List.set_append_left _ _ (by rw [List.length_map, kpTo_length]; exact h), ← List.map_set, kpTo_set]
theorem xor_byte (x c : UInt8) : Value.int .u8 (bits .xor .u8 (x.toNat : Int) (c.toNat : Int)) = bv (x ^^^ c) := by
  unfold bv
  rw [u8_xor_nat _ _ x.toNat_lt c.toNat_lt, UInt8.toNat_xor]
theorem conv_row {w : World} {g : Nat} {l : List UInt8} {rest : List Value} (h : Row w g 5 (l.map bv ++ rest)) (cap : Nat) (hl : l.length = 64) : (convert 82 9 (.slice (some ⟨g, 0, none⟩) 64 cap)).run Try.prog w = .ok (.string (str l)) w := by
  have := run_convert_bytes_back (P := Try.prog) w 82 9 5 ⟨g, 0, none⟩ cap l Try.underlying82 Try.underlying5 Try.underlying9 (fun j hj => by
    rw [Addr.add_mid, Nat.zero_add]
    refine h.cell ?_
    rw [List.getElem?_append_left (by rw [List.length_map]; exact hj), List.getElem?_map, List.getElem?_eq_getElem hj]
    rfl)
  rw [hl] at this
  exact this
theorem cell_one_new_at (w : World) (x : UInt8) : (w.alloc (.cells #[bv x] 5)).cell? ⟨w.heap.size, 0, none⟩ = some (bv x) := (Row.new w [bv x] 5).cell rfl
set_option maxRecDepth 8000 in
set_option maxHeartbeats 2000000 in
theorem mac_any (key s : ByteArray) (w : World) (hk : key.size ≤ 288230376151711743) (hs : s.size ≤ 288230376151711743) : Calls Try.prog 16 #[.string key, .string s] w fun e w' => e = .returned (.string (str (Sha.mac key.data.toList s.data.toList))) ∧ Below w.heap.size w w' := by
  obtain ⟨kl, hkl⟩ : ∃ kl, (if key.data.toList.length ≤ 64 then key.data.toList else Sha.sha key.data.toList) = kl := ⟨_, rfl⟩
  have hkl64 : kl.length ≤ 64 := by
    rw [← hkl]
    split
    · assumption
    · rw [sha_length]; decide
  have hmac : Hid (Sha.mac key.data.toList s.data.toList = Sha.sha (Sha.kpad kl 92 ++ Sha.sha (Sha.kpad kl 54 ++ s.data.toList))) := by
    show _ = _
    unfold Sha.mac
    rw [hkl]
  go_enter Try.func16, Try.ntmps16
  go_upto_if 10 with fail
  go_cut [0] from 10 to 12 (fun s0 wx => s0 = .string (str kl) ∧ Below w.heap.size w wx)
  case first =>
    by_cases h64 : key.size ≤ 64
    · have hq : str kl = key := by rw [← hkl, if_pos (show key.data.toList.length ≤ 64 from h64)]; exact str_of key
      have h64' : ¬ (64 : Int) < key.size := by omega
      replace hq := Lib.hid hq
      clear hkl
      go_wp2_with fail
      go_meet
      case rel => exact ⟨by rw [hq.out], Below.refl _ _⟩
    · have hq : str kl = str (Sha.sha key.data.toList) := by rw [← hkl, if_neg (show ¬ key.data.toList.length ≤ 64 from h64)]
      have h64' : (64 : Int) < key.size := by omega
      replace hq := Lib.hid hq
      clear hkl
      go_wp2_with fail
      refine (sum_any key w (by omega)).mono ?_
      rintro e w1 ⟨rfl, hb1⟩
      go_wp2_with fail
      go_meet
      case rel => exact ⟨by rw [hq.out], hb1⟩
  case rest =>
    obtain ⟨rfl, hb1⟩ := hcut
    replace hkl := Lib.hid hkl
    have hbs1 := hb1.size
    obtain ⟨kk, hkk⟩ : ∃ kk, str kl = kk := ⟨_, rfl⟩
    have hkd : kk.data.toList = kl := by rw [← hkk]; rfl
    have hksz : kk.size = kl.length := by rw [← hkd]; rfl
    have hk64 : kk.size ≤ 64 := by omega
    rw [hkk]
    replace hkk := Lib.hid hkk
    replace hkd := Lib.hid hkd
    replace hksz := Lib.hid hksz
    go_wp2_with fail
    refine (repeat_any (c := 54) (cell_one_new_at wc 54)).mono ?_
    rintro e w2 ⟨gi, r1, rfl, hgi, hRi, hb2⟩
    have hb3 := (hb1.alloc hbs1 (.cells #[.int .u8 54] 5)).trans (hb2.mono (by simp; omega))
    have hgi2 := hRi.lt
    have hgi3 : w.heap.size ≤ gi := by simp at hgi; omega
    clear hb1 hb2 hgi
    go_wp2_with fail
    refine (repeat_any (c := 92) (cell_one_new_at w2 92)).mono ?_
    rintro e w3 ⟨go, r2, rfl, hgo, hRo, hb4⟩
    have hRi2 := (hRi.alloc (.cells #[.int .u8 92] 5)).below hb4 (by simp; omega)
    have hb5 := (hb3.alloc hb3.size (.cells #[.int .u8 92] 5)).trans (hb4.mono (by have := hb3.size; simp; omega))
    have hgio : gi < go := by simp at hgo; omega
    clear hb3 hb4 hgo hgi2 hRi
    rw [show List.replicate 64 (bv 54) = (kpTo 54 kl 0).map bv from by rw [kpTo_zero, List.map_replicate]] at hRi2
    rw [show List.replicate 64 (bv 92) = (kpTo 92 kl 0).map bv from by rw [kpTo_zero, List.map_replicate]] at hRo
    go_wp2_with fail
    go_loopw [19] (fun i wr => ∃ k : Nat, k ≤ kk.size ∧ i = .int .i64 k ∧ Row wr gi 5 ((kpTo 54 kl k).map bv ++ r1) ∧ Row wr go 5 ((kpTo 92 kl k).map bv ++ r2) ∧ Below w.heap.size w wr) (fun i _ => kk.size - (intOf i).toNat)
    case atStart => exact ⟨0, Nat.zero_le _, rfl, hRi2, hRo, hb5⟩
    case round =>
      clear hRi2 hRo hb5
      obtain ⟨k, hkk', rfl, hRi, hRo, hb⟩ := hrel
      by_cases hlt : k < kk.size
      · have hlt' : (k : Int) < kk.size := by omega
        have hlt64 : (k : Int) < 64 := by omega
        have hc : (kk[k]'hlt) = kl.getD k 0 := by rw [← hkd.out]; exact (getD_at kk k hlt).symm
        have ci := hRi.cell (key_row (x := 54) (key := kl) (k := k) r1 (by omega))
        have fi := hRi.free k
        have hRi3 := (hRi.set k (bv (54 ^^^ kl.getD k 0))).drew
        rw [key_row_set r1 (by omega)] at hRi3
        have hRo3 := (hRo.at_set (show gi ≠ go by omega) k (bv (54 ^^^ kl.getD k 0))).drew
        have hb3 := (hb.setCell (p := ⟨gi, k, none⟩) (by exact hgi3) (bv (54 ^^^ kl.getD k 0))).drew
        have hxi : Value.int .u8 (bits .xor .u8 54 ((kk[k]'hlt).toNat : Int)) = bv (54 ^^^ kl.getD k 0) := by rw [hc]; exact xor_byte 54 _
        have hxo : Value.int .u8 (bits .xor .u8 92 ((kk[k]'hlt).toNat : Int)) = bv (92 ^^^ kl.getD k 0) := by rw [hc]; exact xor_byte 92 _
        replace hxi := Lib.hid hxi
        replace hxo := Lib.hid hxo
        replace hc := Lib.hid hc
        change wr.cell? ⟨gi, k, none⟩ = some (.int .u8 54) at ci
        clear hRi hRo hb
        go_wp2_with fail
        go_still_tail 9, (by kernel_rfl)
        go_wp2_with fail
        rw [hxi.out]
        have hset := Lib.hid (key_row_set (x := 92) (key := kl) (k := k) r2 (by omega))
        generalize kl.getD k 0 = kc at *
        generalize (wr.setCell ⟨gi, k, none⟩ (bv (54 ^^^ kc))).drew = w7 at *
        clear ci fi
        have co := hRo3.cell (key_row (x := 92) (key := kl) (k := k) r2 (by omega))
        have fo := hRo3.free k
        change w7.cell? ⟨go, k, none⟩ = some (.int .u8 92) at co
        have hRo4 := (hRo3.set k (bv (92 ^^^ kc))).drew
        rw [hset.out] at hRo4
        have hRi4 := (hRi3.at_set (show go ≠ gi by omega) k (bv (92 ^^^ kc))).drew
        have hb4 := (hb3.setCell (p := ⟨go, k, none⟩) (by show _ ≤ go; omega) (bv (92 ^^^ kc))).drew
        clear hRo3 hRi3 hb3
        go_still_tail 9, (by kernel_rfl)
        go_wp2_with fail
        rw [hxo.out]
        generalize (w7.setCell ⟨go, k, none⟩ (bv (92 ^^^ kc))).drew = w8 at *
        go_roundw
        case rel => first | exact ⟨k + 1, by omega, by go_num, hRi4, hRo4, hb4⟩ | ((repeat apply Exists.intro); exact ⟨⟨k + 1, by omega, by go_num, hRi4, hRo4, hb4⟩, rfl⟩)
        case measure => simp [intOf]; omega
      · have hke : k = kl.length := by have := hksz.out; omega
        have hlt' : ¬ (k : Int) < kk.size := by omega
        rw [hke, kpTo_all _ _ (by omega)] at hRi hRo
        have hpl : ∀ x, (Sha.kpad kl x).length = 64 := fun x => by unfold Sha.kpad; rw [List.length_map, List.length_range]
        have hp1 := hpl 54
        have hp2 := hpl 92
        clear hke hlt hpl
        generalize Sha.kpad kl 54 = pi at *
        generalize Sha.kpad kl 92 = po at *
        have ki := conv_row hRi.drew 64 hp1
        have ko := conv_row hRo.drew 64 hp2
        replace hp1 := Lib.hid hp1
        replace hp2 := Lib.hid hp2
        have hbd := hb.drew
        have hRod := hRo.drew
        have hsz1 : (str pi ++ s).size ≤ 1152921504606846975 := by
          have := hp1.out
          rw [ByteArray.size_append, str_size]
          omega
        obtain ⟨t, ht⟩ : ∃ t, Sha.sha (str pi ++ s).data.toList = t := ⟨_, rfl⟩
        have htl : t.length = 32 := by rw [← ht]; exact sha_length _
        have htt : (str pi ++ s).data.toList = pi ++ s.data.toList := by rw [ByteArray.data_append]; simp [str]
        rw [htt] at ht
        have hmac2 : Hid (Sha.mac key.data.toList s.data.toList = Sha.sha (po ++ t)) := by show _ = _; rw [hmac.out, ht]
        have hsz2 : (str po ++ str t).size ≤ 1152921504606846975 := by
          have := hp2.out
          rw [ByteArray.size_append, str_size, str_size]
          omega
        have hpt : (str po ++ str t).data.toList = po ++ t := by rw [ByteArray.data_append]; simp [str]
        replace ht := Lib.hid ht
        replace htl := Lib.hid htl
        replace htt := Lib.hid htt
        replace hpt := Lib.hid hpt
        have hsA : ∀ w, Calls Try.prog 48 #[.string (str pi ++ s)] w fun e w' => e = .returned (.string (str t)) ∧ Below w.heap.size w w' := fun w => by
          have := sum_any (str pi ++ s) w hsz1
          rw [htt.out, ht.out] at this
          exact this
        have hsB : ∀ w, Calls Try.prog 48 #[.string (str po ++ str t)] w fun e w' => e = .returned (.string (str (Sha.mac key.data.toList s.data.toList))) ∧ Below w.heap.size w w' := fun w => by
          have := sum_any (str po ++ str t) w hsz2
          rw [hpt.out, ← hmac2.out] at this
          exact this
        have hcc1 : ¬ (9223372036854775807 < (str pi).size + s.size) := by
          have := hp1.out
          rw [str_size]
          omega
        have hcc2 : ¬ (9223372036854775807 < (str po).size + (str t).size) := by
          have h1 := hp2.out
          have h2 := htl.out
          rw [str_size, str_size]
          omega
        clear hmac hmac2 hsz1 hsz2 hRi hRo hb
        go_wp2_with fail
        go_region_law (first
          | (go_simp
             go_at_call 48
             (with_reducible refine (hsA _).mono ?_)
             rintro e w9 ⟨rfl, hb9⟩
             have hb10 := hbd.trans (hb9.mono hbd.size)
             have ko2 := conv_row (hRod.below hb9 hRod.lt) 64 hp2.out)
          | (go_simp
             go_at_call 48
             (with_reducible refine (hsB _).mono ?_)
             rintro e w11 ⟨rfl, hb11⟩
             have hb12 := hb10.trans (hb11.mono hb10.size)))
        all_goals
          go_wp2_with fail
          go_ret
          exact ⟨rfl, hb12⟩
end Go.Proofs.Ytmmkopdijmplcaa.HH
