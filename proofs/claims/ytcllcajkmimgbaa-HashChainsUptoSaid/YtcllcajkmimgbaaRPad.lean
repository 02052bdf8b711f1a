/-
  padded, mac and Mac of the document's hash: for every key and text that is not enormous the call returns the mac.
-/
import Derived.Test.YtcllcajkmimgbaaRSum
import Derived.Test.YtcllcajkmimgbaaHMac
import Derived.Deep.RegionHeld3
import Derived.Deep.CutBlock
set_option linter.unusedVariables false
set_option maxRecDepth 100000
namespace Go.Proofs.Ytcllcajkmimgbaa.RH
open Go.RowKit Base HH
theorem FRow.mono {w : World} {B B' n : Nat} {v : Value} {xs : List UInt8} (h : FRow w B v n xs) (hB : B' ≤ B) : FRow w B' v n xs := by
  obtain ⟨h0, g, cap, cur, fz, rfl, hb, r⟩ := h
  exact ⟨h0, g, cap, cur, fz, rfl, Nat.le_trans hB hb, r⟩
/-- a key with z bytes 0 behind it -/
def keyZ (l : List UInt8) (z : Nat) : List UInt8 := l ++ List.replicate z 0
theorem keyZ_succ (l : List UInt8) (z : Nat) : keyZ l z ++ [0] = keyZ l (z + 1) := by
  unfold keyZ
  rw [List.append_assoc, ← List.replicate_succ']
/-- the padded key when i of its bytes are laid over -/
def keyX (l : List UInt8) (x : UInt8) (i : Nat) : List UInt8 := (List.range 64).map fun j => if j < i then l.getD j 0 ^^^ x else l.getD j 0
theorem keyX_length (l : List UInt8) (x : UInt8) (i : Nat) : (keyX l x i).length = 64 := by
  unfold keyX
  rw [List.length_map, List.length_range]
theorem keyX_at (l : List UInt8) (x : UInt8) (i j : Nat) (h : j < 64) : (keyX l x i)[j]? = some (if j < i then l.getD j 0 ^^^ x else l.getD j 0) := by
  unfold keyX
  rw [List.getElem?_map, List.getElem?_range h, Option.map_some]
theorem keyX_getD (l : List UInt8) (x : UInt8) (i : Nat) (h : i < 64) : (keyX l x i).getD i 0 = l.getD i 0 := by
  rw [List.getD_eq_getElem?_getD, keyX_at _ _ _ _ h, if_neg (Nat.lt_irrefl _)]
  rfl
theorem keyX_zero (l : List UInt8) (x : UInt8) (hl : l.length ≤ 64) : keyZ l (64 - l.length) = keyX l x 0 := by
  apply List.ext_getElem?
  intro j
  by_cases h : j < 64
  · rw [keyX_at _ _ _ _ h, if_neg (Nat.not_lt_zero _)]
    unfold keyZ
    by_cases hj : j < l.length
    · rw [List.getElem?_append_left hj, List.getD_eq_getElem?_getD, List.getElem?_eq_getElem hj]
      rfl
    · rw [List.getElem?_append_right (by omega), List.getElem?_replicate, if_pos (by omega), List.getD_eq_getElem?_getD, List.getElem?_eq_none (by omega)]
      rfl
  · rw [List.getElem?_eq_none (by unfold keyZ; rw [List.length_append, List.length_replicate]; omega), List.getElem?_eq_none (by rw [keyX_length]; omega)]
theorem keyX_set (l : List UInt8) (x : UInt8) (i : Nat) : (keyX l x i).set i (l.getD i 0 ^^^ x) = keyX l x (i + 1) := by
  apply List.ext_getElem?
  intro j
  rw [List.getElem?_set, keyX_length]
  by_cases h8 : j < 64
  · rw [keyX_at _ _ _ _ h8, keyX_at _ _ _ _ h8]
    by_cases hk : i = j
    · subst hk
      rw [if_pos rfl, if_pos h8, if_pos (Nat.lt_succ_self _)]
    · rw [if_neg hk]
      by_cases h : j < i
      · rw [if_pos h, if_pos (by omega)]
      · rw [if_neg h, if_neg (by omega)]
  · rw [List.getElem?_eq_none (l := keyX l x i) (by rw [keyX_length]; omega), List.getElem?_eq_none (l := keyX l x (i + 1)) (by rw [keyX_length]; omega)]
    by_cases hk : i = j
    · rw [if_pos hk, if_neg (by omega)]
    · rw [if_neg hk]
theorem keyX_all (l : List UInt8) (x : UInt8) : keyX l x 64 = Sha.kpad l x := by
  apply List.ext_getElem?
  intro j
  by_cases h8 : j < 64
  · rw [keyX_at _ _ _ _ h8, if_pos h8]
    unfold Sha.kpad
    rw [List.getElem?_map, List.getElem?_range h8, Option.map_some]
  · rw [List.getElem?_eq_none (by rw [keyX_length]; omega), List.getElem?_eq_none (by unfold Sha.kpad; rw [List.length_map, List.length_range]; omega)]
/-- the key as the mac takes it -/
def keyL (l : List UInt8) : List UInt8 := if l.length ≤ 64 then l else Sha.sha l
theorem keyL_le (l : List UInt8) : (keyL l).length ≤ 64 := by
  unfold keyL
  split
  · assumption
  · rw [sha_length]; decide
set_option maxHeartbeats 4000000 in
theorem rpad_any {w : World} {key : ByteArray} {x : UInt8} {xi : Int} (hx : Hid (xi = (x.toNat : Int))) {kg kcap : Nat} (hs : key.size ≤ 140737488360000) (hK : KeyIn w kg) {t : ByteArray} (ht : Hid (str (Sha.kpad (keyL key.data.toList) x) = t)) :
    Calls Try.prog 38 #[.string key, .int .u8 xi, .slice (some ⟨kg, 0, none⟩) 64 kcap] w fun e w' => e = .returned (.string t) ∧ Below w.heap.size w w' := by
  obtain ⟨kl, hkl⟩ : ∃ kl, keyL key.data.toList = kl := ⟨_, rfl⟩
  have hkl64 : kl.length ≤ 64 := by rw [← hkl]; exact keyL_le _
  rw [hkl] at ht
  have hkg := hK.1
  go_enter Try.func38, Try.ntmps38
  go_upto_if 11 with fail
  go_cut [0] from 11 to 14 (fun s0 wx => s0 = .string (str kl) ∧ Below w.heap.size w wx)
  case first =>
    by_cases h64 : key.size ≤ 64
    · have hq : str kl = key := by
        rw [← hkl]
        unfold keyL
        rw [if_pos (show key.data.toList.length ≤ 64 from h64)]
        exact str_of key
      have h64' : ¬ (64 : Int) < key.size := by omega
      replace hq := Lib.hid hq
      clear hkl
      go_wp2_with fail
      go_meet
      case rel => exact ⟨by rw [hq.out], Below.refl _ _⟩
    · have hq : Hid (str (Sha.sha key.data.toList) = str kl) := by
        show _ = _
        rw [← hkl]
        unfold keyL
        rw [if_neg (show ¬ key.data.toList.length ≤ 64 from h64)]
      have h64' : (64 : Int) < key.size := by omega
      clear hkl
      go_wp2_with fail
      (with_reducible refine (rsum_any hs hK hq).mono ?_)
      rintro e w1 ⟨rfl, hb1⟩
      go_wp2_with fail
      go_meet
      case rel => exact ⟨rfl, hb1⟩
  case rest =>
    obtain ⟨rfl, hb⟩ := hcut
    replace hkl := Lib.hid hkl
    have hbs := hb.size
    obtain ⟨kk, hkk⟩ : ∃ kk, str kl = kk := ⟨_, rfl⟩
    have hkd : kk.data.toList = kl := by rw [← hkk]; rfl
    have hksz : kk.size = kl.length := by rw [← hkd]; rfl
    obtain ⟨c0, w1, hcv, hF0, hb1'⟩ := frow_conv kk wc (by omega)
    rw [hkk]
    rw [hkd] at hF0
    obtain ⟨n, hn⟩ : ∃ n, kk.size = n := ⟨_, rfl⟩
    rw [hn] at hF0 hcv
    have hn64 : n ≤ 64 := by omega
    have hnl : kl.length = n := by omega
    replace hkk := Lib.hid hkk
    replace hkd := Lib.hid hkd
    replace hksz := Lib.hid hksz
    replace hn := Lib.hid hn
    have hb1 := hb.trans (hb1'.mono hbs)
    have hF1 : FRow w1 w.heap.size (.slice (some ⟨wc.heap.size, 0, none⟩) n c0) (n + 0) (keyZ kl 0) := by
      unfold keyZ
      rw [List.replicate_zero, List.append_nil]
      exact hF0.mono hbs
    clear hF0 hb1' hb
    go_wp2_with fail
    go_loopw [7] (fun v wr => ∃ z : Nat, n + z ≤ 64 ∧ FRow wr w.heap.size v (n + z) (keyZ kl z) ∧ Below w.heap.size w wr) (fun v _ => 64 - lenV v)
    case atStart => exact ⟨0, by omega, hF1, hb1⟩
    case round =>
      clear hF1 hb1 hcv
      obtain ⟨z, hz, hF, hb⟩ := hrel
      have hbs := hb.size
      obtain ⟨gb, cb, rfl, hcb, hgb1, hgb2⟩ := hF.lt
      obtain ⟨m, hm⟩ : ∃ m, n + z = m := ⟨_, rfl⟩
      rw [hm] at hF hcb hz ⊢
      by_cases hlt : m < 64
      · have hlt' : (m : Int) < 64 := by omega
        have hps := Lib.hid (keyZ_succ kl z)
        replace hm := Lib.hid hm
        go_wp2_with (at_builtin; refine wpList_append_frow rfl (.tmp 20) (.tmp 21) rfl (by rfl) (hF.alloc (.cells #[.int .u8 0] 5)) (by simp; omega) (m := 1) (cs := [0]) (by rfl) rfl (one_news wr 0 (.int .u8 0) rfl) (by decide) (by decide) (by omega) ?_)
        intro v3 w3 hF3 hg3
        have hb3 : Below w.heap.size w w3 := (hb.alloc hbs (.cells #[.int .u8 0] 5)).grown hg3 (by simp; omega) (fun q e => by have := own_blk e; omega)
        rw [hps.out] at hF3
        clear hF hb hg3
        obtain ⟨gb3, cb3, rfl, _, _, _⟩ := hF3.lt
        go_wp2_with fail
        go_roundw
        case rel => exact ⟨z + 1, by have := hm.out; omega, by have := hm.out; rw [show n + (z + 1) = m + 1 from by omega]; exact hF3, hb3⟩
        case measure => have := hm.out; simp [lenV]; omega
      · obtain rfl : m = 64 := by omega
        have hlt' : ¬ ((64 : Nat) : Int) < 64 := by omega
        have hF2 : FRow wr w.heap.size (.slice (some ⟨gb, 0, none⟩) 64 cb) 64 (keyX kl x 0) := by
          rw [← keyX_zero kl x (by omega), show 64 - kl.length = z from by omega]
          exact hF
        replace hm := Lib.hid hm
        clear hlt hF
        go_wp2_with fail
        obtain ⟨wo2, hwo2⟩ : ∃ wo : World, wo = wr := ⟨_, rfl⟩
        subst hwo2
        go_loopw [8] (fun vi wx => ∃ i : Nat, i ≤ 64 ∧ vi = .int .i64 i ∧ FRow wx w.heap.size (.slice (some ⟨gb, 0, none⟩) 64 cb) 64 (keyX kl x i) ∧ Below w.heap.size w wx) (fun vi _ => 64 - (intOf vi).toNat)
        case atStart => exact ⟨0, Nat.zero_le _, rfl, hF2, hb⟩
        case round =>
          clear hF2 hb
          obtain ⟨i, hi64, rfl, hF, hb⟩ := hrel
          by_cases hlti : i < 64
          · have hlt2 : (i : Int) < 64 := by omega
            have hi0 : (0 : Int) ≤ (i : Int) := by omega
            have c1 := hF.cell hlti
            have f1 := hF.free hlti
            rw [keyX_getD _ _ _ hlti] at c1
            have hset := hF.set hlti (kl.getD i 0 ^^^ x)
            rw [keyX_set] at hset
            have hb2 := hb.setCell (p := ⟨gb, i, none⟩) (by show w.heap.size ≤ gb; omega) (bv (kl.getD i 0 ^^^ x))
            generalize kl.getD i 0 = c at *
            have hxb : Value.int .u8 (bits .xor .u8 (c.toNat : Int) xi) = bv (c ^^^ x) := by rw [hx.out]; exact xor_byte c x
            simp only [bv] at c1
            replace hxb := Lib.hid hxb
            go_wp2_with fail
            rw [hxb.out]
            go_roundw
            case rel => first | exact ⟨i + 1, by omega, by go_num, hset, hb2⟩ | ((repeat apply Exists.intro); exact ⟨⟨i + 1, by omega, by go_num, hset, hb2⟩, rfl⟩)
            case measure => simp [intOf]; omega
          · obtain rfl : i = 64 := by omega
            have hlt2 : ¬ ((64 : Nat) : Int) < 64 := by omega
            have hcv := hF.back
            rw [keyX_all, ht.out] at hcv
            clear hF hlti
            go_wp2_with fail
            go_ret
            exact ⟨rfl, hb⟩
theorem str_join (a b : List UInt8) : str a ++ str b = str (a ++ b) := by
  apply ByteArray.ext
  rw [ByteArray.data_append]
  simp [str]
set_option maxHeartbeats 4000000 in
theorem rmac_any {w : World} {key s : ByteArray} {kg kcap : Nat} (hs1 : key.size ≤ 140737488355328) (hs2 : s.size ≤ 140737488355328) (hK : KeyIn w kg) :
    Calls Try.prog 28 #[.string key, .string s, .slice (some ⟨kg, 0, none⟩) 64 kcap] w fun e w' => e = .returned (.string (str (Sha.mac key.data.toList s.data.toList))) ∧ Below w.heap.size w w' := by
  have hkg := hK.1
  obtain ⟨kl, hkl⟩ : ∃ kl, keyL key.data.toList = kl := ⟨_, rfl⟩
  obtain ⟨po, hpo⟩ : ∃ p, str (Sha.kpad kl 92) = p := ⟨_, rfl⟩
  obtain ⟨pi, hpi⟩ : ∃ p, str (Sha.kpad kl 54) = p := ⟨_, rfl⟩
  have hposz : po.size = 64 := by rw [← hpo]; rfl
  have hpisz : pi.size = 64 := by rw [← hpi]; rfl
  obtain ⟨t, ht⟩ : ∃ t, str (Sha.sha (pi ++ s).data.toList) = t := ⟨_, rfl⟩
  have htsz : t.size = 32 := by rw [← ht]; exact sha_length _
  have hsz1 : (pi ++ s).size ≤ 140737488360000 := by rw [ByteArray.size_append]; omega
  have hsz2 : (po ++ t).size ≤ 140737488360000 := by rw [ByteArray.size_append]; omega
  have h1 : Hid (str (Sha.kpad (keyL key.data.toList) 92) = po) := by show _ = _; rw [hkl, hpo]
  have h2 : Hid (str (Sha.kpad (keyL key.data.toList) 54) = pi) := by show _ = _; rw [hkl, hpi]
  have h4 : Hid (str (Sha.sha (po ++ t).data.toList) = str (Sha.mac key.data.toList s.data.toList)) := by
    show _ = _
    have e : Sha.mac key.data.toList s.data.toList = Sha.sha (Sha.kpad kl 92 ++ Sha.sha (Sha.kpad kl 54 ++ s.data.toList)) := by
      rw [← hkl]
      rfl
    rw [e, ← hpo, ← ht, ← hpi, str_join]
    have e2 : (str (Sha.kpad kl 54) ++ s).data.toList = Sha.kpad kl 54 ++ s.data.toList := by rw [ByteArray.data_append]; simp [str]
    rw [e2]
    rfl
  replace ht := Lib.hid ht
  have hcc1 : ¬ (9223372036854775807 < pi.size + s.size) := by omega
  have hcc2 : ¬ (9223372036854775807 < po.size + t.size) := by omega
  replace hkl := Lib.hid hkl
  replace hpo := Lib.hid hpo
  replace hpi := Lib.hid hpi
  go_enter Try.func28, Try.ntmps28
  go_wp2_with fail
  (with_reducible refine (rpad_any (x := 92) (xi := 92) (Lib.hid (by decide)) (by omega) hK h1).mono ?_)
  rintro e w1 ⟨rfl, hb1⟩
  have hK1 := hK.below hb1 hkg
  go_wp2_with fail
  (with_reducible refine (rpad_any (x := 54) (xi := 54) (Lib.hid (by decide)) (by omega) hK1 h2).mono ?_)
  rintro e w2 ⟨rfl, hb2'⟩
  have hb2 := hb1.trans (hb2'.mono hb1.size)
  have hK2 := hK.below hb2 hkg
  clear hb1 hb2' hK1
  go_wp2_with fail
  (with_reducible refine (rsum_any hsz1 hK2 ht).mono ?_)
  rintro e w3 ⟨rfl, hb3'⟩
  have hb3 := hb2.trans (hb3'.mono hb2.size)
  have hK3 := hK.below hb3 hkg
  clear hb2 hb3' hK2
  go_wp2_with fail
  (with_reducible refine (rsum_any hsz2 hK3 h4).mono ?_)
  rintro e w4 ⟨rfl, hb4'⟩
  have hb4 := hb3.trans (hb4'.mono hb3.size)
  go_wp2_with fail
  go_ret
  exact ⟨rfl, hb4⟩
/-- Mac of the document's hash -/
theorem rMac_any (key s : ByteArray) (w : World) (hs1 : key.size ≤ 140737488355328) (hs2 : s.size ≤ 140737488355328) :
    Calls Try.prog 15 #[.string key, .string s] w fun e w' => e = .returned (.string (str (Sha.mac key.data.toList s.data.toList))) ∧ Below w.heap.size w w' := by
  go_enter Try.func15, Try.ntmps15
  go_wp2_with fail
  refine (keys_any _).mono ?_
  rintro e w1 ⟨g, cap, rfl, hK, hb1⟩
  go_wp2_with fail
  refine (rmac_any hs1 hs2 hK).mono ?_
  rintro e w2 ⟨rfl, hb2'⟩
  have hb2 := hb1.trans (hb2'.mono hb1.size)
  go_wp2_with fail
  go_ret
  exact ⟨rfl, hb2⟩
end Go.Proofs.Ytcllcajkmimgbaa.RH
