/-
  The walk of HashKeys: for every key, text and number within the reach the call returns true.
-/
import Derived.Test.YtcllcajkmimgbaaHArgs
import Derived.Test.YtcllcajkmimgbaaHPiecesW
import Derived.Deep.RegionHeld3
import Derived.Deep.CutBlock
namespace Go.Proofs.Ytcllcajkmimgbaa.hkeysL
open Go.RowKit Base HH hlinks hpieces
theorem mac_b {w : World} {s r t : ByteArray} (hs : short s) (hr : short r) (ht : Hid (str (Sha.mac s.data.toList r.data.toList) = t)) : Calls Try.prog 14 #[.string s, .string r] w fun e w' => e = .returned (.string t) ∧ Below w.heap.size w w' := mac_v hs hr ht
theorem mac_length (a b : List UInt8) : (Sha.mac a b).length = 32 := sha_length _
/-- a mac is two sums -/
theorem mac_two {key : ByteArray} (h : key.size ≤ 64) (s : ByteArray) : Sha.mac key.data.toList s.data.toList = Sha.sha (Sha.kpad key.data.toList 92 ++ Sha.sha (Sha.kpad key.data.toList 54 ++ s.data.toList)) := by
  unfold Sha.mac
  rw [if_pos (show key.data.toList.length ≤ 64 from h)]
/-- a key that is too long is as good as its sum -/
theorem mac_long {key : ByteArray} (h : 64 < key.size) (s : ByteArray) : Sha.mac key.data.toList s.data.toList = Sha.mac (Sha.sha key.data.toList) s.data.toList := by
  unfold Sha.mac
  rw [if_neg (show ¬ key.data.toList.length ≤ 64 from by show ¬ key.size ≤ 64; omega), if_pos (by rw [sha_length]; decide)]
/-- bytes 0 behind it change nothing -/
theorem kpad_noughts (k : List UInt8) (j : Nat) (x : UInt8) : Sha.kpad (k ++ List.replicate j 0) x = Sha.kpad k x := by
  unfold Sha.kpad
  apply List.map_congr_left
  intro i _
  congr 1
  rw [List.getD_eq_getElem?_getD, List.getD_eq_getElem?_getD]
  by_cases hi : i < k.length
  · rw [List.getElem?_append_left hi]
  · rw [List.getElem?_append_right (by omega), List.getElem?_eq_none (l := k) (by omega), List.getElem?_replicate]
    split <;> rfl
theorem mac_noughts {k : List UInt8} (j : Nat) (h : k.length + j ≤ 64) (s : List UInt8) : Sha.mac (k ++ List.replicate j 0) s = Sha.mac k s := by
  unfold Sha.mac
  rw [if_pos (by rw [List.length_append, List.length_replicate]; exact h), if_pos (by omega)]
  show Sha.sha (Sha.kpad (k ++ List.replicate j 0) 92 ++ Sha.sha (Sha.kpad (k ++ List.replicate j 0) 54 ++ s)) = _
  rw [kpad_noughts, kpad_noughts]
/-- the first j bytes of the padded key, as the law builds it -/
def kpL (key : List UInt8) (x : UInt8) (j : Nat) : List UInt8 := (Sha.kpad key x).take j
theorem kpL_succ (key : List UInt8) (x : UInt8) {j : Nat} (h : j < 64) : (kpL key x (j + 1)).map bv = (kpL key x j).map bv ++ [bv (key.getD j 0 ^^^ x)] := by
  unfold kpL
  have hl : j < (Sha.kpad key x).length := by unfold Sha.kpad; rw [List.length_map, List.length_range]; exact h
  rw [List.take_succ_eq_append_getElem hl, List.map_append]
  congr 1
  unfold Sha.kpad
  simp
theorem kpL_all (key : List UInt8) (x : UInt8) : kpL key x 64 = Sha.kpad key x := by
  unfold kpL
  exact List.take_of_length_le (by unfold Sha.kpad; rw [List.length_map, List.length_range]; exact Nat.le_refl _)
/-- rows whose first bytes differ lie apart -/
theorem apart_first {w : World} {B B' n m : Nat} {v v' : Value} {a b : Value} {xs ys : List Value} (hab : a ≠ b) (h : w.ownsRow B 5 1 v n (a :: xs)) (h' : w.ownsRow B' 5 1 v' m (b :: ys)) (g : Nat) (e : v.ownBlock = some g) : v'.ownBlock ≠ some g := by
  intro e'
  have c1 := h.cells (g := g) e 0 a rfl
  have c2 := h'.cells (g := g) e' 0 b rfl
  rw [c1] at c2
  exact hab (Option.some.inj c2)
/-- a row without room lies apart from one that has bytes -/
theorem apart_empty {w : World} {B B' n gb : Nat} {v : Value} {xs : List Value} (h : w.ownsRow B 5 1 v (n + 1) xs) (h' : w.ownsRow B' 5 1 (.slice (some ⟨gb, 0, none⟩) 0 0) 0 []) : v.ownBlock ≠ some gb := by
  intro e
  rcases h.2 with ⟨_, h0⟩ | ⟨g, c, cur, hv, _, hh, hc, _, hs, _⟩
  · omega
  · subst hv
    obtain rfl : g = gb := Option.some.inj e
    rcases h'.2 with ⟨hv', _⟩ | ⟨g', c', cur', hv', _, hh', _, _, hs', _⟩
    · cases hv'
    · cases hv'
      rw [hh] at hh'
      have := Option.some.inj hh'
      simp at this
      subst this
      omega
/-- the key with so many bytes 0 behind it -/
def longer (key : ByteArray) (c : Nat) : ByteArray := str (key.data.toList ++ List.replicate c 0)
theorem longer_zero (key : ByteArray) : longer key 0 = key := by
  unfold longer
  rw [List.replicate_zero, List.append_nil]
  exact str_of key
theorem longer_size (key : ByteArray) (c : Nat) : (longer key c).size = key.size + c := by
  unfold longer
  rw [str_size, List.length_append, List.length_replicate]
  rfl
theorem longer_next (key : ByteArray) (c : Nat) : longer key c ++ (⟨#[0]⟩ : ByteArray) = longer key (c + 1) := by
  have h : (longer key c ++ (⟨#[0]⟩ : ByteArray)).data.toList = (longer key (c + 1)).data.toList := by
    unfold longer
    rw [ByteArray.data_append, List.replicate_succ']
    simp [str]
  rw [← str_of (longer key c ++ (⟨#[0]⟩ : ByteArray)), h]
  exact str_of _
theorem kpL_cons (key : List UInt8) (x : UInt8) {j : Nat} (h : 0 < j) : ∃ r, (kpL key x j).map bv = bv (key.getD 0 0 ^^^ x) :: r := by
  obtain ⟨i, rfl⟩ : ∃ i, j = i + 1 := ⟨j - 1, by omega⟩
  exact ⟨_, rfl⟩
theorem kp_ne (k : UInt8) : bv (k ^^^ 92) ≠ bv (k ^^^ 54) := by
  intro e
  have h1 : ((k ^^^ 92).toNat : Int) = ((k ^^^ 54).toNat : Int) := by
    unfold bv at e
    injection e
  have h2 : (k ^^^ 92) = (k ^^^ 54) := UInt8.toNat_inj.1 (by omega)
  have h3 := congrArg (fun y => k ^^^ y) h2
  simp only [← UInt8.xor_assoc, UInt8.xor_self, UInt8.zero_xor] at h3
  exact absurd h3 (by decide)
theorem xor_is (c x : UInt8) : bv (c ^^^ x) = .int .u8 (bits .xor .u8 (c.toNat : Int) (x.toNat : Int)) := (xor_byte c x).symm
set_option maxRecDepth 8000 in
set_option maxHeartbeats 4000000 in
theorem walk (W : World) {key s : ByteArray} {z : Int} (hk : short key) (hs : short s) :
    Calls Try.prog 6 #[.string key, .string s, .int .i64 z] W fun e w' => e = .returned (.bool true) ∧ Below W.heap.size W w' := by
  obtain ⟨i0, hi, hz0, hz1, hz2⟩ := info_parts infoU8
  obtain ⟨m, hm⟩ : ∃ m, str (Sha.mac key.data.toList s.data.toList) = m := ⟨_, rfl⟩
  have hml : m.size = 32 := by rw [← hm, str_size, mac_length]
  obtain ⟨t, ht⟩ : ∃ t, str (Sha.sha s.data.toList) = t := ⟨_, rfl⟩
  have htl : t.size = 32 := by rw [← ht, str_size, sha_length]
  replace hm := Lib.hid hm
  replace ht := Lib.hid ht
  have hk' : key.size ≤ 288230376151711743 := hk
  have hs' : s.size ≤ 288230376151711743 := hs
  go_enter Try.func6, Try.ntmps6
  go_wp2_with fail
  refine (fixed_any W).mono ?_
  rintro e w1 ⟨rfl, hb1⟩
  go_wp2_with fail
  (with_reducible refine (mac_b hk hs hm).mono ?_)
  rintro e w2 ⟨rfl, hb2'⟩
  have hb2 := hb1.trans (hb2'.mono hb1.size)
  clear hb1 hb2'
  go_wp2_with fail
  (with_reducible refine (sum_v (by omega) ht).mono ?_)
  rintro e w3 ⟨rfl, hb3'⟩
  have hb3 := hb2.trans (hb3'.mono hb2.size)
  clear hb2 hb3'
  by_cases h64 : 64 < key.size
  · have h64' : (64 : Int) < key.size := by omega
    obtain ⟨k2, hk2⟩ : ∃ k, str (Sha.sha key.data.toList) = k := ⟨_, rfl⟩
    have hk2s : short k2 := by
      unfold short
      rw [← hk2, str_size, sha_length]
      decide
    have hm2 : Hid (str (Sha.mac k2.data.toList s.data.toList) = m) := by
      show _ = _
      rw [← hm.out, mac_long h64, ← hk2]
      rfl
    replace hk2 := Lib.hid hk2
    go_wp2_with fail
    (with_reducible refine (sum_v (by omega) hk2).mono ?_)
    rintro e w4 ⟨rfl, hb4'⟩
    have hb4 := hb3.trans (hb4'.mono hb3.size)
    clear hb3 hb4'
    go_wp2_with fail
    (with_reducible refine (mac_b hk2s hs hm2).mono ?_)
    rintro e w5 ⟨rfl, hb5'⟩
    have hb5 := hb4.trans (hb5'.mono hb4.size)
    clear hb4 hb5'
    go_wp2_with fail
    go_ret
    exact ⟨rfl, hb5⟩
  · have h64' : ¬ (64 : Int) < key.size := by omega
    have hk64 : key.size ≤ 64 := by omega
    have hbs := hb3.size
    go_wp2_with fail
    have hoA := World.ownsRow.alloc (World.ownsRow_made (base := W.heap.size) (e := 5) (size := 1) w3 #[] 0 hbs (Nat.zero_le _) rfl) (.cells #[] 5)
    have hoB := World.ownsRow_made (base := W.heap.size) (e := 5) (size := 1) (w3.alloc (.cells #[] 5)) #[] 0 (by simp; omega) (Nat.zero_le _) rfl
    rw [World.size_alloc] at hoB
    have hb5 := (hb3.alloc hbs (.cells #[] 5)).alloc (by simp; omega) (.cells #[] 5)
    change World.ownsRow ((w3.alloc (.cells #[] 5)).alloc (.cells #[] 5)) _ _ _ _ _ ((kpL key.data.toList 92 0).map bv) at hoA
    change World.ownsRow ((w3.alloc (.cells #[] 5)).alloc (.cells #[] 5)) _ _ _ _ _ ((kpL key.data.toList 54 0).map bv) at hoB
    generalize (w3.alloc (.cells #[] 5)).alloc (.cells #[] 5) = w5 at *
    have hap : ∀ g, (Value.slice (some ⟨w3.heap.size, 0, none⟩) 0 0).ownBlock = some g → (Value.slice (some ⟨w3.heap.size + 1, 0, none⟩) 0 0).ownBlock ≠ some g := fun g e e' => by
      have e1 : w3.heap.size = g := Option.some.inj e
      have e2 : w3.heap.size + 1 = g := Option.some.inj e'
      omega
    generalize w3.heap.size = ga at *
    go_loopw [8, 9, 10] (fun va vb i wr => ∃ j : Nat, j ≤ 64 ∧ i = .int .i64 j ∧ wr.ownsRow W.heap.size 5 1 va j ((kpL key.data.toList 92 j).map bv) ∧ wr.ownsRow W.heap.size 5 1 vb j ((kpL key.data.toList 54 j).map bv) ∧ (∀ g, va.ownBlock = some g → vb.ownBlock ≠ some g) ∧ (j = 0 → vb = .slice (some ⟨ga + 1, 0, none⟩) 0 0) ∧ Below W.heap.size W wr) (fun _ _ i _ => 64 - (intOf i).toNat)
    case atStart => exact ⟨0, Nat.zero_le _, rfl, hoA, hoB, hap, fun _ => rfl, hb5⟩
    case round =>
      clear hoA hoB hap hb5
      obtain ⟨j, hj, rfl, hoA, hoB, hap, hze, hb⟩ := hrel
      have hbs' := hb.size
      by_cases hlt : j < 64
      · have hlt' : (j : Int) < 64 := by omega
        obtain ⟨c, hcd⟩ : ∃ c, key.data.toList.getD j 0 = c := ⟨_, rfl⟩
        have hsA := kpL_succ key.data.toList 92 hlt
        have hsB := kpL_succ key.data.toList 54 hlt
        rw [hcd] at hsA hsB
        replace hsA := Lib.hid hsA
        replace hsB := Lib.hid hsB
        replace hze := Lib.hid hze
        go_upto_if 46 with fail
        go_cut [11] from 46 to 49 (fun s11 wx => s11 = .int .u8 (c.toNat : Int) ∧ wr = wx)
        case first =>
          by_cases hjk : j < key.size
          · have hjk' : (j : Int) < key.size := by omega
            have hc : Hid ((key[j]'hjk) = c) := by show _ = _; rw [← hcd]; exact (getD_at key j hjk).symm
            replace hcd := Lib.hid hcd
            go_wp2_with fail
            go_meet
            case rel => exact ⟨by rw [hc.out], rfl⟩
          · have hjk' : ¬ (j : Int) < key.size := by omega
            have hc : Hid (c = 0) := by
              show _ = _
              rw [← hcd, List.getD_eq_getElem?_getD, List.getElem?_eq_none (show key.data.toList.length ≤ j from by show key.size ≤ j; omega)]
              rfl
            replace hcd := Lib.hid hcd
            go_wp2_with fail
            go_meet
            case rel => exact ⟨by rw [hc.out]; rfl, rfl⟩
        case rest =>
          obtain ⟨rfl, rfl⟩ := hcut
          replace hcd := Lib.hid hcd
          have hb256 : c.toNat < 256 := c.toNat_lt
          have hxA : Hid (bv (c ^^^ 92) = .int .u8 (bits .xor .u8 (c.toNat : Int) 92)) := xor_is c 92
          have hxB : Hid (bv (c ^^^ 54) = .int .u8 (bits .xor .u8 (c.toNat : Int) 54)) := xor_is c 54
          go_wp2_with (at_builtin; refine wpList_append_own _ rfl (.tmp 50) (.tmp 53) 30 rfl W.heap.size 5 i0 (.int .u8 0) 1 1 Try.underlying30 hi hz0 hz1 hz2 rfl (by decide) _ _ _ rfl (hoA.alloc _) ⟨wr.heap.size, 0, none⟩ 1 1 [bv (c ^^^ 92)] rfl rfl ?c1 ?c2 ?c3 ?c4 ?c5 ?_)
          case c1 => rw [hxA.out]; exact cell_one_new _ _ _
          case c2 => exact one_cell _ rfl
          case c3 => unfold maxLen; omega
          case c4 => omega
          case c5 => simp; omega
          intro vA wA hoA' hgA _
          rw [← hsA.out] at hoA'
          have hbA : Below W.heap.size W wA := (hb.alloc (by omega) _).grown hgA (by simp; omega) (fun g hg => (hoA.lt g hg).1)
          have hoB' := owned_grown (hoB.alloc (.cells #[.int .u8 (bits .xor .u8 (c.toNat : Int) 92)] 5)) hgA (fun g hg e => hap g e hg)
          have hapA : ∀ g, vA.ownBlock = some g → u9.ownBlock ≠ some g := by
            rcases Nat.eq_zero_or_pos j with hj0 | hj0
            · have hz := hze.out hj0
              subst hj0
              subst hz
              intro g hg e
              cases e
              exact apart_empty hoA' hoB' hg
            · obtain ⟨rA, hrA⟩ := kpL_cons key.data.toList 92 (j := j + 1) (by omega)
              obtain ⟨rB, hrB⟩ := kpL_cons key.data.toList 54 hj0
              intro g hg
              have h1 := hoA'
              have h2 := hoB'
              rw [hrA] at h1
              rw [hrB] at h2
              exact apart_first (kp_ne _) h1 h2 g hg
          have hbsA := hbA.size
          clear hoA hoB hb hgA hap hxA hsA
          go_wp2_with (at_builtin; refine wpList_append_own _ rfl (.tmp 55) (.tmp 58) 30 rfl W.heap.size 5 i0 (.int .u8 0) 1 1 Try.underlying30 hi hz0 hz1 hz2 rfl (by decide) _ _ _ rfl (hoB'.alloc _) ⟨wA.heap.size, 0, none⟩ 1 1 [bv (c ^^^ 54)] rfl rfl ?d1 ?d2 ?d3 ?d4 ?d5 ?_)
          case d1 => rw [hxB.out]; exact cell_one_new _ _ _
          case d2 => exact one_cell _ rfl
          case d3 => unfold maxLen; omega
          case d4 => omega
          case d5 => simp; omega
          intro vB wB hoB'' hgB _
          rw [← hsB.out] at hoB''
          have hbB : Below W.heap.size W wB := (hbA.alloc (by omega) _).grown hgB (by simp; omega) (fun g hg => (hoB'.lt g hg).1)
          have hoA'' := owned_grown (hoA'.alloc (.cells #[.int .u8 (bits .xor .u8 (c.toNat : Int) 54)] 5)) hgB (fun g hg e => hapA g hg e)
          have hapB : ∀ g, vA.ownBlock = some g → vB.ownBlock ≠ some g := by
            obtain ⟨rA, hrA⟩ := kpL_cons key.data.toList 92 (j := j + 1) (by omega)
            obtain ⟨rB, hrB⟩ := kpL_cons key.data.toList 54 (j := j + 1) (by omega)
            intro g hg
            have h1 := hoA''
            have h2 := hoB''
            rw [hrA] at h1
            rw [hrB] at h2
            exact apart_first (kp_ne _) h1 h2 g hg
          clear hoA' hoB' hbA hgB hapA hxB hsB hze
          go_wp2_with fail
          go_roundw
          case rel => first | exact ⟨j + 1, by omega, by go_num, hoA'', hoB'', hapB, fun h => absurd h (by omega), hbB⟩ | ((repeat apply Exists.intro); exact ⟨⟨j + 1, by omega, by go_num, hoA'', hoB'', hapB, fun h => absurd h (by omega), hbB⟩, rfl⟩)
          case measure => simp [intOf]; omega
      · obtain rfl : j = 64 := by omega
        rw [kpL_all] at hoA hoB
        have hm2 := mac_two hk64 s
        have hpl : ∀ x, (Sha.kpad key.data.toList x).length = 64 := fun x => by unfold Sha.kpad; rw [List.length_map, List.length_range]
        have hp1 := hpl 54
        have hp2 := hpl 92
        generalize Sha.kpad key.data.toList 54 = pi at *
        generalize Sha.kpad key.data.toList 92 = po at *
        obtain ⟨t3, ht3⟩ : ∃ t, str (Sha.sha (pi ++ s.data.toList)) = t := ⟨_, rfl⟩
        have ht3l : t3.size = 32 := by rw [← ht3, str_size, sha_length]
        have ht3' : Hid (str (Sha.sha (str pi ++ s).data.toList) = t3) := by
          show _ = _
          rw [← ht3, ByteArray.data_append]
          simp [str]
        have hm3 : Hid (str (Sha.sha (str po ++ t3).data.toList) = m) := by
          show _ = _
          rw [← hm.out, hm2, ← ht3, ByteArray.data_append]
          simp [str]
        have hcc1 : ¬ (9223372036854775807 < (str pi).size + s.size) := by rw [str_size]; omega
        have hcc2 : ¬ (9223372036854775807 < (str po).size + 32) := by rw [str_size]; omega
        have hS1 := Lib.hid (fun w' => sum_b (w := wr) (s := str pi ++ s) (by rw [ByteArray.size_append, str_size]; omega) ht3' w')
        have hS2 := Lib.hid (fun w' => sum_b (w := wr) (s := str po ++ t3) (by rw [ByteArray.size_append, str_size]; omega) hm3 w')
        have hkA := Lib.hid (back_b hoA)
        have hkB := Lib.hid (back_b hoB)
        have hbd : Below wr.heap.size wr wr.drew := (Below.refl _ _).drew
        clear hap hze hoA hoB ht3 hm2 hpl hlt hp1 hp2
        go_wp2_with fail
        go_region_held3 (fun w' => (convert 30 9 u8).run Try.prog w' = .ok (.string (str po)) w' ∧ (convert 30 9 u9).run Try.prog w' = .ok (.string (str pi)) w')
          (first | exact ⟨hkA.out _ (by assumption), hkB.out _ (by assumption)⟩)
          (first
            | (go_at_call 12; (with_reducible refine (hS1.out _ (by assumption)).mono ?_); rintro e wA ⟨rfl, hbA⟩)
            | (go_at_call 12; (with_reducible refine (hS2.out _ (by assumption)).mono ?_); rintro e wB ⟨rfl, hbB⟩))
        have hb11 := hb.trans (hbB.mono hb.size)
        clear hS1 hS2 hkA hkB hbd hbA hbB hb hcc1 hcc2 ht3' hm3
        go_wp2_with fail
        obtain ⟨wo, rfl⟩ : ∃ wo : World, wo = wr := ⟨_, rfl⟩
        go_loopw [12, 13] (fun lv i wr => ∃ c : Nat, key.size + c ≤ 64 ∧ i = .int .i64 c ∧ lv = .string (longer key c) ∧ Below W.heap.size W wr) (fun lv _ _ => 64 - szOf lv)
        case atStart => exact ⟨0, by omega, rfl, by rw [longer_zero], hb11⟩
        case round =>
          clear hb11
          obtain ⟨c, hc64, rfl, rfl, hb⟩ := hrel
          have hls := longer_size key c
          have hnx := longer_next key c
          obtain ⟨x, hx⟩ : ∃ x, longer key c = x := ⟨_, rfl⟩
          obtain ⟨y, hy⟩ : ∃ y, longer key (c + 1) = y := ⟨_, rfl⟩
          rw [hx] at hls hnx ⊢
          rw [hy] at hnx
          replace hnx := Lib.hid hnx
          by_cases hlt : (c : Int) < z ∧ key.size + c < 64
          · obtain ⟨h1, h2⟩ := hlt
            have h2' : (x.size : Int) < 64 := by omega
            have hcc : ¬ (9223372036854775807 < x.size + 1) := by omega
            have hys : y.size = x.size + 1 := by rw [← hy, longer_size, hls]; omega
            have hx64 : x.size < 64 := by omega
            replace hys := Lib.hid hys
            replace hls := Lib.hid hls
            replace hx := Lib.hid hx
            replace hy := Lib.hid hy
            go_wp2_with fail
            rw [hnx.out]
            go_roundw
            case rel => first | exact ⟨c + 1, by omega, by go_num, by rw [hy.out], hb⟩ | ((repeat apply Exists.intro); exact ⟨⟨c + 1, by omega, by go_num, by rw [hy.out], hb⟩, rfl⟩)
            case measure => have h1 := hys.out; simp [szOf]; omega
          · have hm4 : Hid (str (Sha.mac x.data.toList s.data.toList) = m) := by
              show _ = _
              rw [← hm.out, ← hx]
              unfold longer
              rw [str_toList, mac_noughts c (by show key.size + c ≤ 64; exact hc64)]
            have hxs : short x := by unfold short; omega
            replace hx := Lib.hid hx
            replace hy := Lib.hid hy
            have hx64 : (c : Int) < z → ¬ (x.size : Int) < 64 := by omega
            replace hx64 := Lib.hid hx64
            replace hls := Lib.hid hls
            replace hlt := Lib.hid hlt
            by_cases h1 : (c : Int) < z
            · have h2' : ¬ (x.size : Int) < 64 := hx64.out h1
              clear hlt hx64
              go_wp2_with fail
              (with_reducible refine (mac_b hxs hs hm4).mono ?_)
              rintro e w2 ⟨rfl, hb2'⟩
              have hb2 := hb.trans (hb2'.mono hb.size)
              clear hb hb2'
              go_wp2_with fail
              go_ret
              exact ⟨rfl, hb2⟩
            · have hd : decide ((c : Int) < z) = false := by simpa using h1
              clear hlt hx64
              go_wp2_with fail
              (with_reducible refine (mac_b hxs hs hm4).mono ?_)
              rintro e w2 ⟨rfl, hb2'⟩
              have hb2 := hb.trans (hb2'.mono hb.size)
              clear hb hb2'
              go_wp2_with fail
              go_ret
              exact ⟨rfl, hb2⟩
end Go.Proofs.Ytcllcajkmimgbaa.hkeysL
