/-
  Link and Chain of the document's hash: for texts within the bound the calls return the link and the chain.
-/
import Derived.Test.YtcllcajkmimgbaaRTop
set_option linter.unusedVariables false
set_option maxRecDepth 100000
namespace Go.Proofs.Ytcllcajkmimgbaa.RH
open Go.RowKit Base HH
/-- the j highest of a number's eight bytes -/
def beTo (n j : Nat) : List UInt8 := (List.range j).map fun i => UInt8.ofNat (n / 256 ^ (7 - i) % 256)
theorem beTo_succ (n j : Nat) : beTo n (j + 1) = beTo n j ++ [UInt8.ofNat (n / 256 ^ (7 - j) % 256)] := by
  unfold beTo
  rw [List.range_succ, List.map_append]
  rfl
theorem beTo_all (n : Nat) : beTo n 8 = Sha.be8 n := rfl
def lenA : Value → Nat
  | .slice _ m _ => m
  | _ => 0
theorem i64_and255 (n : Int) : bits .and .i64 n 255 = n % 256 := by
  have h255 : (BitVec.ofInt 64 255).toNat = 2 ^ 8 - 1 := by decide
  have key : (BitVec.ofInt 64 n &&& BitVec.ofInt 64 255).toNat = (n % ((2 ^ 64 : Nat) : Int)).toNat % 2 ^ 8 := by
    rw [BitVec.toNat_and, BitVec.toNat_ofInt, h255, Nat.and_two_pow_sub_one_eq_mod]
  show IntKind.i64.wrap ((BitVec.ofInt 64 n &&& BitVec.ofInt 64 255).toNat : Nat) = n % 256
  rw [key, IntKind.wrap_i64]
  omega
theorem shr_byte (R D : Nat) (hR : R ≤ 10000000) : bits .and .i64 ((R : Int) / ((D : Nat) : Int)) 255 % 256 = ((UInt8.ofNat (R / D % 256)).toNat : Int) := by
  rw [show (R : Int) / ((D : Nat) : Int) = ((R / D : Nat) : Int) from by omega, i64_and255, UInt8.toNat_ofNat']
  omega
set_option maxHeartbeats 4000000 in
theorem rlink_any {w : World} {s r t : ByteArray} (hs : s.size ≤ 10000000) (hr : r.size ≤ 10000000) (ht : Hid (str (Sha.link s.data.toList r.data.toList) = t)) :
    Calls Try.prog 19 #[.string s, .string r] w fun e w' => e = .returned (.string t) ∧ Below w.heap.size w w' := by
  obtain ⟨c0, w1, hcv, hF0, hb1⟩ := frow_conv s w (by omega)
  obtain ⟨l, hl⟩ : ∃ l, s.data.toList = l := ⟨_, rfl⟩
  obtain ⟨R, hR⟩ : ∃ R, r.size = R := ⟨_, rfl⟩
  have ht' : Hid (str (Sha.sha (str (l ++ beTo R 8) ++ r).data.toList) = t) := by
    show _ = _
    rw [← ht.out, hl]
    unfold Sha.link
    rw [show r.data.toList.length = R from hR, beTo_all]
    have e : (str (l ++ Sha.be8 R) ++ r).data.toList = l ++ Sha.be8 R ++ r.data.toList := by
      rw [ByteArray.data_append]
      simp [str]
    rw [e]
  rw [hl] at hF0
  have hll : l.length = s.size := by rw [← hl]; rfl
  obtain ⟨n, hn⟩ : ∃ n, s.size = n := ⟨_, rfl⟩
  rw [hn] at hF0 hcv hs hll
  have hF1 : FRow w1 w.heap.size (.slice (some ⟨w.heap.size, 0, none⟩) n c0) (n + 0) (l ++ beTo R 0) := by
    show FRow _ _ _ _ (l ++ [])
    rw [List.append_nil]
    exact hF0
  replace hl := Lib.hid hl
  replace hn := Lib.hid hn
  have hR7 : R ≤ 10000000 := by omega
  clear hF0
  go_enter Try.func19, Try.ntmps19
  go_wp2_with fail
  go_loopw [5, 6] (fun v vi wr => ∃ j : Nat, j ≤ 8 ∧ vi = .int .i64 (56 - 8 * (j : Int)) ∧ FRow wr w.heap.size v (n + j) (l ++ beTo R j) ∧ Below w.heap.size w wr) (fun v _ _ => n + 8 - lenA v)
  case atStart => exact ⟨0, Nat.zero_le _, rfl, hF1, hb1⟩
  case round =>
    clear hF1 hb1 hcv
    obtain ⟨j, hj, rfl, hF, hb⟩ := hrel
    have hbs := hb.size
    obtain ⟨gb, cb, rfl, hcb, hgb1, hgb2⟩ := hF.lt
    by_cases hlt : j < 8
    · have hps := Lib.hid (beTo_succ R j)
      obtain ⟨c, hc⟩ : ∃ c, UInt8.ofNat (R / 256 ^ (7 - j) % 256) = c := ⟨_, rfl⟩
      rw [hc] at hps
      replace hc := Lib.hid hc
      rcases (by omega : j = 0 ∨ j = 1 ∨ j = 2 ∨ j = 3 ∨ j = 4 ∨ j = 5 ∨ j = 6 ∨ j = 7) with rfl | rfl | rfl | rfl | rfl | rfl | rfl | rfl
      · have hx : bits .and .i64 ((R : Int) / 72057594037927936) 255 % 256 = (c.toNat : Int) := by
          have := shr_byte R 72057594037927936 hR7
          rw [← hc.out]
          exact this
        replace hF : FRow wr w.heap.size (.slice (some ⟨gb, 0, none⟩) (n + 0) cb) (n + 0) (l ++ beTo R 0) := hF
        go_wp2_with (at_builtin; refine wpList_append_frow rfl (.tmp 13) (.tmp 20) rfl (by rfl) (hF.alloc (.cells #[.int .u8 (c.toNat : Int)] 5)) (by simp; omega) (m := 1) (cs := [c]) (by rfl) rfl (one_news wr c (.int .u8 (c.toNat : Int)) rfl) (by decide) (by decide) (by omega) ?_)
        intro v3 w3 hF3 hg3
        have hb3 : Below w.heap.size w w3 := (hb.alloc hbs (.cells #[.int .u8 (c.toNat : Int)] 5)).grown hg3 (by simp; omega) (fun q e => by have := own_blk e; omega)
        (try rw [List.append_assoc] at hF3)
        rw [← hps.out] at hF3
        clear hF hb hg3
        obtain ⟨gb3, cb3, rfl, _, _, _⟩ := hF3.lt
        go_wp2_with fail
        go_roundw
        case rel => first | exact ⟨1, by decide, by first | rfl | go_num, hF3, hb3⟩ | ((repeat apply Exists.intro); exact ⟨⟨1, by decide, by first | rfl | go_num, hF3, hb3⟩, rfl⟩)
        case measure => simp [lenA]; try omega
      · have hx : bits .and .i64 ((R : Int) / 281474976710656) 255 % 256 = (c.toNat : Int) := by
          have := shr_byte R 281474976710656 hR7
          rw [← hc.out]
          exact this
        replace hF : FRow wr w.heap.size (.slice (some ⟨gb, 0, none⟩) (n + 1) cb) (n + 1) (l ++ beTo R 1) := hF
        go_wp2_with (at_builtin; refine wpList_append_frow rfl (.tmp 13) (.tmp 20) rfl (by rfl) (hF.alloc (.cells #[.int .u8 (c.toNat : Int)] 5)) (by simp; omega) (m := 1) (cs := [c]) (by rfl) rfl (one_news wr c (.int .u8 (c.toNat : Int)) rfl) (by decide) (by decide) (by omega) ?_)
        intro v3 w3 hF3 hg3
        have hb3 : Below w.heap.size w w3 := (hb.alloc hbs (.cells #[.int .u8 (c.toNat : Int)] 5)).grown hg3 (by simp; omega) (fun q e => by have := own_blk e; omega)
        (try rw [List.append_assoc] at hF3)
        rw [← hps.out] at hF3
        clear hF hb hg3
        obtain ⟨gb3, cb3, rfl, _, _, _⟩ := hF3.lt
        go_wp2_with fail
        go_roundw
        case rel => first | exact ⟨2, by decide, by first | rfl | go_num, hF3, hb3⟩ | ((repeat apply Exists.intro); exact ⟨⟨2, by decide, by first | rfl | go_num, hF3, hb3⟩, rfl⟩)
        case measure => simp [lenA]; try omega
      · have hx : bits .and .i64 ((R : Int) / 1099511627776) 255 % 256 = (c.toNat : Int) := by
          have := shr_byte R 1099511627776 hR7
          rw [← hc.out]
          exact this
        replace hF : FRow wr w.heap.size (.slice (some ⟨gb, 0, none⟩) (n + 2) cb) (n + 2) (l ++ beTo R 2) := hF
        go_wp2_with (at_builtin; refine wpList_append_frow rfl (.tmp 13) (.tmp 20) rfl (by rfl) (hF.alloc (.cells #[.int .u8 (c.toNat : Int)] 5)) (by simp; omega) (m := 1) (cs := [c]) (by rfl) rfl (one_news wr c (.int .u8 (c.toNat : Int)) rfl) (by decide) (by decide) (by omega) ?_)
        intro v3 w3 hF3 hg3
        have hb3 : Below w.heap.size w w3 := (hb.alloc hbs (.cells #[.int .u8 (c.toNat : Int)] 5)).grown hg3 (by simp; omega) (fun q e => by have := own_blk e; omega)
        (try rw [List.append_assoc] at hF3)
        rw [← hps.out] at hF3
        clear hF hb hg3
        obtain ⟨gb3, cb3, rfl, _, _, _⟩ := hF3.lt
        go_wp2_with fail
        go_roundw
        case rel => first | exact ⟨3, by decide, by first | rfl | go_num, hF3, hb3⟩ | ((repeat apply Exists.intro); exact ⟨⟨3, by decide, by first | rfl | go_num, hF3, hb3⟩, rfl⟩)
        case measure => simp [lenA]; try omega
      · have hx : bits .and .i64 ((R : Int) / 4294967296) 255 % 256 = (c.toNat : Int) := by
          have := shr_byte R 4294967296 hR7
          rw [← hc.out]
          exact this
        replace hF : FRow wr w.heap.size (.slice (some ⟨gb, 0, none⟩) (n + 3) cb) (n + 3) (l ++ beTo R 3) := hF
        go_wp2_with (at_builtin; refine wpList_append_frow rfl (.tmp 13) (.tmp 20) rfl (by rfl) (hF.alloc (.cells #[.int .u8 (c.toNat : Int)] 5)) (by simp; omega) (m := 1) (cs := [c]) (by rfl) rfl (one_news wr c (.int .u8 (c.toNat : Int)) rfl) (by decide) (by decide) (by omega) ?_)
        intro v3 w3 hF3 hg3
        have hb3 : Below w.heap.size w w3 := (hb.alloc hbs (.cells #[.int .u8 (c.toNat : Int)] 5)).grown hg3 (by simp; omega) (fun q e => by have := own_blk e; omega)
        (try rw [List.append_assoc] at hF3)
        rw [← hps.out] at hF3
        clear hF hb hg3
        obtain ⟨gb3, cb3, rfl, _, _, _⟩ := hF3.lt
        go_wp2_with fail
        go_roundw
        case rel => first | exact ⟨4, by decide, by first | rfl | go_num, hF3, hb3⟩ | ((repeat apply Exists.intro); exact ⟨⟨4, by decide, by first | rfl | go_num, hF3, hb3⟩, rfl⟩)
        case measure => simp [lenA]; try omega
      · have hx : bits .and .i64 ((R : Int) / 16777216) 255 % 256 = (c.toNat : Int) := by
          have := shr_byte R 16777216 hR7
          rw [← hc.out]
          exact this
        replace hF : FRow wr w.heap.size (.slice (some ⟨gb, 0, none⟩) (n + 4) cb) (n + 4) (l ++ beTo R 4) := hF
        go_wp2_with (at_builtin; refine wpList_append_frow rfl (.tmp 13) (.tmp 20) rfl (by rfl) (hF.alloc (.cells #[.int .u8 (c.toNat : Int)] 5)) (by simp; omega) (m := 1) (cs := [c]) (by rfl) rfl (one_news wr c (.int .u8 (c.toNat : Int)) rfl) (by decide) (by decide) (by omega) ?_)
        intro v3 w3 hF3 hg3
        have hb3 : Below w.heap.size w w3 := (hb.alloc hbs (.cells #[.int .u8 (c.toNat : Int)] 5)).grown hg3 (by simp; omega) (fun q e => by have := own_blk e; omega)
        (try rw [List.append_assoc] at hF3)
        rw [← hps.out] at hF3
        clear hF hb hg3
        obtain ⟨gb3, cb3, rfl, _, _, _⟩ := hF3.lt
        go_wp2_with fail
        go_roundw
        case rel => first | exact ⟨5, by decide, by first | rfl | go_num, hF3, hb3⟩ | ((repeat apply Exists.intro); exact ⟨⟨5, by decide, by first | rfl | go_num, hF3, hb3⟩, rfl⟩)
        case measure => simp [lenA]; try omega
      · have hx : bits .and .i64 ((R : Int) / 65536) 255 % 256 = (c.toNat : Int) := by
          have := shr_byte R 65536 hR7
          rw [← hc.out]
          exact this
        replace hF : FRow wr w.heap.size (.slice (some ⟨gb, 0, none⟩) (n + 5) cb) (n + 5) (l ++ beTo R 5) := hF
        go_wp2_with (at_builtin; refine wpList_append_frow rfl (.tmp 13) (.tmp 20) rfl (by rfl) (hF.alloc (.cells #[.int .u8 (c.toNat : Int)] 5)) (by simp; omega) (m := 1) (cs := [c]) (by rfl) rfl (one_news wr c (.int .u8 (c.toNat : Int)) rfl) (by decide) (by decide) (by omega) ?_)
        intro v3 w3 hF3 hg3
        have hb3 : Below w.heap.size w w3 := (hb.alloc hbs (.cells #[.int .u8 (c.toNat : Int)] 5)).grown hg3 (by simp; omega) (fun q e => by have := own_blk e; omega)
        (try rw [List.append_assoc] at hF3)
        rw [← hps.out] at hF3
        clear hF hb hg3
        obtain ⟨gb3, cb3, rfl, _, _, _⟩ := hF3.lt
        go_wp2_with fail
        go_roundw
        case rel => first | exact ⟨6, by decide, by first | rfl | go_num, hF3, hb3⟩ | ((repeat apply Exists.intro); exact ⟨⟨6, by decide, by first | rfl | go_num, hF3, hb3⟩, rfl⟩)
        case measure => simp [lenA]; try omega
      · have hx : bits .and .i64 ((R : Int) / 256) 255 % 256 = (c.toNat : Int) := by
          have := shr_byte R 256 hR7
          rw [← hc.out]
          exact this
        replace hF : FRow wr w.heap.size (.slice (some ⟨gb, 0, none⟩) (n + 6) cb) (n + 6) (l ++ beTo R 6) := hF
        go_wp2_with (at_builtin; refine wpList_append_frow rfl (.tmp 13) (.tmp 20) rfl (by rfl) (hF.alloc (.cells #[.int .u8 (c.toNat : Int)] 5)) (by simp; omega) (m := 1) (cs := [c]) (by rfl) rfl (one_news wr c (.int .u8 (c.toNat : Int)) rfl) (by decide) (by decide) (by omega) ?_)
        intro v3 w3 hF3 hg3
        have hb3 : Below w.heap.size w w3 := (hb.alloc hbs (.cells #[.int .u8 (c.toNat : Int)] 5)).grown hg3 (by simp; omega) (fun q e => by have := own_blk e; omega)
        (try rw [List.append_assoc] at hF3)
        rw [← hps.out] at hF3
        clear hF hb hg3
        obtain ⟨gb3, cb3, rfl, _, _, _⟩ := hF3.lt
        go_wp2_with fail
        go_roundw
        case rel => first | exact ⟨7, by decide, by first | rfl | go_num, hF3, hb3⟩ | ((repeat apply Exists.intro); exact ⟨⟨7, by decide, by first | rfl | go_num, hF3, hb3⟩, rfl⟩)
        case measure => simp [lenA]; try omega
      · have hx : bits .and .i64 ((R : Int)) 255 % 256 = (c.toNat : Int) := by
          have := shr_byte R 1 hR7
          rw [← hc.out]
          rwa [show ((1 : Nat) : Int) = 1 from rfl, Int.ediv_one] at this
        replace hF : FRow wr w.heap.size (.slice (some ⟨gb, 0, none⟩) (n + 7) cb) (n + 7) (l ++ beTo R 7) := hF
        go_wp2_with (at_builtin; refine wpList_append_frow rfl (.tmp 13) (.tmp 20) rfl (by rfl) (hF.alloc (.cells #[.int .u8 (c.toNat : Int)] 5)) (by simp; omega) (m := 1) (cs := [c]) (by rfl) rfl (one_news wr c (.int .u8 (c.toNat : Int)) rfl) (by decide) (by decide) (by omega) ?_)
        intro v3 w3 hF3 hg3
        have hb3 : Below w.heap.size w w3 := (hb.alloc hbs (.cells #[.int .u8 (c.toNat : Int)] 5)).grown hg3 (by simp; omega) (fun q e => by have := own_blk e; omega)
        (try rw [List.append_assoc] at hF3)
        rw [← hps.out] at hF3
        clear hF hb hg3
        obtain ⟨gb3, cb3, rfl, _, _, _⟩ := hF3.lt
        go_wp2_with fail
        go_roundw
        case rel => first | exact ⟨8, by decide, by first | rfl | go_num, hF3, hb3⟩ | ((repeat apply Exists.intro); exact ⟨⟨8, by decide, by first | rfl | go_num, hF3, hb3⟩, rfl⟩)
        case measure => simp [lenA]; try omega
    · obtain rfl : j = 8 := by omega
      have hcv := hF.back
      clear hlt
      obtain ⟨B, hB⟩ : ∃ B, str (l ++ beTo R 8) = B := ⟨_, rfl⟩
      have hBz : B.size = n + 8 := by rw [← hB, str_size, List.length_append, hll]; rfl
      rw [hB] at hcv ht'
      have hcc : ¬ (9223372036854775807 < B.size + r.size) := by omega
      have hsz : (B ++ r).size ≤ 140737488360000 := by rw [ByteArray.size_append]; omega
      replace hB := Lib.hid hB
      replace hBz := Lib.hid hBz
      clear hF
      go_wp2_with fail
      (with_reducible refine (rSum_v hsz ht').mono ?_)
      rintro e w2 ⟨rfl, hb2⟩
      have hb3 := hb.trans (hb2.mono hbs)
      go_wp2_with fail
      go_ret
      exact ⟨rfl, hb3⟩
theorem chTo_le {link : ByteArray} {ss : List ByteArray} (h : link.size ≤ 10000000) {k : Nat} (hk : k ≤ ss.length) : (chTo link ss k).size ≤ 10000000 := by
  cases k with
  | zero => rw [chTo_zero]; exact h
  | succ k =>
    rw [chTo_succ link ss (by omega) rfl, str_size, link_length]
    decide
set_option maxHeartbeats 1000000 in
theorem rchain_any (link : ByteArray) (w : World) {ao : Option Addr} {len cap : Nat} {ss : List ByteArray} (hps : StrsIn w ao len ss) (hlm : len ≤ 4611686018427387904) (hl : link.size ≤ 10000000) (hss : ∀ s ∈ ss, s.size ≤ 10000000) {t : ByteArray} (ht : Hid (str (Sha.chain link.data.toList (lists ss)) = t)) :
    Calls Try.prog 17 #[.string link, .slice ao len cap] w fun e w' => e = .returned (.string t) ∧ Below w.heap.size w w' := by
  have hlen := hps.1
  go_enter Try.func17, Try.ntmps17
  go_wp2_with fail
  go_loopw [0, 5] (fun lv i wr => ∃ k : Nat, k ≤ len ∧ i = .int .i64 k ∧ lv = .string (chTo link ss k) ∧ Below w.heap.size w wr) (fun _ i _ => len - (intOf i).toNat)
  case atStart => exact ⟨0, Nat.zero_le _, rfl, by rw [chTo_zero], Below.refl _ _⟩
  case round =>
    obtain ⟨k, hk, rfl, rfl, hb⟩ := hrel
    by_cases hlt : k < len
    · have hlt' : (k : Int) < len := by omega
      have k0 : (0 : Int) ≤ (k : Int) := by omega
      obtain ⟨a, s, rfl, hab, hs, hmem, hc⟩ := (hps.below hb (Nat.le_refl _)).at_ hlt
      have hstep := chTo_succ link ss (by omega) hs
      have hsh := chTo_le hl (ss := ss) (k := k) (by omega)
      have hsr := hss s hmem
      obtain ⟨x, hx⟩ : ∃ x, chTo link ss k = x := ⟨_, rfl⟩
      obtain ⟨y, hy⟩ : ∃ y, chTo link ss (k + 1) = y := ⟨_, rfl⟩
      rw [hx, hy] at hstep
      rw [hx] at hsh ⊢
      replace hy := Lib.hid hy
      replace hx := Lib.hid hx
      have hst := Lib.hid hstep.symm
      clear hstep
      replace hs := Lib.hid hs
      go_wp2_with fail
      (with_reducible refine (rlink_any hsh hsr hst).mono ?_)
      rintro e w1 ⟨rfl, hb1⟩
      have hb2 := hb.trans (hb1.mono hb.size)
      clear hc hb hb1
      go_wp2_with fail
      go_roundw
      case rel => exact ⟨k + 1, by omega, by go_num, by rw [hy.out], hb2⟩
      case measure => simp [intOf]; omega
    · obtain rfl : k = len := by omega
      have hlt' : ¬ (k : Int) < k := by omega
      have hall := chTo_all link ss
      rw [hlen] at hall
      replace hall := Lib.hid hall
      go_wp2_with fail
      go_ret
      exact ⟨by rw [← ht.out, ← hall.out]; rfl, hb⟩
end Go.Proofs.Ytcllcajkmimgbaa.RH
