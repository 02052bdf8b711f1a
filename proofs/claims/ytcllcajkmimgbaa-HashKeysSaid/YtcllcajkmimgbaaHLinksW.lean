/-
  The walk of HashLinks: for every link and every list of texts within the reach the call returns true.
-/
import Derived.Test.YtcllcajkmimgbaaHArgs
import Derived.Deep.RegionHeld3
namespace Go.Proofs.Ytcllcajkmimgbaa.hlinks
open Go.RowKit Base HH
theorem owned_keep {w w1 : World} {B n : Nat} {v : Value} {xs : List Value} (h : w.ownsRow B 5 1 v n xs) (hb : Below w.heap.size w w1) : w1.ownsRow B 5 1 v n xs := by
  refine ⟨h.1, ?_⟩
  rcases h.2 with h1 | ⟨g, c, cur, hv, hB, hh, hr⟩
  · exact .inl h1
  · exact .inr ⟨g, c, cur, hv, hB, (hb.block g (Array.getElem?_eq_some_iff.1 hh).1).trans hh, hr⟩
theorem owned_drew {w : World} {B n : Nat} {v : Value} {xs : List Value} (h : w.ownsRow B 5 1 v n xs) : w.drew.ownsRow B 5 1 v n xs := h
theorem and255 (m : Nat) (h : m < 9223372036854775808) : bits .and .i64 (m : Int) 255 = ((m % 256 : Nat) : Int) := by
  have e : bits .and .i64 (m : Int) 255 = IntKind.i64.wrap ((BitVec.ofInt 64 (m : Int) &&& BitVec.ofInt 64 255).toNat : Int) := rfl
  rw [e, BitVec.toNat_and, BitVec.ofInt_natCast, BitVec.toNat_ofNat, show (BitVec.ofInt 64 255).toNat = 255 from rfl, Nat.mod_eq_of_lt (by omega), show (255 : Nat) = 2 ^ 8 - 1 from rfl, Nat.and_two_pow_sub_one_eq_mod, IntWalk.i64_in _ (by omega)]
theorem byte_and (n j : Nat) (h : n < 9223372036854775808) : bv (b8 n j) = .int .u8 (bits .and .i64 ((n : Int) / 2 ^ (8 * j)) 255 % 256) := by
  rw [bv_b8]
  congr 1
  have e : ((n : Int) / 2 ^ (8 * j)) = ((n / 2 ^ (8 * j) : Nat) : Int) := by
    rw [Int.natCast_ediv, Int.natCast_pow]
    rfl
  rw [e, and255 _ (Nat.lt_of_le_of_lt (Nat.div_le_self _ _) h)]
  omega
set_option maxRecDepth 8000 in
set_option maxHeartbeats 2000000 in
theorem walk (W : World) {link : ByteArray} (hl : short link) {ao : Option Addr} {len cap : Nat} {ss : List ByteArray} (ha : StrsIn W ao len ss) (hsa : ∀ s ∈ ss, short s) (hlen : len ≤ 8796093022207) (hcap : len ≤ cap) :
    Calls Try.prog 9 #[.string link, .slice ao len cap] W fun e w' => e = .returned (.bool true) ∧ Below W.heap.size W w' := by
  obtain ⟨i0, hi, hz0, hz1, hz2⟩ := info_parts infoU8
  go_enter Try.func9, Try.ntmps9
  go_wp2_with fail
  refine (fixed_any W).mono ?_
  rintro e w1 ⟨rfl, hb1⟩
  go_wp2_with fail
  go_loopw [5, 6] (fun lv i wr => ∃ k : Nat, k ≤ len ∧ i = .int .i64 k ∧ lv = .string (chTo link ss k) ∧ Below W.heap.size W wr) (fun _ i _ => len - (intOf i).toNat)
  case atStart => exact ⟨0, Nat.zero_le _, rfl, by rw [chTo_zero], hb1⟩
  case round =>
    clear hb1
    obtain ⟨k, hk, rfl, rfl, hb⟩ := hrel
    by_cases hlt : k < len
    · have hlt' : (k : Int) < len := by omega
      have hal := ha.1
      obtain ⟨a, s, rfl, hab, hs, hmem, hc⟩ := (ha.below hb (Nat.le_refl _)).at_ hlt
      have hstep := chTo_succ link ss (by omega) hs
      have hsh := chTo_short hl (ss := ss) (k := k) (by omega)
      have hsr := hsa s hmem
      have hab2 : a.block < W.heap.size := by
        obtain ⟨a', s', e, h1, _⟩ := ha.at_ hlt
        cases e
        exact h1
      have hbs := hb.size
      obtain ⟨x, hx⟩ : ∃ x, chTo link ss k = x := ⟨_, rfl⟩
      obtain ⟨y, hy⟩ : ∃ y, chTo link ss (k + 1) = y := ⟨_, rfl⟩
      rw [hx, hy] at hstep
      rw [hx] at hsh ⊢
      go_wp2_with fail
      have ho0 : (wr.alloc (.cells #[] 5)).ownsRow W.heap.size 5 1 (.slice (some ⟨wr.heap.size, 0, none⟩) 0 0) 0 [] := World.ownsRow_made wr #[] 0 hbs (Nat.zero_le _) rfl
      have hbA := hb.alloc hbs (.cells #[] 5)
      have hss : s.size ≤ 288230376151711743 := hsr
      replace hs := Lib.hid hs
      replace hx := Lib.hid hx
      replace hy := Lib.hid hy
      replace hstep := Lib.hid hstep
      replace hal := Lib.hid hal
      have hcA : ∀ w', Below W.heap.size W w' → w'.cell? (a.add k) = some (.string s) := fun w' hb' => by
        obtain ⟨a', s', e, _, h2, _, h3⟩ := (ha.below hb' (Nat.le_refl _)).at_ hlt
        cases e
        rw [hs.out] at h2
        rw [h2]
        exact h3
      replace hcA := Lib.hid hcA
      clear hc hb
      obtain ⟨wA, hwA⟩ : ∃ wA, wr.alloc (.cells #[] 5) = wA := ⟨_, rfl⟩
      rw [hwA] at ho0 hbA ⊢
      clear hwA
      go_loopw [7, 8] (fun v i wr => ∃ j : Nat, j ≤ 8 ∧ i = .int .i64 (7 - j) ∧ wr.ownsRow W.heap.size 5 1 v j ((bigTo s.size 8 j).map bv) ∧ Below W.heap.size W wr) (fun _ i _ => (intOf i + 1).toNat)
      case atStart => exact ⟨0, by omega, rfl, ho0, hbA⟩
      case round =>
        clear ho0 hbA
        obtain ⟨j, hj, rfl, ho, hb⟩ := hrel
        have hbs' := hb.size
        by_cases hjl : j < 8
        · have hge : 0 ≤ (7 : Int) - (j : Int) := by omega
          have hc := hcA.out wr hb
          have HB : Hid (bv (b8 s.size (7 - j)) = .int .u8 (bits .and .i64 ((s.size : Int) / 2 ^ (8 * (7 - j))) 255 % 256)) := byte_and s.size (7 - j) (by omega)
          go_wp2_with (at_builtin; refine wpList_append_own _ rfl (.tmp 24) (.tmp 35) 30 rfl W.heap.size 5 i0 (.int .u8 0) 1 1 Try.underlying30 hi hz0 hz1 hz2 rfl (by decide) _ _ _ rfl (ho.alloc _) ⟨wr.heap.size, 0, none⟩ 1 1 [bv (b8 s.size (7 - j))] rfl rfl ?c1 ?c2 ?c3 ?c4 ?c5 ?_)
          case c1 => rw [HB.out]; exact cell_one_new _ _ _
          case c2 => exact one_cell _ rfl
          case c3 => unfold maxLen; omega
          case c4 => omega
          case c5 => simp; omega
          intro v' w2 ho2 hgrow _
          rw [show [bv (b8 s.size (7 - j))] = [bv (b8 s.size (8 - 1 - j))] from rfl, ← bigTo_succ] at ho2
          have hb2 : Below W.heap.size W w2 := (hb.alloc (by omega) _).grown hgrow (by simp; omega) (fun g hg => (ho.lt g hg).1)
          clear ho hgrow hb HB hc
          go_wp2_with fail
          go_roundw
          case rel => exact ⟨j + 1, by omega, by go_num, ho2, hb2⟩
          case measure => simp [intOf]; omega
        · obtain rfl : j = 8 := by omega
          have hc := hcA.out wr hb
          have hst : Hid (str (Sha.link x.data.toList s.data.toList) = y) := hstep.out.symm
          rw [be8_big] at ho
          obtain ⟨b8s, hb8s⟩ : ∃ l, Sha.be8 s.size = l := ⟨_, rfl⟩
          have hl8 : b8s.length = 8 := by
            rw [← hb8s]
            unfold Sha.be8
            simp
          have hcat : Hid (str (Sha.sha (x ++ str b8s ++ s).data.toList) = y) := by
            show _ = _
            rw [← hst.out]
            unfold Sha.link
            rw [show s.data.toList.length = s.size from rfl, hb8s, ByteArray.data_append, ByteArray.data_append]
            simp [str]
          rw [hb8s] at ho
          replace hb8s := Lib.hid hb8s
          go_wp2_with fail
          (with_reducible refine (link_v hsh hsr hst).mono ?_)
          rintro e w2 ⟨rfl, hb2'⟩
          have hb2 := hb.trans (hb2'.mono hb.size)
          have ho2 := owned_keep ho hb2'
          have hc2 := hcA.out _ hb2.drew
          have hcv := run_back w2.drew 30 9 5 Try.underlying30 Try.underlying5 Try.underlying9 (owned_drew ho2)
          have hxz : x.size ≤ 288230376151711743 := hsh
          have hcc1 : ¬ (9223372036854775807 < x.size + (str b8s).size) := by rw [str_size, hl8]; omega
          have hcc2 : ¬ (9223372036854775807 < x.size + (str b8s).size + s.size) := by rw [str_size, hl8]; omega
          have hsz : (x ++ str b8s ++ s).size ≤ 1152921504606846975 := by
            rw [ByteArray.size_append, ByteArray.size_append, str_size, hl8]
            omega
          have hyl : y.size = 32 := by rw [← hst.out, str_size, link_length]
          have hsC : ∀ w, Calls Try.prog 12 #[.string (x ++ str b8s ++ s)] w fun e w' => e = .returned (.string y) ∧ Below w.heap.size w w' := fun w => sum_v hsz hcat
          have hcC : ∀ w', Below W.heap.size W w' → Calls Try.prog 16 #[.string link, .slice (some a) (k + 1) cap] w' fun e w'' => e = .returned (.string y) ∧ Below w'.heap.size w' w'' := fun w' hb' =>
            chain_v ((ha.below hb' (Nat.le_refl _)).take (by omega)) (by omega) hl (fun s hs => hsa s (List.mem_of_mem_take hs)) hy
          replace hsC := Lib.hid hsC
          replace hcC := Lib.hid hcC
          have hkc : (k : Int) + 1 ≤ cap := by omega
          have hk0 : (0 : Int) ≤ (k : Int) + 1 := by omega
          have hkw : IntKind.i64.wrap ((k : Int) + 1) = (k : Int) + 1 := IntWalk.i64_in _ (by omega)
          have hkt : ((k : Int) + 1).toNat = k + 1 := by omega
          have hb2d := hb2.drew
          have ho2d := owned_drew ho2
          clear hb2' ho2 ho hb hc hcat hsz hl8
          go_wp2_with fail
          go_region_held3 (fun w' => w'.cell? (a.add k) = some (.string s) ∧ (convert 30 9 u7).run Try.prog w' = .ok (.string (str b8s)) w')
            (first | exact ⟨hc2, hcv⟩ | exact ⟨hc3, hcv3⟩ | exact ⟨hc4, hcv4⟩)
            (first
              | (go_at_call 12
                 (with_reducible refine (hsC.out _).mono ?_)
                 rintro e w3 ⟨rfl, hb3'⟩
                 have hb3 := hb2d.trans (hb3'.mono hb2d.size)
                 have hc3 := hcA.out _ hb3
                 have ho3 := owned_keep ho2d hb3'
                 have hcv3 := run_back w3 30 9 5 Try.underlying30 Try.underlying5 Try.underlying9 ho3)
              | (go_at_call 16
                 (with_reducible refine (hcC.out _ hb3).mono ?_)
                 rintro e w4 ⟨rfl, hb4'⟩
                 have hb4 := hb3.trans (hb4'.mono hb3.size)
                 have hc4 := hcA.out _ hb4
                 have hcv4 := run_back w4 30 9 5 Try.underlying30 Try.underlying5 Try.underlying9 (owned_keep ho3 hb4')))
          all_goals
            clear hc2 hcv hc3 ho3 hcv3 hc4 hcv4 ho2d
            go_wp2_with fail
            go_roundw
            case rel => first | exact ⟨k + 1, by omega, by go_num, by rw [hy.out], hb4⟩ | ((repeat apply Exists.intro); exact ⟨⟨k + 1, by omega, by go_num, by rw [hy.out], hb4⟩, rfl⟩)
            case measure => simp [intOf]; omega
    · obtain rfl : k = len := by omega
      have hlt' : ¬ (k : Int) < k := by omega
      have hall := chTo_all link ss
      rw [ha.1] at hall
      obtain ⟨x, hx⟩ : ∃ x, chTo link ss k = x := ⟨_, rfl⟩
      rw [hx] at hall ⊢
      have hst : Hid (str (Sha.chain link.data.toList (lists ss)) = x) := hall.symm
      replace hx := Lib.hid hx
      clear hall
      go_wp2_with fail
      (with_reducible refine (chain_v (ha.below hb (Nat.le_refl _)) (by omega) hl hsa hst).mono ?_)
      rintro e w2 ⟨rfl, hb2'⟩
      have hb2 := hb.trans (hb2'.mono hb.size)
      clear hb hb2'
      go_wp2_with fail
      go_ret
      exact ⟨rfl, hb2⟩
end Go.Proofs.Ytcllcajkmimgbaa.hlinks
